import Derived.Test.YtcdibfkebojefaaG3
import Derived.Test.YtcdibfkebojefaaProg
import Derived.KernelRfl
set_option linter.unusedVariables false
set_option linter.unusedSimpArgs false
set_option maxRecDepth 100000
namespace Go.Proofs.Hx
open Go Go.Proofs
def zN (n : Int) : AOpd := .c (.lit (.int .i64 n))
def zM (d x : Nat) : yB := ⟨some d, .mv (.t x), none⟩
def zH (d x g : Nat) (w : Bool) : yB := ⟨some d, .mv (.t x), some (g, w)⟩
def zF (d : Nat) (o : AOp) : yB := ⟨some d, o, none⟩
def zG (d g : Nat) (w : Bool) (o : AOp) : yB := ⟨some d, o, some (g, w)⟩
attribute [push_cast] zN zM zH zF zG
theorem yX : Try.prog.follows .mixedOrders = true := by kernel_rfl
def r7_0 : List yB := [zF 3 (.box (.t 0)), zF 4 (.box (.t 1)), zF 6 (.mv (.c (.lit (.bool false))))]
def r7_1 : List yB := [zF 15 (.fieldAddr 0 (.t 3)), zF 16 (.load false 1 (.t 15)), zF 17 (.len none (.t 16)), zF 18 (.bin .gtr (.t 17) (zN 60)), zM 19 18, zG 20 19 false (.fieldAddr 3 (.t 3)), zG 21 19 false (.load false 1 (.t 20)), zG 22 19 false (.len none (.t 21)), zG 23 19 false (.bin .gtr (.t 22) (zN 8192)), zF 24 (.pick (.t 19) (.c (.lit (.bool true))) (.t 23))]
def r7_2 : List yB := [zF 25 (.call false (.c (.fn 29 [])) []), zM 6 25]
def r7_3 : List yB := [zF 26 (.load true 6 (.t 3)), zF 7 (.alloc [.nil, (.lit (.int .i8 0)), (.lit (.int .u8 0)), .nil, (.lit (.int .i64 0)), (.lit (.int .i64 0))]), ⟨none, (.store 6 (.t 7) (.t 26)), none⟩]
def r7_4 : List yB := [zF 27 (.fieldAddr 0 (.t 3)), zF 28 (.load false 1 (.t 27)), zF 29 (.call false (.c (.fn 30 [])) [(.t 28)]), zF 30 (.fieldAddr 0 (.t 7)), ⟨none, (.store 1 (.t 30) (.t 29)), none⟩]
def r7_5 : List yB := [zF 31 (.buildSl 1 0 [] []), zM 32 2, zF 33 (.append 1 8 (.t 31) (.t 32)), zM 8 33]
def r7_6 : List yB := [zF 35 (.load true 6 (.t 7)), zF 36 (.load true 13 (.t 4)), zM 37 8, zF 38 (.call false (.c (.fn 31 [])) [(.t 35), (.t 36), (.t 37)]), zM 34 38, zF 39 (.ext (.t 34) 0), zF 40 (.ext (.t 34) 1), zF 41 (.ext (.t 34) 2), zM 9 39, zM 10 40, zM 11 41]
def r7_7 : List yB := [zF 43 (.load true 6 (.t 3)), zF 44 (.load true 13 (.t 4)), zM 45 2, zF 46 (.call false (.c (.fn 32 [])) [(.t 43), (.t 44), (.t 45)]), zM 42 46, zF 47 (.ext (.t 42) 0), zF 48 (.ext (.t 42) 1), zF 49 (.ext (.t 42) 2), zM 12 47, zM 13 48, zM 14 49]
def r7_8 : List yB := [zM 50 9, zM 51 12, zF 52 (.bin .eql (.t 50) (.t 51)), zM 53 52, zH 54 10 53 true, zH 55 13 53 true, zG 56 53 true (.bin .eql (.t 54) (.t 55)), zF 57 (.pick (.t 53) (.t 56) (.c (.lit (.bool false)))), zM 58 57, zH 59 11 58 true, zH 60 14 58 true, zG 61 58 true (.bin .eql (.t 59) (.t 60)), zF 62 (.pick (.t 58) (.t 61) (.c (.lit (.bool false)))), zM 63 62, zG 64 63 true (.fieldAddr 0 (.t 7)), zG 65 63 true (.load false 1 (.t 64)), zG 66 63 true (.fieldAddr 0 (.t 3)), zG 67 63 true (.load false 1 (.t 66)), zG 68 63 true (.call false (.c (.fn 33 [])) [(.t 65), (.t 67)]), zF 69 (.pick (.t 63) (.t 68) (.c (.lit (.bool false)))), zM 70 69, zH 71 8 70 true, zH 72 2 70 true, zG 73 70 true (.call false (.c (.fn 34 [])) [(.t 71), (.t 72)]), zF 74 (.pick (.t 70) (.t 73) (.c (.lit (.bool false)))), zM 75 74, zG 76 75 true (.call false (.c (.fn 29 [])) []), zF 77 (.pick (.t 75) (.t 76) (.c (.lit (.bool false)))), zM 6 77]
def ac7 : ACode := (.seq (.ops r7_0 []) (.seq (.seq (.ops r7_1 []) (.cond (.t 24) (.seq (.ops r7_2 []) .ret) .skip)) (.seq (.ops r7_3 []) (.seq (.ops r7_4 []) (.seq (.ops r7_5 []) (.seq (.ops r7_6 []) (.seq (.ops r7_7 []) (.seq (.ops r7_8 []) .ret))))))))
def re7 : List AOp := [(.mv (.t 6))]
theorem cf7 : cFn Try.prog 7 = some (78, ac7, re7) := by kernel_rfl
def r20_0 : List yB := [zF 3 (.box (.t 1)), zF 4 (.mv (zN 0)), zF 5 (.mv (zN 0))]
def r20_1 : List yB := [zM 12 0, zF 13 (.load true 13 (.t 3)), zF 14 (.call false (.c (.fn 57 [])) [(.t 12), (.t 13)]), zM 11 14, zF 15 (.ext (.t 11) 0), zF 16 (.ext (.t 11) 1), zF 6 (.alloc [(.lit (.int .i64 0)), (.lit (.int .i64 0)), (.lit (.int .i64 0)), (.lit (.int .i64 0))]), ⟨none, (.store 4 (.t 6) (.t 15)), none⟩, zM 7 16]
def r20_2 : List yB := [zM 17 7, zF 18 (.bin .neq (.t 17) (zN 0))]
def r20_3 : List yB := [zM 19 7, zF 4 (.mv (zN 0)), zM 5 19]
def r20_4 : List yB := [zF 8 (.mv (zN 0))]
def r20_5 : List yB := [zF 20 (.load true 4 (.t 6)), zF 21 (.mv (zN 0))]
def r20_6 : List yB := [zF 22 (.bin .lss (.t 21) (zN 4))]
def r20_7 : List yB := [zM 23 21, zF 24 (.idx false 4 1 (.t 20) (.t 21)), zM 9 23, zM 10 24]
def r20_8 : List yB := [zM 25 10, zF 26 (.bin .gtr (.t 25) (zN 0))]
def r20_9 : List yB := [zM 27 8, zM 28 10, zM 29 9, zF 30 (.fieldAddr 8 (.t 3)), zF 31 (.idxAddr (some 4) 1 (.t 30) (.t 29)), zF 32 (.load false 1 (.t 31)), zF 33 (.bin .mul (.t 28) (.t 32)), zM 34 9, zF 35 (.fieldAddr 0 (.t 3)), zF 36 (.idxAddr (some 4) 1 (.t 35) (.t 34)), zF 37 (.load false 1 (.t 36)), zF 38 (.bin .add (.t 33) (.t 37)), zF 39 (.bin .sub (.t 38) (zN 1)), zM 40 9, zF 41 (.fieldAddr 0 (.t 3)), zF 42 (.idxAddr (some 4) 1 (.t 41) (.t 40)), zF 43 (.load false 1 (.t 42)), zF 44 (.bin .quo (.t 39) (.t 43)), zF 45 (.maxs [(.t 27), (.t 44)]), zM 8 45]
def r20_10 : List yB := [zF 46 (.bin .add (.t 21) (zN 1)), zM 21 46]
def l20_0 : ACode := (.seq (.ops r20_6 []) (.seq (.cond (.t 22) .skip (.exit 0)) (.seq (.block 1 (.seq (.ops r20_7 []) (.seq (.ops r20_8 []) (.cond (.t 26) (.ops r20_9 []) .skip)))) (.ops r20_10 []))))
def r20_11 : List yB := [zM 47 8, zM 4 47, zF 5 (.mv (zN 0))]
def ac20 : ACode := (.seq (.ops r20_0 []) (.seq (.ops r20_1 []) (.seq (.seq (.ops r20_2 []) (.cond (.t 18) (.seq (.ops r20_3 []) .ret) .skip)) (.seq (.ops r20_4 []) (.seq (.seq (.ops r20_5 []) (.block 0 (.loop l20_0))) (.seq (.ops r20_11 []) .ret))))))
def re20 : List AOp := [(.mv (.t 4)), (.mv (.t 5))]
theorem cf20 : cFn Try.prog 20 = some (48, ac20, re20) := by kernel_rfl
def r22_0 : List yB := [zF 2 (.box (.t 0)), zF 3 (.box (.t 1)), zF 4 (.mv (zN 0)), zF 5 (.mv (zN 0))]
def r22_1 : List yB := [zF 11 (.load false 1 (.t 2)), zF 12 (.load true 13 (.t 3)), zF 13 (.call false (.c (.fn 57 [])) [(.t 11), (.t 12)]), zM 10 13, zF 14 (.ext (.t 10) 0), zF 15 (.ext (.t 10) 1), zF 6 (.alloc [(.lit (.int .i64 0)), (.lit (.int .i64 0)), (.lit (.int .i64 0)), (.lit (.int .i64 0))]), ⟨none, (.store 4 (.t 6) (.t 14)), none⟩, zM 7 15]
def r22_2 : List yB := [zM 16 7, zF 17 (.bin .neq (.t 16) (zN 0))]
def r22_3 : List yB := [zM 18 7, zF 4 (.mv (zN 0)), zM 5 18]
def r22_4 : List yB := [zF 20 (.load false 1 (.t 2)), zF 21 (.load true 13 (.t 3)), zF 22 (.call false (.c (.fn 27 [])) [(.t 20), (.t 21)]), zM 19 22, zF 23 (.ext (.t 19) 0), zF 24 (.ext (.t 19) 1), zF 8 (.alloc [.nil]), ⟨none, (.store 1 (.t 8) (.t 23)), none⟩, zM 9 24]
def r22_5 : List yB := [zM 25 9, zF 26 (.bin .neq (.t 25) (zN 0))]
def r22_6 : List yB := [zM 27 9, zF 4 (.mv (zN 0)), zM 5 27]
def r22_7 : List yB := [zF 28 (.mkfn 60 [(.t 8), (.t 2)]), zF 29 (.call false (.c (.fn 59 [])) [(zN 1), (zN 513), (.t 28)]), zM 4 29, zF 5 (.mv (zN 0))]
def ac22 : ACode := (.seq (.ops r22_0 []) (.seq (.seq (.ops r22_1 []) (.seq (.ops r22_2 []) (.cond (.t 17) (.seq (.ops r22_3 []) .ret) .skip))) (.seq (.ops r22_4 []) (.seq (.seq (.ops r22_5 []) (.cond (.t 26) (.seq (.ops r22_6 []) .ret) .skip)) (.seq (.ops r22_7 []) .ret)))))
def re22 : List AOp := [(.mv (.t 4)), (.mv (.t 5))]
theorem cf22 : cFn Try.prog 22 = some (30, ac22, re22) := by kernel_rfl
def r24_0 : List yB := [zF 3 (.box (.t 1)), zF 4 (.mv (zN 0)), zF 5 (.mv (zN 0))]
def r24_1 : List yB := [zM 10 0, zF 11 (.load true 13 (.t 3)), zF 12 (.call false (.c (.fn 20 [])) [(.t 10), (.t 11)]), zM 9 12, zF 13 (.ext (.t 9) 0), zF 14 (.ext (.t 9) 1), zM 6 13, zM 7 14]
def r24_2 : List yB := [zM 15 7, zF 16 (.bin .neq (.t 15) (zN 0))]
def r24_3 : List yB := [zM 17 7, zF 4 (.mv (zN 0)), zM 5 17]
def r24_4 : List yB := [zM 19 0, zF 20 (.load true 13 (.t 3)), zF 21 (.call false (.c (.fn 22 [])) [(.t 19), (.t 20)]), zM 18 21, zF 22 (.ext (.t 18) 0), zF 23 (.ext (.t 18) 1), zM 8 22, zM 7 23]
def r24_5 : List yB := [zM 24 7, zF 25 (.bin .neq (.t 24) (zN 0))]
def r24_6 : List yB := [zM 26 7, zF 4 (.mv (zN 0)), zM 5 26]
def r24_7 : List yB := [zM 27 6, zM 28 8, zF 29 (.fieldAddr 12 (.t 3)), zF 30 (.load false 1 (.t 29)), zF 31 (.bin .add (zN 1) (.t 30)), zF 32 (.maxs [(.t 27), (.t 28), (.t 31)]), zM 4 32, zF 5 (.mv (zN 0))]
def ac24 : ACode := (.seq (.ops r24_0 []) (.seq (.ops r24_1 []) (.seq (.seq (.ops r24_2 []) (.cond (.t 16) (.seq (.ops r24_3 []) .ret) .skip)) (.seq (.ops r24_4 []) (.seq (.seq (.ops r24_5 []) (.cond (.t 25) (.seq (.ops r24_6 []) .ret) .skip)) (.seq (.ops r24_7 []) .ret))))))
def re24 : List AOp := [(.mv (.t 4)), (.mv (.t 5))]
theorem cf24 : cFn Try.prog 24 = some (33, ac24, re24) := by kernel_rfl
def r26_0 : List yB := [zF 0 (.mv (.c (.lit (.bool false))))]
def r26_1 : List yB := [zF 4 (.build [(.lit (.int .i64 0)), (.lit (.int .i64 0)), (.lit (.int .i64 0)), (.lit (.int .i64 0))] [(0, (1, (zN 1))), (1, (1, (zN 1))), (2, (1, (zN 1))), (3, (1, (zN 1)))]), zF 5 (.build [(.lit (.int .i64 0)), (.lit (.int .i64 0)), (.lit (.int .i64 0)), (.lit (.int .i64 0))] [(0, (1, (zN 1))), (1, (1, (zN 3))), (2, (1, (zN 2))), (3, (1, (zN 1)))]), zF 6 (.build [(.lit (.int .i64 0)), (.lit (.int .i64 0)), (.lit (.int .i64 0)), (.lit (.int .i64 0))] [(0, (1, (zN 1))), (1, (1, (zN 1))), (2, (1, (zN 1))), (3, (1, (zN 1)))]), zF 7 (.build [(.lit (.int .i64 0)), (.lit (.int .i64 0)), (.lit (.int .i64 0)), (.lit (.int .i64 0)), (.lit (.int .i64 0)), (.lit (.int .i64 0)), (.lit (.int .i64 0)), (.lit (.int .i64 0)), (.lit (.int .i64 0)), (.lit (.int .i64 0)), (.lit (.int .i64 0)), (.lit (.int .i64 0)), (.lit (.int .i64 0))] [(0, (4, (.t 4))), (4, (4, (.t 5))), (8, (4, (.t 6))), (12, (1, (zN 1)))]), zF 1 (.alloc [(.lit (.int .i64 0)), (.lit (.int .i64 0)), (.lit (.int .i64 0)), (.lit (.int .i64 0)), (.lit (.int .i64 0)), (.lit (.int .i64 0)), (.lit (.int .i64 0)), (.lit (.int .i64 0)), (.lit (.int .i64 0)), (.lit (.int .i64 0)), (.lit (.int .i64 0)), (.lit (.int .i64 0)), (.lit (.int .i64 0))]), ⟨none, (.store 13 (.t 1) (.t 7)), none⟩]
def r26_2 : List yB := [zF 9 (.build [(.lit (.int .i8 0)), (.lit (.int .u8 0)), (.lit (.int .u8 0)), (.lit (.int .u8 0)), (.lit (.int .i64 0))] [(0, (1, (.c (.lit (.int .i8 12))))), (1, (1, (.c (.lit (.int .u8 1))))), (2, (1, (.c (.lit (.int .u8 1))))), (3, (1, (.c (.lit (.int .u8 2)))))]), zF 10 (.buildSl 5 1 [(.lit (.int .i8 0)), (.lit (.int .u8 0)), (.lit (.int .u8 0)), (.lit (.int .u8 0)), (.lit (.int .i64 0))] [(0, (5, (.t 9)))]), zF 11 (.load true 13 (.t 1)), zF 12 (.call false (.c (.fn 24 [])) [(.t 10), (.t 11)]), zM 8 12, zF 13 (.ext (.t 8) 0), zF 14 (.ext (.t 8) 1), zM 2 13, zM 3 14]
def r26_3 : List yB := [zM 15 3, zF 16 (.bin .eql (.t 15) (zN 0)), zM 17 16, zH 18 2 17 true, zG 19 17 true (.bin .eql (.t 18) (zN 3)), zF 20 (.pick (.t 17) (.t 19) (.c (.lit (.bool false)))), zM 0 20]
def ac26 : ACode := (.seq (.ops r26_0 []) (.seq (.ops r26_1 []) (.seq (.ops r26_2 []) (.seq (.ops r26_3 []) .ret))))
def re26 : List AOp := [(.mv (.t 0))]
theorem cf26 : cFn Try.prog 26 = some (21, ac26, re26) := by kernel_rfl
def r27_0 : List yB := [zF 3 (.box (.t 1)), zF 4 (.mv (.c .nil)), zF 5 (.mv (zN 0))]
def r27_1 : List yB := [zM 8 0, zF 9 (.load true 13 (.t 3)), zF 10 (.call false (.c (.fn 64 [])) [(.t 8), (.t 9)]), zM 6 10]
def r27_2 : List yB := [zM 11 6, zF 12 (.bin .neq (.t 11) (zN 0))]
def r27_3 : List yB := [zM 13 6, zF 4 (.mv (.c .nil)), zM 5 13]
def r27_4 : List yB := [zM 14 0, zF 15 (.load true 13 (.t 3)), zF 16 (.call false (.c (.fn 65 [])) [(.t 14), (.t 15)]), zM 7 16]
def r27_5 : List yB := [zM 17 7, zF 18 (.call false (.c (.fn 66 [])) [(.t 17)])]
def r27_6 : List yB := [zM 19 7, zF 20 (.call false (.c (.fn 67 [])) [(.t 19)])]
def r27_7 : List yB := [zM 21 7, zF 22 (.nilchk (.t 21)), zF 23 (.fieldAddr 16 (.t 22)), zF 24 (.load false 1 (.t 23)), zM 4 24, zF 5 (.mv (zN 0))]
def ac27 : ACode := (.seq (.ops r27_0 []) (.seq (.seq (.ops r27_1 []) (.seq (.ops r27_2 []) (.cond (.t 12) (.seq (.ops r27_3 []) .ret) .skip))) (.seq (.ops r27_4 []) (.seq (.ops r27_5 []) (.seq (.ops r27_6 []) (.seq (.ops r27_7 []) .ret))))))
def re27 : List AOp := [(.mv (.t 4)), (.mv (.t 5))]
theorem cf27 : cFn Try.prog 27 = some (25, ac27, re27) := by kernel_rfl
def r29_0 : List yB := [zF 0 (.mv (.c (.lit (.bool false))))]
def r29_1 : List yB := [zF 15 (.build [(.lit (.int .i64 0)), (.lit (.int .i64 0)), (.lit (.int .i64 0)), (.lit (.int .i64 0))] [(0, (1, (zN 1))), (1, (1, (zN 1))), (2, (1, (zN 1))), (3, (1, (zN 1)))]), zF 16 (.build [(.lit (.int .i64 0)), (.lit (.int .i64 0)), (.lit (.int .i64 0)), (.lit (.int .i64 0))] [(0, (1, (zN 1))), (1, (1, (zN 3))), (2, (1, (zN 2))), (3, (1, (zN 1)))]), zF 17 (.build [(.lit (.int .i64 0)), (.lit (.int .i64 0)), (.lit (.int .i64 0)), (.lit (.int .i64 0))] [(0, (1, (zN 1))), (1, (1, (zN 1))), (2, (1, (zN 1))), (3, (1, (zN 1)))]), zF 18 (.build [(.lit (.int .i64 0)), (.lit (.int .i64 0)), (.lit (.int .i64 0)), (.lit (.int .i64 0)), (.lit (.int .i64 0)), (.lit (.int .i64 0)), (.lit (.int .i64 0)), (.lit (.int .i64 0)), (.lit (.int .i64 0)), (.lit (.int .i64 0)), (.lit (.int .i64 0)), (.lit (.int .i64 0)), (.lit (.int .i64 0))] [(0, (4, (.t 15))), (4, (4, (.t 16))), (8, (4, (.t 17))), (12, (1, (zN 2)))]), zF 1 (.alloc [(.lit (.int .i64 0)), (.lit (.int .i64 0)), (.lit (.int .i64 0)), (.lit (.int .i64 0)), (.lit (.int .i64 0)), (.lit (.int .i64 0)), (.lit (.int .i64 0)), (.lit (.int .i64 0)), (.lit (.int .i64 0)), (.lit (.int .i64 0)), (.lit (.int .i64 0)), (.lit (.int .i64 0)), (.lit (.int .i64 0))]), ⟨none, (.store 13 (.t 1) (.t 18)), none⟩]
def r29_2 : List yB := [zF 19 (.build [(.lit (.int .i8 0)), (.lit (.int .u8 0)), (.lit (.int .u8 0)), (.lit (.int .u8 0)), (.lit (.int .i64 0))] [(0, (1, (.c (.lit (.int .i8 12))))), (1, (1, (.c (.lit (.int .u8 1))))), (2, (1, (.c (.lit (.int .u8 2))))), (3, (1, (.c (.lit (.int .u8 3)))))]), zF 20 (.buildSl 5 1 [(.lit (.int .i8 0)), (.lit (.int .u8 0)), (.lit (.int .u8 0)), (.lit (.int .u8 0)), (.lit (.int .i64 0))] [(0, (5, (.t 19)))]), zF 21 (.build [.nil, (.lit (.int .i8 0)), (.lit (.int .u8 0)), .nil, (.lit (.int .i64 0)), (.lit (.int .i64 0))] [(0, (1, (.t 20))), (1, (1, (.c (.lit (.int .i8 1))))), (2, (1, (.c (.lit (.int .u8 1)))))]), zF 2 (.alloc [.nil, (.lit (.int .i8 0)), (.lit (.int .u8 0)), .nil, (.lit (.int .i64 0)), (.lit (.int .i64 0))]), ⟨none, (.store 6 (.t 2) (.t 21)), none⟩]
def r29_3 : List yB := [zF 23 (.load true 6 (.t 2)), zF 24 (.load true 13 (.t 1)), zF 25 (.buildSl 1 1 [(.lit (.int .i64 0))] [(0, (1, (zN 0)))]), zF 26 (.call false (.c (.fn 31 [])) [(.t 23), (.t 24), (.t 25)]), zM 22 26, zF 27 (.ext (.t 22) 0), zF 28 (.ext (.t 22) 1), zF 29 (.ext (.t 22) 2), zM 3 27, zM 4 28, zM 5 29]
def r29_4 : List yB := [zF 30 (.fieldAddr 2 (.t 2)), ⟨none, (.store 1 (.t 30) (.c (.lit (.int .u8 2)))), none⟩]
def r29_5 : List yB := [zF 32 (.load true 6 (.t 2)), zF 33 (.load true 13 (.t 1)), zF 34 (.buildSl 1 1 [(.lit (.int .i64 0))] [(0, (1, (zN 0)))]), zF 35 (.call false (.c (.fn 31 [])) [(.t 32), (.t 33), (.t 34)]), zM 31 35, zF 36 (.ext (.t 31) 0), zF 37 (.ext (.t 31) 1), zF 38 (.ext (.t 31) 2), zM 6 36, zM 7 37, zM 8 38]
def r29_6 : List yB := [zF 40 (.load true 6 (.t 2)), zF 41 (.load true 13 (.t 1)), zF 42 (.buildSl 1 1 [(.lit (.int .i64 0))] [(0, (1, (zN (-1))))]), zF 43 (.call false (.c (.fn 31 [])) [(.t 40), (.t 41), (.t 42)]), zM 39 43, zF 44 (.ext (.t 39) 0), zF 45 (.ext (.t 39) 1), zF 46 (.ext (.t 39) 2), zM 9 44, zM 10 45, zM 11 46]
def r29_7 : List yB := [zF 48 (.build [.nil, (.lit (.int .i8 0)), (.lit (.int .u8 0)), .nil, (.lit (.int .i64 0)), (.lit (.int .i64 0))] [(1, (1, (.c (.lit (.int .i8 3)))))]), zF 49 (.load true 13 (.t 1)), zF 50 (.call false (.c (.fn 31 [])) [(.t 48), (.t 49), (.c .nil)]), zM 47 50, zF 51 (.ext (.t 47) 0), zF 52 (.ext (.t 47) 1), zF 53 (.ext (.t 47) 2), zM 12 51, zM 13 52, zM 14 53]
def r29_8 : List yB := [zM 54 5, zF 55 (.bin .eql (.t 54) (zN 0)), zM 56 55, zH 57 3 56 true, zG 58 56 true (.bin .eql (.t 57) (zN 3)), zF 59 (.pick (.t 56) (.t 58) (.c (.lit (.bool false)))), zM 60 59, zH 61 4 60 true, zG 62 60 true (.bin .eql (.t 61) (zN 6)), zF 63 (.pick (.t 60) (.t 62) (.c (.lit (.bool false)))), zM 64 63, zH 65 8 64 true, zG 66 64 true (.bin .eql (.t 65) (zN 0)), zF 67 (.pick (.t 64) (.t 66) (.c (.lit (.bool false)))), zM 68 67, zH 69 6 68 true, zG 70 68 true (.bin .eql (.t 69) (zN 0)), zF 71 (.pick (.t 68) (.t 70) (.c (.lit (.bool false)))), zM 72 71, zH 73 7 72 true, zG 74 72 true (.bin .eql (.t 73) (zN 3)), zF 75 (.pick (.t 72) (.t 74) (.c (.lit (.bool false)))), zM 76 75, zH 77 11 76 true, zG 78 76 true (.bin .eql (.t 77) (zN 160)), zF 79 (.pick (.t 76) (.t 78) (.c (.lit (.bool false)))), zM 80 79, zH 81 12 80 true, zG 82 80 true (.bin .eql (.t 81) (zN (-1))), zF 83 (.pick (.t 80) (.t 82) (.c (.lit (.bool false)))), zM 84 83, zH 85 13 84 true, zG 86 84 true (.bin .eql (.t 85) (zN 0)), zF 87 (.pick (.t 84) (.t 86) (.c (.lit (.bool false)))), zM 88 87, zH 89 14 88 true, zG 90 88 true (.bin .eql (.t 89) (zN 0)), zF 91 (.pick (.t 88) (.t 90) (.c (.lit (.bool false)))), zM 0 91]
def ac29 : ACode := (.seq (.ops r29_0 []) (.seq (.ops r29_1 []) (.seq (.ops r29_2 []) (.seq (.ops r29_3 []) (.seq (.ops r29_4 []) (.seq (.ops r29_5 []) (.seq (.ops r29_6 []) (.seq (.ops r29_7 []) (.seq (.ops r29_8 []) .ret)))))))))
def re29 : List AOp := [(.mv (.t 0))]
theorem cf29 : cFn Try.prog 29 = some (92, ac29, re29) := by kernel_rfl
def r30_0 : List yB := [zF 2 (.mv (.c .nil))]
def r30_1 : List yB := [zM 4 0, zF 5 (.len none (.t 4)), zF 6 (.bin .add (.t 5) (zN 1)), zF 7 (.mksl 5 16 [(.lit (.int .i8 0)), (.lit (.int .u8 0)), (.lit (.int .u8 0)), (.lit (.int .u8 0)), (.lit (.int .i64 0))] (zN 0) (.t 6)), zM 3 7]
def r30_2 : List yB := [zM 8 3, zM 9 0, zF 10 (.append 5 16 (.t 8) (.t 9)), zM 2 10]
def ac30 : ACode := (.seq (.ops r30_0 []) (.seq (.ops r30_1 []) (.seq (.ops r30_2 []) .ret)))
def re30 : List AOp := [(.mv (.t 2))]
theorem cf30 : cFn Try.prog 30 = some (11, ac30, re30) := by kernel_rfl
def r31_0 : List yB := [zF 3 (.box (.t 0)), zF 4 (.box (.t 1)), zF 6 (.mv (zN 0)), zF 7 (.mv (zN 0)), zF 8 (.mv (zN 0))]
def r31_1 : List yB := [zF 12 (.load true 13 (.t 4)), zF 13 (.call false (.c (.fn 42 [])) [(.t 12)]), zM 9 13]
def r31_2 : List yB := [zM 15 9, zF 16 (.bin .neq (.t 15) (zN 0)), zM 14 16]
def r31_3 : List yB := [zM 17 9, zF 6 (.mv (zN 0)), zF 7 (.mv (zN 0)), zM 8 17]
def r31_4 : List yB := [zF 19 (.fieldAddr 0 (.t 4)), zF 20 (.idxAddr (some 4) 1 (.t 19) (zN 3)), zF 21 (.load false 1 (.t 20)), zF 22 (.bin .eql (.t 21) (zN 0)), zM 18 22]
def r31_5 : List yB := [zF 6 (.mv (zN 0)), zF 7 (.mv (zN 0)), zF 8 (.mv (zN 21))]
def r31_6 : List yB := [zF 24 (.fieldAddr 1 (.t 3)), zF 25 (.load false 1 (.t 24)), zF 26 (.bin .lss (.t 25) (.c (.lit (.int .i8 0)))), zM 23 26]
def r31_7 : List yB := [zF 27 (.fieldAddr 1 (.t 3)), zF 28 (.load false 1 (.t 27)), zF 29 (.bin .gtr (.t 28) (.c (.lit (.int .i8 3)))), zM 23 29]
def r31_8 : List yB := [zF 30 (.fieldAddr 1 (.t 3)), zF 31 (.load false 1 (.t 30)), zF 32 (.bin .neq (.t 31) (.c (.lit (.int .i8 0)))), zM 33 32, zG 34 33 true (.fieldAddr 2 (.t 3)), zG 35 33 true (.load false 1 (.t 34)), zG 36 33 true (.bin .geq (.t 35) (.c (.lit (.int .u8 32)))), zF 37 (.pick (.t 33) (.t 36) (.c (.lit (.bool false)))), zM 23 37]
def r31_9 : List yB := [zF 6 (.mv (zN 0)), zF 7 (.mv (zN 0)), zF 8 (.mv (zN 50))]
def r31_10 : List yB := [zF 39 (.fieldAddr 0 (.t 3)), zF 40 (.load false 1 (.t 39)), zF 41 (.load true 13 (.t 4)), zM 42 2, zF 43 (.call false (.c (.fn 46 [])) [(.t 40), (.t 41), (.t 42)]), zF 44 (.un .not (.t 43)), zM 38 44]
def r31_11 : List yB := [zF 6 (.mv (zN 0)), zF 7 (.mv (zN 0)), zF 8 (.mv (zN 160))]
def r31_12 : List yB := [zF 45 (.fieldAddr 8 (.t 4)), zF 46 (.idxAddr (some 4) 1 (.t 45) (zN 3)), zF 47 (.load false 1 (.t 46)), zF 48 (.bin .sub (.t 47) (zN 1)), zF 49 (.fieldAddr 12 (.t 4)), zF 50 (.load false 1 (.t 49)), zF 51 (.bin .sub (.t 48) (.t 50)), zF 52 (.maxs [(zN 0), (.t 51)]), zM 10 52]
def r31_13 : List yB := [zF 53 (.fieldAddr 0 (.t 3)), zF 54 (.load false 1 (.t 53)), zF 55 (.load true 13 (.t 4)), zM 56 2, zF 57 (.fieldAddr 2 (.t 3)), zF 58 (.load false 1 (.t 57)), zF 59 (.call false (.c (.fn 68 [])) [(.t 54), (.t 55), (.t 56), (.t 58)]), zF 11 (.alloc [(.lit (.int .i64 0)), (.lit (.int .i64 0)), (.lit (.int .i64 0))]), ⟨none, (.store 3 (.t 11) (.t 59)), none⟩]
def r31_14 : List yB := [zF 60 (.fieldAddr 1 (.t 3)), zF 61 (.load false 1 (.t 60))]
def r31_15 : List yB := [zF 63 (.bin .eql (.t 61) (.c (.lit (.int .i8 3)))), zM 62 63]
def r31_16 : List yB := [zF 64 (.fieldAddr 0 (.t 11)), zF 65 (.load false 1 (.t 64)), zF 6 (.mv (zN (-1))), zM 7 65, zF 8 (.mv (zN 0))]
def r31_17 : List yB := [zF 67 (.bin .eql (.t 61) (.c (.lit (.int .i8 2)))), zM 66 67]
def r31_18 : List yB := [zM 68 10, zF 69 (.fieldAddr 1 (.t 11)), zF 70 (.load false 1 (.t 69)), zF 71 (.maxs [(.t 68), (.t 70)]), zM 6 71]
def r31_19 : List yB := [zM 72 6, zM 73 6, zF 74 (.bin .add (.t 73) (zN 1)), zM 6 72, zM 7 74, zF 8 (.mv (zN 0))]
def r31_20 : List yB := [zF 76 (.bin .eql (.t 61) (.c (.lit (.int .i8 1)))), zM 75 76]
def r31_21 : List yB := [zM 77 10, zF 78 (.fieldAddr 2 (.t 11)), zF 79 (.load false 1 (.t 78)), zF 80 (.maxs [(.t 77), (.t 79)]), zM 10 80]
def r31_22 : List yB := [zF 81 (.fieldAddr 0 (.t 11)), zF 82 (.load false 1 (.t 81)), zM 83 10, zF 84 (.bin .add (.t 83) (zN 1)), zF 85 (.fieldAddr 12 (.t 4)), zF 86 (.load false 1 (.t 85)), zF 87 (.bin .add (.t 84) (.t 86)), zF 88 (.maxs [(.t 82), (.t 87)]), zM 7 88]
def r31_23 : List yB := [zM 89 7, zF 90 (.bin .sub (.t 89) (zN 1)), zF 91 (.fieldAddr 12 (.t 4)), zF 92 (.load false 1 (.t 91)), zF 93 (.bin .sub (.t 90) (.t 92)), zM 94 7, zM 6 93, zM 7 94, zF 8 (.mv (zN 0))]
def ac31 : ACode := (.seq (.ops r31_0 []) (.seq (.seq (.ops r31_1 []) (.block 0 (.seq (.ops r31_2 []) (.cond (.t 14) (.seq (.ops r31_3 []) .ret) (.seq (.ops r31_4 []) (.cond (.t 18) (.seq (.ops r31_5 []) .ret) (.seq (.seq (.ops r31_6 []) (.cond (.t 23) .skip (.seq (.ops r31_7 []) (.cond (.t 23) .skip (.ops r31_8 []))))) (.cond (.t 23) (.seq (.ops r31_9 []) .ret) (.seq (.ops r31_10 []) (.cond (.t 38) (.seq (.ops r31_11 []) .ret) .skip)))))))))) (.seq (.ops r31_12 []) (.seq (.ops r31_13 []) (.seq (.seq (.ops r31_14 []) (.block 1 (.seq (.ops r31_15 []) (.cond (.t 62) (.seq (.ops r31_16 []) .ret) (.seq (.ops r31_17 []) (.cond (.t 66) (.seq (.ops r31_18 []) (.seq (.ops r31_19 []) .ret)) (.seq (.ops r31_20 []) (.cond (.t 75) (.ops r31_21 []) .skip)))))))) (.seq (.ops r31_22 []) (.seq (.ops r31_23 []) .ret)))))))
def re31 : List AOp := [(.mv (.t 6)), (.mv (.t 7)), (.mv (.t 8))]
theorem cf31 : cFn Try.prog 31 = some (95, ac31, re31) := by kernel_rfl
def r32_0 : List yB := [zF 3 (.box (.t 0)), zF 4 (.box (.t 1)), zF 6 (.mv (zN 0)), zF 7 (.mv (zN 0)), zF 8 (.mv (zN 0))]
def r32_1 : List yB := [zF 14 (.load true 13 (.t 4)), zF 15 (.call false (.c (.fn 69 [])) [(.t 14)]), zM 8 15]
def r32_2 : List yB := [zM 16 8, zF 17 (.bin .neq (.t 16) (zN 0))]
def r32_3 : List yB := [zM 18 8, zF 6 (.mv (zN 0)), zF 7 (.mv (zN 0)), zM 8 18]
def r32_4 : List yB := [zF 19 (.fieldAddr 0 (.t 4)), zF 20 (.idxAddr (some 4) 1 (.t 19) (zN 3)), zF 21 (.load false 1 (.t 20)), zF 22 (.bin .eql (.t 21) (zN 0))]
def r32_5 : List yB := [zF 6 (.mv (zN 0)), zF 7 (.mv (zN 0)), zF 8 (.mv (zN 21))]
def r32_6 : List yB := [zF 23 (.fieldAddr 1 (.t 3)), zF 24 (.load false 1 (.t 23)), zF 25 (.bin .lss (.t 24) (.c (.lit (.int .i8 0)))), zM 26 25, zG 27 26 false (.fieldAddr 1 (.t 3)), zG 28 26 false (.load false 1 (.t 27)), zG 29 26 false (.bin .gtr (.t 28) (.c (.lit (.int .i8 3)))), zF 30 (.pick (.t 26) (.c (.lit (.bool true))) (.t 29)), zM 31 30, zG 32 31 false (.fieldAddr 1 (.t 3)), zG 33 31 false (.load false 1 (.t 32)), zG 34 31 false (.bin .neq (.t 33) (.c (.lit (.int .i8 0)))), zH 35 34 31 false, zG 36 35 true (.fieldAddr 2 (.t 3)), zG 37 35 true (.load false 1 (.t 36)), zG 38 35 true (.bin .geq (.t 37) (.c (.lit (.int .u8 32)))), zG 39 31 false (.pick (.t 35) (.t 38) (.c (.lit (.bool false)))), zF 40 (.pick (.t 31) (.c (.lit (.bool true))) (.t 39))]
def r32_7 : List yB := [zF 6 (.mv (zN 0)), zF 7 (.mv (zN 0)), zF 8 (.mv (zN 50))]
def r32_8 : List yB := [zF 41 (.fieldAddr 0 (.t 3)), zF 42 (.load false 1 (.t 41)), zF 43 (.load true 13 (.t 4)), zM 44 2, zF 45 (.call false (.c (.fn 47 [])) [(.t 42), (.t 43), (.t 44)]), zM 9 45]
def r32_9 : List yB := [zM 46 9, zF 47 (.un .not (.t 46))]
def r32_10 : List yB := [zF 6 (.mv (zN 0)), zF 7 (.mv (zN 0)), zF 8 (.mv (zN 160))]
def r32_11 : List yB := [zF 48 (.load true 13 (.t 4)), zF 49 (.call false (.c (.fn 70 [])) [(.t 48)]), zM 10 49]
def r32_12 : List yB := [zF 51 (.fieldAddr 0 (.t 3)), zF 52 (.load false 1 (.t 51)), zF 53 (.load true 13 (.t 4)), zM 54 2, zF 55 (.fieldAddr 2 (.t 3)), zF 56 (.load false 1 (.t 55)), zF 57 (.call false (.c (.fn 71 [])) [(.t 52), (.t 53), (.t 54), (.t 56)]), zM 50 57, zF 58 (.ext (.t 50) 0), zF 59 (.ext (.t 50) 1), zF 60 (.ext (.t 50) 2), zM 11 58, zM 12 59, zM 13 60]
def r32_13 : List yB := [zF 61 (.fieldAddr 1 (.t 3)), zF 62 (.load false 1 (.t 61))]
def r32_14 : List yB := [zF 65 (.bin .eql (.t 62) (.c (.lit (.int .i8 0)))), zM 64 65]
def r32_15 : List yB := [zM 66 11, zM 67 10, zF 68 (.bin .add (.t 67) (zN 1)), zF 69 (.fieldAddr 12 (.t 4)), zF 70 (.load false 1 (.t 69)), zF 71 (.bin .add (.t 68) (.t 70)), zF 72 (.maxs [(.t 66), (.t 71)]), zM 7 72]
def r32_16 : List yB := [zF 74 (.bin .eql (.t 62) (.c (.lit (.int .i8 1)))), zM 73 74]
def r32_17 : List yB := [zM 75 11, zF 76 (.fieldAddr 12 (.t 4)), zF 77 (.load false 1 (.t 76)), zF 78 (.bin .add (zN 1) (.t 77)), zM 79 10, zM 80 13, zF 81 (.maxs [(.t 79), (.t 80)]), zF 82 (.bin .add (.t 78) (.t 81)), zF 83 (.maxs [(.t 75), (.t 82)]), zM 7 83]
def r32_18 : List yB := [zF 85 (.bin .eql (.t 62) (.c (.lit (.int .i8 2)))), zM 84 85]
def r32_19 : List yB := [zM 86 10, zM 87 12, zF 88 (.maxs [(.t 86), (.t 87)]), zM 6 88]
def r32_20 : List yB := [zM 89 6, zM 90 6, zF 91 (.bin .add (.t 90) (zN 1)), zM 6 89, zM 7 91, zF 8 (.mv (zN 0))]
def r32_21 : List yB := [zM 63 11, zF 6 (.mv (zN (-1))), zM 7 63, zF 8 (.mv (zN 0))]
def r32_22 : List yB := [zM 92 7, zF 93 (.bin .sub (.t 92) (zN 1)), zF 94 (.fieldAddr 12 (.t 4)), zF 95 (.load false 1 (.t 94)), zF 96 (.bin .sub (.t 93) (.t 95)), zM 97 7, zM 6 96, zM 7 97, zF 8 (.mv (zN 0))]
def ac32 : ACode := (.seq (.ops r32_0 []) (.seq (.ops r32_1 []) (.seq (.seq (.ops r32_2 []) (.cond (.t 17) (.seq (.ops r32_3 []) .ret) .skip)) (.seq (.seq (.ops r32_4 []) (.cond (.t 22) (.seq (.ops r32_5 []) .ret) .skip)) (.seq (.seq (.ops r32_6 []) (.cond (.t 40) (.seq (.ops r32_7 []) .ret) .skip)) (.seq (.ops r32_8 []) (.seq (.seq (.ops r32_9 []) (.cond (.t 47) (.seq (.ops r32_10 []) .ret) .skip)) (.seq (.ops r32_11 []) (.seq (.ops r32_12 []) (.seq (.seq (.ops r32_13 []) (.block 0 (.seq (.ops r32_14 []) (.cond (.t 64) (.ops r32_15 []) (.seq (.ops r32_16 []) (.cond (.t 73) (.ops r32_17 []) (.seq (.ops r32_18 []) (.cond (.t 84) (.seq (.ops r32_19 []) (.seq (.ops r32_20 []) .ret)) (.seq (.ops r32_21 []) .ret))))))))) (.seq (.ops r32_22 []) .ret)))))))))))
def re32 : List AOp := [(.mv (.t 6)), (.mv (.t 7)), (.mv (.t 8))]
theorem cf32 : cFn Try.prog 32 = some (98, ac32, re32) := by kernel_rfl
def r33_0 : List yB := [zF 4 (.mv (.c (.lit (.bool false))))]
def r33_1 : List yB := [zM 6 0, zF 7 (.len none (.t 6)), zM 8 1, zF 9 (.len none (.t 8)), zF 10 (.bin .neq (.t 7) (.t 9))]
def r33_2 : List yB := [zF 4 (.mv (.c (.lit (.bool false))))]
def r33_3 : List yB := [zF 5 (.mv (zN 0))]
def r33_4 : List yB := [zM 11 5, zM 12 0, zF 13 (.len none (.t 12)), zF 14 (.bin .lss (.t 11) (.t 13))]
def r33_5 : List yB := [zM 17 0, zM 18 5, zF 19 (.idxAddr none 5 (.t 17) (.t 18)), zF 20 (.load true 5 (.t 19)), zM 21 1, zM 22 5, zF 23 (.idxAddr none 5 (.t 21) (.t 22)), zF 24 (.load true 5 (.t 23)), zF 25 (.aeq true [(0, 0), (1, 0), (2, 0), (3, 0), (4, 0)] (.t 20) (.t 24))]
def r33_6 : List yB := [zF 4 (.mv (.c (.lit (.bool false))))]
def r33_7 : List yB := [zM 15 5, zF 16 (.bin .add (.t 15) (zN 1)), zM 5 16]
def l33_0 : ACode := (.seq (.seq (.ops r33_4 []) (.cond (.t 14) .skip (.exit 0))) (.seq (.block 1 (.seq (.ops r33_5 []) (.cond (.t 25) (.seq (.ops r33_6 []) .ret) .skip))) (.ops r33_7 [])))
def r33_8 : List yB := [zF 4 (.mv (.c (.lit (.bool true))))]
def ac33 : ACode := (.seq (.ops r33_0 []) (.seq (.seq (.ops r33_1 []) (.cond (.t 10) (.seq (.ops r33_2 []) .ret) .skip)) (.seq (.seq (.ops r33_3 []) (.block 0 (.loop l33_0))) (.seq (.ops r33_8 []) .ret))))
def re33 : List AOp := [(.mv (.t 4))]
theorem cf33 : cFn Try.prog 33 = some (26, ac33, re33) := by kernel_rfl
def r34_0 : List yB := [zF 4 (.mv (.c (.lit (.bool false))))]
def r34_1 : List yB := [zM 6 0, zF 7 (.len none (.t 6)), zM 8 1, zF 9 (.len none (.t 8)), zF 10 (.bin .neq (.t 7) (.t 9))]
def r34_2 : List yB := [zF 4 (.mv (.c (.lit (.bool false))))]
def r34_3 : List yB := [zF 5 (.mv (zN 0))]
def r34_4 : List yB := [zM 11 5, zM 12 0, zF 13 (.len none (.t 12)), zF 14 (.bin .lss (.t 11) (.t 13))]
def r34_5 : List yB := [zM 17 0, zM 18 5, zF 19 (.idxAddr none 1 (.t 17) (.t 18)), zF 20 (.load false 1 (.t 19)), zM 21 1, zM 22 5, zF 23 (.idxAddr none 1 (.t 21) (.t 22)), zF 24 (.load false 1 (.t 23)), zF 25 (.bin .neq (.t 20) (.t 24))]
def r34_6 : List yB := [zF 4 (.mv (.c (.lit (.bool false))))]
def r34_7 : List yB := [zM 15 5, zF 16 (.bin .add (.t 15) (zN 1)), zM 5 16]
def l34_0 : ACode := (.seq (.seq (.ops r34_4 []) (.cond (.t 14) .skip (.exit 0))) (.seq (.block 1 (.seq (.ops r34_5 []) (.cond (.t 25) (.seq (.ops r34_6 []) .ret) .skip))) (.ops r34_7 [])))
def r34_8 : List yB := [zF 4 (.mv (.c (.lit (.bool true))))]
def ac34 : ACode := (.seq (.ops r34_0 []) (.seq (.seq (.ops r34_1 []) (.cond (.t 10) (.seq (.ops r34_2 []) .ret) .skip)) (.seq (.seq (.ops r34_3 []) (.block 0 (.loop l34_0))) (.seq (.ops r34_8 []) .ret))))
def re34 : List AOp := [(.mv (.t 4))]
theorem cf34 : cFn Try.prog 34 = some (26, ac34, re34) := by kernel_rfl
def r40_0 : List yB := [zF 3 (.box (.t 1)), zF 4 (.mv (.c .nil)), zF 5 (.mv (zN 0))]
def r40_1 : List yB := [zM 8 0, zF 9 (.load true 13 (.t 3)), zF 10 (.call false (.c (.fn 64 [])) [(.t 8), (.t 9)]), zM 6 10]
def r40_2 : List yB := [zM 11 6, zF 12 (.bin .neq (.t 11) (zN 0))]
def r40_3 : List yB := [zM 13 6, zF 4 (.mv (.c .nil)), zM 5 13]
def r40_4 : List yB := [zM 14 0, zF 15 (.load true 13 (.t 3)), zF 16 (.call false (.c (.fn 65 [])) [(.t 14), (.t 15)]), zM 7 16]
def r40_5 : List yB := [zM 17 7, zF 18 (.call false (.c (.fn 66 [])) [(.t 17)])]
def r40_6 : List yB := [zM 19 7, zF 20 (.nilchk (.t 19)), zF 21 (.fieldAddr 16 (.t 20)), zF 22 (.load false 1 (.t 21)), zM 4 22, zF 5 (.mv (zN 0))]
def ac40 : ACode := (.seq (.ops r40_0 []) (.seq (.seq (.ops r40_1 []) (.seq (.ops r40_2 []) (.cond (.t 12) (.seq (.ops r40_3 []) .ret) .skip))) (.seq (.ops r40_4 []) (.seq (.ops r40_5 []) (.seq (.ops r40_6 []) .ret)))))
def re40 : List AOp := [(.mv (.t 4)), (.mv (.t 5))]
theorem cf40 : cFn Try.prog 40 = some (23, ac40, re40) := by kernel_rfl
def r41_0 : List yB := [zF 2 (.mv (zN 0)), zF 3 (.mv (.c (.lit (.bool false))))]
def r41_1 : List yB := [zM 7 0, zF 8 (.call false (.c (.fn 75 [])) [(.t 7)]), zM 6 8, zF 9 (.ext (.t 6) 0), zF 10 (.ext (.t 6) 1), ⟨(some 4), (.alloc [(.lit (.string ⟨#[]⟩)), (.lit (.int .i8 0)), (.lit (.bool false)), (.lit (.bool false)), (.lit (.bool false)), (.lit (.bool false)), (.lit (.bool false)), (.lit (.bool false))]), none⟩, ⟨none, (.store 8 (.t 4) (.t 9)), none⟩, zM 5 10]
def r41_2 : List yB := [zM 11 5, zF 12 (.un .not (.t 11)), zM 13 12, zG 14 13 false (.fieldAddr 1 (.t 4)), zG 15 13 false (.load false 1 (.t 14)), zG 16 13 false (.bin .lss (.t 15) (.c (.lit (.int .i8 0)))), zF 17 (.pick (.t 13) (.c (.lit (.bool true))) (.t 16))]
def r41_3 : List yB := [zF 2 (.mv (zN 0)), zF 3 (.mv (.c (.lit (.bool false))))]
def r41_4 : List yB := [zF 18 (.fieldAddr 1 (.t 4)), zF 19 (.load false 1 (.t 18)), zF 20 (.conv .i64 (.t 19)), zM 2 20, zF 3 (.mv (.c (.lit (.bool true))))]
def ac41 : ACode := (.seq (.ops r41_0 []) (.seq (.ops r41_1 []) (.seq (.seq (.ops r41_2 []) (.cond (.t 17) (.seq (.ops r41_3 []) .ret) .skip)) (.seq (.ops r41_4 []) .ret))))
def re41 : List AOp := [(.mv (.t 2)), (.mv (.t 3))]
theorem cf41 : cFn Try.prog 41 = some (21, ac41, re41) := by kernel_rfl
def r42_0 : List yB := [zF 1 (.box (.t 0)), zF 2 (.mv (zN 0))]
def r42_1 : List yB := [zF 3 (.mv (.c (.fn 76 [])))]
def r42_2 : List yB := [zF 5 (.mv (zN 0))]
def r42_3 : List yB := [zF 6 (.bin .lss (.t 5) (zN 4))]
def r42_4 : List yB := [zM 7 5, zM 4 7]
def r42_5 : List yB := [zM 8 3, zM 9 4, zF 10 (.fieldAddr 0 (.t 1)), zF 11 (.idxAddr (some 4) 1 (.t 10) (.t 9)), zF 12 (.load false 1 (.t 11)), zF 13 (.call false (.t 8) [(.t 12), (zN 0), (zN 8)]), zF 14 (.un .not (.t 13)), zM 15 14, zH 16 3 15 false, zH 17 4 15 false, zG 18 15 false (.fieldAddr 4 (.t 1)), zG 19 15 false (.idxAddr (some 4) 1 (.t 18) (.t 17)), zG 20 15 false (.load false 1 (.t 19)), zG 21 15 false (.call false (.t 16) [(.t 20), (zN 1), (zN 8)]), zG 22 15 false (.un .not (.t 21)), zF 23 (.pick (.t 15) (.c (.lit (.bool true))) (.t 22)), zM 24 23, zH 25 3 24 false, zH 26 4 24 false, zG 27 24 false (.fieldAddr 8 (.t 1)), zG 28 24 false (.idxAddr (some 4) 1 (.t 27) (.t 26)), zG 29 24 false (.load false 1 (.t 28)), zG 30 24 false (.call false (.t 25) [(.t 29), (zN 1), (zN 4)]), zG 31 24 false (.un .not (.t 30)), zF 32 (.pick (.t 24) (.c (.lit (.bool true))) (.t 31))]
def r42_6 : List yB := [zF 2 (.mv (zN 20))]
def r42_7 : List yB := [zF 33 (.bin .add (.t 5) (zN 1)), zM 5 33]
def l42_0 : ACode := (.seq (.ops r42_3 []) (.seq (.cond (.t 6) .skip (.exit 0)) (.seq (.block 1 (.seq (.ops r42_4 []) (.seq (.ops r42_5 []) (.cond (.t 32) (.seq (.ops r42_6 []) .ret) .skip)))) (.ops r42_7 []))))
def r42_8 : List yB := [zM 34 3, zF 35 (.fieldAddr 12 (.t 1)), zF 36 (.load false 1 (.t 35)), zF 37 (.call false (.t 34) [(.t 36), (zN 0), (zN 4)]), zF 38 (.un .not (.t 37))]
def r42_9 : List yB := [zF 2 (.mv (zN 20))]
def r42_10 : List yB := [zF 2 (.mv (zN 0))]
def ac42 : ACode := (.seq (.ops r42_0 []) (.seq (.ops r42_1 []) (.seq (.seq (.ops r42_2 []) (.block 0 (.loop l42_0))) (.seq (.seq (.ops r42_8 []) (.cond (.t 38) (.seq (.ops r42_9 []) .ret) .skip)) (.seq (.ops r42_10 []) .ret)))))
def re42 : List AOp := [(.mv (.t 2))]
theorem cf42 : cFn Try.prog 42 = some (39, ac42, re42) := by kernel_rfl
def r46_0 : List yB := [zF 4 (.box (.t 1)), zF 6 (.mv (.c (.lit (.bool false))))]
def r46_1 : List yB := [zM 15 0, zF 16 (.load true 13 (.t 4)), zF 17 (.call false (.c (.fn 40 [])) [(.t 15), (.t 16)]), zM 14 17, zF 18 (.ext (.t 14) 0), zF 19 (.ext (.t 14) 1), zM 7 18, zM 8 19]
def r46_2 : List yB := [zM 20 8, zF 21 (.bin .neq (.t 20) (zN 0)), zM 22 21, zH 23 0 22 false, zG 24 22 false (.load true 13 (.t 4)), zG 25 22 false (.call false (.c (.fn 77 [])) [(.t 23), (.t 24)]), zF 26 (.pick (.t 22) (.c (.lit (.bool true))) (.t 25)), zM 27 26, zH 28 2 27 false, zG 29 27 false (.len none (.t 28)), zH 30 0 27 false, zG 31 27 false (.len none (.t 30)), zG 32 27 false (.bin .neq (.t 29) (.t 31)), zF 33 (.pick (.t 27) (.c (.lit (.bool true))) (.t 32))]
def r46_3 : List yB := [zF 6 (.mv (.c (.lit (.bool false))))]
def r46_4 : List yB := [zM 34 0, zF 35 (.load true 13 (.t 4)), zF 36 (.call false (.c (.fn 78 [])) [(.t 34), (.t 35)]), zM 9 36]
def r46_5 : List yB := [zM 37 2, zF 38 (.len none (.t 37)), zF 39 (.mv (zN 0))]
def r46_6 : List yB := [zF 40 (.bin .lss (.t 39) (.t 38))]
def r46_7 : List yB := [zM 41 39, zF 42 (.idxAddr none 1 (.t 37) (.t 39)), zF 43 (.load false 1 (.t 42)), zM 10 41, zM 11 43]
def r46_8 : List yB := [zM 44 11, zF 45 (.bin .lss (.t 44) (zN 0)), zM 46 45, zH 47 11 46 false, zG 48 46 false (.bin .gtr (.t 47) (zN 65536)), zF 49 (.pick (.t 46) (.c (.lit (.bool true))) (.t 48))]
def r46_9 : List yB := [zF 6 (.mv (.c (.lit (.bool false))))]
def r46_10 : List yB := [zM 50 9, zF 51 (.nilchk (.t 50)), zF 52 (.fieldAddr 15 (.t 51)), zF 53 (.load false 1 (.t 52)), zM 54 10, zM 55 11, zF 56 (.idxAddr none 1 (.t 53) (.t 54)), ⟨none, (.store 1 (.t 56) (.t 55)), none⟩]
def r46_11 : List yB := [zF 57 (.bin .add (.t 39) (zN 1)), zM 39 57]
def l46_0 : ACode := (.seq (.ops r46_6 []) (.seq (.cond (.t 40) .skip (.exit 0)) (.seq (.block 1 (.seq (.ops r46_7 []) (.seq (.seq (.ops r46_8 []) (.cond (.t 49) (.seq (.ops r46_9 []) .ret) .skip)) (.ops r46_10 [])))) (.ops r46_11 []))))
def r46_12 : List yB := [zM 58 2, zF 59 (.len none (.t 58)), zF 60 (.mv (zN 0))]
def r46_13 : List yB := [zF 61 (.bin .lss (.t 60) (.t 59))]
def r46_14 : List yB := [zM 62 60, zF 63 (.idxAddr none 1 (.t 58) (.t 60)), zF 64 (.load false 1 (.t 63)), zM 12 62, zM 13 64]
def r46_15 : List yB := [zM 65 9, zM 66 12, zM 67 13, zF 68 (.call false (.c (.fn 79 [])) [(.t 65), (.t 66), (.t 67)]), zF 69 (.un .not (.t 68)), zM 70 69, zH 71 9 70 false, zG 72 70 false (.nilchk (.t 71)), zG 73 70 false (.fieldAddr 16 (.t 72)), zG 74 70 false (.load false 1 (.t 73)), zH 75 0 70 false, zH 76 12 70 false, zG 77 70 false (.idxAddr none 5 (.t 75) (.t 76)), zG 78 70 false (.load true 5 (.t 77)), zG 79 70 false (.call true (.c (.fn 81 [])) [(.t 78)]), zH 80 13 70 false, zG 81 70 false (.call false (.c (.fn 80 [])) [(.t 74), (.t 79), (.t 80)]), zG 82 70 false (.un .not (.t 81)), zF 83 (.pick (.t 70) (.c (.lit (.bool true))) (.t 82))]
def r46_16 : List yB := [zF 6 (.mv (.c (.lit (.bool false))))]
def r46_17 : List yB := [zF 84 (.bin .add (.t 60) (zN 1)), zM 60 84]
def l46_1 : ACode := (.seq (.ops r46_13 []) (.seq (.cond (.t 61) .skip (.exit 2)) (.seq (.block 3 (.seq (.ops r46_14 []) (.seq (.ops r46_15 []) (.cond (.t 83) (.seq (.ops r46_16 []) .ret) .skip)))) (.ops r46_17 []))))
def r46_18 : List yB := [zF 6 (.mv (.c (.lit (.bool true))))]
def ac46 : ACode := (.seq (.ops r46_0 []) (.seq (.seq (.ops r46_1 []) (.seq (.ops r46_2 []) (.cond (.t 33) (.seq (.ops r46_3 []) .ret) .skip))) (.seq (.ops r46_4 []) (.seq (.seq (.ops r46_5 []) (.block 0 (.loop l46_0))) (.seq (.seq (.ops r46_12 []) (.block 2 (.loop l46_1))) (.seq (.ops r46_18 []) .ret))))))
def re46 : List AOp := [(.mv (.t 6))]
theorem cf46 : cFn Try.prog 46 = some (85, ac46, re46) := by kernel_rfl
def r47_0 : List yB := [zF 4 (.box (.t 1)), zF 6 (.mv (.c (.lit (.bool false))))]
def r47_1 : List yB := [zM 16 0, zF 17 (.load true 13 (.t 4)), zF 18 (.call false (.c (.fn 72 [])) [(.t 16), (.t 17)]), zM 15 18, zF 19 (.ext (.t 15) 0), zF 20 (.ext (.t 15) 1), zM 7 19, zM 8 20]
def r47_2 : List yB := [zM 21 8, zF 22 (.bin .neq (.t 21) (zN 0)), zM 23 22, zH 24 0 23 false, zG 25 23 false (.load true 13 (.t 4)), zG 26 23 false (.call false (.c (.fn 82 [])) [(.t 24), (.t 25)]), zF 27 (.pick (.t 23) (.c (.lit (.bool true))) (.t 26)), zM 28 27, zH 29 2 28 false, zG 30 28 false (.len none (.t 29)), zH 31 0 28 false, zG 32 28 false (.len none (.t 31)), zG 33 28 false (.bin .neq (.t 30) (.t 32)), zF 34 (.pick (.t 28) (.c (.lit (.bool true))) (.t 33))]
def r47_3 : List yB := [zF 6 (.mv (.c (.lit (.bool false))))]
def r47_4 : List yB := [zF 9 (.mv (zN 0))]
def r47_5 : List yB := [zM 35 9, zM 36 0, zF 37 (.len none (.t 36)), zF 38 (.bin .lss (.t 35) (.t 37))]
def r47_6 : List yB := [zM 41 2, zM 42 9, zF 43 (.idxAddr none 1 (.t 41) (.t 42)), zF 44 (.load false 1 (.t 43)), zF 45 (.bin .lss (.t 44) (zN 0)), zM 46 45, zH 47 2 46 false, zH 48 9 46 false, zG 49 46 false (.idxAddr none 1 (.t 47) (.t 48)), zG 50 46 false (.load false 1 (.t 49)), zG 51 46 false (.bin .gtr (.t 50) (zN 65536)), zF 52 (.pick (.t 46) (.c (.lit (.bool true))) (.t 51))]
def r47_7 : List yB := [zF 6 (.mv (.c (.lit (.bool false))))]
def r47_8 : List yB := [zM 39 9, zF 40 (.bin .add (.t 39) (zN 1)), zM 9 40]
def l47_0 : ACode := (.seq (.seq (.ops r47_5 []) (.cond (.t 38) .skip (.exit 0))) (.seq (.block 1 (.seq (.ops r47_6 []) (.cond (.t 52) (.seq (.ops r47_7 []) .ret) .skip))) (.ops r47_8 [])))
def r47_9 : List yB := [zF 10 (.mv (zN 0))]
def r47_10 : List yB := [zM 53 10, zM 54 7, zF 55 (.len none (.t 54)), zF 56 (.bin .lss (.t 53) (.t 55))]
def r47_11 : List yB := [zM 59 2, zM 60 7, zM 61 10, zF 62 (.idxAddr none 5 (.t 60) (.t 61)), zF 63 (.fieldAddr 1 (.t 62)), zF 64 (.load false 1 (.t 63)), zF 65 (.idxAddr none 1 (.t 59) (.t 64)), zF 66 (.load false 1 (.t 65)), zM 67 2, zM 68 7, zM 69 10, zF 70 (.idxAddr none 5 (.t 68) (.t 69)), zF 71 (.fieldAddr 0 (.t 70)), zF 72 (.load false 1 (.t 71)), zF 73 (.idxAddr none 1 (.t 67) (.t 72)), zF 74 (.load false 1 (.t 73)), zM 75 7, zM 76 10, zF 77 (.idxAddr none 5 (.t 75) (.t 76)), zF 78 (.fieldAddr 2 (.t 77)), zF 79 (.load false 1 (.t 78)), zF 80 (.bin .add (.t 74) (.t 79)), zF 81 (.bin .lss (.t 66) (.t 80))]
def r47_12 : List yB := [zF 6 (.mv (.c (.lit (.bool false))))]
def r47_13 : List yB := [zM 57 10, zF 58 (.bin .add (.t 57) (zN 1)), zM 10 58]
def l47_1 : ACode := (.seq (.seq (.ops r47_10 []) (.cond (.t 56) .skip (.exit 2))) (.seq (.block 3 (.seq (.ops r47_11 []) (.cond (.t 81) (.seq (.ops r47_12 []) .ret) .skip))) (.ops r47_13 [])))
def r47_14 : List yB := [zF 11 (.mv (zN 0))]
def r47_15 : List yB := [zM 82 11, zM 83 0, zF 84 (.len none (.t 83)), zF 85 (.bin .lss (.t 82) (.t 84))]
def r47_16 : List yB := [zM 89 0, zM 90 11, zF 91 (.idxAddr none 5 (.t 89) (.t 90)), zF 92 (.fieldAddr 0 (.t 91)), zF 93 (.load false 1 (.t 92)), zF 94 (.call false (.c (.fn 51 [])) [(.t 93)]), zM 88 94, zF 95 (.ext (.t 88) 0), zF 96 (.ext (.t 88) 1), zM 12 95, zM 13 96]
def r47_17 : List yB := [zF 14 (.mv (zN 0))]
def r47_18 : List yB := [zM 97 14, zM 98 12, zF 99 (.fieldAddr 8 (.t 4)), zF 100 (.idxAddr (some 4) 1 (.t 99) (.t 98)), zF 101 (.load false 1 (.t 100)), zF 102 (.bin .lss (.t 97) (.t 101))]
def r47_19 : List yB := [zM 105 0, zF 106 (.load true 13 (.t 4)), zM 107 2, zM 108 12, zM 109 2, zM 110 11, zF 111 (.idxAddr none 1 (.t 109) (.t 110)), zF 112 (.load false 1 (.t 111)), zM 113 14, zF 114 (.bin .add (.t 112) (.t 113)), zF 115 (.call true (.c (.fn 85 [])) [(.t 105), (.t 106), (.t 107), (.t 108), (.t 114)]), zM 116 12, zF 117 (.fieldAddr 0 (.t 4)), zF 118 (.idxAddr (some 4) 1 (.t 117) (.t 116)), zF 119 (.load false 1 (.t 118)), zF 120 (.bin .gtr (.t 115) (.t 119))]
def r47_20 : List yB := [zF 6 (.mv (.c (.lit (.bool false))))]
def r47_21 : List yB := [zM 103 14, zF 104 (.bin .add (.t 103) (zN 1)), zM 14 104]
def l47_2 : ACode := (.seq (.seq (.ops r47_18 []) (.cond (.t 102) .skip (.exit 6))) (.seq (.block 7 (.seq (.ops r47_19 []) (.cond (.t 120) (.seq (.ops r47_20 []) .ret) .skip))) (.ops r47_21 [])))
def r47_22 : List yB := [zM 86 11, zF 87 (.bin .add (.t 86) (zN 1)), zM 11 87]
def l47_3 : ACode := (.seq (.seq (.ops r47_15 []) (.cond (.t 85) .skip (.exit 4))) (.seq (.block 5 (.seq (.ops r47_16 []) (.seq (.ops r47_17 []) (.block 6 (.loop l47_2))))) (.ops r47_22 [])))
def r47_23 : List yB := [zF 6 (.mv (.c (.lit (.bool true))))]
def ac47 : ACode := (.seq (.ops r47_0 []) (.seq (.ops r47_1 []) (.seq (.seq (.ops r47_2 []) (.cond (.t 34) (.seq (.ops r47_3 []) .ret) .skip)) (.seq (.seq (.ops r47_4 []) (.block 0 (.loop l47_0))) (.seq (.seq (.ops r47_9 []) (.block 2 (.loop l47_1))) (.seq (.seq (.ops r47_14 []) (.block 4 (.loop l47_3))) (.seq (.ops r47_23 []) .ret)))))))
def re47 : List AOp := [(.mv (.t 6))]
theorem cf47 : cFn Try.prog 47 = some (121, ac47, re47) := by kernel_rfl
def r51_0 : List yB := [zF 2 (.mv (zN 0)), zF 3 (.mv (.c (.lit (.bool false))))]
def r51_1 : List yB := [zM 7 0, zF 8 (.call false (.c (.fn 86 [])) [(.t 7)]), zM 6 8, zF 9 (.ext (.t 6) 0), zF 10 (.ext (.t 6) 1), ⟨(some 4), (.alloc [(.lit (.string ⟨#[]⟩)), (.lit (.int .i64 0)), (.lit (.bool false)), (.lit (.bool false)), (.lit (.bool false)), (.lit (.bool false)), (.lit (.bool false))]), none⟩, ⟨none, (.store 7 (.t 4) (.t 9)), none⟩, zM 5 10]
def r51_2 : List yB := [zM 11 5, zF 12 (.un .not (.t 11)), zM 13 12, zG 14 13 false (.fieldAddr 1 (.t 4)), zG 15 13 false (.load false 1 (.t 14)), zG 16 13 false (.bin .lss (.t 15) (zN 0)), zF 17 (.pick (.t 13) (.c (.lit (.bool true))) (.t 16))]
def r51_3 : List yB := [zF 2 (.mv (zN 0)), zF 3 (.mv (.c (.lit (.bool false))))]
def r51_4 : List yB := [zF 18 (.fieldAddr 1 (.t 4)), zF 19 (.load false 1 (.t 18)), zM 2 19, zF 3 (.mv (.c (.lit (.bool true))))]
def ac51 : ACode := (.seq (.ops r51_0 []) (.seq (.ops r51_1 []) (.seq (.seq (.ops r51_2 []) (.cond (.t 17) (.seq (.ops r51_3 []) .ret) .skip)) (.seq (.ops r51_4 []) .ret))))
def re51 : List AOp := [(.mv (.t 2)), (.mv (.t 3))]
theorem cf51 : cFn Try.prog 51 = some (20, ac51, re51) := by kernel_rfl
def r52_0 : List yB := [zF 1 (.box (.t 0)), zF 2 (.mv (.c (.lit (.int .u8 0)))), zF 3 (.mv (.c (.lit (.bool false))))]
def r52_1 : List yB := [zF 7 (.fieldAddr 0 (.t 1)), zF 8 (.load false 1 (.t 7)), zF 9 (.call false (.c (.fn 75 [])) [(.t 8)]), zM 6 9, zF 10 (.ext (.t 6) 0), zF 11 (.ext (.t 6) 1), ⟨(some 4), (.alloc [(.lit (.string ⟨#[]⟩)), (.lit (.int .i8 0)), (.lit (.bool false)), (.lit (.bool false)), (.lit (.bool false)), (.lit (.bool false)), (.lit (.bool false)), (.lit (.bool false))]), none⟩, ⟨none, (.store 8 (.t 4) (.t 10)), none⟩, zM 5 11]
def r52_2 : List yB := [zF 12 (.fieldAddr 2 (.t 4)), zF 13 (.load false 1 (.t 12)), zF 14 (.un .not (.t 13)), zM 15 14, zG 16 15 false (.load true 5 (.t 1)), zG 17 15 false (.call false (.c (.fn 87 [])) [(.t 16)]), zG 18 15 false (.bin .neq (.t 17) (zN 0)), zF 19 (.pick (.t 15) (.c (.lit (.bool true))) (.t 18))]
def r52_3 : List yB := [zF 2 (.mv (.c (.lit (.int .u8 0)))), zF 3 (.mv (.c (.lit (.bool false))))]
def r52_4 : List yB := [zF 20 (.fieldAddr 1 (.t 1)), zF 21 (.load false 1 (.t 20)), zM 2 21, zF 3 (.mv (.c (.lit (.bool true))))]
def ac52 : ACode := (.seq (.ops r52_0 []) (.seq (.ops r52_1 []) (.seq (.seq (.ops r52_2 []) (.cond (.t 19) (.seq (.ops r52_3 []) .ret) .skip)) (.seq (.ops r52_4 []) .ret))))
def re52 : List AOp := [(.mv (.t 2)), (.mv (.t 3))]
theorem cf52 : cFn Try.prog 52 = some (22, ac52, re52) := by kernel_rfl
def r54_0 : List yB := [zF 1 (.box (.t 0)), zF 2 (.mv (.c .nil))]
def r54_1 : List yB := [zF 7 (.fieldAddr 0 (.t 1)), zF 8 (.load false 1 (.t 7)), zF 9 (.call false (.c (.fn 75 [])) [(.t 8)]), zM 6 9, zF 10 (.ext (.t 6) 0), zF 11 (.ext (.t 6) 1), ⟨(some 3), (.alloc [(.lit (.string ⟨#[]⟩)), (.lit (.int .i8 0)), (.lit (.bool false)), (.lit (.bool false)), (.lit (.bool false)), (.lit (.bool false)), (.lit (.bool false)), (.lit (.bool false))]), none⟩, ⟨none, (.store 8 (.t 3) (.t 10)), none⟩, zM 4 11]
def r54_2 : List yB := [zF 12 (.load true 5 (.t 1)), zF 13 (.call false (.c (.fn 87 [])) [(.t 12)]), zF 14 (.bin .neq (.t 13) (zN 0))]
def r54_3 : List yB := [zF 2 (.mv (.c .nil))]
def r54_4 : List yB := [zF 15 (.fieldAddr 2 (.t 1)), zF 16 (.load false 1 (.t 15)), zF 17 (.fieldAddr 3 (.t 1)), zF 18 (.load false 1 (.t 17)), zF 19 (.buildSl 1 2 [(.lit (.int .u8 0)), (.lit (.int .u8 0))] [(0, (1, (.t 16))), (1, (1, (.t 18)))]), zM 5 19]
def r54_5 : List yB := [zF 21 (.fieldAddr 3 (.t 3)), zF 22 (.load false 1 (.t 21)), zM 23 22, zG 24 23 true (.fieldAddr 4 (.t 3)), zG 25 23 true (.load false 1 (.t 24)), zF 26 (.pick (.t 23) (.t 25) (.c (.lit (.bool false)))), zM 27 26, zG 28 27 true (.fieldAddr 2 (.t 1)), zG 29 27 true (.load false 1 (.t 28)), zG 30 27 true (.fieldAddr 3 (.t 1)), zG 31 27 true (.load false 1 (.t 30)), zG 32 27 true (.bin .neq (.t 29) (.t 31)), zF 33 (.pick (.t 27) (.t 32) (.c (.lit (.bool false)))), zM 20 33]
def r54_6 : List yB := [zM 34 5, zM 2 34]
def r54_7 : List yB := [zF 36 (.fieldAddr 3 (.t 3)), zF 37 (.load false 1 (.t 36)), zM 35 37]
def r54_8 : List yB := [zM 38 5, zF 39 (.slice none 1 (.t 38) none (some (zN 1)) (some (zN 1))), zM 2 39]
def r54_9 : List yB := [zF 41 (.fieldAddr 4 (.t 3)), zF 42 (.load false 1 (.t 41)), zM 40 42]
def r54_10 : List yB := [zM 43 5, zF 44 (.slice none 1 (.t 43) (some (zN 1)) (some (zN 2)) (some (zN 2))), zM 2 44]
def r54_11 : List yB := [zF 2 (.mv (.c .nil))]
def ac54 : ACode := (.seq (.ops r54_0 []) (.seq (.ops r54_1 []) (.seq (.seq (.ops r54_2 []) (.cond (.t 14) (.seq (.ops r54_3 []) .ret) .skip)) (.seq (.ops r54_4 []) (.seq (.block 0 (.seq (.ops r54_5 []) (.cond (.t 20) (.seq (.ops r54_6 []) .ret) (.seq (.ops r54_7 []) (.cond (.t 35) (.seq (.ops r54_8 []) .ret) (.seq (.ops r54_9 []) (.cond (.t 40) (.seq (.ops r54_10 []) .ret) .skip))))))) (.seq (.ops r54_11 []) .ret))))))
def re54 : List AOp := [(.mv (.t 2))]
theorem cf54 : cFn Try.prog 54 = some (45, ac54, re54) := by kernel_rfl
def r56_0 : List yB := [zF 2 (.box (.t 0)), zF 4 (.mv (.c (.lit (.bool false))))]
def r56_1 : List yB := [zF 7 (.load true 5 (.t 2)), zF 8 (.call false (.c (.fn 89 [])) [(.t 7)]), zM 5 8]
def r56_2 : List yB := [zF 6 (.mv (zN 0))]
def r56_3 : List yB := [zM 9 6, zM 10 5, zF 11 (.len none (.t 10)), zF 12 (.bin .lss (.t 9) (.t 11))]
def r56_4 : List yB := [zM 15 5, zM 16 6, zF 17 (.idxAddr none 1 (.t 15) (.t 16)), zF 18 (.load false 1 (.t 17)), zM 19 1, zF 20 (.bin .eql (.t 18) (.t 19))]
def r56_5 : List yB := [zF 4 (.mv (.c (.lit (.bool true))))]
def r56_6 : List yB := [zM 13 6, zF 14 (.bin .add (.t 13) (zN 1)), zM 6 14]
def l56_0 : ACode := (.seq (.seq (.ops r56_3 []) (.cond (.t 12) .skip (.exit 0))) (.seq (.block 1 (.seq (.ops r56_4 []) (.cond (.t 20) (.seq (.ops r56_5 []) .ret) .skip))) (.ops r56_6 [])))
def r56_7 : List yB := [zF 4 (.mv (.c (.lit (.bool false))))]
def ac56 : ACode := (.seq (.ops r56_0 []) (.seq (.ops r56_1 []) (.seq (.seq (.ops r56_2 []) (.block 0 (.loop l56_0))) (.seq (.ops r56_7 []) .ret))))
def re56 : List AOp := [(.mv (.t 4))]
theorem cf56 : cFn Try.prog 56 = some (21, ac56, re56) := by kernel_rfl
def r57_0 : List yB := [zF 3 (.box (.t 1)), zF 4 (.alloc [(.lit (.int .i64 0)), (.lit (.int .i64 0)), (.lit (.int .i64 0)), (.lit (.int .i64 0))]), zF 5 (.mv (zN 0))]
def r57_1 : List yB := [zF 14 (.load true 13 (.t 3)), zF 15 (.call false (.c (.fn 42 [])) [(.t 14)]), zM 6 15]
def r57_2 : List yB := [zM 16 6, zF 17 (.bin .neq (.t 16) (zN 0))]
def r57_3 : List yB := [zF 18 (.load true 4 (.t 4)), zM 19 6, ⟨none, (.store 4 (.t 4) (.t 18)), none⟩, zM 5 19]
def r57_4 : List yB := [zM 20 0, zF 21 (.len none (.t 20)), zF 22 (.bin .gtr (.t 21) (zN 64))]
def r57_5 : List yB := [zF 23 (.load true 4 (.t 4)), ⟨none, (.store 4 (.t 4) (.t 23)), none⟩, zF 5 (.mv (zN 3))]
def r57_6 : List yB := [zM 24 0, zF 25 (.load true 13 (.t 3)), zF 26 (.call false (.c (.fn 64 [])) [(.t 24), (.t 25)]), zM 7 26]
def r57_7 : List yB := [zM 27 7, zF 28 (.bin .neq (.t 27) (zN 0))]
def r57_8 : List yB := [zF 29 (.load true 4 (.t 4)), zM 30 7, ⟨none, (.store 4 (.t 4) (.t 29)), none⟩, zM 5 30]
def r57_9 : List yB := [zF 31 (.idxAddr (some 4) 1 (.t 4) (zN 3)), ⟨none, (.store 1 (.t 31) (zN 1)), none⟩]
def r57_10 : List yB := [zM 32 0, zF 33 (.len none (.t 32)), zF 34 (.mv (zN 0))]
def r57_11 : List yB := [zF 35 (.bin .lss (.t 34) (.t 33))]
def r57_12 : List yB := [zF 36 (.idxAddr none 5 (.t 32) (.t 34)), zF 37 (.load true 5 (.t 36)), zF 9 (.alloc [(.lit (.int .i8 0)), (.lit (.int .u8 0)), (.lit (.int .u8 0)), (.lit (.int .u8 0)), (.lit (.int .i64 0))]), ⟨none, (.store 5 (.t 9) (.t 37)), none⟩]
def r57_13 : List yB := [zF 39 (.fieldAddr 0 (.t 9)), zF 40 (.load false 1 (.t 39)), zF 41 (.call false (.c (.fn 41 [])) [(.t 40)]), zM 38 41, zF 42 (.ext (.t 38) 0), zF 43 (.ext (.t 38) 1), zM 10 42, zM 11 43]
def r57_14 : List yB := [zM 44 10, zF 45 (.idxAddr (some 4) 1 (.t 4) (.t 44)), zF 46 (.load false 1 (.t 45)), zF 47 (.bin .add (.t 46) (zN 1)), zF 48 (.idxAddr (some 4) 1 (.t 4) (.t 44)), ⟨none, (.store 1 (.t 48) (.t 47)), none⟩]
def r57_15 : List yB := [zF 49 (.bin .add (.t 34) (zN 1)), zM 34 49]
def l57_0 : ACode := (.seq (.ops r57_11 []) (.seq (.cond (.t 35) .skip (.exit 0)) (.seq (.block 1 (.seq (.ops r57_12 []) (.seq (.ops r57_13 []) (.ops r57_14 [])))) (.ops r57_15 []))))
def r57_16 : List yB := [zF 50 (.load true 4 (.t 4)), zF 51 (.mv (zN 0))]
def r57_17 : List yB := [zF 52 (.bin .lss (.t 51) (zN 4))]
def r57_18 : List yB := [zM 53 51, zF 54 (.idx false 4 1 (.t 50) (.t 51)), zM 12 53, zM 13 54]
def r57_19 : List yB := [zM 55 13, zF 56 (.bin .gtr (.t 55) (zN 0)), zM 57 56, zH 58 12 57 true, zG 59 57 true (.fieldAddr 0 (.t 3)), zG 60 57 true (.idxAddr (some 4) 1 (.t 59) (.t 58)), zG 61 57 true (.load false 1 (.t 60)), zG 62 57 true (.bin .eql (.t 61) (zN 0)), zF 63 (.pick (.t 57) (.t 62) (.c (.lit (.bool false))))]
def r57_20 : List yB := [zF 64 (.load true 4 (.t 4)), ⟨none, (.store 4 (.t 4) (.t 64)), none⟩, zF 5 (.mv (zN 21))]
def r57_21 : List yB := [zF 65 (.bin .add (.t 51) (zN 1)), zM 51 65]
def l57_1 : ACode := (.seq (.ops r57_17 []) (.seq (.cond (.t 52) .skip (.exit 2)) (.seq (.block 3 (.seq (.ops r57_18 []) (.seq (.ops r57_19 []) (.cond (.t 63) (.seq (.ops r57_20 []) .ret) .skip)))) (.ops r57_21 []))))
def r57_22 : List yB := [zF 66 (.load true 4 (.t 4)), ⟨none, (.store 4 (.t 4) (.t 66)), none⟩, zF 5 (.mv (zN 0))]
def ac57 : ACode := (.seq (.ops r57_0 []) (.seq (.seq (.ops r57_1 []) (.seq (.ops r57_2 []) (.cond (.t 17) (.seq (.ops r57_3 []) .ret) .skip))) (.seq (.seq (.ops r57_4 []) (.cond (.t 22) (.seq (.ops r57_5 []) .ret) .skip)) (.seq (.seq (.ops r57_6 []) (.seq (.ops r57_7 []) (.cond (.t 28) (.seq (.ops r57_8 []) .ret) .skip))) (.seq (.ops r57_9 []) (.seq (.seq (.ops r57_10 []) (.block 0 (.loop l57_0))) (.seq (.seq (.ops r57_16 []) (.block 2 (.loop l57_1))) (.seq (.ops r57_22 []) .ret))))))))
def re57 : List AOp := [(.load true 4 (.t 4)), (.mv (.t 5))]
theorem cf57 : cFn Try.prog 57 = some (67, ac57, re57) := by kernel_rfl
def r59_0 : List yB := [zF 6 (.mv (zN 0))]
def r59_1 : List yB := [zM 8 0, zM 9 1, zF 10 (.bin .lss (.t 8) (.t 9))]
def r59_2 : List yB := [zM 11 0, zM 12 1, zM 13 0, zF 14 (.bin .sub (.t 12) (.t 13)), zF 15 (.bin .quo (.t 14) (zN 2)), zF 16 (.bin .add (.t 11) (.t 15)), zM 7 16]
def r59_3 : List yB := [zM 17 2, zM 18 7, zF 19 (.call false (.t 17) [(.t 18)])]
def r59_4 : List yB := [zM 20 7, zM 1 20]
def r59_5 : List yB := [zM 21 7, zF 22 (.bin .add (.t 21) (zN 1)), zM 0 22]
def l59_0 : ACode := (.seq (.seq (.ops r59_1 []) (.cond (.t 10) .skip (.exit 0))) (.block 1 (.seq (.ops r59_2 []) (.seq (.ops r59_3 []) (.cond (.t 19) (.ops r59_4 []) (.ops r59_5 []))))))
def r59_6 : List yB := [zM 23 0, zM 6 23]
def ac59 : ACode := (.seq (.ops r59_0 []) (.seq (.block 0 (.loop l59_0)) (.seq (.ops r59_6 []) .ret)))
def re59 : List AOp := [(.mv (.t 6))]
theorem cf59 : cFn Try.prog 59 = some (24, ac59, re59) := by kernel_rfl
def r60_0 : List yB := [zF 4 (.mv (.c (.lit (.bool false))))]
def r60_1 : List yB := [zF 5 (.load false 1 (.t 1)), zF 6 (.load false 1 (.t 2)), zF 7 (.len none (.t 6)), zM 8 0, zF 9 (.call false (.c (.fn 61 [])) [(.t 5), (.t 7), (.t 8)]), zM 4 9]
def ac60 : ACode := (.seq (.ops r60_0 []) (.seq (.ops r60_1 []) .ret))
def re60 : List AOp := [(.mv (.t 4))]
theorem cf60 : cFn Try.prog 60 = some (10, ac60, re60) := by kernel_rfl
def r61_0 : List yB := [zF 4 (.box (.t 1)), zF 6 (.mv (.c (.lit (.bool false))))]
def r61_1 : List yB := [zF 7 (.alloc (List.replicate 4096 (.lit (.int .i64 0))))]
def r61_2 : List yB := [zF 19 (.mkfn 91 [(.t 7), (.t 4)]), zM 8 19]
def r61_3 : List yB := [zF 20 (.load false 1 (.t 4)), zF 21 (.load false 1 (.t 4)), zF 22 (.bin .mul (.t 20) (.t 21)), zF 23 (.mv (zN 0))]
def r61_4 : List yB := [zF 24 (.bin .lss (.t 23) (.t 22))]
def r61_5 : List yB := [zM 25 23, zM 9 25]
def r61_6 : List yB := [zM 26 9, zF 27 (.idxAddr (some 4096) 1 (.t 7) (.t 26)), ⟨none, (.store 1 (.t 27) (zN (-1099511627776))), none⟩]
def r61_7 : List yB := [zF 28 (.bin .add (.t 23) (zN 1)), zM 23 28]
def l61_0 : ACode := (.seq (.ops r61_4 []) (.seq (.cond (.t 24) .skip (.exit 0)) (.seq (.block 1 (.seq (.ops r61_5 []) (.ops r61_6 []))) (.ops r61_7 []))))
def r61_8 : List yB := [zM 29 0, zF 30 (.len none (.t 29)), zF 31 (.mv (zN 0))]
def r61_9 : List yB := [zF 32 (.bin .lss (.t 31) (.t 30))]
def r61_10 : List yB := [zF 33 (.idxAddr none 5 (.t 29) (.t 31)), zF 34 (.load true 5 (.t 33)), zF 11 (.alloc [(.lit (.int .i64 0)), (.lit (.int .i64 0)), (.lit (.int .i64 0)), (.lit (.int .i64 0)), (.lit (.int .i8 0))]), ⟨none, (.store 5 (.t 11) (.t 34)), none⟩]
def r61_11 : List yB := [zM 35 8, zF 36 (.fieldAddr 0 (.t 11)), zF 37 (.load false 1 (.t 36)), zF 38 (.call false (.t 35) [(.t 37)]), zM 12 38]
def r61_12 : List yB := [zM 39 12, zF 40 (.fieldAddr 1 (.t 11)), zF 41 (.load false 1 (.t 40)), zM 42 12, zF 43 (.fieldAddr 1 (.t 11)), zF 44 (.load false 1 (.t 43)), zF 45 (.idxAddr none 1 (.t 42) (.t 44)), zF 46 (.load false 1 (.t 45)), zF 47 (.fieldAddr 2 (.t 11)), zF 48 (.load false 1 (.t 47)), zM 49 2, zF 50 (.fieldAddr 3 (.t 11)), zF 51 (.load false 1 (.t 50)), zF 52 (.bin .mul (.t 49) (.t 51)), zF 53 (.bin .sub (.t 48) (.t 52)), zF 54 (.maxs [(.t 46), (.t 53)]), zF 55 (.idxAddr none 1 (.t 39) (.t 41)), ⟨none, (.store 1 (.t 55) (.t 54)), none⟩]
def r61_13 : List yB := [zF 56 (.bin .add (.t 31) (zN 1)), zM 31 56]
def l61_1 : ACode := (.seq (.ops r61_9 []) (.seq (.cond (.t 32) .skip (.exit 2)) (.seq (.block 3 (.seq (.ops r61_10 []) (.seq (.ops r61_11 []) (.ops r61_12 [])))) (.ops r61_13 []))))
def r61_14 : List yB := [zF 57 (.load false 1 (.t 4)), zF 58 (.mv (zN 0))]
def r61_15 : List yB := [zF 59 (.bin .lss (.t 58) (.t 57))]
def r61_16 : List yB := [zM 60 58, zM 13 60]
def r61_17 : List yB := [zM 61 8, zM 62 13, zF 63 (.call false (.t 61) [(.t 62)]), zM 14 63]
def r61_18 : List yB := [zF 64 (.load false 1 (.t 4)), zF 65 (.mv (zN 0))]
def r61_19 : List yB := [zF 66 (.bin .lss (.t 65) (.t 64))]
def r61_20 : List yB := [zM 67 65, zM 15 67]
def r61_21 : List yB := [zM 68 8, zM 69 15, zF 70 (.call false (.t 68) [(.t 69)]), zM 16 70]
def r61_22 : List yB := [zM 71 16, zM 72 13, zF 73 (.idxAddr none 1 (.t 71) (.t 72)), zF 74 (.load false 1 (.t 73)), zF 75 (.bin .eql (.t 74) (zN (-1099511627776)))]
def r61_23 : List yB := [zM 76 14, zF 77 (.len none (.t 76)), zF 78 (.mv (zN 0))]
def r61_24 : List yB := [zF 79 (.bin .lss (.t 78) (.t 77))]
def r61_25 : List yB := [zM 80 78, zF 81 (.idxAddr none 1 (.t 76) (.t 78)), zF 82 (.load false 1 (.t 81)), zM 17 80, zM 18 82]
def r61_26 : List yB := [zM 83 18, zF 84 (.bin .neq (.t 83) (zN (-1099511627776))), zM 85 84, zH 86 16 85 true, zH 87 13 85 true, zG 88 85 true (.idxAddr none 1 (.t 86) (.t 87)), zG 89 85 true (.load false 1 (.t 88)), zH 90 18 85 true, zG 91 85 true (.bin .add (.t 89) (.t 90)), zH 92 16 85 true, zH 93 17 85 true, zG 94 85 true (.idxAddr none 1 (.t 92) (.t 93)), zG 95 85 true (.load false 1 (.t 94)), zG 96 85 true (.bin .gtr (.t 91) (.t 95)), zF 97 (.pick (.t 85) (.t 96) (.c (.lit (.bool false))))]
def r61_27 : List yB := [zM 98 16, zM 99 17, zM 100 16, zM 101 13, zF 102 (.idxAddr none 1 (.t 100) (.t 101)), zF 103 (.load false 1 (.t 102)), zM 104 18, zF 105 (.bin .add (.t 103) (.t 104)), zF 106 (.mins [(.t 105), (zN 1073741824)]), zF 107 (.idxAddr none 1 (.t 98) (.t 99)), ⟨none, (.store 1 (.t 107) (.t 106)), none⟩]
def r61_28 : List yB := [zF 108 (.bin .add (.t 78) (zN 1)), zM 78 108]
def l61_2 : ACode := (.seq (.ops r61_24 []) (.seq (.cond (.t 79) .skip (.exit 8)) (.seq (.block 9 (.seq (.ops r61_25 []) (.seq (.ops r61_26 []) (.cond (.t 97) (.ops r61_27 []) .skip)))) (.ops r61_28 []))))
def r61_29 : List yB := [zM 109 16, zM 110 15, zF 111 (.idxAddr none 1 (.t 109) (.t 110)), zF 112 (.load false 1 (.t 111)), zF 113 (.bin .gtr (.t 112) (zN 0))]
def r61_30 : List yB := [zF 6 (.mv (.c (.lit (.bool false))))]
def r61_31 : List yB := [zF 114 (.bin .add (.t 65) (zN 1)), zM 65 114]
def l61_3 : ACode := (.seq (.ops r61_19 []) (.seq (.cond (.t 66) .skip (.exit 6)) (.seq (.block 7 (.seq (.ops r61_20 []) (.seq (.ops r61_21 []) (.seq (.seq (.ops r61_22 []) (.cond (.t 75) (.exit 7) .skip)) (.seq (.seq (.ops r61_23 []) (.block 8 (.loop l61_2))) (.seq (.ops r61_29 []) (.cond (.t 113) (.seq (.ops r61_30 []) .ret) .skip))))))) (.ops r61_31 []))))
def r61_32 : List yB := [zF 115 (.bin .add (.t 58) (zN 1)), zM 58 115]
def l61_4 : ACode := (.seq (.ops r61_15 []) (.seq (.cond (.t 59) .skip (.exit 4)) (.seq (.block 5 (.seq (.ops r61_16 []) (.seq (.ops r61_17 []) (.seq (.ops r61_18 []) (.block 6 (.loop l61_3)))))) (.ops r61_32 []))))
def r61_33 : List yB := [zF 6 (.mv (.c (.lit (.bool true))))]
def ac61 : ACode := (.seq (.ops r61_0 []) (.seq (.ops r61_1 []) (.seq (.ops r61_2 []) (.seq (.seq (.ops r61_3 []) (.block 0 (.loop l61_0))) (.seq (.seq (.ops r61_8 []) (.block 2 (.loop l61_1))) (.seq (.seq (.ops r61_14 []) (.block 4 (.loop l61_4))) (.seq (.ops r61_33 []) .ret)))))))
def re61 : List AOp := [(.mv (.t 6))]
theorem cf61 : cFn Try.prog 61 = some (116, ac61, re61) := by kernel_rfl
def r64_0 : List yB := [zF 3 (.box (.t 1)), zF 4 (.mv (zN 0))]
def r64_1 : List yB := [zF 8 (.load true 13 (.t 3)), zF 9 (.call false (.c (.fn 42 [])) [(.t 8)]), zM 5 9]
def r64_2 : List yB := [zM 10 5, zF 11 (.bin .neq (.t 10) (zN 0))]
def r64_3 : List yB := [zM 12 5, zM 4 12]
def r64_4 : List yB := [zM 13 0, zF 14 (.len none (.t 13)), zF 15 (.bin .gtr (.t 14) (zN 1024))]
def r64_5 : List yB := [zF 4 (.mv (zN 3))]
def r64_6 : List yB := [zM 16 0, zF 17 (.len none (.t 16)), zF 18 (.mv (zN 0))]
def r64_7 : List yB := [zF 19 (.bin .lss (.t 18) (.t 17))]
def r64_8 : List yB := [zF 20 (.idxAddr none 5 (.t 16) (.t 18)), zF 21 (.load true 5 (.t 20)), zF 7 (.alloc [(.lit (.int .i8 0)), (.lit (.int .u8 0)), (.lit (.int .u8 0)), (.lit (.int .u8 0)), (.lit (.int .i64 0))]), ⟨none, (.store 5 (.t 7) (.t 21)), none⟩]
def r64_9 : List yB := [zF 22 (.fieldAddr 0 (.t 7)), zF 23 (.load false 1 (.t 22)), zF 24 (.bin .lss (.t 23) (.c (.lit (.int .i8 1)))), zM 25 24, zG 26 25 false (.fieldAddr 0 (.t 7)), zG 27 25 false (.load false 1 (.t 26)), zG 28 25 false (.bin .gtr (.t 27) (.c (.lit (.int .i8 17)))), zF 29 (.pick (.t 25) (.c (.lit (.bool true))) (.t 28)), zM 30 29, zG 31 30 false (.load true 5 (.t 7)), zG 32 30 false (.call false (.c (.fn 87 [])) [(.t 31)]), zG 33 30 false (.bin .neq (.t 32) (zN 0)), zF 34 (.pick (.t 30) (.c (.lit (.bool true))) (.t 33))]
def r64_10 : List yB := [zF 4 (.mv (zN 30))]
def r64_11 : List yB := [zF 35 (.bin .add (.t 18) (zN 1)), zM 18 35]
def l64_0 : ACode := (.seq (.ops r64_7 []) (.seq (.cond (.t 19) .skip (.exit 0)) (.seq (.block 1 (.seq (.ops r64_8 []) (.seq (.ops r64_9 []) (.cond (.t 34) (.seq (.ops r64_10 []) .ret) .skip)))) (.ops r64_11 []))))
def r64_12 : List yB := [zF 4 (.mv (zN 0))]
def ac64 : ACode := (.seq (.ops r64_0 []) (.seq (.seq (.ops r64_1 []) (.seq (.ops r64_2 []) (.cond (.t 11) (.seq (.ops r64_3 []) .ret) .skip))) (.seq (.seq (.ops r64_4 []) (.cond (.t 15) (.seq (.ops r64_5 []) .ret) .skip)) (.seq (.seq (.ops r64_6 []) (.block 0 (.loop l64_0))) (.seq (.ops r64_12 []) .ret)))))
def re64 : List AOp := [(.mv (.t 4))]
theorem cf64 : cFn Try.prog 64 = some (36, ac64, re64) := by kernel_rfl
def r65_0 : List yB := [zF 3 (.box (.t 1)), zF 4 (.mv (.c (.lit (.pointer none))))]
def r65_1 : List yB := [zM 9 0, zF 10 (.load true 13 (.t 3)), zF 11 (.build [.nil, (.lit (.int .i64 0)), (.lit (.int .i64 0)), (.lit (.int .i64 0)), (.lit (.int .i64 0)), (.lit (.int .i64 0)), (.lit (.int .i64 0)), (.lit (.int .i64 0)), (.lit (.int .i64 0)), (.lit (.int .i64 0)), (.lit (.int .i64 0)), (.lit (.int .i64 0)), (.lit (.int .i64 0)), (.lit (.int .i64 0)), .nil, .nil, .nil] [(0, (1, (.t 9))), (1, (13, (.t 10)))]), zF 12 (.box (.t 11)), zM 5 12]
def r65_2 : List yB := [zM 13 0, zF 14 (.len none (.t 13)), zF 15 (.mv (zN 0))]
def r65_3 : List yB := [zF 16 (.bin .lss (.t 15) (.t 14))]
def r65_4 : List yB := [zM 17 15, zM 6 17]
def r65_5 : List yB := [zM 18 5, zM 19 5, zF 20 (.nilchk (.t 19)), zF 21 (.fieldAddr 14 (.t 20)), zF 22 (.load false 1 (.t 21)), zM 23 0, zM 24 6, zF 25 (.idxAddr none 5 (.t 23) (.t 24)), zF 26 (.load true 5 (.t 25)), zF 27 (.call true (.c (.fn 54 [])) [(.t 26)]), zF 28 (.buildSl 1 1 [.nil] [(0, (1, (.t 27)))]), zF 29 (.append 1 24 (.t 22) (.t 28)), zF 30 (.nilchk (.t 18)), zF 31 (.fieldAddr 14 (.t 30)), ⟨none, (.store 1 (.t 31) (.t 29)), none⟩]
def r65_6 : List yB := [zM 33 0, zM 34 6, zF 35 (.idxAddr none 5 (.t 33) (.t 34)), zF 36 (.load true 5 (.t 35)), zF 37 (.call false (.c (.fn 52 [])) [(.t 36)]), zM 32 37, zF 38 (.ext (.t 32) 0), zF 39 (.ext (.t 32) 1), zM 7 38, zM 8 39]
def r65_7 : List yB := [zM 40 5, zM 41 5, zF 42 (.nilchk (.t 41)), zF 43 (.fieldAddr 15 (.t 42)), zF 44 (.load false 1 (.t 43)), zF 45 (.buildSl 1 1 [(.lit (.int .i64 0))] [(0, (1, (zN (-1))))]), zF 46 (.append 1 8 (.t 44) (.t 45)), zF 47 (.nilchk (.t 40)), zF 48 (.fieldAddr 15 (.t 47)), ⟨none, (.store 1 (.t 48) (.t 46)), none⟩]
def r65_8 : List yB := [zM 49 8]
def r65_9 : List yB := [zM 50 5, zF 51 (.nilchk (.t 50)), zF 52 (.fieldAddr 15 (.t 51)), zF 53 (.load false 1 (.t 52)), zM 54 6, zM 55 7, zF 56 (.conv .i64 (.t 55)), zF 57 (.idxAddr none 1 (.t 53) (.t 54)), ⟨none, (.store 1 (.t 57) (.t 56)), none⟩]
def r65_10 : List yB := [zF 58 (.bin .add (.t 15) (zN 1)), zM 15 58]
def l65_0 : ACode := (.seq (.ops r65_3 []) (.seq (.cond (.t 16) .skip (.exit 0)) (.seq (.block 1 (.seq (.ops r65_4 []) (.seq (.ops r65_5 [(21, 28)]) (.seq (.ops r65_6 []) (.seq (.ops r65_7 []) (.seq (.ops r65_8 []) (.cond (.t 49) (.ops r65_9 []) .skip))))))) (.ops r65_10 []))))
def r65_11 : List yB := [zM 59 5, zM 4 59]
def ac65 : ACode := (.seq (.ops r65_0 []) (.seq (.ops r65_1 []) (.seq (.seq (.ops r65_2 []) (.block 0 (.loop l65_0))) (.seq (.ops r65_11 []) .ret))))
def re65 : List AOp := [(.mv (.t 4))]
theorem cf65 : cFn Try.prog 65 = some (60, ac65, re65) := by kernel_rfl
def r66_0 : List yB := [zF 2 (.alloc (List.replicate 32 (.lit (.int .i64 0))))]
def r66_1 : List yB := [zM 5 0, zF 6 (.nilchk (.t 5)), zF 7 (.fieldAddr 0 (.t 6)), zF 8 (.load false 1 (.t 7)), zF 9 (.len none (.t 8)), zF 10 (.mv (zN 0))]
def r66_2 : List yB := [zF 11 (.bin .lss (.t 10) (.t 9))]
def r66_3 : List yB := [zM 12 10, zM 3 12]
def r66_4 : List yB := [zM 13 3, zF 14 (.mv (zN 0))]
def r66_5 : List yB := [zF 15 (.bin .lss (.t 14) (.t 13))]
def r66_6 : List yB := [zM 16 14, zM 4 16]
def r66_7 : List yB := [zM 17 0, zM 18 4, zM 19 3, zF 20 (.call false (.c (.fn 96 [])) [(.t 17), (.t 18), (.t 19), (.t 2)])]
def r66_8 : List yB := [zM 21 0, zM 22 4, zM 23 3, zM 24 0, zM 25 4, zF 26 (.call false (.c (.fn 98 [])) [(.t 24), (.t 25)]), zF 27 (.build [(.lit (.int .i64 0)), (.lit (.int .i64 0)), (.lit (.int .i64 0)), (.lit (.int .i64 0)), (.lit (.int .i8 0))] [(2, (1, (.t 26))), (4, (1, (.c (.lit (.int .i8 0)))))]), zF 28 (.buildSl 5 1 [(.lit (.int .i64 0)), (.lit (.int .i64 0)), (.lit (.int .i64 0)), (.lit (.int .i64 0)), (.lit (.int .i8 0))] [(0, (5, (.t 27)))]), zF 29 (.call false (.c (.fn 97 [])) [(.t 21), (.t 22), (.t 23), (zN 0), (.t 28)])]
def r66_9 : List yB := [zM 30 0, zM 31 4, zM 32 3, zM 33 0, zF 34 (.nilchk (.t 33)), zF 35 (.fieldAddr 0 (.t 34)), zF 36 (.load false 1 (.t 35)), zM 37 4, zM 38 3, zF 39 (.call false (.c (.fn 100 [])) [(.t 36), (.t 37), (.t 38)]), zF 40 (.call false (.c (.fn 99 [])) [(.t 30), (.t 31), (.t 32), (zN 0), (.t 39)])]
def r66_10 : List yB := [zF 41 (.bin .add (.t 14) (zN 1)), zM 14 41]
def l66_0 : ACode := (.seq (.ops r66_5 []) (.seq (.cond (.t 15) .skip (.exit 2)) (.seq (.block 3 (.seq (.ops r66_6 []) (.seq (.seq (.ops r66_7 []) (.cond (.t 20) (.ops r66_8 []) .skip)) (.ops r66_9 [])))) (.ops r66_10 []))))
def r66_11 : List yB := [zM 42 0, zF 43 (.nilchk (.t 42)), zF 44 (.fieldAddr 15 (.t 43)), zF 45 (.load false 1 (.t 44)), zM 46 3, zF 47 (.idxAddr none 1 (.t 45) (.t 46)), zF 48 (.load false 1 (.t 47)), zF 49 (.bin .geq (.t 48) (zN 0))]
def r66_12 : List yB := [zM 50 0, zF 51 (.nilchk (.t 50)), zF 52 (.fieldAddr 15 (.t 51)), zF 53 (.load false 1 (.t 52)), zM 54 3, zF 55 (.idxAddr none 1 (.t 53) (.t 54)), zF 56 (.load false 1 (.t 55)), zM 57 3, zF 58 (.bin .add (.t 57) (zN 1)), zF 59 (.idxAddr (some 32) 1 (.t 2) (.t 56)), ⟨none, (.store 1 (.t 59) (.t 58)), none⟩]
def r66_13 : List yB := [zF 60 (.bin .add (.t 10) (zN 1)), zM 10 60]
def l66_1 : ACode := (.seq (.ops r66_2 []) (.seq (.cond (.t 11) .skip (.exit 0)) (.seq (.block 1 (.seq (.ops r66_3 []) (.seq (.seq (.ops r66_4 []) (.block 2 (.loop l66_0))) (.seq (.ops r66_11 []) (.cond (.t 49) (.ops r66_12 []) .skip))))) (.ops r66_13 []))))
def ac66 : ACode := (.seq (.ops r66_0 []) (.seq (.ops r66_1 []) (.block 0 (.loop l66_1))))
def re66 : List AOp := []
theorem cf66 : cFn Try.prog 66 = some (61, ac66, re66) := by kernel_rfl
def r67_0 : List yB := [zF 2 (.alloc (List.replicate 32 (.lit (.int .i64 0))))]
def r67_1 : List yB := [zM 7 0, zF 8 (.nilchk (.t 7)), zF 9 (.fieldAddr 0 (.t 8)), zF 10 (.load false 1 (.t 9)), zF 11 (.len none (.t 10)), zF 12 (.mv (zN 0))]
def r67_2 : List yB := [zF 13 (.bin .lss (.t 12) (.t 11))]
def r67_3 : List yB := [zM 14 12, zM 3 14]
def r67_4 : List yB := [zM 15 0, zF 16 (.nilchk (.t 15)), zF 17 (.fieldAddr 15 (.t 16)), zF 18 (.load false 1 (.t 17)), zM 19 3, zF 20 (.idxAddr none 1 (.t 18) (.t 19)), zF 21 (.load false 1 (.t 20)), zF 22 (.bin .geq (.t 21) (zN 0))]
def r67_5 : List yB := [zM 23 0, zF 24 (.nilchk (.t 23)), zF 25 (.fieldAddr 15 (.t 24)), zF 26 (.load false 1 (.t 25)), zM 27 3, zF 28 (.idxAddr none 1 (.t 26) (.t 27)), zF 29 (.load false 1 (.t 28)), zM 30 3, zF 31 (.bin .add (.t 30) (zN 1)), zF 32 (.idxAddr (some 32) 1 (.t 2) (.t 29)), ⟨none, (.store 1 (.t 32) (.t 31)), none⟩]
def r67_6 : List yB := [zF 33 (.bin .add (.t 12) (zN 1)), zM 12 33]
def l67_0 : ACode := (.seq (.ops r67_2 []) (.seq (.cond (.t 13) .skip (.exit 0)) (.seq (.block 1 (.seq (.ops r67_3 []) (.seq (.ops r67_4 []) (.cond (.t 22) (.ops r67_5 []) .skip)))) (.ops r67_6 []))))
def r67_7 : List yB := [zF 34 (.load true 32 (.t 2)), zF 4 (.alloc (List.replicate 32 (.lit (.int .i64 0)))), ⟨none, (.store 32 (.t 4) (.t 34)), none⟩]
def r67_8 : List yB := [zM 35 0, zF 36 (.nilchk (.t 35)), zF 37 (.fieldAddr 0 (.t 36)), zF 38 (.load false 1 (.t 37)), zF 39 (.len none (.t 38)), zF 40 (.mv (zN 0))]
def r67_9 : List yB := [zF 41 (.bin .lss (.t 40) (.t 39))]
def r67_10 : List yB := [zM 42 40, zM 5 42]
def r67_11 : List yB := [zM 43 0, zF 44 (.nilchk (.t 43)), zF 45 (.fieldAddr 0 (.t 44)), zF 46 (.load false 1 (.t 45)), zF 47 (.len none (.t 46)), zF 48 (.mv (zN 0))]
def r67_12 : List yB := [zF 49 (.bin .lss (.t 48) (.t 47))]
def r67_13 : List yB := [zM 50 48, zM 6 50]
def r67_14 : List yB := [zM 51 0, zM 52 6, zM 53 5, zF 54 (.call false (.c (.fn 96 [])) [(.t 51), (.t 52), (.t 53), (.t 4)])]
def r67_15 : List yB := [zM 55 0, zM 56 6, zM 57 5, zM 58 0, zM 59 6, zF 60 (.call false (.c (.fn 98 [])) [(.t 58), (.t 59)]), zF 61 (.build [(.lit (.int .i64 0)), (.lit (.int .i64 0)), (.lit (.int .i64 0)), (.lit (.int .i64 0)), (.lit (.int .i8 0))] [(2, (1, (.t 60))), (4, (1, (.c (.lit (.int .i8 0)))))]), zF 62 (.buildSl 5 1 [(.lit (.int .i64 0)), (.lit (.int .i64 0)), (.lit (.int .i64 0)), (.lit (.int .i64 0)), (.lit (.int .i8 0))] [(0, (5, (.t 61)))]), zF 63 (.call false (.c (.fn 97 [])) [(.t 55), (.t 56), (.t 57), (zN 1), (.t 62)])]
def r67_16 : List yB := [zM 64 0, zM 65 6, zM 66 5, zM 67 0, zF 68 (.nilchk (.t 67)), zF 69 (.fieldAddr 0 (.t 68)), zF 70 (.load false 1 (.t 69)), zM 71 6, zM 72 5, zF 73 (.call false (.c (.fn 101 [])) [(.t 70), (.t 71), (.t 72)]), zF 74 (.call false (.c (.fn 99 [])) [(.t 64), (.t 65), (.t 66), (zN 1), (.t 73)])]
def r67_17 : List yB := [zF 75 (.bin .add (.t 48) (zN 1)), zM 48 75]
def l67_1 : ACode := (.seq (.ops r67_12 []) (.seq (.cond (.t 49) .skip (.exit 4)) (.seq (.block 5 (.seq (.ops r67_13 []) (.seq (.seq (.ops r67_14 []) (.cond (.t 54) (.ops r67_15 []) .skip)) (.ops r67_16 [])))) (.ops r67_17 []))))
def r67_18 : List yB := [zM 76 0, zF 77 (.nilchk (.t 76)), zF 78 (.fieldAddr 15 (.t 77)), zF 79 (.load false 1 (.t 78)), zM 80 5, zF 81 (.idxAddr none 1 (.t 79) (.t 80)), zF 82 (.load false 1 (.t 81)), zF 83 (.bin .geq (.t 82) (zN 0))]
def r67_19 : List yB := [zM 84 0, zF 85 (.nilchk (.t 84)), zF 86 (.fieldAddr 15 (.t 85)), zF 87 (.load false 1 (.t 86)), zM 88 5, zF 89 (.idxAddr none 1 (.t 87) (.t 88)), zF 90 (.load false 1 (.t 89)), zF 91 (.idxAddr (some 32) 1 (.t 4) (.t 90)), ⟨none, (.store 1 (.t 91) (zN 0)), none⟩]
def r67_20 : List yB := [zF 92 (.bin .add (.t 40) (zN 1)), zM 40 92]
def l67_2 : ACode := (.seq (.ops r67_9 []) (.seq (.cond (.t 41) .skip (.exit 2)) (.seq (.block 3 (.seq (.ops r67_10 []) (.seq (.seq (.ops r67_11 []) (.block 4 (.loop l67_1))) (.seq (.ops r67_18 []) (.cond (.t 83) (.ops r67_19 []) .skip))))) (.ops r67_20 []))))
def ac67 : ACode := (.seq (.ops r67_0 []) (.seq (.seq (.ops r67_1 []) (.block 0 (.loop l67_0))) (.seq (.ops r67_7 []) (.seq (.ops r67_8 []) (.block 2 (.loop l67_2))))))
def re67 : List AOp := []
theorem cf67 : cFn Try.prog 67 = some (93, ac67, re67) := by kernel_rfl
def r68_0 : List yB := [zF 5 (.box (.t 1)), zF 8 (.alloc [(.lit (.int .i64 0)), (.lit (.int .i64 0)), (.lit (.int .i64 0))])]
def r68_1 : List yB := [zM 16 0, zF 17 (.len none (.t 16)), zF 18 (.mv (zN 0))]
def r68_2 : List yB := [zF 19 (.bin .lss (.t 18) (.t 17))]
def r68_3 : List yB := [zM 20 18, zF 21 (.idxAddr none 5 (.t 16) (.t 18)), zF 22 (.load true 5 (.t 21)), zF 10 (.alloc [(.lit (.int .i8 0)), (.lit (.int .u8 0)), (.lit (.int .u8 0)), (.lit (.int .u8 0)), (.lit (.int .i64 0))]), zM 9 20, ⟨none, (.store 5 (.t 10) (.t 22)), none⟩]
def r68_4 : List yB := [zF 24 (.fieldAddr 0 (.t 10)), zF 25 (.load false 1 (.t 24)), zF 26 (.call false (.c (.fn 41 [])) [(.t 25)]), zM 23 26, zF 27 (.ext (.t 23) 0), zF 28 (.ext (.t 23) 1), zM 11 27, zM 12 28]
def r68_5 : List yB := [zM 29 2, zM 30 9, zF 31 (.idxAddr none 1 (.t 29) (.t 30)), zF 32 (.load false 1 (.t 31)), zM 33 11, zF 34 (.fieldAddr 4 (.t 5)), zF 35 (.idxAddr (some 4) 1 (.t 34) (.t 33)), zF 36 (.load false 1 (.t 35)), zF 37 (.bin .add (.t 32) (.t 36)), zM 13 37]
def r68_6 : List yB := [zF 38 (.fieldAddr 0 (.t 8)), zF 39 (.load false 1 (.t 38)), zM 40 13, zM 41 2, zM 42 9, zF 43 (.idxAddr none 1 (.t 41) (.t 42)), zF 44 (.load false 1 (.t 43)), zM 45 11, zF 46 (.fieldAddr 8 (.t 5)), zF 47 (.idxAddr (some 4) 1 (.t 46) (.t 45)), zF 48 (.load false 1 (.t 47)), zF 49 (.bin .add (.t 44) (.t 48)), zF 50 (.maxs [(.t 39), (.t 40), (.t 49)]), zF 51 (.fieldAddr 0 (.t 8)), ⟨none, (.store 1 (.t 51) (.t 50)), none⟩]
def r68_7 : List yB := [zF 52 (.fieldAddr 1 (.t 8)), zF 53 (.load false 1 (.t 52)), zM 54 13, zF 55 (.maxs [(.t 53), (.t 54)]), zF 56 (.fieldAddr 1 (.t 8)), ⟨none, (.store 1 (.t 56) (.t 55)), none⟩]
def r68_8 : List yB := [zF 58 (.load true 5 (.t 10)), zF 59 (.call false (.c (.fn 52 [])) [(.t 58)]), zM 57 59, zF 60 (.ext (.t 57) 0), zF 61 (.ext (.t 57) 1), zM 14 60, zM 15 61]
def r68_9 : List yB := [zM 62 15, zM 63 62, zH 64 14 63 true, zH 65 3 63 true, zG 66 63 true (.bin .eql (.t 64) (.t 65)), zF 67 (.pick (.t 63) (.t 66) (.c (.lit (.bool false))))]
def r68_10 : List yB := [zM 68 13, zF 69 (.fieldAddr 2 (.t 8)), ⟨none, (.store 1 (.t 69) (.t 68)), none⟩]
def r68_11 : List yB := [zF 70 (.bin .add (.t 18) (zN 1)), zM 18 70]
def l68_0 : ACode := (.seq (.ops r68_2 []) (.seq (.cond (.t 19) .skip (.exit 0)) (.seq (.block 1 (.seq (.ops r68_3 []) (.seq (.ops r68_4 []) (.seq (.ops r68_5 []) (.seq (.ops r68_6 []) (.seq (.ops r68_7 []) (.seq (.ops r68_8 []) (.seq (.ops r68_9 []) (.cond (.t 67) (.ops r68_10 []) .skip))))))))) (.ops r68_11 []))))
def r68_12 : List yB := [zF 71 (.load true 3 (.t 8)), ⟨none, (.store 3 (.t 8) (.t 71)), none⟩]
def ac68 : ACode := (.seq (.ops r68_0 []) (.seq (.seq (.ops r68_1 []) (.block 0 (.loop l68_0))) (.seq (.ops r68_12 []) .ret)))
def re68 : List AOp := [(.load true 3 (.t 8))]
theorem cf68 : cFn Try.prog 68 = some (72, ac68, re68) := by kernel_rfl
def r69_0 : List yB := [zF 1 (.box (.t 0)), zF 2 (.mv (zN 0))]
def r69_1 : List yB := [zF 3 (.mv (zN 0))]
def r69_2 : List yB := [zM 4 3, zF 5 (.bin .lss (.t 4) (zN 4))]
def r69_3 : List yB := [zM 8 3, zF 9 (.fieldAddr 0 (.t 1)), zF 10 (.idxAddr (some 4) 1 (.t 9) (.t 8)), zF 11 (.load false 1 (.t 10)), zF 12 (.bin .lss (.t 11) (zN 0)), zM 13 12, zH 14 3 13 false, zG 15 13 false (.fieldAddr 0 (.t 1)), zG 16 13 false (.idxAddr (some 4) 1 (.t 15) (.t 14)), zG 17 13 false (.load false 1 (.t 16)), zG 18 13 false (.bin .gtr (.t 17) (zN 8)), zF 19 (.pick (.t 13) (.c (.lit (.bool true))) (.t 18)), zM 20 19, zH 21 3 20 false, zG 22 20 false (.fieldAddr 4 (.t 1)), zG 23 20 false (.idxAddr (some 4) 1 (.t 22) (.t 21)), zG 24 20 false (.load false 1 (.t 23)), zG 25 20 false (.bin .lss (.t 24) (zN 1)), zF 26 (.pick (.t 20) (.c (.lit (.bool true))) (.t 25)), zM 27 26, zH 28 3 27 false, zG 29 27 false (.fieldAddr 4 (.t 1)), zG 30 27 false (.idxAddr (some 4) 1 (.t 29) (.t 28)), zG 31 27 false (.load false 1 (.t 30)), zG 32 27 false (.bin .gtr (.t 31) (zN 8)), zF 33 (.pick (.t 27) (.c (.lit (.bool true))) (.t 32)), zM 34 33, zH 35 3 34 false, zG 36 34 false (.fieldAddr 8 (.t 1)), zG 37 34 false (.idxAddr (some 4) 1 (.t 36) (.t 35)), zG 38 34 false (.load false 1 (.t 37)), zG 39 34 false (.bin .lss (.t 38) (zN 1)), zF 40 (.pick (.t 34) (.c (.lit (.bool true))) (.t 39)), zM 41 40, zH 42 3 41 false, zG 43 41 false (.fieldAddr 8 (.t 1)), zG 44 41 false (.idxAddr (some 4) 1 (.t 43) (.t 42)), zG 45 41 false (.load false 1 (.t 44)), zG 46 41 false (.bin .gtr (.t 45) (zN 4)), zF 47 (.pick (.t 41) (.c (.lit (.bool true))) (.t 46))]
def r69_4 : List yB := [zF 2 (.mv (zN 20))]
def r69_5 : List yB := [zM 6 3, zF 7 (.bin .add (.t 6) (zN 1)), zM 3 7]
def l69_0 : ACode := (.seq (.seq (.ops r69_2 []) (.cond (.t 5) .skip (.exit 0))) (.seq (.block 1 (.seq (.ops r69_3 []) (.cond (.t 47) (.seq (.ops r69_4 []) .ret) .skip))) (.ops r69_5 [])))
def r69_6 : List yB := [zF 48 (.fieldAddr 12 (.t 1)), zF 49 (.load false 1 (.t 48)), zF 50 (.bin .lss (.t 49) (zN 0)), zM 51 50, zG 52 51 false (.fieldAddr 12 (.t 1)), zG 53 51 false (.load false 1 (.t 52)), zG 54 51 false (.bin .gtr (.t 53) (zN 4)), zF 55 (.pick (.t 51) (.c (.lit (.bool true))) (.t 54))]
def r69_7 : List yB := [zF 2 (.mv (zN 20))]
def r69_8 : List yB := [zF 2 (.mv (zN 0))]
def ac69 : ACode := (.seq (.ops r69_0 []) (.seq (.seq (.ops r69_1 []) (.block 0 (.loop l69_0))) (.seq (.seq (.ops r69_6 []) (.cond (.t 55) (.seq (.ops r69_7 []) .ret) .skip)) (.seq (.ops r69_8 []) .ret))))
def re69 : List AOp := [(.mv (.t 2))]
theorem cf69 : cFn Try.prog 69 = some (56, ac69, re69) := by kernel_rfl
def r70_0 : List yB := [zF 1 (.box (.t 0)), zF 2 (.mv (zN 0))]
def r70_1 : List yB := [zF 3 (.fieldAddr 8 (.t 1)), zF 4 (.idxAddr (some 4) 1 (.t 3) (zN 3)), zF 5 (.load false 1 (.t 4)), zF 6 (.bin .sub (.t 5) (zN 1)), zF 7 (.fieldAddr 12 (.t 1)), zF 8 (.load false 1 (.t 7)), zF 9 (.bin .sub (.t 6) (.t 8)), zF 10 (.maxs [(zN 0), (.t 9)]), zM 2 10]
def ac70 : ACode := (.seq (.ops r70_0 []) (.seq (.ops r70_1 []) .ret))
def re70 : List AOp := [(.mv (.t 2))]
theorem cf70 : cFn Try.prog 70 = some (11, ac70, re70) := by kernel_rfl
def r71_0 : List yB := [zF 5 (.box (.t 1)), zF 8 (.mv (zN 0)), zF 9 (.mv (zN 0)), zF 10 (.mv (zN 0))]
def r71_1 : List yB := [zF 11 (.mv (zN 0))]
def r71_2 : List yB := [zM 16 11, zM 17 0, zF 18 (.len none (.t 17)), zF 19 (.bin .lss (.t 16) (.t 18))]
def r71_3 : List yB := [zM 23 0, zM 24 11, zF 25 (.idxAddr none 5 (.t 23) (.t 24)), zF 26 (.fieldAddr 0 (.t 25)), zF 27 (.load false 1 (.t 26)), zF 28 (.call false (.c (.fn 51 [])) [(.t 27)]), zM 22 28, zF 29 (.ext (.t 22) 0), zF 30 (.ext (.t 22) 1), zM 12 29, zM 13 30]
def r71_4 : List yB := [zM 31 8, zM 32 2, zM 33 11, zF 34 (.idxAddr none 1 (.t 32) (.t 33)), zF 35 (.load false 1 (.t 34)), zM 36 12, zF 37 (.fieldAddr 4 (.t 5)), zF 38 (.idxAddr (some 4) 1 (.t 37) (.t 36)), zF 39 (.load false 1 (.t 38)), zM 40 12, zF 41 (.fieldAddr 8 (.t 5)), zF 42 (.idxAddr (some 4) 1 (.t 41) (.t 40)), zF 43 (.load false 1 (.t 42)), zF 44 (.maxs [(.t 39), (.t 43)]), zF 45 (.bin .add (.t 35) (.t 44)), zF 46 (.maxs [(.t 31), (.t 45)]), zM 8 46]
def r71_5 : List yB := [zM 47 9, zM 48 2, zM 49 11, zF 50 (.idxAddr none 1 (.t 48) (.t 49)), zF 51 (.load false 1 (.t 50)), zM 52 12, zF 53 (.fieldAddr 4 (.t 5)), zF 54 (.idxAddr (some 4) 1 (.t 53) (.t 52)), zF 55 (.load false 1 (.t 54)), zF 56 (.bin .add (.t 51) (.t 55)), zF 57 (.maxs [(.t 47), (.t 56)]), zM 9 57]
def r71_6 : List yB := [zM 59 0, zM 60 11, zF 61 (.idxAddr none 5 (.t 59) (.t 60)), zF 62 (.load true 5 (.t 61)), zF 63 (.call false (.c (.fn 88 [])) [(.t 62)]), zM 58 63, zF 64 (.ext (.t 58) 0), zF 65 (.ext (.t 58) 1), zM 14 64, zM 15 65]
def r71_7 : List yB := [zM 66 15, zM 67 66, zH 68 14 67 true, zH 69 3 67 true, zG 70 67 true (.bin .eql (.t 68) (.t 69)), zF 71 (.pick (.t 67) (.t 70) (.c (.lit (.bool false))))]
def r71_8 : List yB := [zM 72 2, zM 73 11, zF 74 (.idxAddr none 1 (.t 72) (.t 73)), zF 75 (.load false 1 (.t 74)), zM 76 12, zF 77 (.fieldAddr 4 (.t 5)), zF 78 (.idxAddr (some 4) 1 (.t 77) (.t 76)), zF 79 (.load false 1 (.t 78)), zF 80 (.bin .add (.t 75) (.t 79)), zM 10 80]
def r71_9 : List yB := [zM 20 11, zF 21 (.bin .add (.t 20) (zN 1)), zM 11 21]
def l71_0 : ACode := (.seq (.seq (.ops r71_2 []) (.cond (.t 19) .skip (.exit 0))) (.seq (.block 1 (.seq (.ops r71_3 []) (.seq (.ops r71_4 []) (.seq (.ops r71_5 []) (.seq (.ops r71_6 []) (.seq (.ops r71_7 []) (.cond (.t 71) (.ops r71_8 []) .skip))))))) (.ops r71_9 [])))
def r71_10 : List yB := [zM 81 8, zM 82 9, zM 83 10, zM 8 81, zM 9 82, zM 10 83]
def ac71 : ACode := (.seq (.ops r71_0 []) (.seq (.seq (.ops r71_1 []) (.block 0 (.loop l71_0))) (.seq (.ops r71_10 []) .ret)))
def re71 : List AOp := [(.mv (.t 8)), (.mv (.t 9)), (.mv (.t 10))]
theorem cf71 : cFn Try.prog 71 = some (84, ac71, re71) := by kernel_rfl
def r72_0 : List yB := [zF 3 (.box (.t 1)), zF 4 (.mv (.c .nil)), zF 5 (.mv (zN 0))]
def r72_1 : List yB := [zM 10 0, zF 11 (.load true 13 (.t 3)), zF 12 (.call false (.c (.fn 90 [])) [(.t 10), (.t 11)]), zM 6 12]
def r72_2 : List yB := [zM 13 6, zF 14 (.bin .neq (.t 13) (zN 0))]
def r72_3 : List yB := [zM 15 6, zF 4 (.mv (.c .nil)), zM 5 15]
def r72_4 : List yB := [zF 7 (.mv (.c .nil))]
def r72_5 : List yB := [zF 8 (.mv (zN 0))]
def r72_6 : List yB := [zM 16 8, zM 17 0, zF 18 (.len none (.t 17)), zF 19 (.bin .lss (.t 16) (.t 18))]
def r72_7 : List yB := [zF 9 (.mv (zN 0))]
def r72_8 : List yB := [zM 22 9, zM 23 8, zF 24 (.bin .lss (.t 22) (.t 23))]
def r72_9 : List yB := [zM 27 0, zM 28 9, zM 29 8, zF 30 (.call false (.c (.fn 92 [])) [(.t 27), (.t 28), (.t 29), (.c (.lit (.bool false)))])]
def r72_10 : List yB := [zM 31 7, zM 32 9, zM 33 8, zM 34 0, zM 35 9, zF 36 (.idxAddr none 5 (.t 34) (.t 35)), zF 37 (.load true 5 (.t 36)), zF 38 (.load true 13 (.t 3)), zF 39 (.call true (.c (.fn 93 [])) [(.t 37), (.t 38)]), zF 40 (.build [(.lit (.int .i64 0)), (.lit (.int .i64 0)), (.lit (.int .i64 0)), (.lit (.int .i64 0)), (.lit (.int .i8 0))] [(0, (1, (.t 32))), (1, (1, (.t 33))), (2, (1, (.t 39))), (4, (1, (.c (.lit (.int .i8 0)))))]), zF 41 (.buildSl 5 1 [(.lit (.int .i64 0)), (.lit (.int .i64 0)), (.lit (.int .i64 0)), (.lit (.int .i64 0)), (.lit (.int .i8 0))] [(0, (5, (.t 40)))]), zF 42 (.append 5 40 (.t 31) (.t 41)), zM 7 42]
def r72_11 : List yB := [zM 43 7, zM 44 0, zF 45 (.load true 13 (.t 3)), zM 46 9, zM 47 8, zM 48 0, zM 49 9, zM 50 8, zF 51 (.call true (.c (.fn 102 [])) [(.t 48), (.t 49), (.t 50)]), zF 52 (.call true (.c (.fn 94 [])) [(.t 44), (.t 45), (.t 46), (.t 47), (zN 0), (.t 51)]), zF 53 (.append 5 40 (.t 43) (.t 52)), zM 7 53]
def r72_12 : List yB := [zM 25 9, zF 26 (.bin .add (.t 25) (zN 1)), zM 9 26]
def l72_0 : ACode := (.seq (.seq (.ops r72_8 []) (.cond (.t 24) .skip (.exit 2))) (.seq (.block 3 (.seq (.seq (.ops r72_9 []) (.cond (.t 30) (.ops r72_10 []) .skip)) (.ops r72_11 []))) (.ops r72_12 [])))
def r72_13 : List yB := [zM 20 8, zF 21 (.bin .add (.t 20) (zN 1)), zM 8 21]
def l72_1 : ACode := (.seq (.seq (.ops r72_6 []) (.cond (.t 19) .skip (.exit 0))) (.seq (.block 1 (.seq (.ops r72_7 []) (.block 2 (.loop l72_0)))) (.ops r72_13 [])))
def r72_14 : List yB := [zM 54 7, zM 4 54, zF 5 (.mv (zN 0))]
def ac72 : ACode := (.seq (.ops r72_0 []) (.seq (.seq (.ops r72_1 []) (.seq (.ops r72_2 []) (.cond (.t 14) (.seq (.ops r72_3 []) .ret) .skip))) (.seq (.ops r72_4 []) (.seq (.seq (.ops r72_5 []) (.block 0 (.loop l72_1))) (.seq (.ops r72_14 []) .ret)))))
def re72 : List AOp := [(.mv (.t 4)), (.mv (.t 5))]
theorem cf72 : cFn Try.prog 72 = some (55, ac72, re72) := by kernel_rfl
def r75_0 : List yB := [⟨(some 2), (.alloc [(.lit (.string ⟨#[]⟩)), (.lit (.int .i8 0)), (.lit (.bool false)), (.lit (.bool false)), (.lit (.bool false)), (.lit (.bool false)), (.lit (.bool false)), (.lit (.bool false))]), none⟩, zF 3 (.mv (.c (.lit (.bool false))))]
def r75_1 : List yB := [zM 5 0, zF 6 (.bin .lss (.t 5) (.c (.lit (.int .i8 0)))), zM 7 6, zH 8 0 7 false, zG 9 7 false (.bin .geq (.t 8) (.c (.lit (.int .i8 24)))), zF 10 (.pick (.t 7) (.c (.lit (.bool true))) (.t 9))]
def r75_2 : List yB := [⟨(some 11), (.build [(.lit (.string ⟨#[]⟩)), (.lit (.int .i8 0)), (.lit (.bool false)), (.lit (.bool false)), (.lit (.bool false)), (.lit (.bool false)), (.lit (.bool false)), (.lit (.bool false))] []), none⟩, ⟨none, (.store 8 (.t 2) (.t 11)), none⟩, zF 3 (.mv (.c (.lit (.bool false))))]
def r75_3 : List yB := [zF 12 (.call false (.c (.fn 105 [])) []), zM 13 0, zF 14 (.idx true 24 8 (.t 12) (.t 13)), ⟨(some 4), (.alloc [(.lit (.string ⟨#[]⟩)), (.lit (.int .i8 0)), (.lit (.bool false)), (.lit (.bool false)), (.lit (.bool false)), (.lit (.bool false)), (.lit (.bool false)), (.lit (.bool false))]), none⟩, ⟨none, (.store 8 (.t 4) (.t 14)), none⟩]
def r75_4 : List yB := [zF 15 (.load true 8 (.t 4)), zF 16 (.fieldAddr 7 (.t 4)), zF 17 (.load false 1 (.t 16)), ⟨none, (.store 8 (.t 2) (.t 15)), none⟩, zM 3 17]
def ac75 : ACode := (.seq (.ops r75_0 []) (.seq (.seq (.ops r75_1 []) (.cond (.t 10) (.seq (.ops r75_2 []) .ret) .skip)) (.seq (.ops r75_3 []) (.seq (.ops r75_4 [(16, 2)]) .ret))))
def re75 : List AOp := [(.load true 8 (.t 2)), (.mv (.t 3))]
theorem cf75 : cFn Try.prog 75 = some (18, ac75, re75) := by kernel_rfl
def r76_0 : List yB := [zF 6 (.mv (.c (.lit (.bool false))))]
def r76_1 : List yB := [zM 7 1, zM 8 0, zF 9 (.bin .leq (.t 7) (.t 8)), zM 10 9, zH 11 0 10 true, zH 12 2 10 true, zG 13 10 true (.bin .leq (.t 11) (.t 12)), zF 14 (.pick (.t 10) (.t 13) (.c (.lit (.bool false)))), zM 6 14]
def ac76 : ACode := (.seq (.ops r76_0 []) (.seq (.ops r76_1 []) .ret))
def re76 : List AOp := [(.mv (.t 6))]
theorem cf76 : cFn Try.prog 76 = some (15, ac76, re76) := by kernel_rfl
def r77_0 : List yB := [zF 3 (.box (.t 1)), zF 4 (.mv (.c (.lit (.bool false))))]
def r77_1 : List yB := [zM 7 0, zF 8 (.len none (.t 7)), zF 9 (.mv (zN 0))]
def r77_2 : List yB := [zF 10 (.bin .lss (.t 9) (.t 8))]
def r77_3 : List yB := [zF 11 (.idxAddr none 5 (.t 7) (.t 9)), zF 12 (.load true 5 (.t 11)), zF 6 (.alloc [(.lit (.int .i8 0)), (.lit (.int .u8 0)), (.lit (.int .u8 0)), (.lit (.int .u8 0)), (.lit (.int .i64 0))]), ⟨none, (.store 5 (.t 6) (.t 12)), none⟩]
def r77_4 : List yB := [zF 13 (.load true 5 (.t 6)), zF 14 (.call false (.c (.fn 81 [])) [(.t 13)]), zF 15 (.fieldAddr 0 (.t 3)), zF 16 (.idxAddr (some 4) 1 (.t 15) (.t 14)), zF 17 (.load false 1 (.t 16)), zF 18 (.bin .eql (.t 17) (zN 0))]
def r77_5 : List yB := [zF 4 (.mv (.c (.lit (.bool true))))]
def r77_6 : List yB := [zF 19 (.bin .add (.t 9) (zN 1)), zM 9 19]
def l77_0 : ACode := (.seq (.ops r77_2 []) (.seq (.cond (.t 10) .skip (.exit 0)) (.seq (.block 1 (.seq (.ops r77_3 []) (.seq (.ops r77_4 []) (.cond (.t 18) (.seq (.ops r77_5 []) .ret) .skip)))) (.ops r77_6 []))))
def r77_7 : List yB := [zF 4 (.mv (.c (.lit (.bool false))))]
def ac77 : ACode := (.seq (.ops r77_0 []) (.seq (.seq (.ops r77_1 []) (.block 0 (.loop l77_0))) (.seq (.ops r77_7 []) .ret)))
def re77 : List AOp := [(.mv (.t 4))]
theorem cf77 : cFn Try.prog 77 = some (20, ac77, re77) := by kernel_rfl
def r78_0 : List yB := [zF 3 (.box (.t 1)), zF 4 (.mv (.c (.lit (.pointer none))))]
def r78_1 : List yB := [zM 11 0, zF 12 (.load true 13 (.t 3)), zM 13 0, zF 14 (.len none (.t 13)), zF 15 (.mksl 1 24 [.nil] (.t 14) (.t 14)), zM 16 0, zF 17 (.len none (.t 16)), zF 18 (.mksl 1 8 [(.lit (.int .i64 0))] (.t 17) (.t 17)), zF 19 (.build [.nil, (.lit (.int .i64 0)), (.lit (.int .i64 0)), (.lit (.int .i64 0)), (.lit (.int .i64 0)), (.lit (.int .i64 0)), (.lit (.int .i64 0)), (.lit (.int .i64 0)), (.lit (.int .i64 0)), (.lit (.int .i64 0)), (.lit (.int .i64 0)), (.lit (.int .i64 0)), (.lit (.int .i64 0)), (.lit (.int .i64 0)), .nil, .nil, (.lit (.pointer none))] [(0, (1, (.t 11))), (1, (13, (.t 12))), (14, (1, (.t 15))), (15, (1, (.t 18)))]), zF 20 (.box (.t 19)), zM 5 20]
def r78_2 : List yB := [zM 22 0, zF 23 (.load true 13 (.t 3)), zF 24 (.call false (.c (.fn 40 [])) [(.t 22), (.t 23)]), zM 21 24, zF 25 (.ext (.t 21) 0), zF 26 (.ext (.t 21) 1), zM 6 25, zM 7 26]
def r78_3 : List yB := [zM 27 6, zF 28 (.len none (.t 27)), zF 29 (.mv (zN 0))]
def r78_4 : List yB := [zF 30 (.bin .lss (.t 29) (.t 28))]
def r78_5 : List yB := [zF 31 (.idxAddr none 5 (.t 27) (.t 29)), zF 32 (.load true 5 (.t 31)), zF 9 (.alloc [(.lit (.int .i64 0)), (.lit (.int .i64 0)), (.lit (.int .i64 0)), (.lit (.int .i64 0)), (.lit (.int .i8 0))]), ⟨none, (.store 5 (.t 9) (.t 32)), none⟩]
def r78_6 : List yB := [zM 33 5, zF 34 (.nilchk (.t 33)), zF 35 (.fieldAddr 14 (.t 34)), zF 36 (.load false 1 (.t 35)), zF 37 (.fieldAddr 1 (.t 9)), zF 38 (.load false 1 (.t 37)), zM 39 5, zF 40 (.nilchk (.t 39)), zF 41 (.fieldAddr 14 (.t 40)), zF 42 (.load false 1 (.t 41)), zF 43 (.fieldAddr 1 (.t 9)), zF 44 (.load false 1 (.t 43)), zF 45 (.idxAddr none 1 (.t 42) (.t 44)), zF 46 (.load false 1 (.t 45)), zF 47 (.load true 5 (.t 9)), zF 48 (.buildSl 5 1 [(.lit (.int .i64 0)), (.lit (.int .i64 0)), (.lit (.int .i64 0)), (.lit (.int .i64 0)), (.lit (.int .i8 0))] [(0, (5, (.t 47)))]), zF 49 (.append 5 40 (.t 46) (.t 48)), zF 50 (.idxAddr none 1 (.t 36) (.t 38)), ⟨none, (.store 1 (.t 50) (.t 49)), none⟩]
def r78_7 : List yB := [zF 51 (.bin .add (.t 29) (zN 1)), zM 29 51]
def l78_0 : ACode := (.seq (.ops r78_4 []) (.seq (.cond (.t 30) .skip (.exit 0)) (.seq (.block 1 (.seq (.ops r78_5 []) (.ops r78_6 [(35, 48), (35, 49), (35, 46), (37, 48), (37, 49), (37, 46), (41, 48), (43, 48), (45, 48)]))) (.ops r78_7 []))))
def r78_8 : List yB := [zM 52 5, zF 53 (.nilchk (.t 52)), zF 54 (.fieldAddr 15 (.t 53)), zF 55 (.load false 1 (.t 54)), zF 56 (.len none (.t 55)), zF 57 (.mv (zN 0))]
def r78_9 : List yB := [zF 58 (.bin .lss (.t 57) (.t 56))]
def r78_10 : List yB := [zM 59 57, zM 10 59]
def r78_11 : List yB := [zM 60 5, zF 61 (.nilchk (.t 60)), zF 62 (.fieldAddr 15 (.t 61)), zF 63 (.load false 1 (.t 62)), zM 64 10, zF 65 (.idxAddr none 1 (.t 63) (.t 64)), ⟨none, (.store 1 (.t 65) (zN (-1))), none⟩]
def r78_12 : List yB := [zF 66 (.bin .add (.t 57) (zN 1)), zM 57 66]
def l78_1 : ACode := (.seq (.ops r78_9 []) (.seq (.cond (.t 58) .skip (.exit 2)) (.seq (.block 3 (.seq (.ops r78_10 []) (.ops r78_11 []))) (.ops r78_12 []))))
def r78_13 : List yB := [zM 68 5, zF 69 (.load true 13 (.t 3)), zF 70 (.call false (.c (.fn 106 [])) [(.t 69)]), zM 67 70, zF 71 (.ext (.t 67) 0), zF 72 (.ext (.t 67) 1), zF 73 (.nilchk (.t 68)), zF 74 (.fieldAddr 16 (.t 73)), ⟨none, (.store 1 (.t 74) (.t 71)), none⟩]
def r78_14 : List yB := [zM 75 5, zM 4 75]
def ac78 : ACode := (.seq (.ops r78_0 []) (.seq (.ops r78_1 [(3, 15), (3, 18)]) (.seq (.ops r78_2 []) (.seq (.seq (.ops r78_3 []) (.block 0 (.loop l78_0))) (.seq (.seq (.ops r78_8 []) (.block 2 (.loop l78_1))) (.seq (.ops r78_13 []) (.seq (.ops r78_14 []) .ret)))))))
def re78 : List AOp := [(.mv (.t 4))]
theorem cf78 : cFn Try.prog 78 = some (76, ac78, re78) := by kernel_rfl
def r79_0 : List yB := [zF 6 (.mv (.c (.lit (.bool false))))]
def r79_1 : List yB := [zM 10 0, zF 11 (.nilchk (.t 10)), zF 12 (.fieldAddr 14 (.t 11)), zF 13 (.load false 1 (.t 12)), zM 14 1, zF 15 (.idxAddr none 1 (.t 13) (.t 14)), zF 16 (.load false 1 (.t 15)), zF 17 (.len none (.t 16)), zF 18 (.mv (zN 0))]
def r79_2 : List yB := [zF 19 (.bin .lss (.t 18) (.t 17))]
def r79_3 : List yB := [zF 20 (.idxAddr none 5 (.t 16) (.t 18)), zF 21 (.load true 5 (.t 20)), zF 8 (.alloc [(.lit (.int .i64 0)), (.lit (.int .i64 0)), (.lit (.int .i64 0)), (.lit (.int .i64 0)), (.lit (.int .i8 0))]), ⟨none, (.store 5 (.t 8) (.t 21)), none⟩]
def r79_4 : List yB := [zM 22 0, zF 23 (.nilchk (.t 22)), zF 24 (.fieldAddr 15 (.t 23)), zF 25 (.load false 1 (.t 24)), zF 26 (.fieldAddr 0 (.t 8)), zF 27 (.load false 1 (.t 26)), zF 28 (.idxAddr none 1 (.t 25) (.t 27)), zF 29 (.load false 1 (.t 28)), zM 9 29]
def r79_5 : List yB := [zM 30 9, zF 31 (.bin .lss (.t 30) (zN 0)), zM 32 31, zH 33 9 32 false, zG 34 32 false (.fieldAddr 2 (.t 8)), zG 35 32 false (.load false 1 (.t 34)), zG 36 32 false (.bin .add (.t 33) (.t 35)), zH 37 2 32 false, zG 38 32 false (.bin .gtr (.t 36) (.t 37)), zF 39 (.pick (.t 32) (.c (.lit (.bool true))) (.t 38))]
def r79_6 : List yB := [zF 6 (.mv (.c (.lit (.bool false))))]
def r79_7 : List yB := [zF 40 (.bin .add (.t 18) (zN 1)), zM 18 40]
def l79_0 : ACode := (.seq (.ops r79_2 []) (.seq (.cond (.t 19) .skip (.exit 0)) (.seq (.block 1 (.seq (.ops r79_3 []) (.seq (.ops r79_4 []) (.seq (.ops r79_5 []) (.cond (.t 39) (.seq (.ops r79_6 []) .ret) .skip))))) (.ops r79_7 []))))
def r79_8 : List yB := [zF 6 (.mv (.c (.lit (.bool true))))]
def ac79 : ACode := (.seq (.ops r79_0 []) (.seq (.seq (.ops r79_1 []) (.block 0 (.loop l79_0))) (.seq (.ops r79_8 []) .ret)))
def re79 : List AOp := [(.mv (.t 6))]
theorem cf79 : cFn Try.prog 79 = some (41, ac79, re79) := by kernel_rfl
def r81_0 : List yB := [zF 1 (.box (.t 0)), zF 2 (.mv (zN 0))]
def r81_1 : List yB := [zF 6 (.fieldAddr 0 (.t 1)), zF 7 (.load false 1 (.t 6)), zF 8 (.call false (.c (.fn 41 [])) [(.t 7)]), zM 5 8, zF 9 (.ext (.t 5) 0), zF 10 (.ext (.t 5) 1), zM 3 9, zM 4 10]
def r81_2 : List yB := [zM 11 3, zM 2 11]
def ac81 : ACode := (.seq (.ops r81_0 []) (.seq (.ops r81_1 []) (.seq (.ops r81_2 []) .ret)))
def re81 : List AOp := [(.mv (.t 2))]
theorem cf81 : cFn Try.prog 81 = some (12, ac81, re81) := by kernel_rfl
def r82_0 : List yB := [zF 3 (.box (.t 1)), zF 4 (.mv (.c (.lit (.bool false))))]
def r82_1 : List yB := [zF 5 (.mv (zN 0))]
def r82_2 : List yB := [zM 8 5, zM 9 0, zF 10 (.len none (.t 9)), zF 11 (.bin .lss (.t 8) (.t 10))]
def r82_3 : List yB := [zM 15 0, zM 16 5, zF 17 (.idxAddr none 5 (.t 15) (.t 16)), zF 18 (.fieldAddr 0 (.t 17)), zF 19 (.load false 1 (.t 18)), zF 20 (.call false (.c (.fn 51 [])) [(.t 19)]), zM 14 20, zF 21 (.ext (.t 14) 0), zF 22 (.ext (.t 14) 1), zM 6 21, zM 7 22]
def r82_4 : List yB := [zM 23 7, zM 24 23, zH 25 6 24 true, zG 26 24 true (.fieldAddr 0 (.t 3)), zG 27 24 true (.idxAddr (some 4) 1 (.t 26) (.t 25)), zG 28 24 true (.load false 1 (.t 27)), zG 29 24 true (.bin .eql (.t 28) (zN 0)), zF 30 (.pick (.t 24) (.t 29) (.c (.lit (.bool false))))]
def r82_5 : List yB := [zF 4 (.mv (.c (.lit (.bool true))))]
def r82_6 : List yB := [zM 12 5, zF 13 (.bin .add (.t 12) (zN 1)), zM 5 13]
def l82_0 : ACode := (.seq (.seq (.ops r82_2 []) (.cond (.t 11) .skip (.exit 0))) (.seq (.block 1 (.seq (.ops r82_3 []) (.seq (.ops r82_4 []) (.cond (.t 30) (.seq (.ops r82_5 []) .ret) .skip)))) (.ops r82_6 [])))
def r82_7 : List yB := [zF 4 (.mv (.c (.lit (.bool false))))]
def ac82 : ACode := (.seq (.ops r82_0 []) (.seq (.seq (.ops r82_1 []) (.block 0 (.loop l82_0))) (.seq (.ops r82_7 []) .ret)))
def re82 : List AOp := [(.mv (.t 4))]
theorem cf82 : cFn Try.prog 82 = some (31, ac82, re82) := by kernel_rfl
def r85_0 : List yB := [zF 6 (.box (.t 1)), zF 10 (.mv (zN 0))]
def r85_1 : List yB := [zF 11 (.mv (zN 0))]
def r85_2 : List yB := [zF 12 (.mv (zN 0))]
def r85_3 : List yB := [zM 15 12, zM 16 0, zF 17 (.len none (.t 16)), zF 18 (.bin .lss (.t 15) (.t 17))]
def r85_4 : List yB := [zM 22 0, zM 23 12, zF 24 (.idxAddr none 5 (.t 22) (.t 23)), zF 25 (.fieldAddr 0 (.t 24)), zF 26 (.load false 1 (.t 25)), zF 27 (.call false (.c (.fn 51 [])) [(.t 26)]), zM 21 27, zF 28 (.ext (.t 21) 0), zF 29 (.ext (.t 21) 1), zM 13 28, zM 14 29]
def r85_5 : List yB := [zM 30 13, zM 31 3, zF 32 (.bin .eql (.t 30) (.t 31)), zM 33 32, zH 34 2 33 true, zH 35 12 33 true, zG 36 33 true (.idxAddr none 1 (.t 34) (.t 35)), zG 37 33 true (.load false 1 (.t 36)), zG 38 33 true (.bin .geq (.t 37) (zN 0)), zF 39 (.pick (.t 33) (.t 38) (.c (.lit (.bool false)))), zM 40 39, zH 41 2 40 true, zH 42 12 40 true, zG 43 40 true (.idxAddr none 1 (.t 41) (.t 42)), zG 44 40 true (.load false 1 (.t 43)), zH 45 4 40 true, zG 46 40 true (.bin .leq (.t 44) (.t 45)), zF 47 (.pick (.t 40) (.t 46) (.c (.lit (.bool false)))), zM 48 47, zH 49 4 48 true, zH 50 2 48 true, zH 51 12 48 true, zG 52 48 true (.idxAddr none 1 (.t 50) (.t 51)), zG 53 48 true (.load false 1 (.t 52)), zH 54 13 48 true, zG 55 48 true (.fieldAddr 8 (.t 6)), zG 56 48 true (.idxAddr (some 4) 1 (.t 55) (.t 54)), zG 57 48 true (.load false 1 (.t 56)), zG 58 48 true (.bin .add (.t 53) (.t 57)), zG 59 48 true (.bin .lss (.t 49) (.t 58)), zF 60 (.pick (.t 48) (.t 59) (.c (.lit (.bool false))))]
def r85_6 : List yB := [zM 61 11, zF 62 (.bin .add (.t 61) (zN 1)), zM 11 62]
def r85_7 : List yB := [zM 19 12, zF 20 (.bin .add (.t 19) (zN 1)), zM 12 20]
def l85_0 : ACode := (.seq (.seq (.ops r85_3 []) (.cond (.t 18) .skip (.exit 0))) (.seq (.block 1 (.seq (.ops r85_4 []) (.seq (.ops r85_5 []) (.cond (.t 60) (.ops r85_6 []) .skip)))) (.ops r85_7 [])))
def r85_8 : List yB := [zM 63 11, zM 10 63]
def ac85 : ACode := (.seq (.ops r85_0 []) (.seq (.ops r85_1 []) (.seq (.seq (.ops r85_2 []) (.block 0 (.loop l85_0))) (.seq (.ops r85_8 []) .ret))))
def re85 : List AOp := [(.mv (.t 10))]
theorem cf85 : cFn Try.prog 85 = some (64, ac85, re85) := by kernel_rfl
def r86_0 : List yB := [⟨(some 2), (.alloc [(.lit (.string ⟨#[]⟩)), (.lit (.int .i64 0)), (.lit (.bool false)), (.lit (.bool false)), (.lit (.bool false)), (.lit (.bool false)), (.lit (.bool false))]), none⟩, zF 3 (.mv (.c (.lit (.bool false))))]
def r86_1 : List yB := [zM 6 0]
def r86_2 : List yB := [zF 8 (.bin .eql (.t 6) (.c (.lit (.int .i8 0)))), zM 7 8]
def r86_3 : List yB := [⟨(some 9), (.build [(.lit (.string ⟨#[]⟩)), (.lit (.int .i64 0)), (.lit (.bool false)), (.lit (.bool false)), (.lit (.bool false)), (.lit (.bool false)), (.lit (.bool false))] [(0, (1, (.c (.lit (.string ⟨#[110, 111, 112]⟩))))), (1, (1, (zN (-1))))]), none⟩, ⟨none, (.store 7 (.t 2) (.t 9)), none⟩, zF 3 (.mv (.c (.lit (.bool true))))]
def r86_4 : List yB := [zF 11 (.bin .eql (.t 6) (.c (.lit (.int .i8 1)))), zM 10 11]
def r86_5 : List yB := [⟨(some 12), (.build [(.lit (.string ⟨#[]⟩)), (.lit (.int .i64 0)), (.lit (.bool false)), (.lit (.bool false)), (.lit (.bool false)), (.lit (.bool false)), (.lit (.bool false))] [(0, (1, (.c (.lit (.string ⟨#[99, 111, 110, 115, 116]⟩))))), (1, (1, (zN 0))), (2, (1, (.c (.lit (.bool true))))), (6, (1, (.c (.lit (.bool true)))))]), none⟩, ⟨none, (.store 7 (.t 2) (.t 12)), none⟩, zF 3 (.mv (.c (.lit (.bool true))))]
def r86_6 : List yB := [zF 14 (.bin .eql (.t 6) (.c (.lit (.int .i8 2)))), zM 13 14]
def r86_7 : List yB := [zF 15 (.bin .eql (.t 6) (.c (.lit (.int .i8 3)))), zM 13 15]
def r86_8 : List yB := [zF 16 (.bin .eql (.t 6) (.c (.lit (.int .i8 4)))), zM 13 16]
def r86_9 : List yB := [zF 17 (.bin .eql (.t 6) (.c (.lit (.int .i8 5)))), zM 13 17]
def r86_10 : List yB := [zF 18 (.bin .eql (.t 6) (.c (.lit (.int .i8 6)))), zM 13 18]
def r86_11 : List yB := [zF 19 (.bin .eql (.t 6) (.c (.lit (.int .i8 7)))), zM 13 19]
def r86_12 : List yB := [zF 20 (.bin .eql (.t 6) (.c (.lit (.int .i8 8)))), zM 13 20]
def r86_13 : List yB := [zF 21 (.bin .eql (.t 6) (.c (.lit (.int .i8 9)))), zM 13 21]
def r86_14 : List yB := [zF 22 (.bin .eql (.t 6) (.c (.lit (.int .i8 10)))), zM 13 22]
def r86_15 : List yB := [⟨(some 23), (.buildSl 1 9 [(.lit (.string ⟨#[]⟩)), (.lit (.string ⟨#[]⟩)), (.lit (.string ⟨#[]⟩)), (.lit (.string ⟨#[]⟩)), (.lit (.string ⟨#[]⟩)), (.lit (.string ⟨#[]⟩)), (.lit (.string ⟨#[]⟩)), (.lit (.string ⟨#[]⟩)), (.lit (.string ⟨#[]⟩))] [(0, (1, (.c (.lit (.string ⟨#[97, 100, 100]⟩))))), (1, (1, (.c (.lit (.string ⟨#[115, 117, 98]⟩))))), (2, (1, (.c (.lit (.string ⟨#[97, 110, 100]⟩))))), (3, (1, (.c (.lit (.string ⟨#[111, 114]⟩))))), (4, (1, (.c (.lit (.string ⟨#[120, 111, 114]⟩))))), (5, (1, (.c (.lit (.string ⟨#[115, 104, 108]⟩))))), (6, (1, (.c (.lit (.string ⟨#[115, 104, 114]⟩))))), (7, (1, (.c (.lit (.string ⟨#[108, 101, 115, 115]⟩))))), (8, (1, (.c (.lit (.string ⟨#[101, 113, 117, 97, 108]⟩)))))]), none⟩, zM 4 23]
def r86_16 : List yB := [zM 24 4, zM 25 0, zF 26 (.bin .sub (.t 25) (.c (.lit (.int .i8 2)))), zF 27 (.idxAddr none 1 (.t 24) (.t 26)), zF 28 (.load false 1 (.t 27)), ⟨(some 29), (.build [(.lit (.string ⟨#[]⟩)), (.lit (.int .i64 0)), (.lit (.bool false)), (.lit (.bool false)), (.lit (.bool false)), (.lit (.bool false)), (.lit (.bool false))] [(0, (1, (.t 28))), (1, (1, (zN 0))), (2, (1, (.c (.lit (.bool true))))), (3, (1, (.c (.lit (.bool true))))), (4, (1, (.c (.lit (.bool true)))))]), none⟩, ⟨none, (.store 7 (.t 2) (.t 29)), none⟩, zF 3 (.mv (.c (.lit (.bool true))))]
def r86_17 : List yB := [zF 31 (.bin .eql (.t 6) (.c (.lit (.int .i8 11)))), zM 30 31]
def r86_18 : List yB := [⟨(some 32), (.build [(.lit (.string ⟨#[]⟩)), (.lit (.int .i64 0)), (.lit (.bool false)), (.lit (.bool false)), (.lit (.bool false)), (.lit (.bool false)), (.lit (.bool false))] [(0, (1, (.c (.lit (.string ⟨#[109, 111, 118, 101]⟩))))), (1, (1, (zN 0))), (2, (1, (.c (.lit (.bool true))))), (3, (1, (.c (.lit (.bool true)))))]), none⟩, ⟨none, (.store 7 (.t 2) (.t 32)), none⟩, zF 3 (.mv (.c (.lit (.bool true))))]
def r86_19 : List yB := [zF 34 (.bin .eql (.t 6) (.c (.lit (.int .i8 12)))), zM 33 34]
def r86_20 : List yB := [zF 35 (.bin .eql (.t 6) (.c (.lit (.int .i8 13)))), zM 33 35]
def r86_21 : List yB := [zF 36 (.bin .eql (.t 6) (.c (.lit (.int .i8 14)))), zM 33 36]
def r86_22 : List yB := [⟨(some 37), (.buildSl 1 3 [(.lit (.string ⟨#[]⟩)), (.lit (.string ⟨#[]⟩)), (.lit (.string ⟨#[]⟩))] [(0, (1, (.c (.lit (.string ⟨#[116, 105, 109, 101, 115]⟩))))), (1, (1, (.c (.lit (.string ⟨#[100, 105, 118, 105, 100, 101]⟩))))), (2, (1, (.c (.lit (.string ⟨#[114, 101, 115, 116]⟩)))))]), none⟩, zM 5 37]
def r86_23 : List yB := [zM 38 5, zM 39 0, zF 40 (.bin .sub (.t 39) (.c (.lit (.int .i8 12)))), zF 41 (.idxAddr none 1 (.t 38) (.t 40)), zF 42 (.load false 1 (.t 41)), ⟨(some 43), (.build [(.lit (.string ⟨#[]⟩)), (.lit (.int .i64 0)), (.lit (.bool false)), (.lit (.bool false)), (.lit (.bool false)), (.lit (.bool false)), (.lit (.bool false))] [(0, (1, (.t 42))), (1, (1, (zN 1))), (2, (1, (.c (.lit (.bool true))))), (3, (1, (.c (.lit (.bool true))))), (4, (1, (.c (.lit (.bool true)))))]), none⟩, ⟨none, (.store 7 (.t 2) (.t 43)), none⟩, zF 3 (.mv (.c (.lit (.bool true))))]
def r86_24 : List yB := [zF 45 (.bin .eql (.t 6) (.c (.lit (.int .i8 15)))), zM 44 45]
def r86_25 : List yB := [⟨(some 46), (.build [(.lit (.string ⟨#[]⟩)), (.lit (.int .i64 0)), (.lit (.bool false)), (.lit (.bool false)), (.lit (.bool false)), (.lit (.bool false)), (.lit (.bool false))] [(0, (1, (.c (.lit (.string ⟨#[108, 111, 97, 100]⟩))))), (1, (1, (zN 2))), (2, (1, (.c (.lit (.bool true))))), (3, (1, (.c (.lit (.bool true))))), (6, (1, (.c (.lit (.bool true)))))]), none⟩, ⟨none, (.store 7 (.t 2) (.t 46)), none⟩, zF 3 (.mv (.c (.lit (.bool true))))]
def r86_26 : List yB := [zF 48 (.bin .eql (.t 6) (.c (.lit (.int .i8 16)))), zM 47 48]
def r86_27 : List yB := [⟨(some 49), (.build [(.lit (.string ⟨#[]⟩)), (.lit (.int .i64 0)), (.lit (.bool false)), (.lit (.bool false)), (.lit (.bool false)), (.lit (.bool false)), (.lit (.bool false))] [(0, (1, (.c (.lit (.string ⟨#[115, 116, 111, 114, 101]⟩))))), (1, (1, (zN 2))), (3, (1, (.c (.lit (.bool true))))), (4, (1, (.c (.lit (.bool true))))), (6, (1, (.c (.lit (.bool true)))))]), none⟩, ⟨none, (.store 7 (.t 2) (.t 49)), none⟩, zF 3 (.mv (.c (.lit (.bool true))))]
def r86_28 : List yB := [zF 51 (.bin .eql (.t 6) (.c (.lit (.int .i8 17)))), zM 50 51]
def r86_29 : List yB := [⟨(some 52), (.build [(.lit (.string ⟨#[]⟩)), (.lit (.int .i64 0)), (.lit (.bool false)), (.lit (.bool false)), (.lit (.bool false)), (.lit (.bool false)), (.lit (.bool false))] [(0, (1, (.c (.lit (.string ⟨#[112, 114, 105, 110, 116]⟩))))), (1, (1, (zN 2))), (3, (1, (.c (.lit (.bool true)))))]), none⟩, ⟨none, (.store 7 (.t 2) (.t 52)), none⟩, zF 3 (.mv (.c (.lit (.bool true))))]
def r86_30 : List yB := [zM 53 0, zF 54 (.call false (.c (.fn 109 [])) [(.t 53)]), zF 55 (.ext (.t 54) 0), zF 56 (.ext (.t 54) 1), ⟨none, (.store 7 (.t 2) (.t 55)), none⟩, zM 3 56]
def ac86 : ACode := (.seq (.ops r86_0 []) (.seq (.seq (.ops r86_1 []) (.block 0 (.seq (.ops r86_2 []) (.cond (.t 7) (.seq (.ops r86_3 []) .ret) (.seq (.ops r86_4 []) (.cond (.t 10) (.seq (.ops r86_5 []) .ret) (.seq (.seq (.ops r86_6 []) (.cond (.t 13) .skip (.seq (.ops r86_7 []) (.cond (.t 13) .skip (.seq (.ops r86_8 []) (.cond (.t 13) .skip (.seq (.ops r86_9 []) (.cond (.t 13) .skip (.seq (.ops r86_10 []) (.cond (.t 13) .skip (.seq (.ops r86_11 []) (.cond (.t 13) .skip (.seq (.ops r86_12 []) (.cond (.t 13) .skip (.seq (.ops r86_13 []) (.cond (.t 13) .skip (.ops r86_14 []))))))))))))))))) (.cond (.t 13) (.seq (.ops r86_15 []) (.seq (.ops r86_16 []) .ret)) (.seq (.ops r86_17 []) (.cond (.t 30) (.seq (.ops r86_18 []) .ret) (.seq (.seq (.ops r86_19 []) (.cond (.t 33) .skip (.seq (.ops r86_20 []) (.cond (.t 33) .skip (.ops r86_21 []))))) (.cond (.t 33) (.seq (.ops r86_22 []) (.seq (.ops r86_23 []) .ret)) (.seq (.ops r86_24 []) (.cond (.t 44) (.seq (.ops r86_25 []) .ret) (.seq (.ops r86_26 []) (.cond (.t 47) (.seq (.ops r86_27 []) .ret) (.seq (.ops r86_28 []) (.cond (.t 50) (.seq (.ops r86_29 []) .ret) .skip)))))))))))))))))) (.seq (.ops r86_30 []) .ret)))
def re86 : List AOp := [(.load true 7 (.t 2)), (.mv (.t 3))]
theorem cf86 : cFn Try.prog 86 = some (57, ac86, re86) := by kernel_rfl
def r87_0 : List yB := [zF 1 (.box (.t 0)), zF 2 (.mv (zN 0))]
def r87_1 : List yB := [zF 6 (.fieldAddr 0 (.t 1)), zF 7 (.load false 1 (.t 6)), zF 8 (.call false (.c (.fn 75 [])) [(.t 7)]), zM 5 8, zF 9 (.ext (.t 5) 0), zF 10 (.ext (.t 5) 1), ⟨(some 3), (.alloc [(.lit (.string ⟨#[]⟩)), (.lit (.int .i8 0)), (.lit (.bool false)), (.lit (.bool false)), (.lit (.bool false)), (.lit (.bool false)), (.lit (.bool false)), (.lit (.bool false))]), none⟩, ⟨none, (.store 8 (.t 3) (.t 9)), none⟩, zM 4 10]
def r87_2 : List yB := [zM 12 4, zF 13 (.un .not (.t 12)), zM 11 13]
def r87_3 : List yB := [zF 14 (.fieldAddr 1 (.t 1)), zF 15 (.load false 1 (.t 14)), zF 16 (.bin .gtr (.t 15) (.c (.lit (.int .u8 31)))), zM 11 16]
def r87_4 : List yB := [zF 17 (.fieldAddr 2 (.t 1)), zF 18 (.load false 1 (.t 17)), zF 19 (.bin .gtr (.t 18) (.c (.lit (.int .u8 31)))), zM 11 19]
def r87_5 : List yB := [zF 20 (.fieldAddr 3 (.t 1)), zF 21 (.load false 1 (.t 20)), zF 22 (.bin .gtr (.t 21) (.c (.lit (.int .u8 31)))), zM 11 22]
def r87_6 : List yB := [zF 23 (.fieldAddr 4 (.t 1)), zF 24 (.load false 1 (.t 23)), zF 25 (.call false (.c (.fn 110 [])) [(.t 24), (zN 32)]), zF 26 (.un .not (.t 25)), zM 11 26]
def r87_7 : List yB := [zF 2 (.mv (zN 30))]
def r87_8 : List yB := [zF 28 (.fieldAddr 2 (.t 3)), zF 29 (.load false 1 (.t 28)), zF 30 (.un .not (.t 29)), zM 31 30, zG 32 31 true (.fieldAddr 1 (.t 1)), zG 33 31 true (.load false 1 (.t 32)), zG 34 31 true (.bin .neq (.t 33) (.c (.lit (.int .u8 0)))), zF 35 (.pick (.t 31) (.t 34) (.c (.lit (.bool false)))), zM 27 35]
def r87_9 : List yB := [zF 36 (.fieldAddr 3 (.t 3)), zF 37 (.load false 1 (.t 36)), zF 38 (.un .not (.t 37)), zM 39 38, zG 40 39 true (.fieldAddr 2 (.t 1)), zG 41 39 true (.load false 1 (.t 40)), zG 42 39 true (.bin .neq (.t 41) (.c (.lit (.int .u8 0)))), zF 43 (.pick (.t 39) (.t 42) (.c (.lit (.bool false)))), zM 27 43]
def r87_10 : List yB := [zF 44 (.fieldAddr 4 (.t 3)), zF 45 (.load false 1 (.t 44)), zF 46 (.un .not (.t 45)), zM 47 46, zG 48 47 true (.fieldAddr 5 (.t 3)), zG 49 47 true (.load false 1 (.t 48)), zG 50 47 true (.un .not (.t 49)), zF 51 (.pick (.t 47) (.t 50) (.c (.lit (.bool false)))), zM 52 51, zG 53 52 true (.fieldAddr 3 (.t 1)), zG 54 52 true (.load false 1 (.t 53)), zG 55 52 true (.bin .neq (.t 54) (.c (.lit (.int .u8 0)))), zF 56 (.pick (.t 52) (.t 55) (.c (.lit (.bool false)))), zM 27 56]
def r87_11 : List yB := [zF 57 (.fieldAddr 6 (.t 3)), zF 58 (.load false 1 (.t 57)), zF 59 (.un .not (.t 58)), zM 60 59, zG 61 60 true (.fieldAddr 4 (.t 1)), zG 62 60 true (.load false 1 (.t 61)), zG 63 60 true (.bin .neq (.t 62) (zN 0)), zF 64 (.pick (.t 60) (.t 63) (.c (.lit (.bool false)))), zM 27 64]
def r87_12 : List yB := [zF 2 (.mv (zN 30))]
def r87_13 : List yB := [zF 2 (.mv (zN 0))]
def ac87 : ACode := (.seq (.ops r87_0 []) (.seq (.ops r87_1 []) (.seq (.block 0 (.seq (.seq (.ops r87_2 []) (.cond (.t 11) .skip (.seq (.ops r87_3 []) (.cond (.t 11) .skip (.seq (.ops r87_4 []) (.cond (.t 11) .skip (.seq (.ops r87_5 []) (.cond (.t 11) .skip (.ops r87_6 []))))))))) (.cond (.t 11) (.seq (.ops r87_7 []) .ret) (.seq (.seq (.ops r87_8 []) (.cond (.t 27) .skip (.seq (.ops r87_9 []) (.cond (.t 27) .skip (.seq (.ops r87_10 []) (.cond (.t 27) .skip (.ops r87_11 []))))))) (.cond (.t 27) (.seq (.ops r87_12 []) .ret) .skip))))) (.seq (.ops r87_13 []) .ret))))
def re87 : List AOp := [(.mv (.t 2))]
theorem cf87 : cFn Try.prog 87 = some (65, ac87, re87) := by kernel_rfl
def r88_0 : List yB := [zF 1 (.box (.t 0)), zF 2 (.mv (.c (.lit (.int .u8 0)))), zF 3 (.mv (.c (.lit (.bool false))))]
def r88_1 : List yB := [zF 7 (.fieldAddr 0 (.t 1)), zF 8 (.load false 1 (.t 7)), zF 9 (.call false (.c (.fn 86 [])) [(.t 8)]), zM 6 9, zF 10 (.ext (.t 6) 0), zF 11 (.ext (.t 6) 1), ⟨(some 4), (.alloc [(.lit (.string ⟨#[]⟩)), (.lit (.int .i64 0)), (.lit (.bool false)), (.lit (.bool false)), (.lit (.bool false)), (.lit (.bool false)), (.lit (.bool false))]), none⟩, ⟨none, (.store 7 (.t 4) (.t 10)), none⟩, zM 5 11]
def r88_2 : List yB := [zF 12 (.load true 5 (.t 1)), zF 13 (.call false (.c (.fn 111 [])) [(.t 12)]), zF 14 (.bin .neq (.t 13) (zN 0)), zM 15 14, zG 16 15 false (.fieldAddr 2 (.t 4)), zG 17 15 false (.load false 1 (.t 16)), zG 18 15 false (.un .not (.t 17)), zF 19 (.pick (.t 15) (.c (.lit (.bool true))) (.t 18))]
def r88_3 : List yB := [zF 2 (.mv (.c (.lit (.int .u8 0)))), zF 3 (.mv (.c (.lit (.bool false))))]
def r88_4 : List yB := [zF 20 (.fieldAddr 1 (.t 1)), zF 21 (.load false 1 (.t 20)), zM 2 21, zF 3 (.mv (.c (.lit (.bool true))))]
def ac88 : ACode := (.seq (.ops r88_0 []) (.seq (.ops r88_1 []) (.seq (.seq (.ops r88_2 []) (.cond (.t 19) (.seq (.ops r88_3 []) .ret) .skip)) (.seq (.ops r88_4 []) .ret))))
def re88 : List AOp := [(.mv (.t 2)), (.mv (.t 3))]
theorem cf88 : cFn Try.prog 88 = some (22, ac88, re88) := by kernel_rfl
def r89_0 : List yB := [zF 1 (.box (.t 0)), zF 2 (.mv (.c .nil))]
def r89_1 : List yB := [zF 7 (.fieldAddr 0 (.t 1)), zF 8 (.load false 1 (.t 7)), zF 9 (.call false (.c (.fn 86 [])) [(.t 8)]), zM 6 9, zF 10 (.ext (.t 6) 0), zF 11 (.ext (.t 6) 1), ⟨(some 3), (.alloc [(.lit (.string ⟨#[]⟩)), (.lit (.int .i64 0)), (.lit (.bool false)), (.lit (.bool false)), (.lit (.bool false)), (.lit (.bool false)), (.lit (.bool false))]), none⟩, ⟨none, (.store 7 (.t 3) (.t 10)), none⟩, zM 4 11]
def r89_2 : List yB := [zF 12 (.load true 5 (.t 1)), zF 13 (.call false (.c (.fn 111 [])) [(.t 12)]), zF 14 (.bin .neq (.t 13) (zN 0))]
def r89_3 : List yB := [zF 2 (.mv (.c .nil))]
def r89_4 : List yB := [zF 5 (.mv (.c .nil))]
def r89_5 : List yB := [zF 15 (.fieldAddr 3 (.t 3)), zF 16 (.load false 1 (.t 15))]
def r89_6 : List yB := [zM 17 5, zF 18 (.fieldAddr 2 (.t 1)), zF 19 (.load false 1 (.t 18)), zF 20 (.buildSl 1 1 [(.lit (.int .u8 0))] [(0, (1, (.t 19)))]), zF 21 (.append 1 1 (.t 17) (.t 20)), zM 5 21]
def r89_7 : List yB := [zF 22 (.fieldAddr 4 (.t 3)), zF 23 (.load false 1 (.t 22)), zM 24 23, zG 25 24 true (.fieldAddr 3 (.t 3)), zG 26 24 true (.load false 1 (.t 25)), zG 27 24 true (.un .not (.t 26)), zH 28 27 24 true, zG 29 28 false (.fieldAddr 3 (.t 1)), zG 30 28 false (.load false 1 (.t 29)), zG 31 28 false (.fieldAddr 2 (.t 1)), zG 32 28 false (.load false 1 (.t 31)), zG 33 28 false (.bin .neq (.t 30) (.t 32)), zG 34 24 true (.pick (.t 28) (.c (.lit (.bool true))) (.t 33)), zF 35 (.pick (.t 24) (.t 34) (.c (.lit (.bool false))))]
def r89_8 : List yB := [zM 36 5, zF 37 (.fieldAddr 3 (.t 1)), zF 38 (.load false 1 (.t 37)), zF 39 (.buildSl 1 1 [(.lit (.int .u8 0))] [(0, (1, (.t 38)))]), zF 40 (.append 1 1 (.t 36) (.t 39)), zM 5 40]
def r89_9 : List yB := [zM 41 5, zM 2 41]
def ac89 : ACode := (.seq (.ops r89_0 []) (.seq (.ops r89_1 []) (.seq (.seq (.ops r89_2 []) (.cond (.t 14) (.seq (.ops r89_3 []) .ret) .skip)) (.seq (.ops r89_4 []) (.seq (.seq (.ops r89_5 []) (.cond (.t 16) (.ops r89_6 []) .skip)) (.seq (.seq (.ops r89_7 []) (.cond (.t 35) (.ops r89_8 []) .skip)) (.seq (.ops r89_9 []) .ret)))))))
def re89 : List AOp := [(.mv (.t 2))]
theorem cf89 : cFn Try.prog 89 = some (42, ac89, re89) := by kernel_rfl
def r90_0 : List yB := [zF 3 (.box (.t 1)), zF 4 (.mv (zN 0))]
def r90_1 : List yB := [zF 7 (.load true 13 (.t 3)), zF 8 (.call false (.c (.fn 69 [])) [(.t 7)]), zM 5 8]
def r90_2 : List yB := [zM 9 5, zF 10 (.bin .neq (.t 9) (zN 0))]
def r90_3 : List yB := [zM 11 5, zM 4 11]
def r90_4 : List yB := [zM 12 0, zF 13 (.len none (.t 12)), zF 14 (.bin .gtr (.t 13) (zN 1024))]
def r90_5 : List yB := [zF 4 (.mv (zN 3))]
def r90_6 : List yB := [zF 6 (.mv (zN 0))]
def r90_7 : List yB := [zM 15 6, zM 16 0, zF 17 (.len none (.t 16)), zF 18 (.bin .lss (.t 15) (.t 17))]
def r90_8 : List yB := [zM 21 0, zM 22 6, zF 23 (.idxAddr none 5 (.t 21) (.t 22)), zF 24 (.fieldAddr 0 (.t 23)), zF 25 (.load false 1 (.t 24)), zF 26 (.bin .lss (.t 25) (.c (.lit (.int .i8 1)))), zM 27 26, zH 28 0 27 false, zH 29 6 27 false, zG 30 27 false (.idxAddr none 5 (.t 28) (.t 29)), zG 31 27 false (.fieldAddr 0 (.t 30)), zG 32 27 false (.load false 1 (.t 31)), zG 33 27 false (.bin .gtr (.t 32) (.c (.lit (.int .i8 17)))), zF 34 (.pick (.t 27) (.c (.lit (.bool true))) (.t 33)), zM 35 34, zH 36 0 35 false, zH 37 6 35 false, zG 38 35 false (.idxAddr none 5 (.t 36) (.t 37)), zG 39 35 false (.load true 5 (.t 38)), zG 40 35 false (.call false (.c (.fn 111 [])) [(.t 39)]), zG 41 35 false (.bin .neq (.t 40) (zN 0)), zF 42 (.pick (.t 35) (.c (.lit (.bool true))) (.t 41))]
def r90_9 : List yB := [zF 4 (.mv (zN 30))]
def r90_10 : List yB := [zM 19 6, zF 20 (.bin .add (.t 19) (zN 1)), zM 6 20]
def l90_0 : ACode := (.seq (.seq (.ops r90_7 []) (.cond (.t 18) .skip (.exit 0))) (.seq (.block 1 (.seq (.ops r90_8 []) (.cond (.t 42) (.seq (.ops r90_9 []) .ret) .skip))) (.ops r90_10 [])))
def r90_11 : List yB := [zF 4 (.mv (zN 0))]
def ac90 : ACode := (.seq (.ops r90_0 []) (.seq (.seq (.ops r90_1 []) (.seq (.ops r90_2 []) (.cond (.t 10) (.seq (.ops r90_3 []) .ret) .skip))) (.seq (.seq (.ops r90_4 []) (.cond (.t 14) (.seq (.ops r90_5 []) .ret) .skip)) (.seq (.seq (.ops r90_6 []) (.block 0 (.loop l90_0))) (.seq (.ops r90_11 []) .ret)))))
def re90 : List AOp := [(.mv (.t 4))]
theorem cf90 : cFn Try.prog 90 = some (43, ac90, re90) := by kernel_rfl
def r91_0 : List yB := [zF 4 (.mv (.c .nil))]
def r91_1 : List yB := [zM 5 0, zF 6 (.load false 1 (.t 2)), zF 7 (.bin .mul (.t 5) (.t 6)), zM 8 0, zF 9 (.bin .add (.t 8) (zN 1)), zF 10 (.load false 1 (.t 2)), zF 11 (.bin .mul (.t 9) (.t 10)), zM 12 0, zF 13 (.bin .add (.t 12) (zN 1)), zF 14 (.load false 1 (.t 2)), zF 15 (.bin .mul (.t 13) (.t 14)), zF 16 (.slice (some 4096) 1 (.t 1) (some (.t 7)) (some (.t 11)) (some (.t 15))), zM 4 16]
def ac91 : ACode := (.seq (.ops r91_0 []) (.seq (.ops r91_1 []) .ret))
def re91 : List AOp := [(.mv (.t 4))]
theorem cf91 : cFn Try.prog 91 = some (17, ac91, re91) := by kernel_rfl
def r92_0 : List yB := [zF 8 (.mv (.c (.lit (.bool false))))]
def r92_1 : List yB := [zM 12 0, zM 13 2, zF 14 (.idxAddr none 5 (.t 12) (.t 13)), zF 15 (.load true 5 (.t 14)), zF 16 (.call false (.c (.fn 89 [])) [(.t 15)]), zM 9 16]
def r92_2 : List yB := [zF 10 (.mv (zN 0))]
def r92_3 : List yB := [zM 17 10, zM 18 9, zF 19 (.len none (.t 18)), zF 20 (.bin .lss (.t 17) (.t 19))]
def r92_4 : List yB := [zM 23 0, zM 24 2, zM 25 9, zM 26 10, zF 27 (.idxAddr none 1 (.t 25) (.t 26)), zF 28 (.load false 1 (.t 27)), zF 29 (.call false (.c (.fn 112 [])) [(.t 23), (.t 24), (.t 28)]), zM 11 29]
def r92_5 : List yB := [zM 30 3, zF 31 (.un .not (.t 30)), zM 32 31, zH 33 11 32 true, zH 34 1 32 true, zG 35 32 true (.bin .eql (.t 33) (.t 34)), zF 36 (.pick (.t 32) (.t 35) (.c (.lit (.bool false))))]
def r92_6 : List yB := [zF 8 (.mv (.c (.lit (.bool true))))]
def r92_7 : List yB := [zM 37 3, zM 38 37, zH 39 11 38 true, zG 40 38 true (.bin .lss (.t 39) (zN 0)), zF 41 (.pick (.t 38) (.t 40) (.c (.lit (.bool false)))), zM 42 41, zH 43 0 42 true, zH 44 0 42 true, zG 45 42 true (.len none (.t 44)), zH 46 9 42 true, zH 47 10 42 true, zG 48 42 true (.idxAddr none 1 (.t 46) (.t 47)), zG 49 42 true (.load false 1 (.t 48)), zG 50 42 true (.call false (.c (.fn 112 [])) [(.t 43), (.t 45), (.t 49)]), zH 51 1 42 true, zG 52 42 true (.bin .eql (.t 50) (.t 51)), zF 53 (.pick (.t 42) (.t 52) (.c (.lit (.bool false))))]
def r92_8 : List yB := [zF 8 (.mv (.c (.lit (.bool true))))]
def r92_9 : List yB := [zM 21 10, zF 22 (.bin .add (.t 21) (zN 1)), zM 10 22]
def l92_0 : ACode := (.seq (.seq (.ops r92_3 []) (.cond (.t 20) .skip (.exit 0))) (.seq (.block 1 (.seq (.ops r92_4 []) (.seq (.seq (.ops r92_5 []) (.cond (.t 36) (.seq (.ops r92_6 []) .ret) .skip)) (.seq (.ops r92_7 []) (.cond (.t 53) (.seq (.ops r92_8 []) .ret) .skip))))) (.ops r92_9 [])))
def r92_10 : List yB := [zF 8 (.mv (.c (.lit (.bool false))))]
def ac92 : ACode := (.seq (.ops r92_0 []) (.seq (.ops r92_1 []) (.seq (.seq (.ops r92_2 []) (.block 0 (.loop l92_0))) (.seq (.ops r92_10 []) .ret))))
def re92 : List AOp := [(.mv (.t 8))]
theorem cf92 : cFn Try.prog 92 = some (54, ac92, re92) := by kernel_rfl
def r93_0 : List yB := [zF 2 (.box (.t 0)), zF 3 (.box (.t 1)), zF 4 (.mv (zN 0))]
def r93_1 : List yB := [zF 8 (.fieldAddr 0 (.t 2)), zF 9 (.load false 1 (.t 8)), zF 10 (.call false (.c (.fn 51 [])) [(.t 9)]), zM 7 10, zF 11 (.ext (.t 7) 0), zF 12 (.ext (.t 7) 1), zM 5 11, zM 6 12]
def r93_2 : List yB := [zM 13 5, zF 14 (.fieldAddr 4 (.t 3)), zF 15 (.idxAddr (some 4) 1 (.t 14) (.t 13)), zF 16 (.load false 1 (.t 15)), zM 4 16]
def ac93 : ACode := (.seq (.ops r93_0 []) (.seq (.ops r93_1 []) (.seq (.ops r93_2 []) .ret)))
def re93 : List AOp := [(.mv (.t 4))]
theorem cf93 : cFn Try.prog 93 = some (17, ac93, re93) := by kernel_rfl
def r94_0 : List yB := [zF 7 (.box (.t 1)), zF 12 (.mv (.c .nil))]
def r94_1 : List yB := [zF 13 (.mv (.c .nil))]
def r94_2 : List yB := [zM 18 0, zM 19 3, zF 20 (.idxAddr none 5 (.t 18) (.t 19)), zF 21 (.load true 5 (.t 20)), zF 22 (.call false (.c (.fn 88 [])) [(.t 21)]), zM 17 22, zF 23 (.ext (.t 17) 0), zF 24 (.ext (.t 17) 1), zM 14 23, zM 15 24]
def r94_3 : List yB := [zM 25 15, zM 26 25, zH 27 0 26 true, zH 28 2 26 true, zG 29 26 true (.idxAddr none 5 (.t 27) (.t 28)), zG 30 26 true (.load true 5 (.t 29)), zH 31 14 26 true, zG 32 26 true (.call false (.c (.fn 56 [])) [(.t 30), (.t 31)]), zF 33 (.pick (.t 26) (.t 32) (.c (.lit (.bool false))))]
def r94_4 : List yB := [zM 34 13, zM 35 2, zM 36 3, zM 37 4, zF 38 (.build [(.lit (.int .i64 0)), (.lit (.int .i64 0)), (.lit (.int .i64 0)), (.lit (.int .i64 0)), (.lit (.int .i8 0))] [(0, (1, (.t 35))), (1, (1, (.t 36))), (3, (1, (.t 37))), (4, (1, (.c (.lit (.int .i8 1)))))]), zF 39 (.buildSl 5 1 [(.lit (.int .i64 0)), (.lit (.int .i64 0)), (.lit (.int .i64 0)), (.lit (.int .i64 0)), (.lit (.int .i8 0))] [(0, (5, (.t 38)))]), zF 40 (.append 5 40 (.t 34) (.t 39)), zM 13 40]
def r94_5 : List yB := [zM 41 15, zM 42 41, zH 43 0 42 true, zH 44 2 42 true, zG 45 42 true (.idxAddr none 5 (.t 43) (.t 44)), zG 46 42 true (.load true 5 (.t 45)), zH 47 14 42 true, zG 48 42 true (.call false (.c (.fn 113 [])) [(.t 46), (.t 47)]), zF 49 (.pick (.t 42) (.t 48) (.c (.lit (.bool false))))]
def r94_6 : List yB := [zM 50 13, zM 51 2, zM 52 3, zM 53 0, zM 54 2, zF 55 (.idxAddr none 5 (.t 53) (.t 54)), zF 56 (.load true 5 (.t 55)), zF 57 (.load true 13 (.t 7)), zF 58 (.call true (.c (.fn 93 [])) [(.t 56), (.t 57)]), zM 59 0, zM 60 3, zF 61 (.idxAddr none 5 (.t 59) (.t 60)), zF 62 (.load true 5 (.t 61)), zF 63 (.load true 13 (.t 7)), zF 64 (.call true (.c (.fn 93 [])) [(.t 62), (.t 63)]), zF 65 (.bin .sub (.t 58) (.t 64)), zF 66 (.bin .add (.t 65) (zN 1)), zF 67 (.maxs [(zN 0), (.t 66)]), zM 68 4, zF 69 (.build [(.lit (.int .i64 0)), (.lit (.int .i64 0)), (.lit (.int .i64 0)), (.lit (.int .i64 0)), (.lit (.int .i8 0))] [(0, (1, (.t 51))), (1, (1, (.t 52))), (2, (1, (.t 67))), (3, (1, (.t 68))), (4, (1, (.c (.lit (.int .i8 2)))))]), zF 70 (.buildSl 5 1 [(.lit (.int .i64 0)), (.lit (.int .i64 0)), (.lit (.int .i64 0)), (.lit (.int .i64 0)), (.lit (.int .i8 0))] [(0, (5, (.t 69)))]), zF 71 (.append 5 40 (.t 50) (.t 70)), zM 13 71]
def r94_7 : List yB := [zM 72 5, zM 73 72, zH 74 0 73 true, zH 75 2 73 true, zG 76 73 true (.idxAddr none 5 (.t 74) (.t 75)), zG 77 73 true (.fieldAddr 0 (.t 76)), zG 78 73 true (.load false 1 (.t 77)), zG 79 73 true (.bin .eql (.t 78) (.c (.lit (.int .i8 16)))), zH 80 79 73 true, zH 81 0 80 false, zH 82 3 80 false, zG 83 80 false (.idxAddr none 5 (.t 81) (.t 82)), zG 84 80 false (.fieldAddr 0 (.t 83)), zG 85 80 false (.load false 1 (.t 84)), zG 86 80 false (.bin .eql (.t 85) (.c (.lit (.int .i8 16)))), zG 87 73 true (.pick (.t 80) (.c (.lit (.bool true))) (.t 86)), zF 88 (.pick (.t 73) (.t 87) (.c (.lit (.bool false))))]
def r94_8 : List yB := [zM 89 2, zM 90 3, zM 91 4, zF 92 (.build [(.lit (.int .i64 0)), (.lit (.int .i64 0)), (.lit (.int .i64 0)), (.lit (.int .i64 0)), (.lit (.int .i8 0))] [(0, (1, (.t 89))), (1, (1, (.t 90))), (3, (1, (.t 91))), (4, (1, (.c (.lit (.int .i8 3)))))]), zF 16 (.alloc [(.lit (.int .i64 0)), (.lit (.int .i64 0)), (.lit (.int .i64 0)), (.lit (.int .i64 0)), (.lit (.int .i8 0))]), ⟨none, (.store 5 (.t 16) (.t 92)), none⟩]
def r94_9 : List yB := [zM 94 0, zM 95 2, zF 96 (.idxAddr none 5 (.t 94) (.t 95)), zF 97 (.fieldAddr 0 (.t 96)), zF 98 (.load false 1 (.t 97)), zF 99 (.bin .eql (.t 98) (.c (.lit (.int .i8 16)))), zM 100 99, zH 101 0 100 true, zH 102 3 100 true, zG 103 100 true (.idxAddr none 5 (.t 101) (.t 102)), zG 104 100 true (.fieldAddr 0 (.t 103)), zG 105 100 true (.load false 1 (.t 104)), zG 106 100 true (.bin .eql (.t 105) (.c (.lit (.int .i8 15)))), zF 107 (.pick (.t 100) (.t 106) (.c (.lit (.bool false)))), zM 93 107]
def r94_10 : List yB := [zF 108 (.fieldAddr 4 (.t 7)), zF 109 (.idxAddr (some 4) 1 (.t 108) (zN 2)), zF 110 (.load false 1 (.t 109)), zF 111 (.fieldAddr 2 (.t 16)), ⟨none, (.store 1 (.t 111) (.t 110)), none⟩]
def r94_11 : List yB := [zM 113 0, zM 114 2, zF 115 (.idxAddr none 5 (.t 113) (.t 114)), zF 116 (.fieldAddr 0 (.t 115)), zF 117 (.load false 1 (.t 116)), zF 118 (.bin .eql (.t 117) (.c (.lit (.int .i8 16)))), zM 112 118]
def r94_12 : List yB := [zF 119 (.fieldAddr 2 (.t 16)), ⟨none, (.store 1 (.t 119) (zN 1)), none⟩]
def r94_13 : List yB := [zM 120 13, zF 121 (.load true 5 (.t 16)), zF 122 (.buildSl 5 1 [(.lit (.int .i64 0)), (.lit (.int .i64 0)), (.lit (.int .i64 0)), (.lit (.int .i64 0)), (.lit (.int .i8 0))] [(0, (5, (.t 121)))]), zF 123 (.append 5 40 (.t 120) (.t 122)), zM 13 123]
def r94_14 : List yB := [zM 124 0, zM 125 2, zF 126 (.idxAddr none 5 (.t 124) (.t 125)), zF 127 (.load true 5 (.t 126)), zF 128 (.call false (.c (.fn 114 [])) [(.t 127)]), zM 129 128, zH 130 0 129 true, zH 131 3 129 true, zG 132 129 true (.idxAddr none 5 (.t 130) (.t 131)), zG 133 129 true (.load true 5 (.t 132)), zG 134 129 true (.call false (.c (.fn 114 [])) [(.t 133)]), zF 135 (.pick (.t 129) (.t 134) (.c (.lit (.bool false))))]
def r94_15 : List yB := [zM 136 13, zM 137 2, zM 138 3, zM 139 4, zF 140 (.build [(.lit (.int .i64 0)), (.lit (.int .i64 0)), (.lit (.int .i64 0)), (.lit (.int .i64 0)), (.lit (.int .i8 0))] [(0, (1, (.t 137))), (1, (1, (.t 138))), (2, (1, (zN 1))), (3, (1, (.t 139))), (4, (1, (.c (.lit (.int .i8 4)))))]), zF 141 (.buildSl 5 1 [(.lit (.int .i64 0)), (.lit (.int .i64 0)), (.lit (.int .i64 0)), (.lit (.int .i64 0)), (.lit (.int .i8 0))] [(0, (5, (.t 140)))]), zF 142 (.append 5 40 (.t 136) (.t 141)), zM 13 142]
def r94_16 : List yB := [zM 143 13, zM 12 143]
def ac94 : ACode := (.seq (.ops r94_0 []) (.seq (.ops r94_1 []) (.seq (.ops r94_2 []) (.seq (.seq (.ops r94_3 []) (.cond (.t 33) (.ops r94_4 []) .skip)) (.seq (.seq (.ops r94_5 []) (.cond (.t 49) (.ops r94_6 []) .skip)) (.seq (.seq (.ops r94_7 []) (.cond (.t 88) (.seq (.ops r94_8 []) (.seq (.block 0 (.seq (.ops r94_9 []) (.cond (.t 93) (.ops r94_10 []) (.seq (.ops r94_11 []) (.cond (.t 112) (.ops r94_12 []) .skip))))) (.ops r94_13 []))) .skip)) (.seq (.seq (.ops r94_14 []) (.cond (.t 135) (.ops r94_15 []) .skip)) (.seq (.ops r94_16 []) .ret))))))))
def re94 : List AOp := [(.mv (.t 12))]
theorem cf94 : cFn Try.prog 94 = some (144, ac94, re94) := by kernel_rfl
def r96_0 : List yB := [zF 8 (.mv (.c (.lit (.bool false))))]
def r96_1 : List yB := [zM 11 0, zF 12 (.nilchk (.t 11)), zF 13 (.fieldAddr 14 (.t 12)), zF 14 (.load false 1 (.t 13)), zM 15 2, zF 16 (.idxAddr none 1 (.t 14) (.t 15)), zF 17 (.load false 1 (.t 16)), zF 18 (.len none (.t 17)), zF 19 (.mv (zN 0))]
def r96_2 : List yB := [zF 20 (.bin .lss (.t 19) (.t 18))]
def r96_3 : List yB := [zF 21 (.idxAddr none 1 (.t 17) (.t 19)), zF 22 (.load false 1 (.t 21)), zM 10 22]
def r96_4 : List yB := [zM 23 3, zM 24 10, zF 25 (.nilchk (.t 23)), zF 26 (.idxAddr (some 32) 1 (.t 25) (.t 24)), zF 27 (.load false 1 (.t 26)), zM 28 1, zF 29 (.bin .add (.t 28) (zN 1)), zF 30 (.bin .eql (.t 27) (.t 29))]
def r96_5 : List yB := [zF 8 (.mv (.c (.lit (.bool true))))]
def r96_6 : List yB := [zF 31 (.bin .add (.t 19) (zN 1)), zM 19 31]
def l96_0 : ACode := (.seq (.ops r96_2 []) (.seq (.cond (.t 20) .skip (.exit 0)) (.seq (.block 1 (.seq (.ops r96_3 []) (.seq (.ops r96_4 []) (.cond (.t 30) (.seq (.ops r96_5 []) .ret) .skip)))) (.ops r96_6 []))))
def r96_7 : List yB := [zF 8 (.mv (.c (.lit (.bool false))))]
def ac96 : ACode := (.seq (.ops r96_0 []) (.seq (.seq (.ops r96_1 []) (.block 0 (.loop l96_0))) (.seq (.ops r96_7 []) .ret)))
def re96 : List AOp := [(.mv (.t 8))]
theorem cf96 : cFn Try.prog 96 = some (32, ac96, re96) := by kernel_rfl
def r97_0 : List yB := [zM 12 4, zF 13 (.len none (.t 12)), zF 14 (.mv (zN 0))]
def r97_1 : List yB := [zF 15 (.bin .lss (.t 14) (.t 13))]
def r97_2 : List yB := [zF 16 (.idxAddr none 5 (.t 12) (.t 14)), zF 17 (.load true 5 (.t 16)), zF 11 (.alloc [(.lit (.int .i64 0)), (.lit (.int .i64 0)), (.lit (.int .i64 0)), (.lit (.int .i64 0)), (.lit (.int .i8 0))]), ⟨none, (.store 5 (.t 11) (.t 17)), none⟩]
def r97_3 : List yB := [zM 18 1, zM 19 2, zM 20 3, zF 21 (.fieldAddr 0 (.t 11)), ⟨none, (.store 1 (.t 21) (.t 18)), none⟩, zF 22 (.fieldAddr 1 (.t 11)), ⟨none, (.store 1 (.t 22) (.t 19)), none⟩, zF 23 (.fieldAddr 3 (.t 11)), ⟨none, (.store 1 (.t 23) (.t 20)), none⟩]
def r97_4 : List yB := [zM 24 0, zM 25 0, zF 26 (.nilchk (.t 25)), zF 27 (.fieldAddr 16 (.t 26)), zF 28 (.load false 1 (.t 27)), zF 29 (.load true 5 (.t 11)), zF 30 (.buildSl 5 1 [(.lit (.int .i64 0)), (.lit (.int .i64 0)), (.lit (.int .i64 0)), (.lit (.int .i64 0)), (.lit (.int .i8 0))] [(0, (5, (.t 29)))]), zF 31 (.append 5 40 (.t 28) (.t 30)), zF 32 (.nilchk (.t 24)), zF 33 (.fieldAddr 16 (.t 32)), ⟨none, (.store 1 (.t 33) (.t 31)), none⟩]
def r97_5 : List yB := [zF 34 (.bin .add (.t 14) (zN 1)), zM 14 34]
def l97_0 : ACode := (.seq (.ops r97_1 []) (.seq (.cond (.t 15) .skip (.exit 0)) (.seq (.block 1 (.seq (.ops r97_2 []) (.seq (.ops r97_3 []) (.ops r97_4 [(27, 30)])))) (.ops r97_5 []))))
def ac97 : ACode := (.seq (.ops r97_0 []) (.block 0 (.loop l97_0)))
def re97 : List AOp := []
theorem cf97 : cFn Try.prog 97 = some (35, ac97, re97) := by kernel_rfl
def r98_0 : List yB := [zF 4 (.mv (zN 0))]
def r98_1 : List yB := [zM 8 0, zF 9 (.nilchk (.t 8)), zF 10 (.fieldAddr 0 (.t 9)), zF 11 (.load false 1 (.t 10)), zM 12 1, zF 13 (.idxAddr none 5 (.t 11) (.t 12)), zF 14 (.fieldAddr 0 (.t 13)), zF 15 (.load false 1 (.t 14)), zF 16 (.call false (.c (.fn 41 [])) [(.t 15)]), zM 7 16, zF 17 (.ext (.t 7) 0), zF 18 (.ext (.t 7) 1), zM 5 17, zM 6 18]
def r98_2 : List yB := [zM 19 0, zM 20 5, zF 21 (.nilchk (.t 19)), zF 22 (.fieldAddr 1 (.t 21)), zF 23 (.fieldAddr 4 (.t 22)), zF 24 (.idxAddr (some 4) 1 (.t 23) (.t 20)), zF 25 (.load false 1 (.t 24)), zM 4 25]
def ac98 : ACode := (.seq (.ops r98_0 []) (.seq (.ops r98_1 []) (.seq (.ops r98_2 []) .ret)))
def re98 : List AOp := [(.mv (.t 4))]
theorem cf98 : cFn Try.prog 98 = some (26, ac98, re98) := by kernel_rfl
def r99_0 : List yB := [zM 13 0, zF 14 (.nilchk (.t 13)), zF 15 (.fieldAddr 15 (.t 14)), zF 16 (.load false 1 (.t 15)), zM 17 2, zF 18 (.idxAddr none 1 (.t 16) (.t 17)), zF 19 (.load false 1 (.t 18)), zF 20 (.bin .geq (.t 19) (zN 0)), zM 21 20, zH 22 0 21 true, zH 23 1 21 true, zH 24 0 21 true, zG 25 21 true (.nilchk (.t 24)), zG 26 21 true (.fieldAddr 15 (.t 25)), zG 27 21 true (.load false 1 (.t 26)), zH 28 2 21 true, zG 29 21 true (.idxAddr none 1 (.t 27) (.t 28)), zG 30 21 true (.load false 1 (.t 29)), zG 31 21 true (.call false (.c (.fn 117 [])) [(.t 22), (.t 23), (.t 30)]), zF 32 (.pick (.t 21) (.t 31) (.c (.lit (.bool false))))]
def r99_1 : List yB := [zM 33 0, zM 34 1, zM 35 2, zM 36 3, zF 37 (.build [(.lit (.int .i64 0)), (.lit (.int .i64 0)), (.lit (.int .i64 0)), (.lit (.int .i64 0)), (.lit (.int .i8 0))] [(4, (1, (.c (.lit (.int .i8 1)))))]), zF 38 (.buildSl 5 1 [(.lit (.int .i64 0)), (.lit (.int .i64 0)), (.lit (.int .i64 0)), (.lit (.int .i64 0)), (.lit (.int .i8 0))] [(0, (5, (.t 37)))]), zF 39 (.call false (.c (.fn 97 [])) [(.t 33), (.t 34), (.t 35), (.t 36), (.t 38)])]
def r99_2 : List yB := [zM 40 0, zF 41 (.nilchk (.t 40)), zF 42 (.fieldAddr 15 (.t 41)), zF 43 (.load false 1 (.t 42)), zM 44 2, zF 45 (.idxAddr none 1 (.t 43) (.t 44)), zF 46 (.load false 1 (.t 45)), zF 47 (.bin .geq (.t 46) (zN 0)), zM 48 47, zH 49 0 48 true, zG 50 48 true (.nilchk (.t 49)), zG 51 48 true (.fieldAddr 15 (.t 50)), zG 52 48 true (.load false 1 (.t 51)), zH 53 1 48 true, zG 54 48 true (.idxAddr none 1 (.t 52) (.t 53)), zG 55 48 true (.load false 1 (.t 54)), zH 56 0 48 true, zG 57 48 true (.nilchk (.t 56)), zG 58 48 true (.fieldAddr 15 (.t 57)), zG 59 48 true (.load false 1 (.t 58)), zH 60 2 48 true, zG 61 48 true (.idxAddr none 1 (.t 59) (.t 60)), zG 62 48 true (.load false 1 (.t 61)), zG 63 48 true (.bin .eql (.t 55) (.t 62)), zF 64 (.pick (.t 48) (.t 63) (.c (.lit (.bool false))))]
def r99_3 : List yB := [zM 65 0, zM 66 1, zM 67 2, zM 68 3, zM 69 0, zM 70 1, zF 71 (.call false (.c (.fn 98 [])) [(.t 69), (.t 70)]), zM 72 0, zM 73 2, zF 74 (.call false (.c (.fn 98 [])) [(.t 72), (.t 73)]), zF 75 (.bin .sub (.t 71) (.t 74)), zF 76 (.bin .add (.t 75) (zN 1)), zF 77 (.maxs [(zN 0), (.t 76)]), zF 78 (.build [(.lit (.int .i64 0)), (.lit (.int .i64 0)), (.lit (.int .i64 0)), (.lit (.int .i64 0)), (.lit (.int .i8 0))] [(2, (1, (.t 77))), (4, (1, (.c (.lit (.int .i8 2)))))]), zF 79 (.buildSl 5 1 [(.lit (.int .i64 0)), (.lit (.int .i64 0)), (.lit (.int .i64 0)), (.lit (.int .i64 0)), (.lit (.int .i8 0))] [(0, (5, (.t 78)))]), zF 80 (.call false (.c (.fn 97 [])) [(.t 65), (.t 66), (.t 67), (.t 68), (.t 79)])]
def r99_4 : List yB := [zM 81 0, zF 82 (.nilchk (.t 81)), zF 83 (.fieldAddr 0 (.t 82)), zF 84 (.load false 1 (.t 83)), zM 85 1, zF 86 (.idxAddr none 5 (.t 84) (.t 85)), zF 87 (.fieldAddr 0 (.t 86)), zF 88 (.load false 1 (.t 87)), zF 89 (.bin .eql (.t 88) (.c (.lit (.int .i8 16)))), zM 90 0, zF 91 (.nilchk (.t 90)), zF 92 (.fieldAddr 0 (.t 91)), zF 93 (.load false 1 (.t 92)), zM 94 2, zF 95 (.idxAddr none 5 (.t 93) (.t 94)), zF 96 (.fieldAddr 0 (.t 95)), zF 97 (.load false 1 (.t 96)), zF 98 (.bin .eql (.t 97) (.c (.lit (.int .i8 16)))), zM 10 89, zM 11 98]
def r99_5 : List yB := [zM 99 4, zM 100 99, zH 101 10 100 true, zH 102 101 100 true, zH 103 11 102 false, zG 104 100 true (.pick (.t 102) (.c (.lit (.bool true))) (.t 103)), zF 105 (.pick (.t 100) (.t 104) (.c (.lit (.bool false))))]
def r99_6 : List yB := [zF 106 (.build [(.lit (.int .i64 0)), (.lit (.int .i64 0)), (.lit (.int .i64 0)), (.lit (.int .i64 0)), (.lit (.int .i8 0))] [(4, (1, (.c (.lit (.int .i8 3)))))]), zF 12 (.alloc [(.lit (.int .i64 0)), (.lit (.int .i64 0)), (.lit (.int .i64 0)), (.lit (.int .i64 0)), (.lit (.int .i8 0))]), ⟨none, (.store 5 (.t 12) (.t 106)), none⟩]
def r99_7 : List yB := [zM 108 10, zM 109 108, zH 110 11 109 true, zF 111 (.pick (.t 109) (.t 110) (.c (.lit (.bool false)))), zM 107 111]
def r99_8 : List yB := [zF 112 (.fieldAddr 2 (.t 12)), ⟨none, (.store 1 (.t 112) (zN 1)), none⟩]
def r99_9 : List yB := [zM 114 10, zM 113 114]
def r99_10 : List yB := [zM 115 0, zF 116 (.nilchk (.t 115)), zF 117 (.fieldAddr 1 (.t 116)), zF 118 (.fieldAddr 4 (.t 117)), zF 119 (.idxAddr (some 4) 1 (.t 118) (zN 2)), zF 120 (.load false 1 (.t 119)), zF 121 (.fieldAddr 2 (.t 12)), ⟨none, (.store 1 (.t 121) (.t 120)), none⟩]
def r99_11 : List yB := [zM 122 0, zM 123 1, zM 124 2, zM 125 3, zF 126 (.load true 5 (.t 12)), zF 127 (.buildSl 5 1 [(.lit (.int .i64 0)), (.lit (.int .i64 0)), (.lit (.int .i64 0)), (.lit (.int .i64 0)), (.lit (.int .i8 0))] [(0, (5, (.t 126)))]), zF 128 (.call false (.c (.fn 97 [])) [(.t 122), (.t 123), (.t 124), (.t 125), (.t 127)])]
def r99_12 : List yB := [zM 129 0, zF 130 (.nilchk (.t 129)), zF 131 (.fieldAddr 0 (.t 130)), zF 132 (.load false 1 (.t 131)), zM 133 1, zF 134 (.idxAddr none 5 (.t 132) (.t 133)), zF 135 (.load true 5 (.t 134)), zF 136 (.call false (.c (.fn 118 [])) [(.t 135)]), zM 137 136, zH 138 0 137 true, zG 139 137 true (.nilchk (.t 138)), zG 140 137 true (.fieldAddr 0 (.t 139)), zG 141 137 true (.load false 1 (.t 140)), zH 142 2 137 true, zG 143 137 true (.idxAddr none 5 (.t 141) (.t 142)), zG 144 137 true (.load true 5 (.t 143)), zG 145 137 true (.call false (.c (.fn 118 [])) [(.t 144)]), zF 146 (.pick (.t 137) (.t 145) (.c (.lit (.bool false))))]
def r99_13 : List yB := [zM 147 0, zM 148 1, zM 149 2, zM 150 3, zF 151 (.build [(.lit (.int .i64 0)), (.lit (.int .i64 0)), (.lit (.int .i64 0)), (.lit (.int .i64 0)), (.lit (.int .i8 0))] [(2, (1, (zN 1))), (4, (1, (.c (.lit (.int .i8 4)))))]), zF 152 (.buildSl 5 1 [(.lit (.int .i64 0)), (.lit (.int .i64 0)), (.lit (.int .i64 0)), (.lit (.int .i64 0)), (.lit (.int .i8 0))] [(0, (5, (.t 151)))]), zF 153 (.call false (.c (.fn 97 [])) [(.t 147), (.t 148), (.t 149), (.t 150), (.t 152)])]
def ac99 : ACode := (.seq (.seq (.ops r99_0 []) (.cond (.t 32) (.ops r99_1 []) .skip)) (.seq (.seq (.ops r99_2 []) (.cond (.t 64) (.ops r99_3 []) .skip)) (.seq (.ops r99_4 []) (.seq (.seq (.ops r99_5 []) (.cond (.t 105) (.seq (.ops r99_6 []) (.seq (.block 0 (.seq (.ops r99_7 []) (.cond (.t 107) (.ops r99_8 []) (.seq (.ops r99_9 []) (.cond (.t 113) (.ops r99_10 []) .skip))))) (.ops r99_11 []))) .skip)) (.seq (.ops r99_12 []) (.cond (.t 146) (.ops r99_13 []) .skip))))))
def re99 : List AOp := []
theorem cf99 : cFn Try.prog 99 = some (154, ac99, re99) := by kernel_rfl
def r100_0 : List yB := [zF 6 (.mv (.c (.lit (.bool false))))]
def r100_1 : List yB := [zM 7 1, zF 8 (.bin .leq (zN 0) (.t 7)), zM 9 8, zH 10 1 9 true, zH 11 2 9 true, zG 12 9 true (.bin .lss (.t 10) (.t 11)), zF 13 (.pick (.t 9) (.t 12) (.c (.lit (.bool false)))), zM 14 13, zH 15 2 14 true, zH 16 0 14 true, zG 17 14 true (.len none (.t 16)), zG 18 14 true (.bin .lss (.t 15) (.t 17)), zF 19 (.pick (.t 14) (.t 18) (.c (.lit (.bool false)))), zM 20 19, zH 21 0 20 true, zH 22 1 20 true, zH 23 2 20 true, zH 24 0 20 true, zH 25 1 20 true, zH 26 2 20 true, zG 27 20 true (.slice none 5 (.t 24) (some (.t 25)) (some (.t 26)) none), zG 28 20 true (.call false (.c (.fn 119 [])) [(.t 21), (.t 22), (.t 23), (.t 27)]), zF 29 (.pick (.t 20) (.t 28) (.c (.lit (.bool false)))), zM 6 29]
def ac100 : ACode := (.seq (.ops r100_0 []) (.seq (.ops r100_1 []) .ret))
def re100 : List AOp := [(.mv (.t 6))]
theorem cf100 : cFn Try.prog 100 = some (30, ac100, re100) := by kernel_rfl
def r101_0 : List yB := [zF 6 (.mv (.c (.lit (.bool false))))]
def r101_1 : List yB := [zM 7 1, zM 8 2, zF 9 (.mins [(.t 7), (.t 8)]), zF 10 (.bin .leq (zN 0) (.t 9)), zM 11 10, zH 12 1 11 true, zH 13 2 11 true, zG 14 11 true (.maxs [(.t 12), (.t 13)]), zH 15 0 11 true, zG 16 11 true (.len none (.t 15)), zG 17 11 true (.bin .lss (.t 14) (.t 16)), zF 18 (.pick (.t 11) (.t 17) (.c (.lit (.bool false)))), zM 19 18, zH 20 0 19 true, zH 21 1 19 true, zH 22 2 19 true, zH 23 0 19 true, zG 24 19 true (.call false (.c (.fn 119 [])) [(.t 20), (.t 21), (.t 22), (.t 23)]), zF 25 (.pick (.t 19) (.t 24) (.c (.lit (.bool false)))), zM 6 25]
def ac101 : ACode := (.seq (.ops r101_0 []) (.seq (.ops r101_1 []) .ret))
def re101 : List AOp := [(.mv (.t 6))]
theorem cf101 : cFn Try.prog 101 = some (26, ac101, re101) := by kernel_rfl
def r102_0 : List yB := [zF 6 (.mv (.c (.lit (.bool false))))]
def r102_1 : List yB := [zM 7 1, zM 8 2, zF 9 (.bin .lss (.t 7) (.t 8)), zM 10 9, zH 11 0 10 true, zH 12 1 10 true, zH 13 2 10 true, zG 14 10 true (.call false (.c (.fn 115 [])) [(.t 11), (.t 12), (.t 13)]), zF 15 (.pick (.t 10) (.t 14) (.c (.lit (.bool false)))), zM 16 15, zH 17 0 16 true, zH 18 1 16 true, zH 19 2 16 true, zH 20 1 16 true, zH 21 2 16 true, zG 22 16 true (.call false (.c (.fn 116 [])) [(.t 17), (.t 18), (.t 19), (.t 20), (.t 21)]), zG 23 16 true (.un .not (.t 22)), zF 24 (.pick (.t 16) (.t 23) (.c (.lit (.bool false)))), zM 6 24]
def ac102 : ACode := (.seq (.ops r102_0 []) (.seq (.ops r102_1 []) .ret))
def re102 : List AOp := [(.mv (.t 6))]
theorem cf102 : cFn Try.prog 102 = some (25, ac102, re102) := by kernel_rfl
def r105_0 : List yB := [⟨(some 0), (.alloc [(.lit (.string ⟨#[]⟩)), (.lit (.int .i8 0)), (.lit (.bool false)), (.lit (.bool false)), (.lit (.bool false)), (.lit (.bool false)), (.lit (.bool false)), (.lit (.bool false)), (.lit (.string ⟨#[]⟩)), (.lit (.int .i8 0)), (.lit (.bool false)), (.lit (.bool false)), (.lit (.bool false)), (.lit (.bool false)), (.lit (.bool false)), (.lit (.bool false)), (.lit (.string ⟨#[]⟩)), (.lit (.int .i8 0)), (.lit (.bool false)), (.lit (.bool false)), (.lit (.bool false)), (.lit (.bool false)), (.lit (.bool false)), (.lit (.bool false)), (.lit (.string ⟨#[]⟩)), (.lit (.int .i8 0)), (.lit (.bool false)), (.lit (.bool false)), (.lit (.bool false)), (.lit (.bool false)), (.lit (.bool false)), (.lit (.bool false)), (.lit (.string ⟨#[]⟩)), (.lit (.int .i8 0)), (.lit (.bool false)), (.lit (.bool false)), (.lit (.bool false)), (.lit (.bool false)), (.lit (.bool false)), (.lit (.bool false)), (.lit (.string ⟨#[]⟩)), (.lit (.int .i8 0)), (.lit (.bool false)), (.lit (.bool false)), (.lit (.bool false)), (.lit (.bool false)), (.lit (.bool false)), (.lit (.bool false)), (.lit (.string ⟨#[]⟩)), (.lit (.int .i8 0)), (.lit (.bool false)), (.lit (.bool false)), (.lit (.bool false)), (.lit (.bool false)), (.lit (.bool false)), (.lit (.bool false)), (.lit (.string ⟨#[]⟩)), (.lit (.int .i8 0)), (.lit (.bool false)), (.lit (.bool false)), (.lit (.bool false)), (.lit (.bool false)), (.lit (.bool false)), (.lit (.bool false)), (.lit (.string ⟨#[]⟩)), (.lit (.int .i8 0)), (.lit (.bool false)), (.lit (.bool false)), (.lit (.bool false)), (.lit (.bool false)), (.lit (.bool false)), (.lit (.bool false)), (.lit (.string ⟨#[]⟩)), (.lit (.int .i8 0)), (.lit (.bool false)), (.lit (.bool false)), (.lit (.bool false)), (.lit (.bool false)), (.lit (.bool false)), (.lit (.bool false)), (.lit (.string ⟨#[]⟩)), (.lit (.int .i8 0)), (.lit (.bool false)), (.lit (.bool false)), (.lit (.bool false)), (.lit (.bool false)), (.lit (.bool false)), (.lit (.bool false)), (.lit (.string ⟨#[]⟩)), (.lit (.int .i8 0)), (.lit (.bool false)), (.lit (.bool false)), (.lit (.bool false)), (.lit (.bool false)), (.lit (.bool false)), (.lit (.bool false)), (.lit (.string ⟨#[]⟩)), (.lit (.int .i8 0)), (.lit (.bool false)), (.lit (.bool false)), (.lit (.bool false)), (.lit (.bool false)), (.lit (.bool false)), (.lit (.bool false)), (.lit (.string ⟨#[]⟩)), (.lit (.int .i8 0)), (.lit (.bool false)), (.lit (.bool false)), (.lit (.bool false)), (.lit (.bool false)), (.lit (.bool false)), (.lit (.bool false)), (.lit (.string ⟨#[]⟩)), (.lit (.int .i8 0)), (.lit (.bool false)), (.lit (.bool false)), (.lit (.bool false)), (.lit (.bool false)), (.lit (.bool false)), (.lit (.bool false)), (.lit (.string ⟨#[]⟩)), (.lit (.int .i8 0)), (.lit (.bool false)), (.lit (.bool false)), (.lit (.bool false)), (.lit (.bool false)), (.lit (.bool false)), (.lit (.bool false)), (.lit (.string ⟨#[]⟩)), (.lit (.int .i8 0)), (.lit (.bool false)), (.lit (.bool false)), (.lit (.bool false)), (.lit (.bool false)), (.lit (.bool false)), (.lit (.bool false)), (.lit (.string ⟨#[]⟩)), (.lit (.int .i8 0)), (.lit (.bool false)), (.lit (.bool false)), (.lit (.bool false)), (.lit (.bool false)), (.lit (.bool false)), (.lit (.bool false)), (.lit (.string ⟨#[]⟩)), (.lit (.int .i8 0)), (.lit (.bool false)), (.lit (.bool false)), (.lit (.bool false)), (.lit (.bool false)), (.lit (.bool false)), (.lit (.bool false)), (.lit (.string ⟨#[]⟩)), (.lit (.int .i8 0)), (.lit (.bool false)), (.lit (.bool false)), (.lit (.bool false)), (.lit (.bool false)), (.lit (.bool false)), (.lit (.bool false)), (.lit (.string ⟨#[]⟩)), (.lit (.int .i8 0)), (.lit (.bool false)), (.lit (.bool false)), (.lit (.bool false)), (.lit (.bool false)), (.lit (.bool false)), (.lit (.bool false)), (.lit (.string ⟨#[]⟩)), (.lit (.int .i8 0)), (.lit (.bool false)), (.lit (.bool false)), (.lit (.bool false)), (.lit (.bool false)), (.lit (.bool false)), (.lit (.bool false)), (.lit (.string ⟨#[]⟩)), (.lit (.int .i8 0)), (.lit (.bool false)), (.lit (.bool false)), (.lit (.bool false)), (.lit (.bool false)), (.lit (.bool false)), (.lit (.bool false)), (.lit (.string ⟨#[]⟩)), (.lit (.int .i8 0)), (.lit (.bool false)), (.lit (.bool false)), (.lit (.bool false)), (.lit (.bool false)), (.lit (.bool false)), (.lit (.bool false))]), none⟩]
def r105_1 : List yB := [zF 1 (.mv (.c (.fn 121 [])))]
def r105_2 : List yB := [⟨(some 2), (.build [(.lit (.string ⟨#[]⟩)), (.lit (.int .i8 0)), (.lit (.bool false)), (.lit (.bool false)), (.lit (.bool false)), (.lit (.bool false)), (.lit (.bool false)), (.lit (.bool false))] [(0, (1, (.c (.lit (.string ⟨#[110, 111, 112]⟩))))), (1, (1, (.c (.lit (.int .i8 (-1)))))), (7, (1, (.c (.lit (.bool true)))))]), none⟩, ⟨(some 3), (.build [(.lit (.string ⟨#[]⟩)), (.lit (.int .i8 0)), (.lit (.bool false)), (.lit (.bool false)), (.lit (.bool false)), (.lit (.bool false)), (.lit (.bool false)), (.lit (.bool false))] [(0, (1, (.c (.lit (.string ⟨#[99, 111, 110, 115, 116]⟩))))), (1, (1, (.c (.lit (.int .i8 0))))), (2, (1, (.c (.lit (.bool true))))), (3, (1, (.c (.lit (.bool false))))), (4, (1, (.c (.lit (.bool false))))), (5, (1, (.c (.lit (.bool false))))), (6, (1, (.c (.lit (.bool true))))), (7, (1, (.c (.lit (.bool true)))))]), none⟩, zM 4 1, ⟨(some 5), (.call false (.t 4) [(.c (.lit (.string ⟨#[97, 100, 100]⟩))), (.c (.lit (.int .i8 0)))]), none⟩, zM 6 1, ⟨(some 7), (.call false (.t 6) [(.c (.lit (.string ⟨#[115, 117, 98]⟩))), (.c (.lit (.int .i8 0)))]), none⟩, zM 8 1, ⟨(some 9), (.call false (.t 8) [(.c (.lit (.string ⟨#[97, 110, 100]⟩))), (.c (.lit (.int .i8 0)))]), none⟩, zM 10 1, ⟨(some 11), (.call false (.t 10) [(.c (.lit (.string ⟨#[111, 114]⟩))), (.c (.lit (.int .i8 0)))]), none⟩, zM 12 1, ⟨(some 13), (.call false (.t 12) [(.c (.lit (.string ⟨#[120, 111, 114]⟩))), (.c (.lit (.int .i8 0)))]), none⟩, zM 14 1, ⟨(some 15), (.call false (.t 14) [(.c (.lit (.string ⟨#[115, 104, 108]⟩))), (.c (.lit (.int .i8 0)))]), none⟩, zM 16 1, ⟨(some 17), (.call false (.t 16) [(.c (.lit (.string ⟨#[115, 104, 114]⟩))), (.c (.lit (.int .i8 0)))]), none⟩, zM 18 1, ⟨(some 19), (.call false (.t 18) [(.c (.lit (.string ⟨#[108, 101, 115, 115]⟩))), (.c (.lit (.int .i8 0)))]), none⟩, zM 20 1, ⟨(some 21), (.call false (.t 20) [(.c (.lit (.string ⟨#[101, 113, 117, 97, 108]⟩))), (.c (.lit (.int .i8 0)))]), none⟩, ⟨(some 22), (.build [(.lit (.string ⟨#[]⟩)), (.lit (.int .i8 0)), (.lit (.bool false)), (.lit (.bool false)), (.lit (.bool false)), (.lit (.bool false)), (.lit (.bool false)), (.lit (.bool false))] [(0, (1, (.c (.lit (.string ⟨#[109, 111, 118, 101]⟩))))), (1, (1, (.c (.lit (.int .i8 0))))), (2, (1, (.c (.lit (.bool true))))), (3, (1, (.c (.lit (.bool true))))), (4, (1, (.c (.lit (.bool false))))), (5, (1, (.c (.lit (.bool false))))), (6, (1, (.c (.lit (.bool false))))), (7, (1, (.c (.lit (.bool true)))))]), none⟩, zM 23 1, ⟨(some 24), (.call false (.t 23) [(.c (.lit (.string ⟨#[116, 105, 109, 101, 115]⟩))), (.c (.lit (.int .i8 1)))]), none⟩, zM 25 1, ⟨(some 26), (.call false (.t 25) [(.c (.lit (.string ⟨#[100, 105, 118, 105, 100, 101]⟩))), (.c (.lit (.int .i8 1)))]), none⟩, zM 27 1, ⟨(some 28), (.call false (.t 27) [(.c (.lit (.string ⟨#[114, 101, 115, 116]⟩))), (.c (.lit (.int .i8 1)))]), none⟩, ⟨(some 29), (.build [(.lit (.string ⟨#[]⟩)), (.lit (.int .i8 0)), (.lit (.bool false)), (.lit (.bool false)), (.lit (.bool false)), (.lit (.bool false)), (.lit (.bool false)), (.lit (.bool false))] [(0, (1, (.c (.lit (.string ⟨#[108, 111, 97, 100]⟩))))), (1, (1, (.c (.lit (.int .i8 2))))), (2, (1, (.c (.lit (.bool true))))), (3, (1, (.c (.lit (.bool true))))), (4, (1, (.c (.lit (.bool false))))), (5, (1, (.c (.lit (.bool false))))), (6, (1, (.c (.lit (.bool true))))), (7, (1, (.c (.lit (.bool true)))))]), none⟩, ⟨(some 30), (.build [(.lit (.string ⟨#[]⟩)), (.lit (.int .i8 0)), (.lit (.bool false)), (.lit (.bool false)), (.lit (.bool false)), (.lit (.bool false)), (.lit (.bool false)), (.lit (.bool false))] [(0, (1, (.c (.lit (.string ⟨#[115, 116, 111, 114, 101]⟩))))), (1, (1, (.c (.lit (.int .i8 2))))), (2, (1, (.c (.lit (.bool false))))), (3, (1, (.c (.lit (.bool true))))), (4, (1, (.c (.lit (.bool true))))), (5, (1, (.c (.lit (.bool false))))), (6, (1, (.c (.lit (.bool true))))), (7, (1, (.c (.lit (.bool true)))))]), none⟩, ⟨(some 31), (.build [(.lit (.string ⟨#[]⟩)), (.lit (.int .i8 0)), (.lit (.bool false)), (.lit (.bool false)), (.lit (.bool false)), (.lit (.bool false)), (.lit (.bool false)), (.lit (.bool false))] [(0, (1, (.c (.lit (.string ⟨#[112, 114, 105, 110, 116]⟩))))), (1, (1, (.c (.lit (.int .i8 2))))), (2, (1, (.c (.lit (.bool false))))), (3, (1, (.c (.lit (.bool true))))), (4, (1, (.c (.lit (.bool false))))), (5, (1, (.c (.lit (.bool false))))), (6, (1, (.c (.lit (.bool false))))), (7, (1, (.c (.lit (.bool true)))))]), none⟩, ⟨(some 32), (.build [(.lit (.string ⟨#[]⟩)), (.lit (.int .i8 0)), (.lit (.bool false)), (.lit (.bool false)), (.lit (.bool false)), (.lit (.bool false)), (.lit (.bool false)), (.lit (.bool false))] [(0, (1, (.c (.lit (.string ⟨#[106, 117, 109, 112]⟩))))), (1, (1, (.c (.lit (.int .i8 3))))), (2, (1, (.c (.lit (.bool false))))), (3, (1, (.c (.lit (.bool false))))), (4, (1, (.c (.lit (.bool false))))), (5, (1, (.c (.lit (.bool false))))), (6, (1, (.c (.lit (.bool true))))), (7, (1, (.c (.lit (.bool true)))))]), none⟩, ⟨(some 33), (.build [(.lit (.string ⟨#[]⟩)), (.lit (.int .i8 0)), (.lit (.bool false)), (.lit (.bool false)), (.lit (.bool false)), (.lit (.bool false)), (.lit (.bool false)), (.lit (.bool false))] [(0, (1, (.c (.lit (.string ⟨#[98, 114, 97, 110, 99, 104]⟩))))), (1, (1, (.c (.lit (.int .i8 3))))), (2, (1, (.c (.lit (.bool false))))), (3, (1, (.c (.lit (.bool true))))), (4, (1, (.c (.lit (.bool false))))), (5, (1, (.c (.lit (.bool false))))), (6, (1, (.c (.lit (.bool true))))), (7, (1, (.c (.lit (.bool true)))))]), none⟩, ⟨(some 34), (.build [(.lit (.string ⟨#[]⟩)), (.lit (.int .i8 0)), (.lit (.bool false)), (.lit (.bool false)), (.lit (.bool false)), (.lit (.bool false)), (.lit (.bool false)), (.lit (.bool false))] [(0, (1, (.c (.lit (.string ⟨#[104, 97, 108, 116]⟩))))), (1, (1, (.c (.lit (.int .i8 3))))), (2, (1, (.c (.lit (.bool false))))), (3, (1, (.c (.lit (.bool true))))), (4, (1, (.c (.lit (.bool false))))), (5, (1, (.c (.lit (.bool false))))), (6, (1, (.c (.lit (.bool false))))), (7, (1, (.c (.lit (.bool true)))))]), none⟩, ⟨(some 35), (.build [(.lit (.string ⟨#[]⟩)), (.lit (.int .i8 0)), (.lit (.bool false)), (.lit (.bool false)), (.lit (.bool false)), (.lit (.bool false)), (.lit (.bool false)), (.lit (.bool false))] [(0, (1, (.c (.lit (.string ⟨#[99, 111, 117, 110, 116]⟩))))), (1, (1, (.c (.lit (.int .i8 3))))), (2, (1, (.c (.lit (.bool false))))), (3, (1, (.c (.lit (.bool true))))), (4, (1, (.c (.lit (.bool false))))), (5, (1, (.c (.lit (.bool false))))), (6, (1, (.c (.lit (.bool true))))), (7, (1, (.c (.lit (.bool true)))))]), none⟩, ⟨(some 36), (.build [(.lit (.string ⟨#[]⟩)), (.lit (.int .i8 0)), (.lit (.bool false)), (.lit (.bool false)), (.lit (.bool false)), (.lit (.bool false)), (.lit (.bool false)), (.lit (.bool false))] [(0, (1, (.c (.lit (.string ⟨#[115, 104, 111, 114, 116]⟩))))), (1, (1, (.c (.lit (.int .i8 3))))), (2, (1, (.c (.lit (.bool false))))), (3, (1, (.c (.lit (.bool true))))), (4, (1, (.c (.lit (.bool false))))), (5, (1, (.c (.lit (.bool true))))), (6, (1, (.c (.lit (.bool true))))), (7, (1, (.c (.lit (.bool true)))))]), none⟩, ⟨(some 37), (.build [(.lit (.string ⟨#[]⟩)), (.lit (.int .i8 0)), (.lit (.bool false)), (.lit (.bool false)), (.lit (.bool false)), (.lit (.bool false)), (.lit (.bool false)), (.lit (.bool false))] [(0, (1, (.c (.lit (.string ⟨#[97, 103, 97, 105, 110]⟩))))), (1, (1, (.c (.lit (.int .i8 3))))), (2, (1, (.c (.lit (.bool false))))), (3, (1, (.c (.lit (.bool false))))), (4, (1, (.c (.lit (.bool false))))), (5, (1, (.c (.lit (.bool false))))), (6, (1, (.c (.lit (.bool true))))), (7, (1, (.c (.lit (.bool true)))))]), none⟩, ⟨(some 38), (.build [(.lit (.string ⟨#[]⟩)), (.lit (.int .i8 0)), (.lit (.bool false)), (.lit (.bool false)), (.lit (.bool false)), (.lit (.bool false)), (.lit (.bool false)), (.lit (.bool false)), (.lit (.string ⟨#[]⟩)), (.lit (.int .i8 0)), (.lit (.bool false)), (.lit (.bool false)), (.lit (.bool false)), (.lit (.bool false)), (.lit (.bool false)), (.lit (.bool false)), (.lit (.string ⟨#[]⟩)), (.lit (.int .i8 0)), (.lit (.bool false)), (.lit (.bool false)), (.lit (.bool false)), (.lit (.bool false)), (.lit (.bool false)), (.lit (.bool false)), (.lit (.string ⟨#[]⟩)), (.lit (.int .i8 0)), (.lit (.bool false)), (.lit (.bool false)), (.lit (.bool false)), (.lit (.bool false)), (.lit (.bool false)), (.lit (.bool false)), (.lit (.string ⟨#[]⟩)), (.lit (.int .i8 0)), (.lit (.bool false)), (.lit (.bool false)), (.lit (.bool false)), (.lit (.bool false)), (.lit (.bool false)), (.lit (.bool false)), (.lit (.string ⟨#[]⟩)), (.lit (.int .i8 0)), (.lit (.bool false)), (.lit (.bool false)), (.lit (.bool false)), (.lit (.bool false)), (.lit (.bool false)), (.lit (.bool false)), (.lit (.string ⟨#[]⟩)), (.lit (.int .i8 0)), (.lit (.bool false)), (.lit (.bool false)), (.lit (.bool false)), (.lit (.bool false)), (.lit (.bool false)), (.lit (.bool false)), (.lit (.string ⟨#[]⟩)), (.lit (.int .i8 0)), (.lit (.bool false)), (.lit (.bool false)), (.lit (.bool false)), (.lit (.bool false)), (.lit (.bool false)), (.lit (.bool false)), (.lit (.string ⟨#[]⟩)), (.lit (.int .i8 0)), (.lit (.bool false)), (.lit (.bool false)), (.lit (.bool false)), (.lit (.bool false)), (.lit (.bool false)), (.lit (.bool false)), (.lit (.string ⟨#[]⟩)), (.lit (.int .i8 0)), (.lit (.bool false)), (.lit (.bool false)), (.lit (.bool false)), (.lit (.bool false)), (.lit (.bool false)), (.lit (.bool false)), (.lit (.string ⟨#[]⟩)), (.lit (.int .i8 0)), (.lit (.bool false)), (.lit (.bool false)), (.lit (.bool false)), (.lit (.bool false)), (.lit (.bool false)), (.lit (.bool false)), (.lit (.string ⟨#[]⟩)), (.lit (.int .i8 0)), (.lit (.bool false)), (.lit (.bool false)), (.lit (.bool false)), (.lit (.bool false)), (.lit (.bool false)), (.lit (.bool false)), (.lit (.string ⟨#[]⟩)), (.lit (.int .i8 0)), (.lit (.bool false)), (.lit (.bool false)), (.lit (.bool false)), (.lit (.bool false)), (.lit (.bool false)), (.lit (.bool false)), (.lit (.string ⟨#[]⟩)), (.lit (.int .i8 0)), (.lit (.bool false)), (.lit (.bool false)), (.lit (.bool false)), (.lit (.bool false)), (.lit (.bool false)), (.lit (.bool false)), (.lit (.string ⟨#[]⟩)), (.lit (.int .i8 0)), (.lit (.bool false)), (.lit (.bool false)), (.lit (.bool false)), (.lit (.bool false)), (.lit (.bool false)), (.lit (.bool false)), (.lit (.string ⟨#[]⟩)), (.lit (.int .i8 0)), (.lit (.bool false)), (.lit (.bool false)), (.lit (.bool false)), (.lit (.bool false)), (.lit (.bool false)), (.lit (.bool false)), (.lit (.string ⟨#[]⟩)), (.lit (.int .i8 0)), (.lit (.bool false)), (.lit (.bool false)), (.lit (.bool false)), (.lit (.bool false)), (.lit (.bool false)), (.lit (.bool false)), (.lit (.string ⟨#[]⟩)), (.lit (.int .i8 0)), (.lit (.bool false)), (.lit (.bool false)), (.lit (.bool false)), (.lit (.bool false)), (.lit (.bool false)), (.lit (.bool false)), (.lit (.string ⟨#[]⟩)), (.lit (.int .i8 0)), (.lit (.bool false)), (.lit (.bool false)), (.lit (.bool false)), (.lit (.bool false)), (.lit (.bool false)), (.lit (.bool false)), (.lit (.string ⟨#[]⟩)), (.lit (.int .i8 0)), (.lit (.bool false)), (.lit (.bool false)), (.lit (.bool false)), (.lit (.bool false)), (.lit (.bool false)), (.lit (.bool false)), (.lit (.string ⟨#[]⟩)), (.lit (.int .i8 0)), (.lit (.bool false)), (.lit (.bool false)), (.lit (.bool false)), (.lit (.bool false)), (.lit (.bool false)), (.lit (.bool false)), (.lit (.string ⟨#[]⟩)), (.lit (.int .i8 0)), (.lit (.bool false)), (.lit (.bool false)), (.lit (.bool false)), (.lit (.bool false)), (.lit (.bool false)), (.lit (.bool false)), (.lit (.string ⟨#[]⟩)), (.lit (.int .i8 0)), (.lit (.bool false)), (.lit (.bool false)), (.lit (.bool false)), (.lit (.bool false)), (.lit (.bool false)), (.lit (.bool false)), (.lit (.string ⟨#[]⟩)), (.lit (.int .i8 0)), (.lit (.bool false)), (.lit (.bool false)), (.lit (.bool false)), (.lit (.bool false)), (.lit (.bool false)), (.lit (.bool false))] [(0, (8, (.t 2))), (8, (8, (.t 3))), (16, (8, (.t 5))), (24, (8, (.t 7))), (32, (8, (.t 9))), (40, (8, (.t 11))), (48, (8, (.t 13))), (56, (8, (.t 15))), (64, (8, (.t 17))), (72, (8, (.t 19))), (80, (8, (.t 21))), (88, (8, (.t 22))), (96, (8, (.t 24))), (104, (8, (.t 26))), (112, (8, (.t 28))), (120, (8, (.t 29))), (128, (8, (.t 30))), (136, (8, (.t 31))), (144, (8, (.t 32))), (152, (8, (.t 33))), (160, (8, (.t 34))), (168, (8, (.t 35))), (176, (8, (.t 36))), (184, (8, (.t 37)))]), none⟩, ⟨none, (.store 192 (.t 0) (.t 38)), none⟩]
def ac105 : ACode := (.seq (.ops r105_0 []) (.seq (.ops r105_1 []) (.seq (.ops r105_2 []) .ret)))
def re105 : List AOp := [(.load true 192 (.t 0))]
theorem cf105 : cFn Try.prog 105 = some (39, ac105, re105) := by kernel_rfl
def r109_0 : List yB := [⟨(some 2), (.alloc [(.lit (.string ⟨#[]⟩)), (.lit (.int .i64 0)), (.lit (.bool false)), (.lit (.bool false)), (.lit (.bool false)), (.lit (.bool false)), (.lit (.bool false))]), none⟩, zF 3 (.mv (.c (.lit (.bool false))))]
def r109_1 : List yB := [zM 4 0]
def r109_2 : List yB := [zF 6 (.bin .eql (.t 4) (.c (.lit (.int .i8 18)))), zM 5 6]
def r109_3 : List yB := [⟨(some 7), (.build [(.lit (.string ⟨#[]⟩)), (.lit (.int .i64 0)), (.lit (.bool false)), (.lit (.bool false)), (.lit (.bool false)), (.lit (.bool false)), (.lit (.bool false))] [(0, (1, (.c (.lit (.string ⟨#[106, 117, 109, 112]⟩))))), (1, (1, (zN 3))), (6, (1, (.c (.lit (.bool true)))))]), none⟩, ⟨none, (.store 7 (.t 2) (.t 7)), none⟩, zF 3 (.mv (.c (.lit (.bool true))))]
def r109_4 : List yB := [zF 9 (.bin .eql (.t 4) (.c (.lit (.int .i8 19)))), zM 8 9]
def r109_5 : List yB := [⟨(some 10), (.build [(.lit (.string ⟨#[]⟩)), (.lit (.int .i64 0)), (.lit (.bool false)), (.lit (.bool false)), (.lit (.bool false)), (.lit (.bool false)), (.lit (.bool false))] [(0, (1, (.c (.lit (.string ⟨#[98, 114, 97, 110, 99, 104]⟩))))), (1, (1, (zN 3))), (3, (1, (.c (.lit (.bool true))))), (6, (1, (.c (.lit (.bool true)))))]), none⟩, ⟨none, (.store 7 (.t 2) (.t 10)), none⟩, zF 3 (.mv (.c (.lit (.bool true))))]
def r109_6 : List yB := [zF 12 (.bin .eql (.t 4) (.c (.lit (.int .i8 20)))), zM 11 12]
def r109_7 : List yB := [⟨(some 13), (.build [(.lit (.string ⟨#[]⟩)), (.lit (.int .i64 0)), (.lit (.bool false)), (.lit (.bool false)), (.lit (.bool false)), (.lit (.bool false)), (.lit (.bool false))] [(0, (1, (.c (.lit (.string ⟨#[104, 97, 108, 116]⟩))))), (1, (1, (zN 3))), (3, (1, (.c (.lit (.bool true)))))]), none⟩, ⟨none, (.store 7 (.t 2) (.t 13)), none⟩, zF 3 (.mv (.c (.lit (.bool true))))]
def r109_8 : List yB := [zF 15 (.bin .eql (.t 4) (.c (.lit (.int .i8 21)))), zM 14 15]
def r109_9 : List yB := [⟨(some 16), (.build [(.lit (.string ⟨#[]⟩)), (.lit (.int .i64 0)), (.lit (.bool false)), (.lit (.bool false)), (.lit (.bool false)), (.lit (.bool false)), (.lit (.bool false))] [(0, (1, (.c (.lit (.string ⟨#[99, 111, 117, 110, 116]⟩))))), (1, (1, (zN 3))), (3, (1, (.c (.lit (.bool true))))), (6, (1, (.c (.lit (.bool true)))))]), none⟩, ⟨none, (.store 7 (.t 2) (.t 16)), none⟩, zF 3 (.mv (.c (.lit (.bool true))))]
def r109_10 : List yB := [zF 18 (.bin .eql (.t 4) (.c (.lit (.int .i8 22)))), zM 17 18]
def r109_11 : List yB := [⟨(some 19), (.build [(.lit (.string ⟨#[]⟩)), (.lit (.int .i64 0)), (.lit (.bool false)), (.lit (.bool false)), (.lit (.bool false)), (.lit (.bool false)), (.lit (.bool false))] [(0, (1, (.c (.lit (.string ⟨#[115, 104, 111, 114, 116]⟩))))), (1, (1, (zN 3))), (3, (1, (.c (.lit (.bool true))))), (5, (1, (.c (.lit (.bool true))))), (6, (1, (.c (.lit (.bool true)))))]), none⟩, ⟨none, (.store 7 (.t 2) (.t 19)), none⟩, zF 3 (.mv (.c (.lit (.bool true))))]
def r109_12 : List yB := [zF 21 (.bin .eql (.t 4) (.c (.lit (.int .i8 23)))), zM 20 21]
def r109_13 : List yB := [⟨(some 22), (.build [(.lit (.string ⟨#[]⟩)), (.lit (.int .i64 0)), (.lit (.bool false)), (.lit (.bool false)), (.lit (.bool false)), (.lit (.bool false)), (.lit (.bool false))] [(0, (1, (.c (.lit (.string ⟨#[97, 103, 97, 105, 110]⟩))))), (1, (1, (zN 3))), (6, (1, (.c (.lit (.bool true)))))]), none⟩, ⟨none, (.store 7 (.t 2) (.t 22)), none⟩, zF 3 (.mv (.c (.lit (.bool true))))]
def r109_14 : List yB := [⟨(some 23), (.build [(.lit (.string ⟨#[]⟩)), (.lit (.int .i64 0)), (.lit (.bool false)), (.lit (.bool false)), (.lit (.bool false)), (.lit (.bool false)), (.lit (.bool false))] []), none⟩, ⟨none, (.store 7 (.t 2) (.t 23)), none⟩, zF 3 (.mv (.c (.lit (.bool false))))]
def ac109 : ACode := (.seq (.ops r109_0 []) (.seq (.seq (.ops r109_1 []) (.block 0 (.seq (.ops r109_2 []) (.cond (.t 5) (.seq (.ops r109_3 []) .ret) (.seq (.ops r109_4 []) (.cond (.t 8) (.seq (.ops r109_5 []) .ret) (.seq (.ops r109_6 []) (.cond (.t 11) (.seq (.ops r109_7 []) .ret) (.seq (.ops r109_8 []) (.cond (.t 14) (.seq (.ops r109_9 []) .ret) (.seq (.ops r109_10 []) (.cond (.t 17) (.seq (.ops r109_11 []) .ret) (.seq (.ops r109_12 []) (.cond (.t 20) (.seq (.ops r109_13 []) .ret) .skip)))))))))))))) (.seq (.ops r109_14 []) .ret)))
def re109 : List AOp := [(.load true 7 (.t 2)), (.mv (.t 3))]
theorem cf109 : cFn Try.prog 109 = some (24, ac109, re109) := by kernel_rfl
def r110_0 : List yB := [zF 4 (.mv (.c (.lit (.bool false))))]
def r110_1 : List yB := [zM 5 0, zF 6 (.conv .u64 (.t 5)), zM 7 1, zF 8 (.call false (.c (.fn 123 [])) [(.t 6), (.t 7)]), zM 9 0, zF 10 (.bin .eql (.t 8) (.t 9)), zM 4 10]
def ac110 : ACode := (.seq (.ops r110_0 []) (.seq (.ops r110_1 []) .ret))
def re110 : List AOp := [(.mv (.t 4))]
theorem cf110 : cFn Try.prog 110 = some (11, ac110, re110) := by kernel_rfl
def r111_0 : List yB := [zF 1 (.box (.t 0)), zF 2 (.mv (zN 0))]
def r111_1 : List yB := [zF 6 (.fieldAddr 0 (.t 1)), zF 7 (.load false 1 (.t 6)), zF 8 (.call false (.c (.fn 86 [])) [(.t 7)]), zM 5 8, zF 9 (.ext (.t 5) 0), zF 10 (.ext (.t 5) 1), ⟨(some 3), (.alloc [(.lit (.string ⟨#[]⟩)), (.lit (.int .i64 0)), (.lit (.bool false)), (.lit (.bool false)), (.lit (.bool false)), (.lit (.bool false)), (.lit (.bool false))]), none⟩, ⟨none, (.store 7 (.t 3) (.t 9)), none⟩, zM 4 10]
def r111_2 : List yB := [zM 11 4, zF 12 (.un .not (.t 11)), zM 13 12, zG 14 13 false (.fieldAddr 1 (.t 1)), zG 15 13 false (.load false 1 (.t 14)), zG 16 13 false (.bin .gtr (.t 15) (.c (.lit (.int .u8 31)))), zF 17 (.pick (.t 13) (.c (.lit (.bool true))) (.t 16)), zM 18 17, zG 19 18 false (.fieldAddr 2 (.t 1)), zG 20 18 false (.load false 1 (.t 19)), zG 21 18 false (.bin .gtr (.t 20) (.c (.lit (.int .u8 31)))), zF 22 (.pick (.t 18) (.c (.lit (.bool true))) (.t 21)), zM 23 22, zG 24 23 false (.fieldAddr 3 (.t 1)), zG 25 23 false (.load false 1 (.t 24)), zG 26 23 false (.bin .gtr (.t 25) (.c (.lit (.int .u8 31)))), zF 27 (.pick (.t 23) (.c (.lit (.bool true))) (.t 26)), zM 28 27, zG 29 28 false (.fieldAddr 4 (.t 1)), zG 30 28 false (.load false 1 (.t 29)), zG 31 28 false (.bin .lss (.t 30) (zN (-2147483648))), zF 32 (.pick (.t 28) (.c (.lit (.bool true))) (.t 31)), zM 33 32, zG 34 33 false (.fieldAddr 4 (.t 1)), zG 35 33 false (.load false 1 (.t 34)), zG 36 33 false (.bin .gtr (.t 35) (zN 2147483647)), zF 37 (.pick (.t 33) (.c (.lit (.bool true))) (.t 36))]
def r111_3 : List yB := [zF 2 (.mv (zN 30))]
def r111_4 : List yB := [zF 38 (.fieldAddr 2 (.t 3)), zF 39 (.load false 1 (.t 38)), zF 40 (.un .not (.t 39)), zM 41 40, zG 42 41 true (.fieldAddr 1 (.t 1)), zG 43 41 true (.load false 1 (.t 42)), zG 44 41 true (.bin .neq (.t 43) (.c (.lit (.int .u8 0)))), zF 45 (.pick (.t 41) (.t 44) (.c (.lit (.bool false)))), zM 46 45, zG 47 46 false (.fieldAddr 3 (.t 3)), zG 48 46 false (.load false 1 (.t 47)), zG 49 46 false (.un .not (.t 48)), zH 50 49 46 false, zG 51 50 true (.fieldAddr 2 (.t 1)), zG 52 50 true (.load false 1 (.t 51)), zG 53 50 true (.bin .neq (.t 52) (.c (.lit (.int .u8 0)))), zG 54 46 false (.pick (.t 50) (.t 53) (.c (.lit (.bool false)))), zF 55 (.pick (.t 46) (.c (.lit (.bool true))) (.t 54)), zM 56 55, zG 57 56 false (.fieldAddr 4 (.t 3)), zG 58 56 false (.load false 1 (.t 57)), zG 59 56 false (.un .not (.t 58)), zH 60 59 56 false, zG 61 60 true (.fieldAddr 5 (.t 3)), zG 62 60 true (.load false 1 (.t 61)), zG 63 60 true (.un .not (.t 62)), zG 64 56 false (.pick (.t 60) (.t 63) (.c (.lit (.bool false)))), zH 65 64 56 false, zG 66 65 true (.fieldAddr 3 (.t 1)), zG 67 65 true (.load false 1 (.t 66)), zG 68 65 true (.bin .neq (.t 67) (.c (.lit (.int .u8 0)))), zG 69 56 false (.pick (.t 65) (.t 68) (.c (.lit (.bool false)))), zF 70 (.pick (.t 56) (.c (.lit (.bool true))) (.t 69)), zM 71 70, zG 72 71 false (.fieldAddr 6 (.t 3)), zG 73 71 false (.load false 1 (.t 72)), zG 74 71 false (.un .not (.t 73)), zH 75 74 71 false, zG 76 75 true (.fieldAddr 4 (.t 1)), zG 77 75 true (.load false 1 (.t 76)), zG 78 75 true (.bin .neq (.t 77) (zN 0)), zG 79 71 false (.pick (.t 75) (.t 78) (.c (.lit (.bool false)))), zF 80 (.pick (.t 71) (.c (.lit (.bool true))) (.t 79))]
def r111_5 : List yB := [zF 2 (.mv (zN 30))]
def r111_6 : List yB := [zF 2 (.mv (zN 0))]
def ac111 : ACode := (.seq (.ops r111_0 []) (.seq (.ops r111_1 []) (.seq (.seq (.ops r111_2 []) (.cond (.t 37) (.seq (.ops r111_3 []) .ret) .skip)) (.seq (.seq (.ops r111_4 []) (.cond (.t 80) (.seq (.ops r111_5 []) .ret) .skip)) (.seq (.ops r111_6 []) .ret)))))
def re111 : List AOp := [(.mv (.t 2))]
theorem cf111 : cFn Try.prog 111 = some (81, ac111, re111) := by kernel_rfl
def r112_0 : List yB := [zF 6 (.mv (zN 0))]
def r112_1 : List yB := [zM 8 1, zF 9 (.bin .sub (.t 8) (zN 1)), zM 7 9]
def r112_2 : List yB := [zM 10 7, zF 11 (.bin .geq (.t 10) (zN 0))]
def r112_3 : List yB := [zM 14 0, zM 15 7, zF 16 (.idxAddr none 5 (.t 14) (.t 15)), zF 17 (.load true 5 (.t 16)), zM 18 2, zF 19 (.call false (.c (.fn 113 [])) [(.t 17), (.t 18)])]
def r112_4 : List yB := [zM 20 7, zM 6 20]
def r112_5 : List yB := [zM 12 7, zF 13 (.bin .sub (.t 12) (zN 1)), zM 7 13]
def l112_0 : ACode := (.seq (.seq (.ops r112_2 []) (.cond (.t 11) .skip (.exit 0))) (.seq (.block 1 (.seq (.ops r112_3 []) (.cond (.t 19) (.seq (.ops r112_4 []) .ret) .skip))) (.ops r112_5 [])))
def r112_6 : List yB := [zF 6 (.mv (zN (-1)))]
def ac112 : ACode := (.seq (.ops r112_0 []) (.seq (.seq (.ops r112_1 []) (.block 0 (.loop l112_0))) (.seq (.ops r112_6 []) .ret)))
def re112 : List AOp := [(.mv (.t 6))]
theorem cf112 : cFn Try.prog 112 = some (21, ac112, re112) := by kernel_rfl
def r113_0 : List yB := [zF 2 (.box (.t 0)), zF 4 (.mv (.c (.lit (.bool false))))]
def r113_1 : List yB := [zF 8 (.load true 5 (.t 2)), zF 9 (.call false (.c (.fn 88 [])) [(.t 8)]), zM 7 9, zF 10 (.ext (.t 7) 0), zF 11 (.ext (.t 7) 1), zM 5 10, zM 6 11]
def r113_2 : List yB := [zM 12 6, zM 13 12, zH 14 5 13 true, zH 15 1 13 true, zG 16 13 true (.bin .eql (.t 14) (.t 15)), zF 17 (.pick (.t 13) (.t 16) (.c (.lit (.bool false)))), zM 4 17]
def ac113 : ACode := (.seq (.ops r113_0 []) (.seq (.ops r113_1 []) (.seq (.ops r113_2 []) .ret)))
def re113 : List AOp := [(.mv (.t 4))]
theorem cf113 : cFn Try.prog 113 = some (18, ac113, re113) := by kernel_rfl
def r114_0 : List yB := [zF 1 (.box (.t 0)), zF 2 (.mv (.c (.lit (.bool false))))]
def r114_1 : List yB := [zF 3 (.fieldAddr 0 (.t 1)), zF 4 (.load false 1 (.t 3)), zF 5 (.bin .eql (.t 4) (.c (.lit (.int .i8 17)))), zM 6 5, zG 7 6 false (.fieldAddr 0 (.t 1)), zG 8 6 false (.load false 1 (.t 7)), zG 9 6 false (.bin .eql (.t 8) (.c (.lit (.int .i8 13)))), zF 10 (.pick (.t 6) (.c (.lit (.bool true))) (.t 9)), zM 11 10, zG 12 11 false (.fieldAddr 0 (.t 1)), zG 13 11 false (.load false 1 (.t 12)), zG 14 11 false (.bin .eql (.t 13) (.c (.lit (.int .i8 14)))), zF 15 (.pick (.t 11) (.c (.lit (.bool true))) (.t 14)), zM 2 15]
def ac114 : ACode := (.seq (.ops r114_0 []) (.seq (.ops r114_1 []) .ret))
def re114 : List AOp := [(.mv (.t 2))]
theorem cf114 : cFn Try.prog 114 = some (16, ac114, re114) := by kernel_rfl
def r115_0 : List yB := [zF 6 (.mv (.c (.lit (.bool false))))]
def r115_1 : List yB := [zM 10 1, zF 11 (.bin .lss (.t 10) (zN 0)), zM 12 11, zH 13 2 12 false, zG 14 12 false (.bin .lss (.t 13) (zN 0)), zF 15 (.pick (.t 12) (.c (.lit (.bool true))) (.t 14)), zM 16 15, zH 17 1 16 false, zH 18 0 16 false, zG 19 16 false (.len none (.t 18)), zG 20 16 false (.bin .geq (.t 17) (.t 19)), zF 21 (.pick (.t 16) (.c (.lit (.bool true))) (.t 20)), zM 22 21, zH 23 2 22 false, zH 24 0 22 false, zG 25 22 false (.len none (.t 24)), zG 26 22 false (.bin .geq (.t 23) (.t 25)), zF 27 (.pick (.t 22) (.c (.lit (.bool true))) (.t 26))]
def r115_2 : List yB := [zF 6 (.mv (.c (.lit (.bool false))))]
def r115_3 : List yB := [zM 28 0, zM 29 1, zF 30 (.idxAddr none 5 (.t 28) (.t 29)), zF 31 (.load true 5 (.t 30)), zF 7 (.alloc [(.lit (.int .i8 0)), (.lit (.int .u8 0)), (.lit (.int .u8 0)), (.lit (.int .u8 0)), (.lit (.int .i64 0))]), ⟨none, (.store 5 (.t 7) (.t 31)), none⟩]
def r115_4 : List yB := [zM 32 0, zM 33 2, zF 34 (.idxAddr none 5 (.t 32) (.t 33)), zF 35 (.load true 5 (.t 34)), zF 8 (.alloc [(.lit (.int .i8 0)), (.lit (.int .u8 0)), (.lit (.int .u8 0)), (.lit (.int .u8 0)), (.lit (.int .i64 0))]), ⟨none, (.store 5 (.t 8) (.t 35)), none⟩]
def r115_5 : List yB := [zF 36 (.load true 5 (.t 7)), zF 37 (.call false (.c (.fn 111 [])) [(.t 36)]), zF 38 (.bin .neq (.t 37) (zN 0)), zM 39 38, zG 40 39 false (.load true 5 (.t 8)), zG 41 39 false (.call false (.c (.fn 111 [])) [(.t 40)]), zG 42 39 false (.bin .neq (.t 41) (zN 0)), zF 43 (.pick (.t 39) (.c (.lit (.bool true))) (.t 42))]
def r115_6 : List yB := [zF 6 (.mv (.c (.lit (.bool false))))]
def r115_7 : List yB := [zF 44 (.fieldAddr 0 (.t 7)), zF 45 (.load false 1 (.t 44)), zF 46 (.bin .eql (.t 45) (.c (.lit (.int .i8 15)))), zM 47 46, zG 48 47 false (.fieldAddr 0 (.t 7)), zG 49 47 false (.load false 1 (.t 48)), zG 50 47 false (.bin .eql (.t 49) (.c (.lit (.int .i8 16)))), zF 51 (.pick (.t 47) (.c (.lit (.bool true))) (.t 50)), zM 52 51, zG 53 52 true (.fieldAddr 0 (.t 8)), zG 54 52 true (.load false 1 (.t 53)), zG 55 52 true (.bin .eql (.t 54) (.c (.lit (.int .i8 15)))), zH 56 55 52 true, zG 57 56 false (.fieldAddr 0 (.t 8)), zG 58 56 false (.load false 1 (.t 57)), zG 59 56 false (.bin .eql (.t 58) (.c (.lit (.int .i8 16)))), zG 60 52 true (.pick (.t 56) (.c (.lit (.bool true))) (.t 59)), zF 61 (.pick (.t 52) (.t 60) (.c (.lit (.bool false)))), zM 9 61]
def r115_8 : List yB := [zM 62 9, zM 63 62, zG 64 63 true (.fieldAddr 0 (.t 7)), zG 65 63 true (.load false 1 (.t 64)), zG 66 63 true (.bin .eql (.t 65) (.c (.lit (.int .i8 16)))), zH 67 66 63 true, zG 68 67 false (.fieldAddr 0 (.t 8)), zG 69 67 false (.load false 1 (.t 68)), zG 70 67 false (.bin .eql (.t 69) (.c (.lit (.int .i8 16)))), zG 71 63 true (.pick (.t 67) (.c (.lit (.bool true))) (.t 70)), zF 72 (.pick (.t 63) (.t 71) (.c (.lit (.bool false)))), zM 6 72]
def ac115 : ACode := (.seq (.ops r115_0 []) (.seq (.seq (.ops r115_1 []) (.cond (.t 27) (.seq (.ops r115_2 []) .ret) .skip)) (.seq (.ops r115_3 []) (.seq (.ops r115_4 []) (.seq (.seq (.ops r115_5 []) (.cond (.t 43) (.seq (.ops r115_6 []) .ret) .skip)) (.seq (.ops r115_7 []) (.seq (.ops r115_8 []) .ret)))))))
def re115 : List AOp := [(.mv (.t 6))]
theorem cf115 : cFn Try.prog 115 = some (73, ac115, re115) := by kernel_rfl
def r116_0 : List yB := [zF 10 (.mv (.c (.lit (.bool false))))]
def r116_1 : List yB := [zM 14 0, zM 15 1, zF 16 (.idxAddr none 5 (.t 14) (.t 15)), zF 17 (.fieldAddr 2 (.t 16)), zF 18 (.load false 1 (.t 17)), zM 19 0, zM 20 2, zF 21 (.idxAddr none 5 (.t 19) (.t 20)), zF 22 (.fieldAddr 2 (.t 21)), zF 23 (.load false 1 (.t 22)), zF 24 (.bin .neq (.t 18) (.t 23)), zM 25 24, zH 26 0 25 false, zH 27 1 25 false, zG 28 25 false (.idxAddr none 5 (.t 26) (.t 27)), zG 29 25 false (.fieldAddr 4 (.t 28)), zG 30 25 false (.load false 1 (.t 29)), zH 31 0 25 false, zH 32 2 25 false, zG 33 25 false (.idxAddr none 5 (.t 31) (.t 32)), zG 34 25 false (.fieldAddr 4 (.t 33)), zG 35 25 false (.load false 1 (.t 34)), zG 36 25 false (.bin .sub (.t 30) (.t 35)), zG 37 25 false (.bin .rem (.t 36) (zN 256)), zG 38 25 false (.bin .eql (.t 37) (zN 0)), zF 39 (.pick (.t 25) (.c (.lit (.bool true))) (.t 38))]
def r116_2 : List yB := [zF 10 (.mv (.c (.lit (.bool false))))]
def r116_3 : List yB := [zM 40 3, zM 11 40]
def r116_4 : List yB := [zM 41 11, zM 42 4, zF 43 (.bin .lss (.t 41) (.t 42))]
def r116_5 : List yB := [zM 47 0, zM 48 11, zF 49 (.idxAddr none 5 (.t 47) (.t 48)), zF 50 (.load true 5 (.t 49)), zF 51 (.call false (.c (.fn 88 [])) [(.t 50)]), zM 46 51, zF 52 (.ext (.t 46) 0), zF 53 (.ext (.t 46) 1), zM 12 52, zM 13 53]
def r116_6 : List yB := [zM 54 13, zM 55 54, zH 56 12 55 true, zH 57 0 55 true, zH 58 1 55 true, zG 59 55 true (.idxAddr none 5 (.t 57) (.t 58)), zG 60 55 true (.fieldAddr 2 (.t 59)), zG 61 55 true (.load false 1 (.t 60)), zG 62 55 true (.bin .eql (.t 56) (.t 61)), zF 63 (.pick (.t 55) (.t 62) (.c (.lit (.bool false))))]
def r116_7 : List yB := [zF 10 (.mv (.c (.lit (.bool false))))]
def r116_8 : List yB := [zM 44 11, zF 45 (.bin .add (.t 44) (zN 1)), zM 11 45]
def l116_0 : ACode := (.seq (.seq (.ops r116_4 []) (.cond (.t 43) .skip (.exit 0))) (.seq (.block 1 (.seq (.ops r116_5 []) (.seq (.ops r116_6 []) (.cond (.t 63) (.seq (.ops r116_7 []) .ret) .skip)))) (.ops r116_8 [])))
def r116_9 : List yB := [zF 10 (.mv (.c (.lit (.bool true))))]
def ac116 : ACode := (.seq (.ops r116_0 []) (.seq (.seq (.ops r116_1 []) (.cond (.t 39) (.seq (.ops r116_2 []) .ret) .skip)) (.seq (.seq (.ops r116_3 []) (.block 0 (.loop l116_0))) (.seq (.ops r116_9 []) .ret))))
def re116 : List AOp := [(.mv (.t 10))]
theorem cf116 : cFn Try.prog 116 = some (64, ac116, re116) := by kernel_rfl
def r117_0 : List yB := [zF 6 (.mv (.c (.lit (.bool false))))]
def r117_1 : List yB := [zM 9 0, zF 10 (.nilchk (.t 9)), zF 11 (.fieldAddr 14 (.t 10)), zF 12 (.load false 1 (.t 11)), zM 13 1, zF 14 (.idxAddr none 1 (.t 12) (.t 13)), zF 15 (.load false 1 (.t 14)), zF 16 (.len none (.t 15)), zF 17 (.mv (zN 0))]
def r117_2 : List yB := [zF 18 (.bin .lss (.t 17) (.t 16))]
def r117_3 : List yB := [zF 19 (.idxAddr none 1 (.t 15) (.t 17)), zF 20 (.load false 1 (.t 19)), zM 8 20]
def r117_4 : List yB := [zM 21 8, zF 22 (.conv .i64 (.t 21)), zM 23 2, zF 24 (.bin .eql (.t 22) (.t 23))]
def r117_5 : List yB := [zF 6 (.mv (.c (.lit (.bool true))))]
def r117_6 : List yB := [zF 25 (.bin .add (.t 17) (zN 1)), zM 17 25]
def l117_0 : ACode := (.seq (.ops r117_2 []) (.seq (.cond (.t 18) .skip (.exit 0)) (.seq (.block 1 (.seq (.ops r117_3 []) (.seq (.ops r117_4 []) (.cond (.t 24) (.seq (.ops r117_5 []) .ret) .skip)))) (.ops r117_6 []))))
def r117_7 : List yB := [zF 6 (.mv (.c (.lit (.bool false))))]
def ac117 : ACode := (.seq (.ops r117_0 []) (.seq (.seq (.ops r117_1 []) (.block 0 (.loop l117_0))) (.seq (.ops r117_7 []) .ret)))
def re117 : List AOp := [(.mv (.t 6))]
theorem cf117 : cFn Try.prog 117 = some (26, ac117, re117) := by kernel_rfl
def r118_0 : List yB := [zF 1 (.box (.t 0)), zF 2 (.mv (.c (.lit (.bool false))))]
def r118_1 : List yB := [zF 3 (.fieldAddr 0 (.t 1)), zF 4 (.load false 1 (.t 3)), zF 5 (.bin .eql (.t 4) (.c (.lit (.int .i8 17)))), zM 6 5, zG 7 6 false (.fieldAddr 0 (.t 1)), zG 8 6 false (.load false 1 (.t 7)), zG 9 6 false (.bin .eql (.t 8) (.c (.lit (.int .i8 13)))), zF 10 (.pick (.t 6) (.c (.lit (.bool true))) (.t 9)), zM 11 10, zG 12 11 false (.fieldAddr 0 (.t 1)), zG 13 11 false (.load false 1 (.t 12)), zG 14 11 false (.bin .eql (.t 13) (.c (.lit (.int .i8 14)))), zF 15 (.pick (.t 11) (.c (.lit (.bool true))) (.t 14)), zM 2 15]
def ac118 : ACode := (.seq (.ops r118_0 []) (.seq (.ops r118_1 []) .ret))
def re118 : List AOp := [(.mv (.t 2))]
theorem cf118 : cFn Try.prog 118 = some (16, ac118, re118) := by kernel_rfl
def r119_0 : List yB := [zF 7 (.box (.t 3)), zF 8 (.mv (.c (.lit (.bool false))))]
def r119_1 : List yB := [zM 12 0, zM 13 1, zF 14 (.idxAddr none 5 (.t 12) (.t 13)), zF 15 (.load true 5 (.t 14)), zM 16 0, zM 17 2, zF 18 (.idxAddr none 5 (.t 16) (.t 17)), zF 19 (.load true 5 (.t 18)), zF 9 (.alloc [(.lit (.int .i8 0)), (.lit (.int .u8 0)), (.lit (.int .u8 0)), (.lit (.int .u8 0)), (.lit (.int .i64 0))]), zF 10 (.alloc [(.lit (.int .i8 0)), (.lit (.int .u8 0)), (.lit (.int .u8 0)), (.lit (.int .u8 0)), (.lit (.int .i64 0))]), ⟨none, (.store 5 (.t 9) (.t 15)), none⟩, ⟨none, (.store 5 (.t 10) (.t 19)), none⟩]
def r119_2 : List yB := [zF 20 (.load true 5 (.t 9)), zF 21 (.call false (.c (.fn 124 [])) [(.t 20)]), zF 22 (.un .not (.t 21)), zM 23 22, zG 24 23 false (.load true 5 (.t 10)), zG 25 23 false (.call false (.c (.fn 124 [])) [(.t 24)]), zG 26 23 false (.un .not (.t 25)), zF 27 (.pick (.t 23) (.c (.lit (.bool true))) (.t 26)), zM 28 27, zG 29 28 false (.fieldAddr 0 (.t 9)), zG 30 28 false (.load false 1 (.t 29)), zG 31 28 false (.bin .eql (.t 30) (.c (.lit (.int .i8 15)))), zH 32 31 28 false, zG 33 32 true (.fieldAddr 0 (.t 10)), zG 34 32 true (.load false 1 (.t 33)), zG 35 32 true (.bin .eql (.t 34) (.c (.lit (.int .i8 15)))), zG 36 28 false (.pick (.t 32) (.t 35) (.c (.lit (.bool false)))), zF 37 (.pick (.t 28) (.c (.lit (.bool true))) (.t 36))]
def r119_3 : List yB := [zF 8 (.mv (.c (.lit (.bool false))))]
def r119_4 : List yB := [zF 38 (.mkfn 125 [(.t 7)]), zM 11 38]
def r119_5 : List yB := [zF 39 (.fieldAddr 2 (.t 9)), zF 40 (.load false 1 (.t 39)), zF 41 (.fieldAddr 2 (.t 10)), zF 42 (.load false 1 (.t 41)), zF 43 (.bin .neq (.t 40) (.t 42)), zM 44 43, zG 45 44 false (.fieldAddr 4 (.t 9)), zG 46 44 false (.load false 1 (.t 45)), zG 47 44 false (.conv .u8 (.t 46)), zG 48 44 false (.fieldAddr 4 (.t 10)), zG 49 44 false (.load false 1 (.t 48)), zG 50 44 false (.conv .u8 (.t 49)), zG 51 44 false (.bin .eql (.t 47) (.t 50)), zF 52 (.pick (.t 44) (.c (.lit (.bool true))) (.t 51)), zM 53 52, zH 54 11 53 false, zG 55 53 false (.fieldAddr 2 (.t 9)), zG 56 53 false (.load false 1 (.t 55)), zG 57 53 false (.call false (.t 54) [(.t 56)]), zF 58 (.pick (.t 53) (.c (.lit (.bool true))) (.t 57)), zM 8 58]
def ac119 : ACode := (.seq (.ops r119_0 []) (.seq (.ops r119_1 [(14, 9), (14, 10), (18, 9), (18, 10)]) (.seq (.seq (.ops r119_2 []) (.cond (.t 37) (.seq (.ops r119_3 []) .ret) .skip)) (.seq (.ops r119_4 []) (.seq (.ops r119_5 []) .ret)))))
def re119 : List AOp := [(.mv (.t 8))]
theorem cf119 : cFn Try.prog 119 = some (59, ac119, re119) := by kernel_rfl
def r121_0 : List yB := [⟨(some 4), (.alloc [(.lit (.string ⟨#[]⟩)), (.lit (.int .i8 0)), (.lit (.bool false)), (.lit (.bool false)), (.lit (.bool false)), (.lit (.bool false)), (.lit (.bool false)), (.lit (.bool false))]), none⟩]
def r121_1 : List yB := [zM 5 0, zM 6 1, ⟨(some 7), (.build [(.lit (.string ⟨#[]⟩)), (.lit (.int .i8 0)), (.lit (.bool false)), (.lit (.bool false)), (.lit (.bool false)), (.lit (.bool false)), (.lit (.bool false)), (.lit (.bool false))] [(0, (1, (.t 5))), (1, (1, (.t 6))), (2, (1, (.c (.lit (.bool true))))), (3, (1, (.c (.lit (.bool true))))), (4, (1, (.c (.lit (.bool true))))), (5, (1, (.c (.lit (.bool false))))), (6, (1, (.c (.lit (.bool false))))), (7, (1, (.c (.lit (.bool true)))))]), none⟩, ⟨none, (.store 8 (.t 4) (.t 7)), none⟩]
def ac121 : ACode := (.seq (.ops r121_0 []) (.seq (.ops r121_1 []) .ret))
def re121 : List AOp := [(.load true 8 (.t 4))]
theorem cf121 : cFn Try.prog 121 = some (8, ac121, re121) := by kernel_rfl
def r122_0 : List yB := [zF 2 (.box (.t 0)), zF 4 (.mv (zN 0))]
def r122_1 : List yB := [zM 5 1, zM 4 5]
def ac122 : ACode := (.seq (.ops r122_0 []) (.seq (.ops r122_1 []) .ret))
def re122 : List AOp := [(.mv (.t 4))]
theorem cf122 : cFn Try.prog 122 = some (6, ac122, re122) := by kernel_rfl
def r123_0 : List yB := [zF 4 (.mv (zN 0))]
def r123_1 : List yB := [zM 6 1, zF 7 (.maxs [(.t 6), (zN 1)]), zF 8 (.mins [(.t 7), (zN 64)]), zF 9 (.bin .sub (zN 64) (.t 8)), zF 10 (.conv .u8 (.t 9)), zM 5 10]
def r123_2 : List yB := [zM 11 0, zM 12 5, zF 13 (.bin .shl (.t 11) (.t 12)), zF 14 (.conv .i64 (.t 13)), zM 15 5, zF 16 (.bin .shr (.t 14) (.t 15)), zM 4 16]
def ac123 : ACode := (.seq (.ops r123_0 []) (.seq (.ops r123_1 []) (.seq (.ops r123_2 []) .ret)))
def re123 : List AOp := [(.mv (.t 4))]
theorem cf123 : cFn Try.prog 123 = some (17, ac123, re123) := by kernel_rfl
def r124_0 : List yB := [zF 1 (.box (.t 0)), zF 2 (.mv (.c (.lit (.bool false))))]
def r124_1 : List yB := [zF 3 (.fieldAddr 0 (.t 1)), zF 4 (.load false 1 (.t 3)), zF 5 (.bin .eql (.t 4) (.c (.lit (.int .i8 15)))), zM 6 5, zG 7 6 false (.fieldAddr 0 (.t 1)), zG 8 6 false (.load false 1 (.t 7)), zG 9 6 false (.bin .eql (.t 8) (.c (.lit (.int .i8 16)))), zF 10 (.pick (.t 6) (.c (.lit (.bool true))) (.t 9)), zM 11 10, zG 12 11 true (.load true 5 (.t 1)), zG 13 11 true (.call false (.c (.fn 87 [])) [(.t 12)]), zG 14 11 true (.bin .eql (.t 13) (zN 0)), zF 15 (.pick (.t 11) (.t 14) (.c (.lit (.bool false)))), zM 2 15]
def ac124 : ACode := (.seq (.ops r124_0 []) (.seq (.ops r124_1 []) .ret))
def re124 : List AOp := [(.mv (.t 2))]
theorem cf124 : cFn Try.prog 124 = some (16, ac124, re124) := by kernel_rfl
def r125_0 : List yB := [zF 3 (.mv (.c (.lit (.bool false))))]
def r125_1 : List yB := [zF 8 (.load false 1 (.t 1)), zF 9 (.len none (.t 8)), zF 10 (.mv (zN 0))]
def r125_2 : List yB := [zF 11 (.bin .lss (.t 10) (.t 9))]
def r125_3 : List yB := [zF 12 (.idxAddr none 5 (.t 8) (.t 10)), zF 13 (.load true 5 (.t 12)), zF 5 (.alloc [(.lit (.int .i8 0)), (.lit (.int .u8 0)), (.lit (.int .u8 0)), (.lit (.int .u8 0)), (.lit (.int .i64 0))]), ⟨none, (.store 5 (.t 5) (.t 13)), none⟩]
def r125_4 : List yB := [zF 15 (.load true 5 (.t 5)), zF 16 (.call false (.c (.fn 52 [])) [(.t 15)]), zM 14 16, zF 17 (.ext (.t 14) 0), zF 18 (.ext (.t 14) 1), zM 6 17, zM 7 18]
def r125_5 : List yB := [zM 19 7, zM 20 19, zH 21 6 20 true, zH 22 0 20 true, zG 23 20 true (.bin .eql (.t 21) (.t 22)), zF 24 (.pick (.t 20) (.t 23) (.c (.lit (.bool false))))]
def r125_6 : List yB := [zF 3 (.mv (.c (.lit (.bool true))))]
def r125_7 : List yB := [zF 25 (.bin .add (.t 10) (zN 1)), zM 10 25]
def l125_0 : ACode := (.seq (.ops r125_2 []) (.seq (.cond (.t 11) .skip (.exit 0)) (.seq (.block 1 (.seq (.ops r125_3 []) (.seq (.ops r125_4 []) (.seq (.ops r125_5 []) (.cond (.t 24) (.seq (.ops r125_6 []) .ret) .skip))))) (.ops r125_7 []))))
def r125_8 : List yB := [zF 3 (.mv (.c (.lit (.bool false))))]
def ac125 : ACode := (.seq (.ops r125_0 []) (.seq (.seq (.ops r125_1 []) (.block 0 (.loop l125_0))) (.seq (.ops r125_8 []) .ret)))
def re125 : List AOp := [(.mv (.t 3))]
theorem cf125 : cFn Try.prog 125 = some (26, ac125, re125) := by kernel_rfl
def r80_0 : List yB := [zF 6 (.mv (.c (.lit (.bool false))))]
def r80_1 : List yB := [zM 9 0, zM 10 1, zM 11 2, zF 12 (.call false (.c (.fn 107 [])) [(.t 9), (.t 10), (.t 11)]), zF 13 (.un .not (.t 12))]
def r80_2 : List yB := [zF 6 (.mv (.c (.lit (.bool false))))]
def r80_3 : List yB := [zM 14 0, zM 15 1, zM 16 2, zF 17 (.call false (.c (.fn 108 [])) [(.t 14), (.t 15), (.t 16)]), zF 18 (.mop .range [(.t 17)])]
def r80_4 : List yB := [zF 19 (.mop .next [(.t 18)]), zF 20 (.ext (.t 19) 0)]
def r80_5 : List yB := [zF 21 (.mop .entry [(.t 18)]), zF 22 (.ext (.t 21) 0), zF 23 (.ext (.t 21) 1), zF 7 (.alloc [(.lit (.int .i64 0)), (.lit (.int .i64 0))]), zF 8 (.alloc [(.lit (.int .i64 0))]), ⟨none, (.store 2 (.t 7) (.t 22)), none⟩, ⟨none, (.store 1 (.t 8) (.t 23)), none⟩]
def r80_6 : List yB := [zM 24 0, zF 25 (.nilchk (.t 24)), zF 26 (.fieldAddr 15 (.t 25)), zF 27 (.load false 1 (.t 26)), zF 28 (.load true 2 (.t 7)), zM 29 0, zF 30 (.nilchk (.t 29)), zF 31 (.fieldAddr 15 (.t 30)), zF 32 (.load false 1 (.t 31)), zF 33 (.load true 2 (.t 7)), zF 34 (.mop (.look true [(0, 0), (1, 0)] 2 (.agg [(.lit (.int .i64 0))])) [(.t 32), (.t 33)]), zF 35 (.field false 0 1 (.t 34)), zF 36 (.fieldAddr 0 (.t 8)), zF 37 (.load false 1 (.t 36)), zF 38 (.bin .add (.t 35) (.t 37)), zF 39 (.build [(.lit (.int .i64 0))] [(0, (1, (.t 38)))]), ⟨none, (.mop (.put true [(0, 0), (1, 0)] 2) [(.t 27), (.t 28), (.t 39)]), none⟩]
def l80_0 : ACode := (.seq (.ops r80_4 []) (.seq (.cond (.t 20) .skip (.exit 0)) (.block 1 (.seq (.ops r80_5 []) (.ops r80_6 [])))))
def r80_7 : List yB := [zF 6 (.mv (.c (.lit (.bool true))))]
def ac80 : ACode := (.seq (.ops r80_0 []) (.seq (.seq (.ops r80_1 []) (.cond (.t 13) (.seq (.ops r80_2 []) .ret) .skip)) (.seq (.seq (.ops r80_3 []) (.block 0 (.loop l80_0))) (.seq (.ops r80_7 []) .ret))))
def re80 : List AOp := [(.mv (.t 6))]
theorem cf80 : cFn Try.prog 80 = some (40, ac80, re80) := by kernel_rfl
def r106_0 : List yB := [zF 1 (.box (.t 0)), zF 2 (.mv (.c (.lit (.pointer none)))), zF 3 (.mv (zN 0))]
def r106_1 : List yB := [zF 5 (.load true 13 (.t 1)), zF 6 (.call false (.c (.fn 42 [])) [(.t 5)]), zM 4 6]
def r106_2 : List yB := [zM 7 4, zF 8 (.bin .neq (.t 7) (zN 0))]
def r106_3 : List yB := [zM 9 4, zF 2 (.mv (.c (.lit (.pointer none)))), zM 3 9]
def r106_4 : List yB := [zF 10 (.load true 13 (.t 1)), zF 11 (.build [] []), zF 12 (.mkbf 122 [(.t 11)]), zF 13 (.mop .mk []), zF 14 (.build [(.lit (.int .i64 0)), (.lit (.int .i64 0)), (.lit (.int .i64 0)), (.lit (.int .i64 0)), (.lit (.int .i64 0)), (.lit (.int .i64 0)), (.lit (.int .i64 0)), (.lit (.int .i64 0)), (.lit (.int .i64 0)), (.lit (.int .i64 0)), (.lit (.int .i64 0)), (.lit (.int .i64 0)), (.lit (.int .i64 0)), (.lit .nilFunc), (.lit (.bool false)), (.lit (.map none))] [(0, (13, (.t 10))), (13, (1, (.t 12))), (15, (1, (.t 13)))]), zF 15 (.box (.t 14)), zM 2 15, zF 3 (.mv (zN 0))]
def ac106 : ACode := (.seq (.ops r106_0 []) (.seq (.seq (.ops r106_1 []) (.seq (.ops r106_2 []) (.cond (.t 8) (.seq (.ops r106_3 []) .ret) .skip))) (.seq (.ops r106_4 []) .ret)))
def re106 : List AOp := [(.mv (.t 2)), (.mv (.t 3))]
theorem cf106 : cFn Try.prog 106 = some (16, ac106, re106) := by kernel_rfl
def r107_0 : List yB := [zF 6 (.mv (.c (.lit (.bool false))))]
def r107_1 : List yB := [zM 9 0, zF 10 (.peq false (.t 9) (.c (.lit (.pointer none)))), zM 11 10, zH 12 1 11 false, zG 13 11 false (.bin .lss (.t 12) (zN 0)), zF 14 (.pick (.t 11) (.c (.lit (.bool true))) (.t 13)), zM 15 14, zH 16 1 15 false, zG 17 15 false (.bin .geq (.t 16) (zN 4)), zF 18 (.pick (.t 15) (.c (.lit (.bool true))) (.t 17)), zM 19 18, zH 20 0 19 false, zG 21 19 false (.nilchk (.t 20)), zG 22 19 false (.fieldAddr 14 (.t 21)), zG 23 19 false (.load false 1 (.t 22)), zG 24 19 false (.un .not (.t 23)), zH 25 24 19 false, zH 26 2 25 true, zG 27 25 true (.bin .lss (.t 26) (zN 0)), zH 28 27 25 true, zH 29 2 28 false, zG 30 28 false (.bin .gtr (.t 29) (zN 65536)), zG 31 25 true (.pick (.t 28) (.c (.lit (.bool true))) (.t 30)), zG 32 19 false (.pick (.t 25) (.t 31) (.c (.lit (.bool false)))), zF 33 (.pick (.t 19) (.c (.lit (.bool true))) (.t 32))]
def r107_2 : List yB := [zF 6 (.mv (.c (.lit (.bool false))))]
def r107_3 : List yB := [zM 34 0, zM 35 1, zM 36 2, zF 37 (.call false (.c (.fn 108 [])) [(.t 34), (.t 35), (.t 36)]), zF 38 (.mop .range [(.t 37)])]
def r107_4 : List yB := [zF 39 (.mop .next [(.t 38)]), zF 40 (.ext (.t 39) 0)]
def r107_5 : List yB := [zF 41 (.mop .entry [(.t 38)]), zF 42 (.ext (.t 41) 0), zF 43 (.ext (.t 41) 1), zF 7 (.alloc [(.lit (.int .i64 0)), (.lit (.int .i64 0))]), zF 8 (.alloc [(.lit (.int .i64 0))]), ⟨none, (.store 2 (.t 7) (.t 42)), none⟩, ⟨none, (.store 1 (.t 8) (.t 43)), none⟩]
def r107_6 : List yB := [zM 44 0, zF 45 (.nilchk (.t 44)), zF 46 (.fieldAddr 15 (.t 45)), zF 47 (.load false 1 (.t 46)), zF 48 (.load true 2 (.t 7)), zF 49 (.mop (.look true [(0, 0), (1, 0)] 2 (.agg [(.lit (.int .i64 0))])) [(.t 47), (.t 48)]), zF 50 (.field false 0 1 (.t 49)), zF 51 (.fieldAddr 0 (.t 8)), zF 52 (.load false 1 (.t 51)), zF 53 (.bin .add (.t 50) (.t 52)), zM 54 0, zM 55 1, zF 56 (.nilchk (.t 54)), zF 57 (.fieldAddr 0 (.t 56)), zF 58 (.fieldAddr 0 (.t 57)), zF 59 (.idxAddr (some 4) 1 (.t 58) (.t 55)), zF 60 (.load false 1 (.t 59)), zF 61 (.bin .gtr (.t 53) (.t 60))]
def r107_7 : List yB := [zF 6 (.mv (.c (.lit (.bool false))))]
def l107_0 : ACode := (.seq (.ops r107_4 []) (.seq (.cond (.t 40) .skip (.exit 0)) (.block 1 (.seq (.ops r107_5 []) (.seq (.ops r107_6 []) (.cond (.t 61) (.seq (.ops r107_7 []) .ret) .skip))))))
def r107_8 : List yB := [zF 6 (.mv (.c (.lit (.bool true))))]
def ac107 : ACode := (.seq (.ops r107_0 []) (.seq (.seq (.ops r107_1 []) (.cond (.t 33) (.seq (.ops r107_2 []) .ret) .skip)) (.seq (.seq (.ops r107_3 []) (.block 0 (.loop l107_0))) (.seq (.ops r107_8 []) .ret))))
def re107 : List AOp := [(.mv (.t 6))]
theorem cf107 : cFn Try.prog 107 = some (62, ac107, re107) := by kernel_rfl
def r108_0 : List yB := [zF 6 (.mv (.c (.lit (.map none))))]
def r108_1 : List yB := [zF 11 (.mop .mk []), zM 7 11]
def r108_2 : List yB := [zM 12 0, zF 13 (.nilchk (.t 12)), zF 14 (.fieldAddr 13 (.t 13)), zF 15 (.load false 1 (.t 14)), zM 16 2, zF 17 (.call false (.t 15) [(.t 16)]), zM 8 17]
def r108_3 : List yB := [zM 18 0, zM 19 1, zF 20 (.nilchk (.t 18)), zF 21 (.fieldAddr 0 (.t 20)), zF 22 (.fieldAddr 8 (.t 21)), zF 23 (.idxAddr (some 4) 1 (.t 22) (.t 19)), zF 24 (.load false 1 (.t 23)), zF 25 (.mv (zN 0))]
def r108_4 : List yB := [zF 26 (.bin .lss (.t 25) (.t 24))]
def r108_5 : List yB := [zM 27 25, zM 9 27]
def r108_6 : List yB := [zM 28 1, zM 29 0, zF 30 (.nilchk (.t 29)), zF 31 (.fieldAddr 13 (.t 30)), zF 32 (.load false 1 (.t 31)), zM 33 8, zM 34 9, zF 35 (.bin .add (.t 33) (.t 34)), zF 36 (.call false (.t 32) [(.t 35)]), zF 37 (.build [(.lit (.int .i64 0)), (.lit (.int .i64 0))] [(0, (1, (.t 28))), (1, (1, (.t 36)))]), zF 10 (.alloc [(.lit (.int .i64 0)), (.lit (.int .i64 0))]), ⟨none, (.store 2 (.t 10) (.t 37)), none⟩]
def r108_7 : List yB := [zM 38 7, zF 39 (.load true 2 (.t 10)), zM 40 7, zF 41 (.load true 2 (.t 10)), zF 42 (.mop (.look true [(0, 0), (1, 0)] 2 (.agg [(.lit (.int .i64 0))])) [(.t 40), (.t 41)]), zF 43 (.field false 0 1 (.t 42)), zF 44 (.bin .add (.t 43) (zN 1)), zF 45 (.build [(.lit (.int .i64 0))] [(0, (1, (.t 44)))]), ⟨none, (.mop (.put true [(0, 0), (1, 0)] 2) [(.t 38), (.t 39), (.t 45)]), none⟩]
def r108_8 : List yB := [zF 46 (.bin .add (.t 25) (zN 1)), zM 25 46]
def l108_0 : ACode := (.seq (.ops r108_4 []) (.seq (.cond (.t 26) .skip (.exit 0)) (.seq (.block 1 (.seq (.ops r108_5 []) (.seq (.ops r108_6 []) (.ops r108_7 [])))) (.ops r108_8 []))))
def r108_9 : List yB := [zM 47 7, zM 6 47]
def ac108 : ACode := (.seq (.ops r108_0 []) (.seq (.ops r108_1 []) (.seq (.ops r108_2 []) (.seq (.seq (.ops r108_3 []) (.block 0 (.loop l108_0))) (.seq (.ops r108_9 []) .ret)))))
def re108 : List AOp := [(.mv (.t 6))]
theorem cf108 : cFn Try.prog 108 = some (48, ac108, re108) := by kernel_rfl
attribute [push_cast] r7_0 r7_1 r7_2 r7_3 r7_4 r7_5 r7_6 r7_7 r7_8 r20_0 r20_1 r20_2 r20_3 r20_4 r20_5 r20_6 r20_7 r20_8 r20_9 r20_10 r20_11 r22_0 r22_1 r22_2 r22_3 r22_4 r22_5
   r22_6 r22_7 r24_0 r24_1 r24_2 r24_3 r24_4 r24_5 r24_6 r24_7 r26_0 r26_1 r26_2 r26_3 r27_0 r27_1 r27_2 r27_3 r27_4 r27_5 r27_6 r27_7 r29_0 r29_1 r29_2 r29_3 r29_4 r29_5 r29_6
   r29_7 r29_8 r30_0 r30_1 r30_2 r31_0 r31_1 r31_2 r31_3 r31_4 r31_5 r31_6 r31_7 r31_8 r31_9 r31_10 r31_11 r31_12 r31_13 r31_14 r31_15 r31_16 r31_17 r31_18 r31_19 r31_20 r31_21
   r31_22 r31_23 r32_0 r32_1 r32_2 r32_3 r32_4 r32_5 r32_6 r32_7 r32_8 r32_9 r32_10 r32_11 r32_12 r32_13 r32_14 r32_15 r32_16 r32_17 r32_18 r32_19 r32_20 r32_21 r32_22 r33_0 r33_1
   r33_2 r33_3 r33_4 r33_5 r33_6 r33_7 r33_8 r34_0 r34_1 r34_2 r34_3 r34_4 r34_5 r34_6 r34_7 r34_8 r40_0 r40_1 r40_2 r40_3 r40_4 r40_5 r40_6 r41_0 r41_1 r41_2 r41_3 r41_4 r42_0
   r42_1 r42_2 r42_3 r42_4 r42_5 r42_6 r42_7 r42_8 r42_9 r42_10 r46_0 r46_1 r46_2 r46_3 r46_4 r46_5 r46_6 r46_7 r46_8 r46_9 r46_10 r46_11 r46_12 r46_13 r46_14 r46_15 r46_16 r46_17
   r46_18 r47_0 r47_1 r47_2 r47_3 r47_4 r47_5 r47_6 r47_7 r47_8 r47_9 r47_10 r47_11 r47_12 r47_13 r47_14 r47_15 r47_16 r47_17 r47_18 r47_19 r47_20 r47_21 r47_22 r47_23 r51_0 r51_1
   r51_2 r51_3 r51_4 r52_0 r52_1 r52_2 r52_3 r52_4 r54_0 r54_1 r54_2 r54_3 r54_4 r54_5 r54_6 r54_7 r54_8 r54_9 r54_10 r54_11 r56_0 r56_1 r56_2 r56_3 r56_4 r56_5 r56_6 r56_7 r57_0
   r57_1 r57_2 r57_3 r57_4 r57_5 r57_6 r57_7 r57_8 r57_9 r57_10 r57_11 r57_12 r57_13 r57_14 r57_15 r57_16 r57_17 r57_18 r57_19 r57_20 r57_21 r57_22 r59_0 r59_1 r59_2 r59_3 r59_4
   r59_5 r59_6 r60_0 r60_1 r61_0 r61_1 r61_2 r61_3 r61_4 r61_5 r61_6 r61_7 r61_8 r61_9 r61_10 r61_11 r61_12 r61_13 r61_14 r61_15 r61_16 r61_17 r61_18 r61_19 r61_20 r61_21 r61_22
   r61_23 r61_24 r61_25 r61_26 r61_27 r61_28 r61_29 r61_30 r61_31 r61_32 r61_33 r64_0 r64_1 r64_2 r64_3 r64_4 r64_5 r64_6 r64_7 r64_8 r64_9 r64_10 r64_11 r64_12 r65_0 r65_1 r65_2
   r65_3 r65_4 r65_5 r65_6 r65_7 r65_8 r65_9 r65_10 r65_11 r66_0 r66_1 r66_2 r66_3 r66_4 r66_5 r66_6 r66_7 r66_8 r66_9 r66_10 r66_11 r66_12 r66_13 r67_0 r67_1 r67_2 r67_3 r67_4
   r67_5 r67_6 r67_7 r67_8 r67_9 r67_10 r67_11 r67_12 r67_13 r67_14 r67_15 r67_16 r67_17 r67_18 r67_19 r67_20 r68_0 r68_1 r68_2 r68_3 r68_4 r68_5 r68_6 r68_7 r68_8 r68_9 r68_10
   r68_11 r68_12 r69_0 r69_1 r69_2 r69_3 r69_4 r69_5 r69_6 r69_7 r69_8 r70_0 r70_1 r71_0 r71_1 r71_2 r71_3 r71_4 r71_5 r71_6 r71_7 r71_8 r71_9 r71_10 r72_0 r72_1 r72_2 r72_3 r72_4
   r72_5 r72_6 r72_7 r72_8 r72_9 r72_10 r72_11 r72_12 r72_13 r72_14 r75_0 r75_1 r75_2 r75_3 r75_4 r76_0 r76_1 r77_0 r77_1 r77_2 r77_3 r77_4 r77_5 r77_6 r77_7 r78_0 r78_1 r78_2 r78_3
   r78_4 r78_5 r78_6 r78_7 r78_8 r78_9 r78_10 r78_11 r78_12 r78_13 r78_14 r79_0 r79_1 r79_2 r79_3 r79_4 r79_5 r79_6 r79_7 r79_8 r81_0 r81_1 r81_2 r82_0 r82_1 r82_2 r82_3 r82_4 r82_5
   r82_6 r82_7 r85_0 r85_1 r85_2 r85_3 r85_4 r85_5 r85_6 r85_7 r85_8 r86_0 r86_1 r86_2 r86_3 r86_4 r86_5 r86_6 r86_7 r86_8 r86_9 r86_10 r86_11 r86_12 r86_13 r86_14 r86_15 r86_16
   r86_17 r86_18 r86_19 r86_20 r86_21 r86_22 r86_23 r86_24 r86_25 r86_26 r86_27 r86_28 r86_29 r86_30 r87_0 r87_1 r87_2 r87_3 r87_4 r87_5 r87_6 r87_7 r87_8 r87_9 r87_10 r87_11 r87_12
   r87_13 r88_0 r88_1 r88_2 r88_3 r88_4 r89_0 r89_1 r89_2 r89_3 r89_4 r89_5 r89_6 r89_7 r89_8 r89_9 r90_0 r90_1 r90_2 r90_3 r90_4 r90_5 r90_6 r90_7 r90_8 r90_9 r90_10 r90_11 r91_0
   r91_1 r92_0 r92_1 r92_2 r92_3 r92_4 r92_5 r92_6 r92_7 r92_8 r92_9 r92_10 r93_0 r93_1 r93_2 r94_0 r94_1 r94_2 r94_3 r94_4 r94_5 r94_6 r94_7 r94_8 r94_9 r94_10 r94_11 r94_12 r94_13
   r94_14 r94_15 r94_16 r96_0 r96_1 r96_2 r96_3 r96_4 r96_5 r96_6 r96_7 r97_0 r97_1 r97_2 r97_3 r97_4 r97_5 r98_0 r98_1 r98_2 r99_0 r99_1 r99_2 r99_3 r99_4 r99_5 r99_6 r99_7 r99_8
   r99_9 r99_10 r99_11 r99_12 r99_13 r100_0 r100_1 r101_0 r101_1 r102_0 r102_1 r105_0 r105_1 r105_2 r109_0 r109_1 r109_2 r109_3 r109_4 r109_5 r109_6 r109_7 r109_8 r109_9 r109_10
   r109_11 r109_12 r109_13 r109_14 r110_0 r110_1 r111_0 r111_1 r111_2 r111_3 r111_4 r111_5 r111_6 r112_0 r112_1 r112_2 r112_3 r112_4 r112_5 r112_6 r113_0 r113_1 r113_2 r114_0 r114_1
   r115_0 r115_1 r115_2 r115_3 r115_4 r115_5 r115_6 r115_7 r115_8 r116_0 r116_1 r116_2 r116_3 r116_4 r116_5 r116_6 r116_7 r116_8 r116_9 r117_0 r117_1 r117_2 r117_3 r117_4 r117_5
   r117_6 r117_7 r118_0 r118_1 r119_0 r119_1 r119_2 r119_3 r119_4 r119_5 r121_0 r121_1 r122_0 r122_1 r123_0 r123_1 r123_2 r124_0 r124_1 r125_0 r125_1 r125_2 r125_3 r125_4 r125_5
   r125_6 r125_7 r125_8 r80_0 r80_1 r80_2 r80_3 r80_4 r80_5 r80_6 r80_7 r106_0 r106_1 r106_2 r106_3 r106_4 r107_0 r107_1 r107_2 r107_3 r107_4 r107_5 r107_6 r107_7 r107_8 r108_0
   r108_1 r108_2 r108_3 r108_4 r108_5 r108_6 r108_7 r108_8 r108_9
end Go.Proofs.Hx
