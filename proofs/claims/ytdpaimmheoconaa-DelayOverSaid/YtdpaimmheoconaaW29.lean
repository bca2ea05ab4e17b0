import Derived.Test.YtdpaimmheoconaaCodeA
import Derived.Test.YtdpaimmheoconaaG2
set_option linter.unusedVariables false
set_option linter.unusedSimpArgs false
namespace Go.Proofs.Hx
open Go Go.Proofs
def tbl14 : Tbl := [(14, 95, ac14, re14), (85, 23, ac85, re85), (15, 21, ac15, re15), (56, 39, ac56, re56), (57, 85, ac57, re57), (16, 22, ac16, re16), (42, 45, ac42, re42), (110, 36, ac110, re110), (111, 60, ac111, re111), (112, 61, ac112, re112), (58, 72, ac58, re58), (59, 18, ac59, re59), (89, 15, ac89, re89), (51, 20, ac51, re51), (52, 76, ac52, re52), (53, 41, ac53, re53), (54, 40, ac54, re54), (55, 12, ac55, re55), (60, 65, ac60, re60), (124, 32, ac124, re124), (125, 35, ac125, re125), (126, 26, ac126, re126), (127, 154, ac127, re127), (128, 30, ac128, re128), (90, 39, ac90, re90), (86, 16, ac86, re86), (87, 62, ac87, re87), (88, 48, ac88, re88), (91, 11, ac91, re91), (145, 26, ac145, re145), (146, 16, ac146, re146), (147, 59, ac147, re147), (114, 8, ac114, re114), (113, 6, ac113, re113), (115, 17, ac115, re115), (163, 16, ac163, re163), (164, 26, ac164, re164)]
theorem tbl31ok : TblOk Try.prog tbl14 := by simp only [TblOk, tbl14, List.forall_mem_cons, List.not_mem_nil, false_imp_iff, implies_true, and_true]; exact ⟨cf14, cf85, cf15, cf56, cf57, cf16, cf42, cf110, cf111, cf112, cf58, cf59, cf89, cf51, cf52, cf53, cf54, cf55, cf60, cf124, cf125, cf126, cf127, cf128, cf90, cf86, cf87, cf88, cf91, cf145, cf146, cf147, cf114, cf113, cf115, cf163, cf164⟩
def wI (n : Int) : AV := .lit (.int .i64 n)
def wOp : List AV := [.lit (.int .i8 12), .lit (.int .u8 1), .lit (.int .u8 2), .lit (.int .u8 3), wI 0]
def wT : AV := .agg [wI 1, wI 1, wI 1, wI 1, wI 1, wI 3, wI 2, wI 1, wI 1, wI 1, wI 1, wI 1, wI 2]
def wB (x : AV) (e a : Int) : AV := .agg [x, .lit (.int .i8 e), .lit (.int .u8 a), .nil, wI 0, wI 0]
theorem w29d : HV Try.prog 14 [wB .nil 3 0, wT, .nil] (.tup [wI (-1), wI 0, wI 0]) :=
  kM qM (T := tbl14) tbl31ok 100000 rfl rfl (by kernel_rfl)
theorem w29c : HV Try.prog 14 [wB (.row [wOp]) 1 2, wT, .row [[wI (-1)]]] (.tup [wI 0, wI 0, wI 160]) :=
  kM qM (T := tbl14) tbl31ok 100000 rfl rfl (by kernel_rfl)
theorem w29a : HV Try.prog 14 [wB (.row [wOp]) 1 1, wT, .row [[wI 0]]] (.tup [wI 3, wI 6, wI 0]) :=
  kM qM (T := tbl14) tbl31ok 100000 rfl rfl (by kernel_rfl)
theorem w29b : HV Try.prog 14 [wB (.row [wOp]) 1 2, wT, .row [[wI 0]]] (.tup [wI 0, wI 3, wI 0]) :=
  kM qM (T := tbl14) tbl31ok 100000 rfl rfl (by kernel_rfl)
end Go.Proofs.Hx
