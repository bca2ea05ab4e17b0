import Derived.Test.YtcdibfkebojefaaCodeA
import Derived.Test.YtcdibfkebojefaaG2
set_option linter.unusedVariables false
set_option linter.unusedSimpArgs false
namespace Go.Proofs.Hx
open Go Go.Proofs
def tbl31 : Tbl := [(31, 95, ac31, re31), (40, 23, ac40, re40), (41, 21, ac41, re41), (42, 39, ac42, re42), (46, 85, ac46, re46), (52, 22, ac52, re52), (54, 45, ac54, re54), (64, 36, ac64, re64), (65, 60, ac65, re65), (66, 61, ac66, re66), (68, 72, ac68, re68), (75, 18, ac75, re75), (76, 15, ac76, re76), (77, 20, ac77, re77), (78, 76, ac78, re78), (79, 41, ac79, re79), (80, 40, ac80, re80), (81, 12, ac81, re81), (87, 65, ac87, re87), (96, 32, ac96, re96), (97, 35, ac97, re97), (98, 26, ac98, re98), (99, 154, ac99, re99), (100, 30, ac100, re100), (105, 39, ac105, re105), (106, 16, ac106, re106), (107, 62, ac107, re107), (108, 48, ac108, re108), (110, 11, ac110, re110), (117, 26, ac117, re117), (118, 16, ac118, re118), (119, 59, ac119, re119), (121, 8, ac121, re121), (122, 6, ac122, re122), (123, 17, ac123, re123), (124, 16, ac124, re124), (125, 26, ac125, re125)]
theorem tbl31ok : TblOk Try.prog tbl31 := by simp only [TblOk, tbl31, List.forall_mem_cons, List.not_mem_nil, false_imp_iff, implies_true, and_true]; exact ⟨cf31, cf40, cf41, cf42, cf46, cf52, cf54, cf64, cf65, cf66, cf68, cf75, cf76, cf77, cf78, cf79, cf80, cf81, cf87, cf96, cf97, cf98, cf99, cf100, cf105, cf106, cf107, cf108, cf110, cf117, cf118, cf119, cf121, cf122, cf123, cf124, cf125⟩
def wI (n : Int) : AV := .lit (.int .i64 n)
def wOp : List AV := [.lit (.int .i8 12), .lit (.int .u8 1), .lit (.int .u8 2), .lit (.int .u8 3), wI 0]
def wT : AV := .agg [wI 1, wI 1, wI 1, wI 1, wI 1, wI 3, wI 2, wI 1, wI 1, wI 1, wI 1, wI 1, wI 2]
def wB (x : AV) (e a : Int) : AV := .agg [x, .lit (.int .i8 e), .lit (.int .u8 a), .nil, wI 0, wI 0]
theorem w29d : HV Try.prog 31 [wB .nil 3 0, wT, .nil] (.tup [wI (-1), wI 0, wI 0]) :=
  qG yX (T := tbl31) tbl31ok 100000 rfl rfl (by kernel_rfl)
theorem w29c : HV Try.prog 31 [wB (.row [wOp]) 1 2, wT, .row [[wI (-1)]]] (.tup [wI 0, wI 0, wI 160]) :=
  qG yX (T := tbl31) tbl31ok 100000 rfl rfl (by kernel_rfl)
theorem w29a : HV Try.prog 31 [wB (.row [wOp]) 1 1, wT, .row [[wI 0]]] (.tup [wI 3, wI 6, wI 0]) :=
  qG yX (T := tbl31) tbl31ok 100000 rfl rfl (by kernel_rfl)
theorem w29b : HV Try.prog 31 [wB (.row [wOp]) 1 2, wT, .row [[wI 0]]] (.tup [wI 0, wI 3, wI 0]) :=
  qG yX (T := tbl31) tbl31ok 100000 rfl rfl (by kernel_rfl)
end Go.Proofs.Hx
