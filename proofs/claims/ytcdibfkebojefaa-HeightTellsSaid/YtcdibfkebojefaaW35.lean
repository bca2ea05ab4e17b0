import Derived.Test.YtcdibfkebojefaaCodeA
import Derived.Test.YtcdibfkebojefaaG2
set_option linter.unusedVariables false
set_option linter.unusedSimpArgs false
namespace Go.Proofs.Hx
open Go Go.Proofs
def tbl35 : Tbl := [(34, 26, ac34, re34), (35, 50, ac35, re35), (36, 101, ac36, re36), (38, 19, ac38, re38), (40, 23, ac40, re40), (41, 21, ac41, re41), (42, 39, ac42, re42), (52, 22, ac52, re52), (54, 45, ac54, re54), (64, 36, ac64, re64), (65, 60, ac65, re65), (66, 61, ac66, re66), (73, 24, ac73, re73), (74, 8, ac74, re74), (75, 18, ac75, re75), (76, 15, ac76, re76), (87, 65, ac87, re87), (96, 32, ac96, re96), (97, 35, ac97, re97), (98, 26, ac98, re98), (99, 154, ac99, re99), (100, 30, ac100, re100), (103, 9, ac103, re103), (104, 17, ac104, re104), (105, 39, ac105, re105), (110, 11, ac110, re110), (117, 26, ac117, re117), (118, 16, ac118, re118), (119, 59, ac119, re119), (120, 63, ac120, re120), (121, 8, ac121, re121), (123, 17, ac123, re123), (124, 16, ac124, re124), (125, 26, ac125, re125), (126, 53, ac126, re126), (127, 220, ac127, re127), (128, 58, ac128, re128), (129, 38, ac129, re129)]
theorem f35 : HV Try.prog 35 [] (.lit (.bool true)) :=
  yW yK (T := tbl35) (by simp only [TblOk, tbl35, List.forall_mem_cons, List.not_mem_nil, false_imp_iff, implies_true, and_true]; exact ⟨cf34, cf35, cf36, cf38, cf40, cf41, cf42, cf52, cf54, cf64, cf65, cf66, cf73, cf74, cf75, cf76, cf87, cf96, cf97, cf98, cf99, cf100, cf103, cf104, cf105, cf110, cf117, cf118, cf119, cf120, cf121, cf123, cf124, cf125, cf126, cf127, cf128, cf129⟩) 100000 rfl rfl (by kernel_rfl)
end Go.Proofs.Hx
