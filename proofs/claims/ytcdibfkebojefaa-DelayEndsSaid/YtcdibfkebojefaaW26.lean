import Derived.Test.YtcdibfkebojefaaCodeA
import Derived.Test.YtcdibfkebojefaaG2
set_option linter.unusedVariables false
set_option linter.unusedSimpArgs false
namespace Go.Proofs.Hx
open Go Go.Proofs
def tbl26 : Tbl := [(20, 48, ac20, re20), (22, 30, ac22, re22), (24, 33, ac24, re24), (26, 21, ac26, re26), (27, 25, ac27, re27), (41, 21, ac41, re41), (42, 39, ac42, re42), (52, 22, ac52, re52), (54, 45, ac54, re54), (57, 67, ac57, re57), (59, 24, ac59, re59), (60, 10, ac60, re60), (61, 116, ac61, re61), (64, 36, ac64, re64), (65, 60, ac65, re65), (66, 61, ac66, re66), (67, 93, ac67, re67), (75, 18, ac75, re75), (76, 15, ac76, re76), (87, 65, ac87, re87), (91, 17, ac91, re91), (96, 32, ac96, re96), (97, 35, ac97, re97), (98, 26, ac98, re98), (99, 154, ac99, re99), (100, 30, ac100, re100), (101, 26, ac101, re101), (105, 39, ac105, re105), (110, 11, ac110, re110), (117, 26, ac117, re117), (118, 16, ac118, re118), (119, 59, ac119, re119), (121, 8, ac121, re121), (123, 17, ac123, re123), (124, 16, ac124, re124), (125, 26, ac125, re125)]
theorem f26 : HV Try.prog 26 [] (.lit (.bool true)) :=
  qG yX (T := tbl26) (by simp only [TblOk, tbl26, List.forall_mem_cons, List.not_mem_nil, false_imp_iff, implies_true, and_true]; exact ⟨cf20, cf22, cf24, cf26, cf27, cf41, cf42, cf52, cf54, cf57, cf59, cf60, cf61, cf64, cf65, cf66, cf67, cf75, cf76, cf87, cf91, cf96, cf97, cf98, cf99, cf100, cf101, cf105, cf110, cf117, cf118, cf119, cf121, cf123, cf124, cf125⟩) 100000 rfl rfl (by kernel_rfl)
end Go.Proofs.Hx
