import Derived.Test.YtcdibfkebojefaaCodeA
import Derived.Test.YtcdibfkebojefaaG2
set_option linter.unusedVariables false
set_option linter.unusedSimpArgs false
namespace Go.Proofs.Hx
open Go Go.Proofs
def tbl19 : Tbl := [(15, 64, ac15, re15), (17, 120, ac17, re17), (19, 31, ac19, re19), (41, 21, ac41, re41), (42, 39, ac42, re42), (49, 25, ac49, re49), (52, 22, ac52, re52), (53, 40, ac53, re53), (54, 45, ac54, re54), (75, 18, ac75, re75), (76, 15, ac76, re76), (87, 65, ac87, re87), (105, 39, ac105, re105), (110, 11, ac110, re110), (121, 8, ac121, re121), (123, 17, ac123, re123)]
theorem f19 : HV Try.prog 19 [] (.lit (.bool true)) :=
  yP yS (T := tbl19) (by simp only [TblOk, tbl19, List.forall_mem_cons, List.not_mem_nil, false_imp_iff, implies_true, and_true]; exact ⟨cf15, cf17, cf19, cf41, cf42, cf49, cf52, cf53, cf54, cf75, cf76, cf87, cf105, cf110, cf121, cf123⟩) 100000 rfl rfl (by kernel_rfl)
end Go.Proofs.Hx
