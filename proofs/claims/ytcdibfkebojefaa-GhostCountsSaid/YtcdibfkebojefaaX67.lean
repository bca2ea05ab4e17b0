import Derived.Test.YtcdibfkebojefaaG6
import Derived.Test.YtcdibfkebojefaaW19
set_option linter.unusedVariables false
set_option linter.unusedSimpArgs false
namespace Go.Proofs.Hx
open Go Go.Proofs
attribute [local irreducible] yL awp opK goV goM qM qI qK yN HV HVF HC
set_option maxHeartbeats 4000000 in
theorem f3 {l : List Iss} {t : Tab} (hl : isOK l) : HV Try.prog 3 [.row (l.map isC), .agg (tabC t)] (bl true) := by
  refine yR yS cf3 (by simp) (by simp [imms, imm, isrows_imms, tab_imms]) ?_ rfl
  unfold ac3 re3
  refine yF fun env hE => ?_; have e0 := hE 0; have e1 := hE 1; have e3 := hE 3; have e4 := hE 4; simp -implicitDefEqProofs only [push_cast] at e0 e1 e3 e4; clear hE
  by_cases h150 : 150 < l.length
  · have hd : decide (150 < (l.length : Int)) = true := decide_eq_true (by omega)
    have hsl : sliceV none 11 (.row (l.map isC)) none (some (.lit (.int .i64 150))) none = some (.row ((l.take 150).map isC)) := by
      rw [slice_row_eq isC 11 l isC_len]
      simp [yW]; omega
    have hL : isOK (l.take 150) := fun o h => hl o (List.mem_of_mem_take h)
    have hLn : (l.take 150).length ≤ 100000 := by simp; omega
    generalize l.take 150 = l' at *
    have hbb : beqV false (bl (busyB l' t)) (bl (busyB l' t)) = some (bl true) := by cases busyB l' t <;> rfl
    repeat' (first | ((try clear hf); with_reducible refine zN fun env K hE hK hf => ?_; have n : _ ∧ _ ∧ _ ∧ _ := ⟨hE 0, hE 1, hE 3, hE 4⟩; simp -implicitDefEqProofs only [push_cast, reduceIte, Nat.reduceEqDiff, e0, e1, e3, e4] at n; clear hE e0 e1 e3 e4; obtain ⟨e0, e1, e3, e4⟩ := n) | (with_reducible refine hK _ _ ?_; clear hK K) | (with_reducible first | refine zL ?_ | refine zS ?_ | refine zC ?_ | refine zH ?_ | refine zF ?_ | refine zM ?_ | refine zR ?_ | refine zE ?_ | refine zI ?_ | refine zT ?_ | refine zG ?_ | refine zB (by decide) ?_ | refine zQ ?_ | refine zP ?_ | refine zK ?_ | refine zZ ?_ | refine yB ?_ | refine zW (by assumption) ?_ | refine zY (by assumption) ?_) | (refine zJ rfl ?_) | (simp -implicitDefEqProofs only [push_cast, sevalprocAttr, eq_self, e0, e1, e3, e4, yU, hd, hsl, hbb]) | (simp -implicitDefEqProofs (disch := omega) only [zU, yC, zV, zD, e0, e1, e3, e4, yU, hd, hsl, hbb]) | (with_reducible refine yI ?_ ?_) | (refine zO rfl (fun bb => ?_) (fun bb => ?_) <;> (first | have bp := of_decide_eq_true bb | have bp := of_decide_eq_false bb | skip) <;> simp only [bb]) | (with_reducible refine zX (fun bb => ?_) (fun bb => ?_) <;> (first | have bp := of_decide_eq_true bb | have bp := of_decide_eq_false bb | skip)) | ((with_reducible refine And.intro ?_ ?_); omega) | (refine qJ (f15 l' t hLn) ?_) | (refine qJ (f16 l' t hLn) ?_) | (refine qJ (f17 l' t hLn hL) ?_) | (refine qJ (f18 l' t hLn hL) ?_) | (refine qJ f19 ?_) | fail)
  · have hd : decide (150 < (l.length : Int)) = false := decide_eq_false (by omega)
    have hL := hl
    have hLn : l.length ≤ 100000 := by omega
    have hbb : beqV false (bl (busyB l t)) (bl (busyB l t)) = some (bl true) := by cases busyB l t <;> rfl
    repeat' (first | ((try clear hf); with_reducible refine zN fun env K hE hK hf => ?_; have n : _ ∧ _ ∧ _ ∧ _ := ⟨hE 0, hE 1, hE 3, hE 4⟩; simp -implicitDefEqProofs only [push_cast, reduceIte, Nat.reduceEqDiff, e0, e1, e3, e4] at n; clear hE e0 e1 e3 e4; obtain ⟨e0, e1, e3, e4⟩ := n) | (with_reducible refine hK _ _ ?_; clear hK K) | (with_reducible first | refine zL ?_ | refine zS ?_ | refine zC ?_ | refine zH ?_ | refine zF ?_ | refine zM ?_ | refine zR ?_ | refine zE ?_ | refine zI ?_ | refine zT ?_ | refine zG ?_ | refine zB (by decide) ?_ | refine zQ ?_ | refine zP ?_ | refine zK ?_ | refine zZ ?_ | refine yB ?_ | refine zW (by assumption) ?_ | refine zY (by assumption) ?_) | (refine zJ rfl ?_) | (simp -implicitDefEqProofs only [push_cast, sevalprocAttr, eq_self, e0, e1, e3, e4, yU, hd, hbb]) | (simp -implicitDefEqProofs (disch := omega) only [zU, yC, zV, zD, e0, e1, e3, e4, yU, hd, hbb]) | (with_reducible refine yI ?_ ?_) | (refine zO rfl (fun bb => ?_) (fun bb => ?_) <;> (first | have bp := of_decide_eq_true bb | have bp := of_decide_eq_false bb | skip) <;> simp only [bb]) | (with_reducible refine zX (fun bb => ?_) (fun bb => ?_) <;> (first | have bp := of_decide_eq_true bb | have bp := of_decide_eq_false bb | skip)) | ((with_reducible refine And.intro ?_ ?_); omega) | (refine qJ (f15 l t hLn) ?_) | (refine qJ (f16 l t hLn) ?_) | (refine qJ (f17 l t hLn hL) ?_) | (refine qJ (f18 l t hLn hL) ?_) | (refine qJ f19 ?_) | fail)
end Go.Proofs.Hx
