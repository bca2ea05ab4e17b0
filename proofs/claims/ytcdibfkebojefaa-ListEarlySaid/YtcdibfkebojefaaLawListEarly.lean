/- Whatever the list of at most 60 operations and the table: no operation could have been put into an earlier cycle. No conditions. -/
import Derived.Test.YtcdibfkebojefaaG12
import Derived.Test.YtcdibfkebojefaaTy
import Derived.ProofKit
import Derived.Test.YtcdibfkebojefaaRows
set_option linter.unusedVariables false
set_option linter.unusedSimpArgs false
namespace Go.Proofs.Ytcdibfkebojefaa
open Go Go.Proofs Go.Proofs.Hx Go.ChangeShapes Go.WideShapes Go.RowKit
theorem own : ownKnob Try.prog.godebug = none := by kernel_rfl
theorem laidOut : laidOutB Try.prog = true := by kernel_rfl
noncomputable def zeroT (t : TypeId) : Value := ((Try.prog.info? t).bind (·.zero)).getD (.bool false)
def cts : List (Bool × List CT) := [(false, [.sl 16 opT]), (true, tabT)]
theorem pars : parsOk Try.prog Try.f13.params.toList cts := by
  rw [Try.params13]
  exact ⟨_, _, rfl, ⟨by kernel_rfl, by kernel_rfl, by kernel_rfl, of_decide_eq_true (by kernel_rfl)⟩, ⟨_, _, rfl, ⟨by kernel_rfl, by kernel_rfl, by kernel_rfl, of_decide_eq_true (by kernel_rfl)⟩, rfl⟩⟩
theorem hv : ∀ xs, ArgsOk cts xs → HV Try.prog 13 xs (.lit (.bool true)) := by
  intro xs h
  simp only [cts, ArgsOk] at h
  obtain ⟨_, _, rfl, c0, ⟨_, _, rfl, c1, rfl⟩⟩ := h
  obtain ⟨l0, rfl, s0, h0⟩ := val_ops c0
  obtain ⟨t1, rfl, h1⟩ := val_tab c1
  exact Hx.f13 h0
set_option maxRecDepth 100000 in
theorem lifted (os : Os) (started : os.Started) (H : Type) (enc : TypeId × Value → H) :
    ReturnsInHanded {} Try.checked os 13 .any (Rows.listEarlySpec.pre6 enc Try.prog Try.f13 Rows.listEarlyRow.domain false) (Rows.listEarlySpec.post enc Try.prog Try.f13 false true false false) := by
  refine returnsInHanded_of_change_sized (C := Try.checked) own started (by kernel_rfl) Try.func13
    (ChangeSpec.witness6 (enc := enc) (C := Try.checked) false ⟨#[], #[zeroT 29, zeroT 25], []⟩ 8 (by kernel_rfl) (by kernel_rfl) (by kernel_rfl) (by kernel_rfl)) ?_
  intro W base args ds gs before hval hW hcnd hsz _
  refine law_post laidOut rfl (by kernel_rfl) rfl pars (fun ds h => ?_) hv W base args ds gs before hval hW hsz
  obtain ⟨d0, d1, rfl⟩ := len2 (h.trans (by kernel_rfl))
  exact ⟨rfl, rfl, rfl⟩
theorem over : Rows.listEarlyRow.holds Try.pinned (OpenSpec.ofChange Rows.listEarlySpec) :=
  OpenClaim.holds_of_wide 13 Try.f13 rfl rfl rfl rfl rfl rfl rfl ⟨rfl, rfl, rfl, rfl, rfl⟩ rfl rfl rfl rfl rfl (by kernel_rfl) Try.func13 (by kernel_rfl)
    (of_decide_eq_true (by kernel_rfl)) (by unfold Func.isWrapper; first | (rw [if_pos (by decide +kernel)]; kernel_rfl) | (rw [if_neg (by decide +kernel)]; exact ⟨rfl, rfl⟩))
    (fun os started H enc _ => lifted os started H enc)
/-- The given statement. -/
theorem listEarly_holds : Rows.ListEarlySaid := over
end Go.Proofs.Ytcdibfkebojefaa
