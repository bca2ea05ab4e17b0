/- Whatever the block of at most 60 operations and the table: behind the block's length nothing is in flight and no unit is busy; its end finds what it reads, and has its bundles behind it. No conditions. -/
import Derived.Test.YtdpaimmheoconaaG12
import Derived.Test.YtdpaimmheoconaaG14
import Derived.ProofKit
import Derived.Test.YtdpaimmheoconaaRows
set_option linter.unusedVariables false
set_option linter.unusedSimpArgs false
namespace Go.Proofs.Ytdpaimmheoconaa
open Go Go.Proofs Go.Proofs.Hx Go.ChangeShapes Go.WideShapes Go.RowKit
theorem own : ownKnob Try.prog.godebug = none := by kernel_rfl
theorem laidOut : laidOutB Try.prog = true := by kernel_rfl
noncomputable def zeroT (t : TypeId) : Value := ((Try.prog.info? t).bind (·.zero)).getD (.bool false)
def cts : List (Bool × List CT) := [(true, blkT), (true, tabT)]
theorem pars : parsOk Try.prog Try.f3.params.toList cts := by
  rw [Try.params3]
  exact ⟨_, _, rfl, ⟨by kernel_rfl, by kernel_rfl, by kernel_rfl, of_decide_eq_true (by kernel_rfl)⟩, ⟨_, _, rfl, ⟨by kernel_rfl, by kernel_rfl, by kernel_rfl, of_decide_eq_true (by kernel_rfl)⟩, rfl⟩⟩
theorem hv : ∀ xs, ArgsOk cts xs → HV Try.prog 3 xs (.lit (.bool true)) := by
  intro xs h
  simp only [cts, ArgsOk] at h
  obtain ⟨_, _, rfl, c0, ⟨_, _, rfl, c1, rfl⟩⟩ := h
  obtain ⟨b0, rfl, h0, s0, z0, a0⟩ := val_block c0
  obtain ⟨t1, rfl, h1⟩ := val_tab c1
  exact Hx.f3 h0 a0
set_option maxRecDepth 100000 in
theorem lifted (os : Os) (started : os.Started) (H : Type) (enc : TypeId × Value → H) :
    ReturnsInHanded {} Try.checked os 3 .any (Rows.delayOverSpec.pre6 enc Try.prog Try.f3 Rows.delayOverRow.domain false) (Rows.delayOverSpec.post enc Try.prog Try.f3 false true false false) := by
  refine returnsInHanded_of_change_sized (C := Try.checked) own started (by kernel_rfl) Try.func3
    (ChangeSpec.witness6 (enc := enc) (C := Try.checked) false ⟨#[], #[zeroT 25, zeroT 28], []⟩ 8 (by kernel_rfl) (by kernel_rfl) (by kernel_rfl) (by kernel_rfl)) ?_
  intro W base args ds gs before hval hW hcnd hsz _
  refine law_post laidOut rfl (by kernel_rfl) rfl pars (fun ds h => ?_) hv W base args ds gs before hval hW hsz
  obtain ⟨d0, d1, rfl⟩ := len2 (h.trans (by kernel_rfl))
  exact ⟨rfl, rfl, rfl⟩
theorem over : Rows.delayOverRow.holds Try.pinned (OpenSpec.ofChange Rows.delayOverSpec) :=
  OpenClaim.holds_of_wide 3 Try.f3 rfl rfl rfl rfl rfl rfl rfl ⟨rfl, rfl, rfl, rfl, rfl⟩ rfl rfl rfl rfl rfl (by kernel_rfl) Try.func3 (by kernel_rfl)
    (of_decide_eq_true (by kernel_rfl)) (by unfold Func.isWrapper; first | (rw [if_pos (by decide +kernel)]; kernel_rfl) | (rw [if_neg (by decide +kernel)]; exact ⟨rfl, rfl⟩))
    (fun os started H enc _ => lifted os started H enc)
/-- The given statement. -/
theorem delayOver_holds : Rows.DelayOverSaid := over
end Go.Proofs.Ytdpaimmheoconaa
