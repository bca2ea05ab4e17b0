/- Whatever the list and the table: the heights and the order answer what the reference answers, which measures every pair of operations anew; the list that the caller holds stays as it was. Beyond 120 operations that the program accepts the law asks nothing. No conditions. -/
import Derived.Test.YtcdibfkebojefaaR14
import Derived.Test.YtcdibfkebojefaaTy
import Derived.ProofKit
import Derived.Test.YtcdibfkebojefaaRows
set_option linter.unusedVariables false
set_option linter.unusedSimpArgs false
namespace Go.Proofs.Ytcdibfkebojefaa
open Go Go.Proofs Go.Proofs.Hx Go.ChangeShapes Go.WideShapes Go.RowKit
theorem own : ownKnob Try.prog.godebug = none := by kernel_rfl
theorem laidOut : laidOutB Try.prog = true := by kernel_rfl
noncomputable def zeroT (t : TypeId) : Value := ((Try.prog.info? t).bind (·.zero)).getD (.bool false)
def cts : List (Bool × List CT) := [(false, [.sl 16 opT]), (true, tabT)]
theorem pars : parsOk Try.prog Try.f8.params.toList cts := by
  rw [Try.params8]
  exact ⟨_, _, rfl, ⟨by kernel_rfl, by kernel_rfl, by kernel_rfl, of_decide_eq_true (by kernel_rfl)⟩, ⟨_, _, rfl, ⟨by kernel_rfl, by kernel_rfl, by kernel_rfl, of_decide_eq_true (by kernel_rfl)⟩, rfl⟩⟩
theorem hv : ∀ xs, ArgsOk cts xs → HV Try.prog 8 xs (.lit (.bool true)) := by
  intro xs h
  simp only [cts, ArgsOk] at h
  obtain ⟨_, _, rfl, c0, ⟨_, _, rfl, c1, rfl⟩⟩ := h
  obtain ⟨l0, rfl, s0, h0⟩ := val_ops c0
  obtain ⟨t1, rfl, h1⟩ := val_tab c1
  exact Hx.f8 h0 s0
set_option maxRecDepth 100000 in
theorem lifted (os : Os) (started : os.Started) (H : Type) (enc : TypeId × Value → H) :
    ReturnsInHanded {} Try.checked os 8 .any (Rows.heightTellsSpec.pre6 enc Try.prog Try.f8 Rows.heightTellsRow.domain false) (Rows.heightTellsSpec.post enc Try.prog Try.f8 false true false false) := by
  refine returnsInHanded_of_change_sized (C := Try.checked) own started (by kernel_rfl) Try.func8
    (ChangeSpec.witness6 (enc := enc) (C := Try.checked) false ⟨#[], #[zeroT 29, zeroT 25], []⟩ 8 (by kernel_rfl) (by kernel_rfl) (by kernel_rfl) (by kernel_rfl)) ?_
  intro W base args ds gs before hval hW hcnd hsz _
  refine law_post laidOut rfl (by kernel_rfl) rfl pars (fun ds h => ?_) hv W base args ds gs before hval hW hsz
  obtain ⟨d0, d1, rfl⟩ := len2 (h.trans (by kernel_rfl))
  exact ⟨rfl, rfl, rfl⟩
theorem over : Rows.heightTellsRow.holds Try.pinned (OpenSpec.ofChange Rows.heightTellsSpec) :=
  OpenClaim.holds_of_wide 8 Try.f8 rfl rfl rfl rfl rfl rfl rfl ⟨rfl, rfl, rfl, rfl, rfl⟩ rfl rfl rfl rfl rfl (by kernel_rfl) Try.func8 (by kernel_rfl)
    (of_decide_eq_true (by kernel_rfl)) (by unfold Func.isWrapper; first | (rw [if_pos (by decide +kernel)]; kernel_rfl) | (rw [if_neg (by decide +kernel)]; exact ⟨rfl, rfl⟩))
    (fun os started H enc _ => lifted os started H enc)
/-- The given statement. -/
theorem heightTells_holds : Rows.HeightTellsSaid := over
end Go.Proofs.Ytcdibfkebojefaa
