import Derived.Test.YtcdibfkebojefaaG5
import Derived.Test.YtcdibfkebojefaaRow
import Derived.Test.YtcdibfkebojefaaG6
set_option linter.unusedVariables false
set_option linter.unusedSimpArgs false
namespace Go.Proofs.Hx
open Go Go.Proofs
/-! ### Typed arguments -/
def tabT : List CT := [.int .i64, .int .i64, .int .i64, .int .i64, .int .i64, .int .i64, .int .i64, .int .i64, .int .i64, .int .i64, .int .i64, .int .i64, .int .i64]
theorem wf_i64 {n : Int} (h : (Lit.int .i64 n).wf = true) : -9223372036854775808 ≤ n ∧ n ≤ 9223372036854775807 := by
  simpa [Lit.wf, IntKind.min, IntKind.max, IntKind.signed, IntKind.bits] using h
theorem wf_u8 {n : Int} (h : (Lit.int .u8 n).wf = true) : 0 ≤ n ∧ n ≤ 255 := by
  simpa [Lit.wf, IntKind.min, IntKind.max, IntKind.signed, IntKind.bits] using h
theorem wf_i8 {n : Int} (h : (Lit.int .i8 n).wf = true) : -128 ≤ n ∧ n ≤ 127 := by
  simpa [Lit.wf, IntKind.min, IntKind.max, IntKind.signed, IntKind.bits] using h
def of4 (a b c d : Int) : Nat → Int | 0 => a | 1 => b | 2 => c | _ => d
/-- All its numbers are ints of 64 bits. -/
def Tab.wf (t : Tab) : Prop := ∀ c < 4, (-9223372036854775808 ≤ t.u c ∧ t.u c ≤ 9223372036854775807) ∧ (-9223372036854775808 ≤ t.l c ∧ t.l c ≤ 9223372036854775807) ∧ (-9223372036854775808 ≤ t.b c ∧ t.b c ≤ 9223372036854775807)
theorem tab_of {x : List AV} (h : yV tabT x) : ∃ t : Tab, x = tabC t ∧ t.wf := by
  simp only [tabT, yV, CTok] at h
  obtain ⟨_, _, rfl, ⟨a0, rfl, w0⟩, _, _, rfl, ⟨a1, rfl, w1⟩, _, _, rfl, ⟨a2, rfl, w2⟩, _, _, rfl, ⟨a3, rfl, w3⟩, _, _, rfl, ⟨b0, rfl, x0⟩, _, _, rfl, ⟨b1, rfl, x1⟩, _, _, rfl, ⟨b2, rfl, x2⟩, _, _, rfl, ⟨b3, rfl, x3⟩,
    _, _, rfl, ⟨c0, rfl, y0⟩, _, _, rfl, ⟨c1, rfl, y1⟩, _, _, rfl, ⟨c2, rfl, y2⟩, _, _, rfl, ⟨c3, rfl, y3⟩, _, _, rfl, ⟨d, rfl, z⟩, rfl⟩ := h
  refine ⟨⟨of4 a0 a1 a2 a3, of4 b0 b1 b2 b3, of4 c0 c1 c2 c3, d⟩, rfl, fun c hc => ?_⟩
  match c, hc with
  | 0, _ => exact ⟨wf_i64 w0, wf_i64 x0, wf_i64 y0⟩
  | 1, _ => exact ⟨wf_i64 w1, wf_i64 x1, wf_i64 y1⟩
  | 2, _ => exact ⟨wf_i64 w2, wf_i64 x2, wf_i64 y2⟩
  | 3, _ => exact ⟨wf_i64 w3, wf_i64 x3, wf_i64 y3⟩
theorem val_agg {l : List CT} {a : AV} (h : CTval true l a) : ∃ x, a = .agg x ∧ yV l x := by simpa [CTval] using h
theorem val_tab {a : AV} (h : CTval true tabT a) : ∃ t : Tab, a = .agg (tabC t) ∧ t.wf := by
  obtain ⟨x, rfl, hx⟩ := val_agg h
  obtain ⟨o, rfl, ho⟩ := tab_of hx
  exact ⟨o, rfl, ho⟩
end Go.Proofs.Hx

set_option linter.unusedVariables false
set_option linter.unusedSimpArgs false
namespace Go.Proofs.Hx
open Go Go.Proofs
def issT : List CT := [.int .i64, .int .i64, .int .i8, .int .u8, .int .u8, .int .u8, .int .i64, .int .i64, .bool, .int .i64, .bool]
theorem iss_of {x : List AV} (h : yV issT x) : ∃ o : Iss, x = isC o ∧ o.o.ok := by
  simp only [issT, yV, CTok] at h
  obtain ⟨_, _, rfl, ⟨c, rfl, v1⟩, _, _, rfl, ⟨e, rfl, v2⟩, _, _, rfl, ⟨k, rfl, w1⟩, _, _, rfl, ⟨d, rfl, w2⟩, _, _, rfl, ⟨a, rfl, w3⟩, _, _, rfl, ⟨b, rfl, w4⟩, _, _, rfl, ⟨i, rfl, w5⟩, _, _, rfl, ⟨g0, rfl, v3⟩, _, _, rfl, ⟨g1, rfl⟩, _, _, rfl, ⟨g2, rfl, v4⟩, _, _, rfl, ⟨g3, rfl⟩, rfl⟩ := h
  have := wf_i8 w1; have := wf_u8 w2; have := wf_u8 w3; have := wf_u8 w4; have := wf_i64 w5
  exact ⟨⟨c, e, ⟨k, d, a, b, i⟩, g0, g1, g2, g3⟩, rfl, by unfold Opn.ok; simp only; omega⟩
theorem val_iss {b : Nat} {a : AV} (h : CTval false [.sl b issT] a) : ∃ l : List Iss, a = .row (l.map isC) ∧ l.length * b ≤ 140737488351232 ∧ isOK l := rows_of (f := isC) (ok := fun x => x.o.ok) (fun x hx => iss_of hx) h
end Go.Proofs.Hx
