import Derived.Test.YtdpaimmheoconaaG6
import Derived.Test.YtdpaimmheoconaaRow
import Derived.Test.YtdpaimmheoconaaG12
set_option linter.unusedVariables false
set_option linter.unusedSimpArgs false
namespace Go.Proofs.Hx
open Go Go.Proofs
def opT : List CT := [.int .i8, .int .u8, .int .u8, .int .u8, .int .i64]
def tabT : List CT := [.int .i64, .int .i64, .int .i64, .int .i64, .int .i64, .int .i64, .int .i64, .int .i64, .int .i64, .int .i64, .int .i64, .int .i64, .int .i64]
theorem uC {n : Int} (h : (Lit.int .i64 n).wf = true) : -9223372036854775808 ≤ n ∧ n ≤ 9223372036854775807 := by
 simpa [Lit.wf, IntKind.min, IntKind.max, IntKind.signed, IntKind.bits] using h
theorem wf_u8 {n : Int} (h : (Lit.int .u8 n).wf = true) : 0 ≤ n ∧ n ≤ 255 := by
 simpa [Lit.wf, IntKind.min, IntKind.max, IntKind.signed, IntKind.bits] using h
theorem wf_i8 {n : Int} (h : (Lit.int .i8 n).wf = true) : -128 ≤ n ∧ n ≤ 127 := by
 simpa [Lit.wf, IntKind.min, IntKind.max, IntKind.signed, IntKind.bits] using h
theorem op_of {x : List AV} (h : qO opT x) : ∃ o : Opn, x = opC o ∧ o.ok := by
 simp only [opT, qO, CTok] at h
 obtain ⟨_, _, rfl, ⟨k, rfl, w1⟩, _, _, rfl, ⟨d, rfl, w2⟩, _, _, rfl, ⟨a, rfl, w3⟩, _, _, rfl, ⟨b, rfl, w4⟩, _, _, rfl, ⟨i, rfl, w5⟩, rfl⟩ := h
 have := wf_i8 w1; have := wf_u8 w2; have := wf_u8 w3; have := wf_u8 w4; have := uC w5
 exact ⟨⟨k, d, a, b, i⟩, rfl, by unfold Opn.ok; simp only; omega⟩
def of4 (a b c d : Int) : Nat → Int | 0 => a | 1 => b | 2 => c | _ => d
def Tab.wf (t : Tab) : Prop := ∀ c < 4, (-9223372036854775808 ≤ t.u c ∧ t.u c ≤ 9223372036854775807) ∧ (-9223372036854775808 ≤ t.l c ∧ t.l c ≤ 9223372036854775807) ∧ (-9223372036854775808 ≤ t.b c ∧ t.b c ≤ 9223372036854775807)
theorem tab_of {x : List AV} (h : qO tabT x) : ∃ t : Tab, x = tabC t ∧ t.wf := by
 simp only [tabT, qO, CTok] at h
 obtain ⟨_, _, rfl, ⟨a0, rfl, w0⟩, _, _, rfl, ⟨a1, rfl, w1⟩, _, _, rfl, ⟨a2, rfl, w2⟩, _, _, rfl, ⟨a3, rfl, w3⟩, _, _, rfl, ⟨b0, rfl, x0⟩, _, _, rfl, ⟨b1, rfl, x1⟩, _, _, rfl, ⟨b2, rfl, x2⟩, _, _, rfl, ⟨b3, rfl, x3⟩,
  _, _, rfl, ⟨c0, rfl, y0⟩, _, _, rfl, ⟨c1, rfl, y1⟩, _, _, rfl, ⟨c2, rfl, y2⟩, _, _, rfl, ⟨c3, rfl, y3⟩, _, _, rfl, ⟨d, rfl, z⟩, rfl⟩ := h
 refine ⟨⟨of4 a0 a1 a2 a3, of4 b0 b1 b2 b3, of4 c0 c1 c2 c3, d⟩, rfl, fun c hc => ?_⟩
 match c, hc with
 | 0, _ => exact ⟨uC w0, uC x0, uC y0⟩
 | 1, _ => exact ⟨uC w1, uC x1, uC y1⟩
 | 2, _ => exact ⟨uC w2, uC x2, uC y2⟩
 | 3, _ => exact ⟨uC w3, uC x3, uC y3⟩
theorem val_agg {l : List CT} {a : AV} (h : WZ true l a) : ∃ x, a = .agg x ∧ qO l x := by simpa [WZ] using h
theorem val_ops {b : Nat} {a : AV} (h : WZ false [.sl b opT] a) : ∃ l : List Opn, a = .row (l.map opC) ∧ l.length * b ≤ 140737488351232 ∧ ∀ o ∈ l, o.ok := rows_of (f := opC) (ok := Opn.ok) (fun x hx => op_of hx) h
theorem val_tab {a : AV} (h : WZ true tabT a) : ∃ t : Tab, a = .agg (tabC t) ∧ t.wf := by
 obtain ⟨x, rfl, hx⟩ := val_agg h
 obtain ⟨o, rfl, ho⟩ := tab_of hx
 exact ⟨o, rfl, ho⟩
def blkT : List CT := [.sl 16 opT, .int .i8, .int .u8, .sl 16 opT, .int .i64, .int .i64]
theorem val_of_ok {t : CT} {a : AV} (h : CTok t a) : WZ false [t] a := by
 simp only [WZ, Bool.false_eq_true, if_false, qO]
 exact ⟨a, ⟨a, [], rfl, h, rfl⟩, rfl⟩
theorem blk_of {x : List AV} (h : qO blkT x) : ∃ b : uG, x = YS b ∧ (∀ o ∈ b.l, o.ok) ∧ b.l.length * 16 ≤ 140737488351232 ∧ b.body.length * 16 ≤ 140737488351232 ∧ 0 ≤ b.a := by
 unfold blkT at h
 simp only [qO] at h
 obtain ⟨_, _, rfl, c1, _, _, rfl, c2, _, _, rfl, c3, _, _, rfl, c4, _, _, rfl, c5, _, _, rfl, c6, rfl⟩ := h
 obtain ⟨l, rfl, s1, o1⟩ := val_ops (val_of_ok c1)
 obtain ⟨bd, rfl, s2, o2⟩ := val_ops (val_of_ok c4)
 simp only [CTok] at c2 c3 c5 c6
 obtain ⟨e, rfl, _⟩ := c2
 obtain ⟨a, rfl, wa⟩ := c3
 have ha := (wf_u8 wa).1
 obtain ⟨th, rfl, _⟩ := c5
 obtain ⟨el, rfl, _⟩ := c6
 exact ⟨⟨l, e, a, bd, th, el⟩, rfl, o1, s1, s2, ha⟩
theorem val_block {a : AV} (h : WZ true blkT a) : ∃ b : uG, a = .agg (YS b) ∧ (∀ o ∈ b.l, o.ok) ∧ b.l.length * 16 ≤ 140737488351232 ∧ b.body.length * 16 ≤ 140737488351232 ∧ 0 ≤ b.a := by
 obtain ⟨x, rfl, hx⟩ := val_agg h
 obtain ⟨o, rfl, ho⟩ := blk_of hx
 exact ⟨o, rfl, ho⟩
end Go.Proofs.Hx
