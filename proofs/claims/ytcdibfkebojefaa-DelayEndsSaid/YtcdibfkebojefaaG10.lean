import Derived.Test.YtcdibfkebojefaaG8
import Derived.Test.YtcdibfkebojefaaW26
import Derived.Test.YtcdibfkebojefaaG7
import Derived.Test.YtcdibfkebojefaaG6
set_option linter.unusedVariables false
set_option linter.unusedSimpArgs false
namespace Go.Proofs.Hx
open Go Go.Proofs
attribute [local irreducible] yS awp opK goV goM qB yZ qH yW HV HVF HC
end Go.Proofs.Hx

set_option linter.unusedVariables false
set_option linter.unusedSimpArgs false
namespace Go.Proofs.Hx
open Go Go.Proofs
attribute [local irreducible] yS awp opK goV goM qB yZ qH yW HV HVF HC
end Go.Proofs.Hx

set_option linter.unusedVariables false
set_option linter.unusedSimpArgs false
namespace Go.Proofs.Hx
open Go Go.Proofs
attribute [local irreducible] yS awp opK goV goM qB yZ qH yW HV HVF HC
theorem qF (k k' k'' : IntKind) (a b c : Int) : maxV [.lit (.int k a), .lit (.int k' b), .lit (.int k'' c)] = some (.lit (.int k (if c > (if b > a then b else a) then c else (if b > a then b else a)))) := rfl
end Go.Proofs.Hx

set_option linter.unusedVariables false
set_option linter.unusedSimpArgs false
namespace Go.Proofs.Hx
open Go Go.Proofs
attribute [local irreducible] yS awp opK goV goM qB yZ qH yW HV HVF HC
/-! ### When a block is over -/
def landS (l : List Opn) (t : Tab) (cs : List Int) (k : Nat) : Int := cs.getD k 0 + t.l (clsN (opAt l k))
def qW (l : List Opn) (t : Tab) (cs : List Int) : Nat → Int
  | 0 => 0
  | k + 1 => mx (mx (qW l t cs k) (landS l t cs k)) (cs.getD k 0 + t.b (clsN (opAt l k)))
def whenL (l : List Opn) (t : Tab) (cs : List Int) : Nat → Int
  | 0 => 0
  | k + 1 => mx (whenL l t cs k) (landS l t cs k)
def whenO (l : List Opn) (t : Tab) (cs : List Int) (a : Int) : Nat → Int
  | 0 => 0
  | k + 1 => if (wrS (opAt l k)).2 = true ∧ (wrS (opAt l k)).1 = a then landS l t cs k else whenO l t cs a k
theorem land_bnd {l : List Opn} {t : Tab} {cs : List Int} (ht : YP t) (h : ∀ x ∈ cs, 0 ≤ x ∧ x ≤ 65536) (k : Nat) : 0 ≤ cs.getD k 0 ∧ cs.getD k 0 ≤ 65536 ∧ 0 ≤ landS l t cs k ∧ landS l t cs k ≤ 65544 ∧ cs.getD k 0 + t.b (clsN (opAt l k)) ≤ 65540 := by
  have h0 : 0 ≤ cs.getD k 0 ∧ cs.getD k 0 ≤ 65536 := by
    rw [List.getD_eq_getElem?_getD]
    by_cases hk : k < cs.length
    · rw [List.getElem?_eq_getElem hk]; exact h _ (List.getElem_mem hk)
    · rw [List.getElem?_eq_none (by omega)]; simp
  have := ht.1 _ (clsN_lt (opAt l k))
  unfold okC at this
  unfold landS
  omega
theorem when_bnd {l : List Opn} {t : Tab} {cs : List Int} (ht : YP t) (h : ∀ x ∈ cs, 0 ≤ x ∧ x ≤ 65536) (a : Int) : ∀ k, (0 ≤ qW l t cs k ∧ qW l t cs k ≤ 65544) ∧ (0 ≤ whenL l t cs k ∧ whenL l t cs k ≤ 65544) ∧ (0 ≤ whenO l t cs a k ∧ whenO l t cs a k ≤ 65544)
  | 0 => by simp [qW, whenL, whenO]
  | k + 1 => by
    have hi := when_bnd (l := l) ht h a k
    have hl := land_bnd (l := l) ht h k
    simp only [qW, whenL, whenO, mx]
    refine ⟨?_, ?_, ?_⟩ <;> (repeat' split) <;> omega
theorem f68 (l : List Opn) (t : Tab) (cs : List Int) (a : Int) (hl : ∀ o ∈ l, o.ok) (hn : l.length ≤ 100000) (hln : cs.length = l.length) (ht : YP t) (hcr : ∀ x ∈ cs, 0 ≤ x ∧ x ≤ 65536) {ca : AV} (hca : CycA ca cs) :
    HV Try.prog 68 [.row (l.map opC), .agg (tabC t), ca, u8 a] (.agg [i64 (qW l t cs l.length), i64 (whenL l t cs l.length), i64 (whenO l t cs a l.length)]) := by
  refine yT yX cf68 (by simp) (by simp [imms, imm, tab_imms, qK, hca.imm]) ?_ (by simp [imm, imms])
  unfold ac68 re68
  refine yQ fun env hE => ?_; obtain ⟨e0, e1, e2, e3, e5, e8, e9, e10, e11, e13, e14, e15, e16, e17, e18, e19⟩ := cj16 hE 0 1 2 3 5 8 9 10 11 13 14 15 16 17 18 19; simp -implicitDefEqProofs only [push_cast] at e0 e1 e2 e3 e5 e8 e9 e10 e11 e13 e14 e15 e16 e17 e18 e19; clear hE
  repeat' (first | ((try clear hf); with_reducible refine yE fun env K hE hK hf => ?_; have n := cj16 hE 0 1 2 3 5 8 9 10 11 13 14 15 16 17 18 19; simp -implicitDefEqProofs only [push_cast, reduceIte, Nat.reduceEqDiff, e0, e1, e2, e3, e5, e8, e9, e10, e11, e13, e14, e15, e16, e17, e18, e19] at n; clear hE e0 e1 e2 e3 e5 e8 e9 e10 e11 e13 e14 e15 e16 e17 e18 e19; obtain ⟨e0, e1, e2, e3, e5, e8, e9, e10, e11, e13, e14, e15, e16, e17, e18, e19⟩ := n) | (with_reducible refine hK _ _ ?_; clear hK K) | (with_reducible first | (refine Zi ?_; constructor) | refine yC (by decide) ?_ | refine yJ (by assumption) ?_ | refine yL (by assumption) ?_) | (refine yD rfl ?_) | (simp -implicitDefEqProofs only [push_cast, sevalprocAttr, eq_self, e0, e1, e2, e3, e5, e8, e9, e10, e11, e13, e14, e15, e16, e17, e18, e19, yU]) | (simp -implicitDefEqProofs (disch := omega) only [yH, yM, yI, yG, e0, e1, e2, e3, e5, e8, e9, e10, e11, e13, e14, e15, e16, e17, e18, e19, yU]) | (with_reducible refine yO ?_ ?_) | (refine yF rfl (fun bb => ?_) (fun bb => ?_) <;> (first | have bp := oT bb | have bp := oF bb | skip) <;> simp only [bb]) | (with_reducible refine yK (fun bb => ?_) (fun bb => ?_) <;> (first | have bp := oT bb | have bp := oF bb | skip)) | ((with_reducible refine And.intro ?_ ?_); omega) | fail)
  refine yQ fun env hE => ?_; have n := cj16 hE 0 1 2 3 5 8 9 10 11 13 14 15 16 17 18 19; simp -implicitDefEqProofs only [push_cast, reduceIte, Nat.reduceEqDiff, e0, e1, e2, e3, e5, e8, e9, e10, e11, e13, e14, e15, e16, e17, e18, e19] at n; clear hE e0 e1 e2 e3 e5 e8 e9 e10 e11 e13 e14 e15 e16 e17 e18 e19; obtain ⟨e0, e1, e2, e3, e5, e8, e9, e10, e11, e13, e14, e15, e16, e17, e18, e19⟩ := n; have E68_0_0 := e0; have E68_0_1 := e1; have E68_0_2 := e2; have E68_0_3 := e3; have E68_0_5 := e5; have E68_0_8 := e8; have E68_0_16 := e16; have E68_0_17 := e17
  refine qE (fun nn σ => ∃ (k : Nat), nn = l.length - k ∧ σ.env 0 = env 0 ∧ σ.env 1 = env 1 ∧ σ.env 2 = env 2 ∧ σ.env 3 = env 3 ∧ σ.env 5 = env 5 ∧ σ.env 8 = env 8 ∧ σ.env 16 = env 16 ∧ σ.env 17 = env 17 ∧ σ.env 18 = i64 k ∧ (k ≤ l.length ∧ σ.h.hp (2, 5) = some ⟨true, tabC t⟩ ∧ σ.h.hp (2, 8) = some ⟨true, [i64 (qW l t cs k), i64 (whenL l t cs k), i64 (whenO l t cs a k)]⟩ ∧ 2 ≤ σ.h.ep)) _ ⟨0, rfl, rfl, rfl, rfl, rfl, rfl, rfl, rfl, rfl, by refine e18.trans ?_; first | rfl | exact yP (by omega) | (simp -implicitDefEqProofs (disch := omega) only [yG]; first | rfl | exact yP (by omega)), ?_⟩ ?_
  · exact ⟨by omega, by simp -implicitDefEqProofs only [push_cast, sevalprocAttr, eq_self], by simp -implicitDefEqProofs only [push_cast, sevalprocAttr, eq_self]; rfl, by simp -implicitDefEqProofs only [push_cast, sevalprocAttr, eq_self]⟩
  clear e0 e1 e2 e3 e5 e8 e9 e10 e11 e13 e14 e15 e16 e17 e18 e19; rintro nn ⟨env, h⟩ ⟨k, rfl, q0, q1, q2, q3, q5, q8, q16, q17, e18, hI⟩; simp only at q0 q1 q2 q3 q5 q8 q16 q17 e18 hI; (first | have e0 := q0.trans E68_0_0 | have e0 := True.intro); (first | have e1 := q1.trans E68_0_1 | have e1 := True.intro); (first | have e2 := q2.trans E68_0_2 | have e2 := True.intro); (first | have e3 := q3.trans E68_0_3 | have e3 := True.intro); (first | have e5 := q5.trans E68_0_5 | have e5 := True.intro); (first | have e8 := q8.trans E68_0_8 | have e8 := True.intro); (first | have e16 := q16.trans E68_0_16 | have e16 := True.intro); (first | have e17 := q17.trans E68_0_17 | have e17 := True.intro); clear q0 q1 q2 q3 q5 q8 q16 q17; have e9 := True.intro; have e10 := True.intro; have e11 := True.intro; have e13 := True.intro; have e14 := True.intro; have e15 := True.intro; have e19 := True.intro
  obtain ⟨hk, hb5, hb8, hep⟩ := hI
  unfold l68_0
  (first | refine yV fun hF => ?_ | refine qM fun hF => ?_ | refine qL fun hF => ?_)
  by_cases hlt : k < l.length
  · have hd : decide ((k : Int) < (l.length : Int)) = true := dT (by omega)
    have hro := qU hlt .i64
    have hr := hca.at (k := k) (by omega)
    have hcl := clsN_eq l[k]
    have hcc := clsN_lt l[k]
    have hq4 := tab_l t hcc
    have hq8 := tab_b t hcc
    have hlb := land_bnd (l := l) ht hcr k
    have hwb := when_bnd (l := l) ht hcr a k
    have hok := hl l[k] (List.getElem_mem hlt)
    have hD : qW l t cs (k + 1) = mx (mx (qW l t cs k) (landS l t cs k)) (cs.getD k 0 + t.b (clsN (opAt l k))) := rfl
    have hL : whenL l t cs (k + 1) = mx (whenL l t cs k) (landS l t cs k) := rfl
    have hO : whenO l t cs a (k + 1) = if (wrS (opAt l k)).2 = true ∧ (wrS (opAt l k)).1 = a then landS l t cs k else whenO l t cs a k := rfl
    have hbu := ht.1 _ hcc
    unfold okC at hbu
    unfold landS at *
    rw [← qR hlt] at hD hL hO hlb
    generalize l[k] = o at *
    generalize cs.getD k 0 = v at *
    have hw1 : IntKind.i64.wrap (v + t.l (clsN o)) = v + t.l (clsN o) := qN (by omega) (by omega)
    have hw2 : IntKind.i64.wrap (v + t.b (clsN o)) = v + t.b (clsN o) := qN (by omega) (by omega)
    simp only [mx] at hD hL
    by_cases h1 : (wrS o).2 = true
    · by_cases h2 : (wrS o).1 = a
      · have d2 : decide ((wrS o).1 = a) = true := dT h2
        rw [if_pos ⟨h1, h2⟩] at hO
        repeat' (first | ((try clear hf); with_reducible refine yE fun env K hE hK hf => ?_; have n := cj16 hE 0 1 2 3 5 8 9 10 11 13 14 15 16 17 18 19; simp -implicitDefEqProofs only [push_cast, reduceIte, Nat.reduceEqDiff, e0, e1, e2, e3, e5, e8, e9, e10, e11, e13, e14, e15, e16, e17, e18, e19] at n; clear hE e0 e1 e2 e3 e5 e8 e9 e10 e11 e13 e14 e15 e16 e17 e18 e19; obtain ⟨e0, e1, e2, e3, e5, e8, e9, e10, e11, e13, e14, e15, e16, e17, e18, e19⟩ := n) | (with_reducible refine hK _ _ ?_; clear hK K) | (with_reducible first | (refine Zi ?_; constructor) | refine yC (by decide) ?_ | refine yJ (by assumption) ?_ | refine yL (by assumption) ?_) | (refine yD rfl ?_) | (simp -implicitDefEqProofs only [push_cast, sevalprocAttr, eq_self, e0, e1, e2, e3, e5, e8, e9, e10, e11, e13, e14, e15, e16, e17, e18, e19, hd, hF.at, hr, hro, hb5, hb8, hq4, hq8, op_0, hcl, hw1, hw2, qA, qF, h1, d2]) | (simp -implicitDefEqProofs (disch := omega) only [yH, yM, yI, yG, e0, e1, e2, e3, e5, e8, e9, e10, e11, e13, e14, e15, e16, e17, e18, e19, hd, hF.at, hr, hro, hb5, hb8, hq4, hq8, op_0, hcl, hw1, hw2, qA, qF, h1, d2]) | (with_reducible refine yO ?_ ?_) | (refine yF rfl (fun bb => ?_) (fun bb => ?_) <;> (first | have bp := oT bb | have bp := oF bb | skip) <;> simp only [bb]) | (with_reducible refine yK (fun bb => ?_) (fun bb => ?_) <;> (first | have bp := oT bb | have bp := oF bb | skip)) | ((with_reducible refine And.intro ?_ ?_); omega) | (refine yN (f41 _) ?_) | (refine yN (f52 _ hok) ?_) | fail)
        refine ⟨_, ?_, k + 1, rfl, E68_0_0.symm, E68_0_1.symm, E68_0_2.symm, E68_0_3.symm, E68_0_5.symm, E68_0_8.symm, E68_0_16.symm, E68_0_17.symm, by first | rfl | exact yP (by omega) | (simp -implicitDefEqProofs (disch := omega) only [yG]; first | rfl | exact yP (by omega)), ?_⟩
        · omega
        · refine ⟨by omega, ?_⟩
          rw [hD, hL, hO]; rfl
      · have d2 : decide ((wrS o).1 = a) = false := dF h2
        rw [if_neg (fun h => h2 h.2)] at hO
        repeat' (first | ((try clear hf); with_reducible refine yE fun env K hE hK hf => ?_; have n := cj16 hE 0 1 2 3 5 8 9 10 11 13 14 15 16 17 18 19; simp -implicitDefEqProofs only [push_cast, reduceIte, Nat.reduceEqDiff, e0, e1, e2, e3, e5, e8, e9, e10, e11, e13, e14, e15, e16, e17, e18, e19] at n; clear hE e0 e1 e2 e3 e5 e8 e9 e10 e11 e13 e14 e15 e16 e17 e18 e19; obtain ⟨e0, e1, e2, e3, e5, e8, e9, e10, e11, e13, e14, e15, e16, e17, e18, e19⟩ := n) | (with_reducible refine hK _ _ ?_; clear hK K) | (with_reducible first | (refine Zi ?_; constructor) | refine yC (by decide) ?_ | refine yJ (by assumption) ?_ | refine yL (by assumption) ?_) | (refine yD rfl ?_) | (simp -implicitDefEqProofs only [push_cast, sevalprocAttr, eq_self, e0, e1, e2, e3, e5, e8, e9, e10, e11, e13, e14, e15, e16, e17, e18, e19, hd, hF.at, hr, hro, hb5, hb8, hq4, hq8, op_0, hcl, hw1, hw2, qA, qF, h1, d2]) | (simp -implicitDefEqProofs (disch := omega) only [yH, yM, yI, yG, e0, e1, e2, e3, e5, e8, e9, e10, e11, e13, e14, e15, e16, e17, e18, e19, hd, hF.at, hr, hro, hb5, hb8, hq4, hq8, op_0, hcl, hw1, hw2, qA, qF, h1, d2]) | (with_reducible refine yO ?_ ?_) | (refine yF rfl (fun bb => ?_) (fun bb => ?_) <;> (first | have bp := oT bb | have bp := oF bb | skip) <;> simp only [bb]) | (with_reducible refine yK (fun bb => ?_) (fun bb => ?_) <;> (first | have bp := oT bb | have bp := oF bb | skip)) | ((with_reducible refine And.intro ?_ ?_); omega) | (refine yN (f41 _) ?_) | (refine yN (f52 _ hok) ?_) | fail)
        refine ⟨_, ?_, k + 1, rfl, E68_0_0.symm, E68_0_1.symm, E68_0_2.symm, E68_0_3.symm, E68_0_5.symm, E68_0_8.symm, E68_0_16.symm, E68_0_17.symm, by first | rfl | exact yP (by omega) | (simp -implicitDefEqProofs (disch := omega) only [yG]; first | rfl | exact yP (by omega)), ?_⟩
        · omega
        · refine ⟨by omega, ?_⟩
          rw [hD, hL, hO]; rfl
    · have h1 : (wrS o).2 = false := by simpa using h1
      rw [if_neg (fun h => by rw [h1] at h; exact absurd h.1 (by decide))] at hO
      repeat' (first | ((try clear hf); with_reducible refine yE fun env K hE hK hf => ?_; have n := cj16 hE 0 1 2 3 5 8 9 10 11 13 14 15 16 17 18 19; simp -implicitDefEqProofs only [push_cast, reduceIte, Nat.reduceEqDiff, e0, e1, e2, e3, e5, e8, e9, e10, e11, e13, e14, e15, e16, e17, e18, e19] at n; clear hE e0 e1 e2 e3 e5 e8 e9 e10 e11 e13 e14 e15 e16 e17 e18 e19; obtain ⟨e0, e1, e2, e3, e5, e8, e9, e10, e11, e13, e14, e15, e16, e17, e18, e19⟩ := n) | (with_reducible refine hK _ _ ?_; clear hK K) | (with_reducible first | (refine Zi ?_; constructor) | refine yC (by decide) ?_ | refine yJ (by assumption) ?_ | refine yL (by assumption) ?_) | (refine yD rfl ?_) | (simp -implicitDefEqProofs only [push_cast, sevalprocAttr, eq_self, e0, e1, e2, e3, e5, e8, e9, e10, e11, e13, e14, e15, e16, e17, e18, e19, hd, hF.at, hr, hro, hb5, hb8, hq4, hq8, op_0, hcl, hw1, hw2, qA, qF, h1]) | (simp -implicitDefEqProofs (disch := omega) only [yH, yM, yI, yG, e0, e1, e2, e3, e5, e8, e9, e10, e11, e13, e14, e15, e16, e17, e18, e19, hd, hF.at, hr, hro, hb5, hb8, hq4, hq8, op_0, hcl, hw1, hw2, qA, qF, h1]) | (with_reducible refine yO ?_ ?_) | (refine yF rfl (fun bb => ?_) (fun bb => ?_) <;> (first | have bp := oT bb | have bp := oF bb | skip) <;> simp only [bb]) | (with_reducible refine yK (fun bb => ?_) (fun bb => ?_) <;> (first | have bp := oT bb | have bp := oF bb | skip)) | ((with_reducible refine And.intro ?_ ?_); omega) | (refine yN (f41 _) ?_) | (refine yN (f52 _ hok) ?_) | fail)
      refine ⟨_, ?_, k + 1, rfl, E68_0_0.symm, E68_0_1.symm, E68_0_2.symm, E68_0_3.symm, E68_0_5.symm, E68_0_8.symm, E68_0_16.symm, E68_0_17.symm, by first | rfl | exact yP (by omega) | (simp -implicitDefEqProofs (disch := omega) only [yG]; first | rfl | exact yP (by omega)), ?_⟩
      · omega
      · refine ⟨by omega, ?_⟩
        rw [hD, hL, hO]; rfl
  · have hd : decide ((k : Int) < (l.length : Int)) = false := dF (by omega)
    obtain rfl : k = l.length := by omega
    repeat' (first | ((try clear hf); with_reducible refine yE fun env K hE hK hf => ?_; have n := cj16 hE 0 1 2 3 5 8 9 10 11 13 14 15 16 17 18 19; simp -implicitDefEqProofs only [push_cast, reduceIte, Nat.reduceEqDiff, e0, e1, e2, e3, e5, e8, e9, e10, e11, e13, e14, e15, e16, e17, e18, e19] at n; clear hE e0 e1 e2 e3 e5 e8 e9 e10 e11 e13 e14 e15 e16 e17 e18 e19; obtain ⟨e0, e1, e2, e3, e5, e8, e9, e10, e11, e13, e14, e15, e16, e17, e18, e19⟩ := n) | (with_reducible refine hK _ _ ?_; clear hK K) | (with_reducible first | (refine Zi ?_; constructor) | refine yC (by decide) ?_ | refine yJ (by assumption) ?_ | refine yL (by assumption) ?_) | (refine yD rfl ?_) | (simp -implicitDefEqProofs only [push_cast, sevalprocAttr, eq_self, e0, e1, e2, e3, e5, e8, e9, e10, e11, e13, e14, e15, e16, e17, e18, e19, hd, hb8]) | (simp -implicitDefEqProofs (disch := omega) only [yH, yM, yI, yG, e0, e1, e2, e3, e5, e8, e9, e10, e11, e13, e14, e15, e16, e17, e18, e19, hd, hb8]) | (with_reducible refine yO ?_ ?_) | (refine yF rfl (fun bb => ?_) (fun bb => ?_) <;> (first | have bp := oT bb | have bp := oF bb | skip) <;> simp only [bb]) | (with_reducible refine yK (fun bb => ?_) (fun bb => ?_) <;> (first | have bp := oT bb | have bp := oF bb | skip)) | ((with_reducible refine And.intro ?_ ?_); omega) | fail)
/-! ### delay.End -/
structure BlockV where
  l : List Opn
  e : Int
  a : Int
  body : List Opn
  th : Int
  el : Int
def YO (b : BlockV) : List AV := [.row (b.l.map opC), .lit (.int .i8 b.e), u8 b.a, .row (b.body.map opC), i64 b.th, i64 b.el]
def qP (t : Tab) : Int := mx 0 (t.b 3 - 1 - t.d)
open Classical in
/-- Where a block's end is issued, how long it is, and what is wrong. -/
noncomputable def endS (b : BlockV) (t : Tab) (cs : List Int) : Int × Int × Int :=
  if ¬ YP t then (0, 0, 20) else if t.u 3 = 0 then (0, 0, 21) else if b.e < 0 ∨ 3 < b.e ∨ (b.e ≠ 0 ∧ 32 ≤ b.a) then (0, 0, 50) else if ¬ checkP b.l t cs then (0, 0, 160) else
  if b.e = 3 then (-1, qW b.l t cs b.l.length, 0) else
  if b.e = 2 then (mx (qP t) (whenL b.l t cs b.l.length), mx (qP t) (whenL b.l t cs b.l.length) + 1, 0) else
  let n := mx (qW b.l t cs b.l.length) ((if b.e = 1 then mx (qP t) (whenO b.l t cs b.a b.l.length) else qP t) + 1 + t.d)
  (n - 1 - t.d, n, 0)
noncomputable def endA (b : BlockV) (t : Tab) (cs : List Int) : AV := .tup [i64 (endS b t cs).1, i64 (endS b t cs).2.1, i64 (endS b t cs).2.2]
theorem block_imms (b : BlockV) : imms (YO b) = true := by simp [YO, imms, imm, qK]
theorem f31 (b : BlockV) (t : Tab) (cs : List Int) (hl : ∀ o ∈ b.l, o.ok) (hcn : cs.length ≤ 100000000000000) {ca : AV} (hca : CycA ca cs) :
    HV Try.prog 31 [.agg (YO b), .agg (tabC t), ca] (endA b t cs) := by
  refine yT yX cf31 (by simp) (by simp [imms, imm, tab_imms, block_imms, hca.imm]) ?_ (by simp [endA, imm, imms])
  unfold ac31 re31
  refine yQ fun env hE => ?_; obtain ⟨e0, e1, e2, e3, e4, e6, e7, e8, e9, e10, e11, e23, e61⟩ := cj13 hE 0 1 2 3 4 6 7 8 9 10 11 23 61; simp -implicitDefEqProofs only [push_cast] at e0 e1 e2 e3 e4 e6 e7 e8 e9 e10 e11 e23 e61; clear hE
  have hB0 : (YO b)[0]? = some (.row (b.l.map opC)) := rfl
  have hB1 : (YO b)[1]? = some (.lit (.int .i8 b.e)) := rfl
  have hB2 : (YO b)[2]? = some (u8 b.a) := rfl
  have hT3 := tab_u t (c := 3) (by omega)
  have hT11 : (tabC t)[11]? = some (i64 (t.b 3)) := tab_b t (c := 3) (by omega)
  have hT12 := tab_d t
  by_cases h1 : YP t
  rotate_left
  · have hE := tabE_bad h1
    have d1 : decide (¬ tabE t = 0) = true := dT (by omega)
    have hS : endS b t cs = (0, 0, 20) := if_pos h1
    repeat' (first | ((try clear hf); with_reducible refine yE fun env K hE hK hf => ?_; have n := cj13 hE 0 1 2 3 4 6 7 8 9 10 11 23 61; simp -implicitDefEqProofs only [push_cast, reduceIte, Nat.reduceEqDiff, e0, e1, e2, e3, e4, e6, e7, e8, e9, e10, e11, e23, e61] at n; clear hE e0 e1 e2 e3 e4 e6 e7 e8 e9 e10 e11 e23 e61; obtain ⟨e0, e1, e2, e3, e4, e6, e7, e8, e9, e10, e11, e23, e61⟩ := n) | (with_reducible refine hK _ _ ?_; clear hK K) | (with_reducible first | (refine Zi ?_; constructor) | refine yC (by decide) ?_ | refine yJ (by assumption) ?_ | refine yL (by assumption) ?_) | (refine yD rfl ?_) | (simp -implicitDefEqProofs only [push_cast, sevalprocAttr, eq_self, e0, e1, e2, e3, e4, e6, e7, e8, e9, e10, e11, e23, e61, d1]) | (simp -implicitDefEqProofs (disch := omega) only [yH, yM, yI, yG, e0, e1, e2, e3, e4, e6, e7, e8, e9, e10, e11, e23, e61, d1]) | (with_reducible refine yO ?_ ?_) | (refine yF rfl (fun bb => ?_) (fun bb => ?_) <;> (first | have bp := oT bb | have bp := oF bb | skip) <;> simp only [bb]) | (with_reducible refine yK (fun bb => ?_) (fun bb => ?_) <;> (first | have bp := oT bb | have bp := oF bb | skip)) | ((with_reducible refine And.intro ?_ ?_); omega) | (refine yN (f42 t) ?_) | fail)
    rw [endA, hS, hE]
    rfl
  have hE := tabE_ok h1
  have d1 : decide (¬ tabE t = 0) = false := dF (by omega)
  have hb3 := h1.1 3 (by omega)
  have hdl := h1.2
  unfold okC at hb3
  by_cases h2 : t.u 3 = 0
  · have d2 : decide (t.u 3 = 0) = true := dT h2
    have hS : endS b t cs = (0, 0, 21) := by unfold endS; rw [if_neg (fun h => h h1), if_pos h2]
    repeat' (first | ((try clear hf); with_reducible refine yE fun env K hE hK hf => ?_; have n := cj13 hE 0 1 2 3 4 6 7 8 9 10 11 23 61; simp -implicitDefEqProofs only [push_cast, reduceIte, Nat.reduceEqDiff, e0, e1, e2, e3, e4, e6, e7, e8, e9, e10, e11, e23, e61] at n; clear hE e0 e1 e2 e3 e4 e6 e7 e8 e9 e10 e11 e23 e61; obtain ⟨e0, e1, e2, e3, e4, e6, e7, e8, e9, e10, e11, e23, e61⟩ := n) | (with_reducible refine hK _ _ ?_; clear hK K) | (with_reducible first | (refine Zi ?_; constructor) | refine yC (by decide) ?_ | refine yJ (by assumption) ?_ | refine yL (by assumption) ?_) | (refine yD rfl ?_) | (simp -implicitDefEqProofs only [push_cast, sevalprocAttr, eq_self, e0, e1, e2, e3, e4, e6, e7, e8, e9, e10, e11, e23, e61, d1, d2, hT3]) | (simp -implicitDefEqProofs (disch := omega) only [yH, yM, yI, yG, e0, e1, e2, e3, e4, e6, e7, e8, e9, e10, e11, e23, e61, d1, d2, hT3]) | (with_reducible refine yO ?_ ?_) | (refine yF rfl (fun bb => ?_) (fun bb => ?_) <;> (first | have bp := oT bb | have bp := oF bb | skip) <;> simp only [bb]) | (with_reducible refine yK (fun bb => ?_) (fun bb => ?_) <;> (first | have bp := oT bb | have bp := oF bb | skip)) | ((with_reducible refine And.intro ?_ ?_); omega) | (refine yN (f42 t) ?_) | fail)
    rw [endA, hS]
    rfl
  have d2 : decide (t.u 3 = 0) = false := dF h2
  by_cases h3 : b.e < 0 ∨ 3 < b.e ∨ (b.e ≠ 0 ∧ 32 ≤ b.a)
  · have hS : endS b t cs = (0, 0, 50) := by unfold endS; rw [if_neg (fun h => h h1), if_neg h2, if_pos h3]
    by_cases h4 : b.e < 0
    · have d3 : decide (b.e < 0) = true := dT h4
      repeat' (first | ((try clear hf); with_reducible refine yE fun env K hE hK hf => ?_; have n := cj13 hE 0 1 2 3 4 6 7 8 9 10 11 23 61; simp -implicitDefEqProofs only [push_cast, reduceIte, Nat.reduceEqDiff, e0, e1, e2, e3, e4, e6, e7, e8, e9, e10, e11, e23, e61] at n; clear hE e0 e1 e2 e3 e4 e6 e7 e8 e9 e10 e11 e23 e61; obtain ⟨e0, e1, e2, e3, e4, e6, e7, e8, e9, e10, e11, e23, e61⟩ := n) | (with_reducible refine hK _ _ ?_; clear hK K) | (with_reducible first | (refine Zi ?_; constructor) | refine yC (by decide) ?_ | refine yJ (by assumption) ?_ | refine yL (by assumption) ?_) | (refine yD rfl ?_) | (simp -implicitDefEqProofs only [push_cast, sevalprocAttr, eq_self, e0, e1, e2, e3, e4, e6, e7, e8, e9, e10, e11, e23, e61, d1, d2, d3, hT3, hB1]) | (simp -implicitDefEqProofs (disch := omega) only [yH, yM, yI, yG, e0, e1, e2, e3, e4, e6, e7, e8, e9, e10, e11, e23, e61, d1, d2, d3, hT3, hB1]) | (with_reducible refine yO ?_ ?_) | (refine yF rfl (fun bb => ?_) (fun bb => ?_) <;> (first | have bp := oT bb | have bp := oF bb | skip) <;> simp only [bb]) | (with_reducible refine yK (fun bb => ?_) (fun bb => ?_) <;> (first | have bp := oT bb | have bp := oF bb | skip)) | ((with_reducible refine And.intro ?_ ?_); omega) | (refine yN (f42 t) ?_) | fail)
      rw [endA, hS]
      rfl
    have d3 : decide (b.e < 0) = false := dF h4
    by_cases h5 : 3 < b.e
    · have d4 : decide (3 < b.e) = true := dT h5
      repeat' (first | ((try clear hf); with_reducible refine yE fun env K hE hK hf => ?_; have n := cj13 hE 0 1 2 3 4 6 7 8 9 10 11 23 61; simp -implicitDefEqProofs only [push_cast, reduceIte, Nat.reduceEqDiff, e0, e1, e2, e3, e4, e6, e7, e8, e9, e10, e11, e23, e61] at n; clear hE e0 e1 e2 e3 e4 e6 e7 e8 e9 e10 e11 e23 e61; obtain ⟨e0, e1, e2, e3, e4, e6, e7, e8, e9, e10, e11, e23, e61⟩ := n) | (with_reducible refine hK _ _ ?_; clear hK K) | (with_reducible first | (refine Zi ?_; constructor) | refine yC (by decide) ?_ | refine yJ (by assumption) ?_ | refine yL (by assumption) ?_) | (refine yD rfl ?_) | (simp -implicitDefEqProofs only [push_cast, sevalprocAttr, eq_self, e0, e1, e2, e3, e4, e6, e7, e8, e9, e10, e11, e23, e61, d1, d2, d3, d4, hT3, hB1]) | (simp -implicitDefEqProofs (disch := omega) only [yH, yM, yI, yG, e0, e1, e2, e3, e4, e6, e7, e8, e9, e10, e11, e23, e61, d1, d2, d3, d4, hT3, hB1]) | (with_reducible refine yO ?_ ?_) | (refine yF rfl (fun bb => ?_) (fun bb => ?_) <;> (first | have bp := oT bb | have bp := oF bb | skip) <;> simp only [bb]) | (with_reducible refine yK (fun bb => ?_) (fun bb => ?_) <;> (first | have bp := oT bb | have bp := oF bb | skip)) | ((with_reducible refine And.intro ?_ ?_); omega) | (refine yN (f42 t) ?_) | fail)
      rw [endA, hS]
      rfl
    have d4 : decide (3 < b.e) = false := dF h5
    have h6 : b.e ≠ 0 ∧ 32 ≤ b.a := by rcases h3 with h | h | h; exact absurd h h4; exact absurd h h5; exact h
    have d5 : decide (¬ b.e = 0) = true := dT h6.1
    have d6 : decide (32 ≤ b.a) = true := dT h6.2
    repeat' (first | ((try clear hf); with_reducible refine yE fun env K hE hK hf => ?_; have n := cj13 hE 0 1 2 3 4 6 7 8 9 10 11 23 61; simp -implicitDefEqProofs only [push_cast, reduceIte, Nat.reduceEqDiff, e0, e1, e2, e3, e4, e6, e7, e8, e9, e10, e11, e23, e61] at n; clear hE e0 e1 e2 e3 e4 e6 e7 e8 e9 e10 e11 e23 e61; obtain ⟨e0, e1, e2, e3, e4, e6, e7, e8, e9, e10, e11, e23, e61⟩ := n) | (with_reducible refine hK _ _ ?_; clear hK K) | (with_reducible first | (refine Zi ?_; constructor) | refine yC (by decide) ?_ | refine yJ (by assumption) ?_ | refine yL (by assumption) ?_) | (refine yD rfl ?_) | (simp -implicitDefEqProofs only [push_cast, sevalprocAttr, eq_self, e0, e1, e2, e3, e4, e6, e7, e8, e9, e10, e11, e23, e61, d1, d2, d3, d4, d5, d6, hT3, hB1, hB2]) | (simp -implicitDefEqProofs (disch := omega) only [yH, yM, yI, yG, e0, e1, e2, e3, e4, e6, e7, e8, e9, e10, e11, e23, e61, d1, d2, d3, d4, d5, d6, hT3, hB1, hB2]) | (with_reducible refine yO ?_ ?_) | (refine yF rfl (fun bb => ?_) (fun bb => ?_) <;> (first | have bp := oT bb | have bp := oF bb | skip) <;> simp only [bb]) | (with_reducible refine yK (fun bb => ?_) (fun bb => ?_) <;> (first | have bp := oT bb | have bp := oF bb | skip)) | ((with_reducible refine And.intro ?_ ?_); omega) | (refine yN (f42 t) ?_) | fail)
    rw [endA, hS]
    rfl
  have d3 : decide (b.e < 0) = false := dF (fun h => h3 (.inl h))
  have d4 : decide (3 < b.e) = false := dF (fun h => h3 (.inr (.inl h)))
  by_cases hck : checkP b.l t cs
  rotate_left
  · have hS : endS b t cs = (0, 0, 160) := by unfold endS; rw [if_neg (fun h => h h1), if_neg h2, if_neg h3, if_pos hck]
    have hcb := checkB_f hck
    by_cases h5 : b.e = 0
    · have d5 : decide (¬ b.e = 0) = false := dF (fun h => h h5)
      repeat' (first | ((try clear hf); with_reducible refine yE fun env K hE hK hf => ?_; have n := cj13 hE 0 1 2 3 4 6 7 8 9 10 11 23 61; simp -implicitDefEqProofs only [push_cast, reduceIte, Nat.reduceEqDiff, e0, e1, e2, e3, e4, e6, e7, e8, e9, e10, e11, e23, e61] at n; clear hE e0 e1 e2 e3 e4 e6 e7 e8 e9 e10 e11 e23 e61; obtain ⟨e0, e1, e2, e3, e4, e6, e7, e8, e9, e10, e11, e23, e61⟩ := n) | (with_reducible refine hK _ _ ?_; clear hK K) | (with_reducible first | (refine Zi ?_; constructor) | refine yC (by decide) ?_ | refine yJ (by assumption) ?_ | refine yL (by assumption) ?_) | (refine yD rfl ?_) | (simp -implicitDefEqProofs only [push_cast, sevalprocAttr, eq_self, e0, e1, e2, e3, e4, e6, e7, e8, e9, e10, e11, e23, e61, d1, d2, d3, d4, d5, hT3, hB0, hB1, hB2, hcb]) | (simp -implicitDefEqProofs (disch := omega) only [yH, yM, yI, yG, e0, e1, e2, e3, e4, e6, e7, e8, e9, e10, e11, e23, e61, d1, d2, d3, d4, d5, hT3, hB0, hB1, hB2, hcb]) | (with_reducible refine yO ?_ ?_) | (refine yF rfl (fun bb => ?_) (fun bb => ?_) <;> (first | have bp := oT bb | have bp := oF bb | skip) <;> simp only [bb]) | (with_reducible refine yK (fun bb => ?_) (fun bb => ?_) <;> (first | have bp := oT bb | have bp := oF bb | skip)) | ((with_reducible refine And.intro ?_ ?_); omega) | (refine yN (f42 t) ?_) | (refine yN (f46 b.l t cs hl hcn hca) ?_) | fail)
      rw [endA, hS]
      rfl
    · have d5 : decide (¬ b.e = 0) = true := dT h5
      have d6 : decide (32 ≤ b.a) = false := dF (fun h => h3 (.inr (.inr ⟨h5, h⟩)))
      repeat' (first | ((try clear hf); with_reducible refine yE fun env K hE hK hf => ?_; have n := cj13 hE 0 1 2 3 4 6 7 8 9 10 11 23 61; simp -implicitDefEqProofs only [push_cast, reduceIte, Nat.reduceEqDiff, e0, e1, e2, e3, e4, e6, e7, e8, e9, e10, e11, e23, e61] at n; clear hE e0 e1 e2 e3 e4 e6 e7 e8 e9 e10 e11 e23 e61; obtain ⟨e0, e1, e2, e3, e4, e6, e7, e8, e9, e10, e11, e23, e61⟩ := n) | (with_reducible refine hK _ _ ?_; clear hK K) | (with_reducible first | (refine Zi ?_; constructor) | refine yC (by decide) ?_ | refine yJ (by assumption) ?_ | refine yL (by assumption) ?_) | (refine yD rfl ?_) | (simp -implicitDefEqProofs only [push_cast, sevalprocAttr, eq_self, e0, e1, e2, e3, e4, e6, e7, e8, e9, e10, e11, e23, e61, d1, d2, d3, d4, d5, d6, hT3, hB0, hB1, hB2, hcb]) | (simp -implicitDefEqProofs (disch := omega) only [yH, yM, yI, yG, e0, e1, e2, e3, e4, e6, e7, e8, e9, e10, e11, e23, e61, d1, d2, d3, d4, d5, d6, hT3, hB0, hB1, hB2, hcb]) | (with_reducible refine yO ?_ ?_) | (refine yF rfl (fun bb => ?_) (fun bb => ?_) <;> (first | have bp := oT bb | have bp := oF bb | skip) <;> simp only [bb]) | (with_reducible refine yK (fun bb => ?_) (fun bb => ?_) <;> (first | have bp := oT bb | have bp := oF bb | skip)) | ((with_reducible refine And.intro ?_ ?_); omega) | (refine yN (f42 t) ?_) | (refine yN (f46 b.l t cs hl hcn hca) ?_) | fail)
      rw [endA, hS]
      rfl
  have hcb := checkB_t hck
  have hn : b.l.length ≤ 100000 := by have := (errR_ok hck.1).2.1; omega
  have hwb := when_bnd (l := b.l) h1 hck.2.2.2.1 b.a b.l.length
  have hmx : ∀ x y : Int, (if y > x then y else x) = mx x y := fun _ _ => rfl
  have hld : mx 0 (t.b 3 - 1 - t.d) = qP t := rfl
  have hlb : 0 ≤ qP t ∧ qP t ≤ 4 := by unfold qP mx; split <;> omega
  have hmb : ∀ x y : Int, mx x y = x ∨ mx x y = y := fun x y => by unfold mx; split; exact .inr rfl; exact .inl rfl
  have hw1 : IntKind.i64.wrap (t.b 3 - 1) = t.b 3 - 1 := qN (by omega) (by omega)
  have hw2 : IntKind.i64.wrap (t.b 3 - 1 - t.d) = t.b 3 - 1 - t.d := qN (by omega) (by omega)
  by_cases h5 : b.e = 0
  · have d5 : decide (¬ b.e = 0) = false := dF (fun h => h h5)
    have d7 : decide (b.e = 3) = false := dF (by omega)
    have d8 : decide (b.e = 2) = false := dF (by omega)
    have d9 : decide (b.e = 1) = false := dF (by omega)
    have hw3 : IntKind.i64.wrap (qP t + 1) = qP t + 1 := qN (by omega) (by omega)
    have hw4 : IntKind.i64.wrap (qP t + 1 + t.d) = qP t + 1 + t.d := qN (by omega) (by omega)
    have hnb := hmb (qW b.l t cs b.l.length) (qP t + 1 + t.d)
    have hS : endS b t cs = (mx (qW b.l t cs b.l.length) (qP t + 1 + t.d) - 1 - t.d, mx (qW b.l t cs b.l.length) (qP t + 1 + t.d), 0) := by
      unfold endS
      rw [if_neg (fun h => h h1), if_neg h2, if_neg h3, if_neg (fun h => h hck), if_neg (by omega), if_neg (by omega), if_neg (by omega)]
    have hw5 : IntKind.i64.wrap (mx (qW b.l t cs b.l.length) (qP t + 1 + t.d) - 1) = mx (qW b.l t cs b.l.length) (qP t + 1 + t.d) - 1 := qN (by omega) (by omega)
    have hw6 : IntKind.i64.wrap (mx (qW b.l t cs b.l.length) (qP t + 1 + t.d) - 1 - t.d) = mx (qW b.l t cs b.l.length) (qP t + 1 + t.d) - 1 - t.d := qN (by omega) (by omega)
    repeat' (first | ((try clear hf); with_reducible refine yE fun env K hE hK hf => ?_; have n := cj13 hE 0 1 2 3 4 6 7 8 9 10 11 23 61; simp -implicitDefEqProofs only [push_cast, reduceIte, Nat.reduceEqDiff, e0, e1, e2, e3, e4, e6, e7, e8, e9, e10, e11, e23, e61] at n; clear hE e0 e1 e2 e3 e4 e6 e7 e8 e9 e10 e11 e23 e61; obtain ⟨e0, e1, e2, e3, e4, e6, e7, e8, e9, e10, e11, e23, e61⟩ := n) | (with_reducible refine hK _ _ ?_; clear hK K) | (with_reducible first | (refine Zi ?_; constructor) | refine yC (by decide) ?_ | refine yJ (by assumption) ?_ | refine yL (by assumption) ?_) | (refine yD rfl ?_) | (simp -implicitDefEqProofs only [push_cast, sevalprocAttr, eq_self, e0, e1, e2, e3, e4, e6, e7, e8, e9, e10, e11, e23, e61, d1, d2, d3, d4, hT3, hT11, hT12, hB0, hB1, hB2, hcb, hmx, qA, qF, hw1, hw2, hld, d5, d7, d8, d9, hw3, hw4, hw5, hw6]) | (simp -implicitDefEqProofs (disch := omega) only [yH, yM, yI, yG, e0, e1, e2, e3, e4, e6, e7, e8, e9, e10, e11, e23, e61, d1, d2, d3, d4, hT3, hT11, hT12, hB0, hB1, hB2, hcb, hmx, qA, qF, hw1, hw2, hld, d5, d7, d8, d9, hw3, hw4, hw5, hw6]) | (with_reducible refine yO ?_ ?_) | (refine yF rfl (fun bb => ?_) (fun bb => ?_) <;> (first | have bp := oT bb | have bp := oF bb | skip) <;> simp only [bb]) | (with_reducible refine yK (fun bb => ?_) (fun bb => ?_) <;> (first | have bp := oT bb | have bp := oF bb | skip)) | ((with_reducible refine And.intro ?_ ?_); omega) | (refine yN (f42 t) ?_) | (refine yN (f46 b.l t cs hl hcn hca) ?_) | (refine yN (f68 b.l t cs b.a hl hn hck.2.2.1 h1 hck.2.2.2.1 hca) ?_) | fail)
    rw [endA, hS]
    rfl
  have d5 : decide (¬ b.e = 0) = true := dT h5
  have d6 : decide (32 ≤ b.a) = false := dF (fun h => h3 (.inr (.inr ⟨h5, h⟩)))
  by_cases h6 : b.e = 3
  · have d7 : decide (b.e = 3) = true := dT h6
    have hS : endS b t cs = (-1, qW b.l t cs b.l.length, 0) := by
      unfold endS
      rw [if_neg (fun h => h h1), if_neg h2, if_neg h3, if_neg (fun h => h hck), if_pos h6]
    repeat' (first | ((try clear hf); with_reducible refine yE fun env K hE hK hf => ?_; have n := cj13 hE 0 1 2 3 4 6 7 8 9 10 11 23 61; simp -implicitDefEqProofs only [push_cast, reduceIte, Nat.reduceEqDiff, e0, e1, e2, e3, e4, e6, e7, e8, e9, e10, e11, e23, e61] at n; clear hE e0 e1 e2 e3 e4 e6 e7 e8 e9 e10 e11 e23 e61; obtain ⟨e0, e1, e2, e3, e4, e6, e7, e8, e9, e10, e11, e23, e61⟩ := n) | (with_reducible refine hK _ _ ?_; clear hK K) | (with_reducible first | (refine Zi ?_; constructor) | refine yC (by decide) ?_ | refine yJ (by assumption) ?_ | refine yL (by assumption) ?_) | (refine yD rfl ?_) | (simp -implicitDefEqProofs only [push_cast, sevalprocAttr, eq_self, e0, e1, e2, e3, e4, e6, e7, e8, e9, e10, e11, e23, e61, d1, d2, d3, d4, hT3, hT11, hT12, hB0, hB1, hB2, hcb, hmx, qA, qF, hw1, hw2, hld, d5, d6, d7]) | (simp -implicitDefEqProofs (disch := omega) only [yH, yM, yI, yG, e0, e1, e2, e3, e4, e6, e7, e8, e9, e10, e11, e23, e61, d1, d2, d3, d4, hT3, hT11, hT12, hB0, hB1, hB2, hcb, hmx, qA, qF, hw1, hw2, hld, d5, d6, d7]) | (with_reducible refine yO ?_ ?_) | (refine yF rfl (fun bb => ?_) (fun bb => ?_) <;> (first | have bp := oT bb | have bp := oF bb | skip) <;> simp only [bb]) | (with_reducible refine yK (fun bb => ?_) (fun bb => ?_) <;> (first | have bp := oT bb | have bp := oF bb | skip)) | ((with_reducible refine And.intro ?_ ?_); omega) | (refine yN (f42 t) ?_) | (refine yN (f46 b.l t cs hl hcn hca) ?_) | (refine yN (f68 b.l t cs b.a hl hn hck.2.2.1 h1 hck.2.2.2.1 hca) ?_) | fail)
    rw [endA, hS]
    rfl
  have d7 : decide (b.e = 3) = false := dF h6
  by_cases h7 : b.e = 2
  · have d8 : decide (b.e = 2) = true := dT h7
    have hnb := hmb (qP t) (whenL b.l t cs b.l.length)
    have hw5 : IntKind.i64.wrap (mx (qP t) (whenL b.l t cs b.l.length) + 1) = mx (qP t) (whenL b.l t cs b.l.length) + 1 := qN (by omega) (by omega)
    have hS : endS b t cs = (mx (qP t) (whenL b.l t cs b.l.length), mx (qP t) (whenL b.l t cs b.l.length) + 1, 0) := by
      unfold endS
      rw [if_neg (fun h => h h1), if_neg h2, if_neg h3, if_neg (fun h => h hck), if_neg h6, if_pos h7]
    repeat' (first | ((try clear hf); with_reducible refine yE fun env K hE hK hf => ?_; have n := cj13 hE 0 1 2 3 4 6 7 8 9 10 11 23 61; simp -implicitDefEqProofs only [push_cast, reduceIte, Nat.reduceEqDiff, e0, e1, e2, e3, e4, e6, e7, e8, e9, e10, e11, e23, e61] at n; clear hE e0 e1 e2 e3 e4 e6 e7 e8 e9 e10 e11 e23 e61; obtain ⟨e0, e1, e2, e3, e4, e6, e7, e8, e9, e10, e11, e23, e61⟩ := n) | (with_reducible refine hK _ _ ?_; clear hK K) | (with_reducible first | (refine Zi ?_; constructor) | refine yC (by decide) ?_ | refine yJ (by assumption) ?_ | refine yL (by assumption) ?_) | (refine yD rfl ?_) | (simp -implicitDefEqProofs only [push_cast, sevalprocAttr, eq_self, e0, e1, e2, e3, e4, e6, e7, e8, e9, e10, e11, e23, e61, d1, d2, d3, d4, hT3, hT11, hT12, hB0, hB1, hB2, hcb, hmx, qA, qF, hw1, hw2, hld, d5, d6, d7, d8, hw5]) | (simp -implicitDefEqProofs (disch := omega) only [yH, yM, yI, yG, e0, e1, e2, e3, e4, e6, e7, e8, e9, e10, e11, e23, e61, d1, d2, d3, d4, hT3, hT11, hT12, hB0, hB1, hB2, hcb, hmx, qA, qF, hw1, hw2, hld, d5, d6, d7, d8, hw5]) | (with_reducible refine yO ?_ ?_) | (refine yF rfl (fun bb => ?_) (fun bb => ?_) <;> (first | have bp := oT bb | have bp := oF bb | skip) <;> simp only [bb]) | (with_reducible refine yK (fun bb => ?_) (fun bb => ?_) <;> (first | have bp := oT bb | have bp := oF bb | skip)) | ((with_reducible refine And.intro ?_ ?_); omega) | (refine yN (f42 t) ?_) | (refine yN (f46 b.l t cs hl hcn hca) ?_) | (refine yN (f68 b.l t cs b.a hl hn hck.2.2.1 h1 hck.2.2.2.1 hca) ?_) | fail)
    rw [endA, hS]
    rfl
  have d8 : decide (b.e = 2) = false := dF h7
  have h8 : b.e = 1 := by omega
  have d9 : decide (b.e = 1) = true := dT h8
  have hlo := hmb (qP t) (whenO b.l t cs b.a b.l.length)
  have hS : endS b t cs = (mx (qW b.l t cs b.l.length) (mx (qP t) (whenO b.l t cs b.a b.l.length) + 1 + t.d) - 1 - t.d, mx (qW b.l t cs b.l.length) (mx (qP t) (whenO b.l t cs b.a b.l.length) + 1 + t.d), 0) := by
    unfold endS
    rw [if_neg (fun h => h h1), if_neg h2, if_neg h3, if_neg (fun h => h hck), if_neg h6, if_neg h7, if_pos h8]
  generalize hlq : mx (qP t) (whenO b.l t cs b.a b.l.length) = lq at *
  have hnb := hmb (qW b.l t cs b.l.length) (lq + 1 + t.d)
  have hw3 : IntKind.i64.wrap (lq + 1) = lq + 1 := qN (by omega) (by omega)
  have hw4 : IntKind.i64.wrap (lq + 1 + t.d) = lq + 1 + t.d := qN (by omega) (by omega)
  have hw5 : IntKind.i64.wrap (mx (qW b.l t cs b.l.length) (lq + 1 + t.d) - 1) = mx (qW b.l t cs b.l.length) (lq + 1 + t.d) - 1 := qN (by omega) (by omega)
  have hw6 : IntKind.i64.wrap (mx (qW b.l t cs b.l.length) (lq + 1 + t.d) - 1 - t.d) = mx (qW b.l t cs b.l.length) (lq + 1 + t.d) - 1 - t.d := qN (by omega) (by omega)
  repeat' (first | ((try clear hf); with_reducible refine yE fun env K hE hK hf => ?_; have n := cj13 hE 0 1 2 3 4 6 7 8 9 10 11 23 61; simp -implicitDefEqProofs only [push_cast, reduceIte, Nat.reduceEqDiff, e0, e1, e2, e3, e4, e6, e7, e8, e9, e10, e11, e23, e61] at n; clear hE e0 e1 e2 e3 e4 e6 e7 e8 e9 e10 e11 e23 e61; obtain ⟨e0, e1, e2, e3, e4, e6, e7, e8, e9, e10, e11, e23, e61⟩ := n) | (with_reducible refine hK _ _ ?_; clear hK K) | (with_reducible first | (refine Zi ?_; constructor) | refine yC (by decide) ?_ | refine yJ (by assumption) ?_ | refine yL (by assumption) ?_) | (refine yD rfl ?_) | (simp -implicitDefEqProofs only [push_cast, sevalprocAttr, eq_self, e0, e1, e2, e3, e4, e6, e7, e8, e9, e10, e11, e23, e61, d1, d2, d3, d4, hT3, hT11, hT12, hB0, hB1, hB2, hcb, hmx, qA, qF, hw1, hw2, hld, hlq, d5, d6, d7, d8, d9, hw3, hw4, hw5, hw6]) | (simp -implicitDefEqProofs (disch := omega) only [yH, yM, yI, yG, e0, e1, e2, e3, e4, e6, e7, e8, e9, e10, e11, e23, e61, d1, d2, d3, d4, hT3, hT11, hT12, hB0, hB1, hB2, hcb, hmx, qA, qF, hw1, hw2, hld, hlq, d5, d6, d7, d8, d9, hw3, hw4, hw5, hw6]) | (with_reducible refine yO ?_ ?_) | (refine yF rfl (fun bb => ?_) (fun bb => ?_) <;> (first | have bp := oT bb | have bp := oF bb | skip) <;> simp only [bb]) | (with_reducible refine yK (fun bb => ?_) (fun bb => ?_) <;> (first | have bp := oT bb | have bp := oF bb | skip)) | ((with_reducible refine And.intro ?_ ?_); omega) | (refine yN (f42 t) ?_) | (refine yN (f46 b.l t cs hl hcn hca) ?_) | (refine yN (f68 b.l t cs b.a hl hn hck.2.2.1 h1 hck.2.2.2.1 hca) ?_) | fail)
  rw [endA, hS]
  rfl
end Go.Proofs.Hx

set_option linter.unusedVariables false
set_option linter.unusedSimpArgs false
namespace Go.Proofs.Hx
open Go Go.Proofs
attribute [local irreducible] yS awp opK goV goM qB yZ qH yW HV HVF HC
theorem f70 (t : Tab) (h1 : YP t) : HV Try.prog 70 [.agg (tabC t)] (i64 (qP t)) := by
  refine yT yX cf70 (by simp) rfl ?_ rfl
  unfold ac70 re70
  refine yQ fun env hE => ?_; obtain ⟨e0, e1, e2⟩ := cj3 hE 0 1 2; simp -implicitDefEqProofs only [push_cast] at e0 e1 e2; clear hE
  have hT11 : (tabC t)[11]? = some (i64 (t.b 3)) := tab_b t (c := 3) (by omega)
  have hT12 := tab_d t
  have hb3 := h1.1 3 (by omega)
  have hdl := h1.2
  unfold okC at hb3
  have hw1 : IntKind.i64.wrap (t.b 3 - 1) = t.b 3 - 1 := qN (by omega) (by omega)
  have hw2 : IntKind.i64.wrap (t.b 3 - 1 - t.d) = t.b 3 - 1 - t.d := qN (by omega) (by omega)
  repeat' (first | ((try clear hf); with_reducible refine yE fun env K hE hK hf => ?_; have n := cj3 hE 0 1 2; simp -implicitDefEqProofs only [push_cast, reduceIte, Nat.reduceEqDiff, e0, e1, e2] at n; clear hE e0 e1 e2; obtain ⟨e0, e1, e2⟩ := n) | (with_reducible refine hK _ _ ?_; clear hK K) | (with_reducible first | (refine Zi ?_; constructor) | refine yC (by decide) ?_ | refine yJ (by assumption) ?_ | refine yL (by assumption) ?_) | (refine yD rfl ?_) | (simp -implicitDefEqProofs only [push_cast, sevalprocAttr, eq_self, e0, e1, e2, hT11, hT12, hw1, hw2, qA]) | (simp -implicitDefEqProofs (disch := omega) only [yH, yM, yI, yG, e0, e1, e2, hT11, hT12, hw1, hw2, qA]) | (with_reducible refine yO ?_ ?_) | (refine yF rfl (fun bb => ?_) (fun bb => ?_) <;> (first | have bp := oT bb | have bp := oF bb | skip) <;> simp only [bb]) | (with_reducible refine yK (fun bb => ?_) (fun bb => ?_) <;> (first | have bp := oT bb | have bp := oF bb | skip)) | ((with_reducible refine And.intro ?_ ?_); omega) | fail)
  rfl
theorem f71 (l : List Opn) (t : Tab) (cs : List Int) (a : Int) (hl : ∀ o ∈ l, o.ok) (hn : l.length ≤ 100000) (hln : cs.length = l.length) (ht : YP t) (hcr : ∀ x ∈ cs, 0 ≤ x ∧ x ≤ 65536) :
    HV Try.prog 71 [.row (l.map opC), .agg (tabC t), .row (cs.map intC), u8 a] (.tup [i64 (qW l t cs l.length), i64 (whenL l t cs l.length), i64 (whenO l t cs a l.length)]) := by
  refine yT yX cf71 (by simp) (by simp [imms, imm, tab_imms, qK, ints_imms]) ?_ (by simp [imm, imms])
  unfold ac71 re71
  refine yQ fun env hE => ?_; obtain ⟨e0, e1, e2, e3, e5, e8, e9, e10, e11, e12, e14, e15⟩ := cj12 hE 0 1 2 3 5 8 9 10 11 12 14 15; simp -implicitDefEqProofs only [push_cast] at e0 e1 e2 e3 e5 e8 e9 e10 e11 e12 e14 e15; clear hE
  repeat' (first | ((try clear hf); with_reducible refine yE fun env K hE hK hf => ?_; have n := cj12 hE 0 1 2 3 5 8 9 10 11 12 14 15; simp -implicitDefEqProofs only [push_cast, reduceIte, Nat.reduceEqDiff, e0, e1, e2, e3, e5, e8, e9, e10, e11, e12, e14, e15] at n; clear hE e0 e1 e2 e3 e5 e8 e9 e10 e11 e12 e14 e15; obtain ⟨e0, e1, e2, e3, e5, e8, e9, e10, e11, e12, e14, e15⟩ := n) | (with_reducible refine hK _ _ ?_; clear hK K) | (with_reducible first | (refine Zi ?_; constructor) | refine yC (by decide) ?_ | refine yJ (by assumption) ?_ | refine yL (by assumption) ?_) | (refine yD rfl ?_) | (simp -implicitDefEqProofs only [push_cast, sevalprocAttr, eq_self, e0, e1, e2, e3, e5, e8, e9, e10, e11, e12, e14, e15, yU]) | (simp -implicitDefEqProofs (disch := omega) only [yH, yM, yI, yG, e0, e1, e2, e3, e5, e8, e9, e10, e11, e12, e14, e15, yU]) | (with_reducible refine yO ?_ ?_) | (refine yF rfl (fun bb => ?_) (fun bb => ?_) <;> (first | have bp := oT bb | have bp := oF bb | skip) <;> simp only [bb]) | (with_reducible refine yK (fun bb => ?_) (fun bb => ?_) <;> (first | have bp := oT bb | have bp := oF bb | skip)) | ((with_reducible refine And.intro ?_ ?_); omega) | fail)
  refine yQ fun env hE => ?_; have n := cj12 hE 0 1 2 3 5 8 9 10 11 12 14 15; simp -implicitDefEqProofs only [push_cast, reduceIte, Nat.reduceEqDiff, e0, e1, e2, e3, e5, e8, e9, e10, e11, e12, e14, e15] at n; clear hE e0 e1 e2 e3 e5 e8 e9 e10 e11 e12 e14 e15; obtain ⟨e0, e1, e2, e3, e5, e8, e9, e10, e11, e12, e14, e15⟩ := n; have E71_0_0 := e0; have E71_0_1 := e1; have E71_0_2 := e2; have E71_0_3 := e3; have E71_0_5 := e5
  refine qE (fun nn σ => ∃ (k : Nat), nn = l.length - k ∧ σ.env 0 = env 0 ∧ σ.env 1 = env 1 ∧ σ.env 2 = env 2 ∧ σ.env 3 = env 3 ∧ σ.env 5 = env 5 ∧ σ.env 11 = i64 k ∧ σ.env 8 = i64 (qW l t cs k) ∧ σ.env 9 = i64 (whenL l t cs k) ∧ σ.env 10 = i64 (whenO l t cs a k) ∧ (k ≤ l.length ∧ σ.h.hp (2, 5) = some ⟨true, tabC t⟩ ∧ 2 ≤ σ.h.ep)) _ ⟨0, rfl, rfl, rfl, rfl, rfl, rfl, by refine e11.trans ?_; first | rfl | exact yP (by omega) | (simp -implicitDefEqProofs (disch := omega) only [yG]; first | rfl | exact yP (by omega)), by refine e8.trans ?_; first | rfl | exact yP (by omega) | (simp -implicitDefEqProofs (disch := omega) only [yG]; first | rfl | exact yP (by omega)), by refine e9.trans ?_; first | rfl | exact yP (by omega) | (simp -implicitDefEqProofs (disch := omega) only [yG]; first | rfl | exact yP (by omega)), by refine e10.trans ?_; first | rfl | exact yP (by omega) | (simp -implicitDefEqProofs (disch := omega) only [yG]; first | rfl | exact yP (by omega)), ?_⟩ ?_
  · exact ⟨by omega, by simp -implicitDefEqProofs only [push_cast, sevalprocAttr, eq_self], by simp -implicitDefEqProofs only [push_cast, sevalprocAttr, eq_self]⟩
  clear e0 e1 e2 e3 e5 e8 e9 e10 e11 e12 e14 e15; rintro nn ⟨env, h⟩ ⟨k, rfl, q0, q1, q2, q3, q5, e11, e8, e9, e10, hI⟩; simp only at q0 q1 q2 q3 q5 e11 e8 e9 e10 hI; (first | have e0 := q0.trans E71_0_0 | have e0 := True.intro); (first | have e1 := q1.trans E71_0_1 | have e1 := True.intro); (first | have e2 := q2.trans E71_0_2 | have e2 := True.intro); (first | have e3 := q3.trans E71_0_3 | have e3 := True.intro); (first | have e5 := q5.trans E71_0_5 | have e5 := True.intro); clear q0 q1 q2 q3 q5; have e12 := True.intro; have e14 := True.intro; have e15 := True.intro
  obtain ⟨hk, hb5, hep⟩ := hI
  unfold l71_0
  (first | refine yV fun hF => ?_ | refine qM fun hF => ?_ | refine qL fun hF => ?_)
  by_cases hlt : k < l.length
  · have hd : decide ((k : Int) < (l.length : Int)) = true := dT (by omega)
    have hro := qU hlt .i64
    have hr := int_at (l := cs) (k := k) (by omega) .i64
    have hcl := clsN_eq l[k]
    have hcc := clsN_lt l[k]
    have hq4 := tab_l t hcc
    have hq8 := tab_b t hcc
    have hlb := land_bnd (l := l) ht hcr k
    have hwb := when_bnd (l := l) ht hcr a k
    have hok := hl l[k] (List.getElem_mem hlt)
    have hD : qW l t cs (k + 1) = mx (qW l t cs k) (cs.getD k 0 + mx (t.l (clsN l[k])) (t.b (clsN l[k]))) := by
      simp only [qW, landS, mx, qR hlt]
      (repeat' split) <;> omega
    have hL : whenL l t cs (k + 1) = mx (whenL l t cs k) (landS l t cs k) := rfl
    have hO : whenO l t cs a (k + 1) = if (wrS (opAt l k)).2 = true ∧ (wrS (opAt l k)).1 = a then landS l t cs k else whenO l t cs a k := rfl
    have hbu := ht.1 _ hcc
    unfold okC at hbu
    unfold landS at *
    rw [← qR hlt] at hL hO hlb
    have hmx : ∀ x y : Int, (if y > x then y else x) = mx x y := fun _ _ => rfl
    have hmb : ∀ x y : Int, mx x y = x ∨ mx x y = y := fun x y => by unfold mx; split; exact .inr rfl; exact .inl rfl
    have hlb2 := hmb (t.l (clsN l[k])) (t.b (clsN l[k]))
    generalize l[k] = o at *
    generalize cs.getD k 0 = v at *
    have hw1 : IntKind.i64.wrap (v + t.l (clsN o)) = v + t.l (clsN o) := qN (by omega) (by omega)
    have hw2 : IntKind.i64.wrap (v + mx (t.l (clsN o)) (t.b (clsN o))) = v + mx (t.l (clsN o)) (t.b (clsN o)) := qN (by omega) (by omega)
    by_cases h1 : (wrS o).2 = true
    · by_cases h2 : (wrS o).1 = a
      · have d2 : decide ((wrS o).1 = a) = true := dT h2
        rw [if_pos ⟨h1, h2⟩] at hO
        repeat' (first | ((try clear hf); with_reducible refine yE fun env K hE hK hf => ?_; have n := cj12 hE 0 1 2 3 5 8 9 10 11 12 14 15; simp -implicitDefEqProofs only [push_cast, reduceIte, Nat.reduceEqDiff, e0, e1, e2, e3, e5, e8, e9, e10, e11, e12, e14, e15] at n; clear hE e0 e1 e2 e3 e5 e8 e9 e10 e11 e12 e14 e15; obtain ⟨e0, e1, e2, e3, e5, e8, e9, e10, e11, e12, e14, e15⟩ := n) | (with_reducible refine hK _ _ ?_; clear hK K) | (with_reducible first | (refine Zi ?_; constructor) | refine yC (by decide) ?_ | refine yJ (by assumption) ?_ | refine yL (by assumption) ?_) | (refine yD rfl ?_) | (simp -implicitDefEqProofs only [push_cast, sevalprocAttr, eq_self, e0, e1, e2, e3, e5, e8, e9, e10, e11, e12, e14, e15, hd, hF.at, hr, hro, hb5, hq4, hq8, op_0, hcl, hw1, hw2, hmx, qA, qF, h1, d2]) | (simp -implicitDefEqProofs (disch := omega) only [yH, yM, yI, yG, e0, e1, e2, e3, e5, e8, e9, e10, e11, e12, e14, e15, hd, hF.at, hr, hro, hb5, hq4, hq8, op_0, hcl, hw1, hw2, hmx, qA, qF, h1, d2]) | (with_reducible refine yO ?_ ?_) | (refine yF rfl (fun bb => ?_) (fun bb => ?_) <;> (first | have bp := oT bb | have bp := oF bb | skip) <;> simp only [bb]) | (with_reducible refine yK (fun bb => ?_) (fun bb => ?_) <;> (first | have bp := oT bb | have bp := oF bb | skip)) | ((with_reducible refine And.intro ?_ ?_); omega) | (refine yN (f51 _) ?_) | (refine yN (f88 _ hok) ?_) | fail)
        refine ⟨_, ?_, k + 1, rfl, E71_0_0.symm, E71_0_1.symm, E71_0_2.symm, E71_0_3.symm, E71_0_5.symm, by first | rfl | exact yP (by omega) | (simp only [hD, hL, hO]; exact yP (by omega)) | (simp -implicitDefEqProofs (disch := omega) only [yG]; first | rfl | exact yP (by omega)), by first | rfl | exact yP (by omega) | (simp only [hD, hL, hO]; exact yP (by omega)) | (simp -implicitDefEqProofs (disch := omega) only [yG]; first | rfl | exact yP (by omega)), by first | rfl | exact yP (by omega) | (simp only [hD, hL, hO]; exact yP (by omega)) | (simp -implicitDefEqProofs (disch := omega) only [yG]; first | rfl | exact yP (by omega)), by first | rfl | exact yP (by omega) | (simp only [hD, hL, hO]; exact yP (by omega)) | (simp -implicitDefEqProofs (disch := omega) only [yG]; first | rfl | exact yP (by omega)), ?_⟩
        · omega
        · omega
      · have d2 : decide ((wrS o).1 = a) = false := dF h2
        rw [if_neg (fun h => h2 h.2)] at hO
        repeat' (first | ((try clear hf); with_reducible refine yE fun env K hE hK hf => ?_; have n := cj12 hE 0 1 2 3 5 8 9 10 11 12 14 15; simp -implicitDefEqProofs only [push_cast, reduceIte, Nat.reduceEqDiff, e0, e1, e2, e3, e5, e8, e9, e10, e11, e12, e14, e15] at n; clear hE e0 e1 e2 e3 e5 e8 e9 e10 e11 e12 e14 e15; obtain ⟨e0, e1, e2, e3, e5, e8, e9, e10, e11, e12, e14, e15⟩ := n) | (with_reducible refine hK _ _ ?_; clear hK K) | (with_reducible first | (refine Zi ?_; constructor) | refine yC (by decide) ?_ | refine yJ (by assumption) ?_ | refine yL (by assumption) ?_) | (refine yD rfl ?_) | (simp -implicitDefEqProofs only [push_cast, sevalprocAttr, eq_self, e0, e1, e2, e3, e5, e8, e9, e10, e11, e12, e14, e15, hd, hF.at, hr, hro, hb5, hq4, hq8, op_0, hcl, hw1, hw2, hmx, qA, qF, h1, d2]) | (simp -implicitDefEqProofs (disch := omega) only [yH, yM, yI, yG, e0, e1, e2, e3, e5, e8, e9, e10, e11, e12, e14, e15, hd, hF.at, hr, hro, hb5, hq4, hq8, op_0, hcl, hw1, hw2, hmx, qA, qF, h1, d2]) | (with_reducible refine yO ?_ ?_) | (refine yF rfl (fun bb => ?_) (fun bb => ?_) <;> (first | have bp := oT bb | have bp := oF bb | skip) <;> simp only [bb]) | (with_reducible refine yK (fun bb => ?_) (fun bb => ?_) <;> (first | have bp := oT bb | have bp := oF bb | skip)) | ((with_reducible refine And.intro ?_ ?_); omega) | (refine yN (f51 _) ?_) | (refine yN (f88 _ hok) ?_) | fail)
        refine ⟨_, ?_, k + 1, rfl, E71_0_0.symm, E71_0_1.symm, E71_0_2.symm, E71_0_3.symm, E71_0_5.symm, by first | rfl | exact yP (by omega) | (simp only [hD, hL, hO]; exact yP (by omega)) | (simp -implicitDefEqProofs (disch := omega) only [yG]; first | rfl | exact yP (by omega)), by first | rfl | exact yP (by omega) | (simp only [hD, hL, hO]; exact yP (by omega)) | (simp -implicitDefEqProofs (disch := omega) only [yG]; first | rfl | exact yP (by omega)), by first | rfl | exact yP (by omega) | (simp only [hD, hL, hO]; exact yP (by omega)) | (simp -implicitDefEqProofs (disch := omega) only [yG]; first | rfl | exact yP (by omega)), by first | rfl | exact yP (by omega) | (simp only [hD, hL, hO]; exact yP (by omega)) | (simp -implicitDefEqProofs (disch := omega) only [yG]; first | rfl | exact yP (by omega)), ?_⟩
        · omega
        · omega
    · have h1 : (wrS o).2 = false := by simpa using h1
      rw [if_neg (fun h => by rw [h1] at h; exact absurd h.1 (by decide))] at hO
      repeat' (first | ((try clear hf); with_reducible refine yE fun env K hE hK hf => ?_; have n := cj12 hE 0 1 2 3 5 8 9 10 11 12 14 15; simp -implicitDefEqProofs only [push_cast, reduceIte, Nat.reduceEqDiff, e0, e1, e2, e3, e5, e8, e9, e10, e11, e12, e14, e15] at n; clear hE e0 e1 e2 e3 e5 e8 e9 e10 e11 e12 e14 e15; obtain ⟨e0, e1, e2, e3, e5, e8, e9, e10, e11, e12, e14, e15⟩ := n) | (with_reducible refine hK _ _ ?_; clear hK K) | (with_reducible first | (refine Zi ?_; constructor) | refine yC (by decide) ?_ | refine yJ (by assumption) ?_ | refine yL (by assumption) ?_) | (refine yD rfl ?_) | (simp -implicitDefEqProofs only [push_cast, sevalprocAttr, eq_self, e0, e1, e2, e3, e5, e8, e9, e10, e11, e12, e14, e15, hd, hF.at, hr, hro, hb5, hq4, hq8, op_0, hcl, hw1, hw2, hmx, qA, qF, h1]) | (simp -implicitDefEqProofs (disch := omega) only [yH, yM, yI, yG, e0, e1, e2, e3, e5, e8, e9, e10, e11, e12, e14, e15, hd, hF.at, hr, hro, hb5, hq4, hq8, op_0, hcl, hw1, hw2, hmx, qA, qF, h1]) | (with_reducible refine yO ?_ ?_) | (refine yF rfl (fun bb => ?_) (fun bb => ?_) <;> (first | have bp := oT bb | have bp := oF bb | skip) <;> simp only [bb]) | (with_reducible refine yK (fun bb => ?_) (fun bb => ?_) <;> (first | have bp := oT bb | have bp := oF bb | skip)) | ((with_reducible refine And.intro ?_ ?_); omega) | (refine yN (f51 _) ?_) | (refine yN (f88 _ hok) ?_) | fail)
      refine ⟨_, ?_, k + 1, rfl, E71_0_0.symm, E71_0_1.symm, E71_0_2.symm, E71_0_3.symm, E71_0_5.symm, by first | rfl | exact yP (by omega) | (simp only [hD, hL, hO]; exact yP (by omega)) | (simp -implicitDefEqProofs (disch := omega) only [yG]; first | rfl | exact yP (by omega)), by first | rfl | exact yP (by omega) | (simp only [hD, hL, hO]; exact yP (by omega)) | (simp -implicitDefEqProofs (disch := omega) only [yG]; first | rfl | exact yP (by omega)), by first | rfl | exact yP (by omega) | (simp only [hD, hL, hO]; exact yP (by omega)) | (simp -implicitDefEqProofs (disch := omega) only [yG]; first | rfl | exact yP (by omega)), by first | rfl | exact yP (by omega) | (simp only [hD, hL, hO]; exact yP (by omega)) | (simp -implicitDefEqProofs (disch := omega) only [yG]; first | rfl | exact yP (by omega)), ?_⟩
      · omega
      · omega
  · have hd : decide ((k : Int) < (l.length : Int)) = false := dF (by omega)
    obtain rfl : k = l.length := by omega
    repeat' (first | ((try clear hf); with_reducible refine yE fun env K hE hK hf => ?_; have n := cj12 hE 0 1 2 3 5 8 9 10 11 12 14 15; simp -implicitDefEqProofs only [push_cast, reduceIte, Nat.reduceEqDiff, e0, e1, e2, e3, e5, e8, e9, e10, e11, e12, e14, e15] at n; clear hE e0 e1 e2 e3 e5 e8 e9 e10 e11 e12 e14 e15; obtain ⟨e0, e1, e2, e3, e5, e8, e9, e10, e11, e12, e14, e15⟩ := n) | (with_reducible refine hK _ _ ?_; clear hK K) | (with_reducible first | (refine Zi ?_; constructor) | refine yC (by decide) ?_ | refine yJ (by assumption) ?_ | refine yL (by assumption) ?_) | (refine yD rfl ?_) | (simp -implicitDefEqProofs only [push_cast, sevalprocAttr, eq_self, e0, e1, e2, e3, e5, e8, e9, e10, e11, e12, e14, e15, hd]) | (simp -implicitDefEqProofs (disch := omega) only [yH, yM, yI, yG, e0, e1, e2, e3, e5, e8, e9, e10, e11, e12, e14, e15, hd]) | (with_reducible refine yO ?_ ?_) | (refine yF rfl (fun bb => ?_) (fun bb => ?_) <;> (first | have bp := oT bb | have bp := oF bb | skip) <;> simp only [bb]) | (with_reducible refine yK (fun bb => ?_) (fun bb => ?_) <;> (first | have bp := oT bb | have bp := oF bb | skip)) | ((with_reducible refine And.intro ?_ ?_); omega) | fail)
    rfl
theorem f32 (b : BlockV) (t : Tab) (cs : List Int) (hl : ∀ o ∈ b.l, o.ok) (hcn : cs.length ≤ 100000000000000) :
    HV Try.prog 32 [.agg (YO b), .agg (tabC t), .row (cs.map intC)] (endA b t cs) := by
  refine yT yX cf32 (by simp) (by simp [imms, imm, tab_imms, block_imms, ints_imms]) ?_ (by simp [endA, imm, imms])
  unfold ac32 re32
  refine yQ fun env hE => ?_; obtain ⟨e0, e1, e2, e3, e4, e6, e7, e8, e9, e10, e11, e12, e13, e62⟩ := cj14 hE 0 1 2 3 4 6 7 8 9 10 11 12 13 62; simp -implicitDefEqProofs only [push_cast] at e0 e1 e2 e3 e4 e6 e7 e8 e9 e10 e11 e12 e13 e62; clear hE
  have hB0 : (YO b)[0]? = some (.row (b.l.map opC)) := rfl
  have hB1 : (YO b)[1]? = some (.lit (.int .i8 b.e)) := rfl
  have hB2 : (YO b)[2]? = some (u8 b.a) := rfl
  have hT3 := tab_u t (c := 3) (by omega)
  have hT11 : (tabC t)[11]? = some (i64 (t.b 3)) := tab_b t (c := 3) (by omega)
  have hT12 := tab_d t
  by_cases h1 : YP t
  rotate_left
  · have hE := tabE_bad h1
    have d1 : decide (¬ tabE t = 0) = true := dT (by omega)
    have hS : endS b t cs = (0, 0, 20) := if_pos h1
    repeat' (first | ((try clear hf); with_reducible refine yE fun env K hE hK hf => ?_; have n := cj14 hE 0 1 2 3 4 6 7 8 9 10 11 12 13 62; simp -implicitDefEqProofs only [push_cast, reduceIte, Nat.reduceEqDiff, e0, e1, e2, e3, e4, e6, e7, e8, e9, e10, e11, e12, e13, e62] at n; clear hE e0 e1 e2 e3 e4 e6 e7 e8 e9 e10 e11 e12 e13 e62; obtain ⟨e0, e1, e2, e3, e4, e6, e7, e8, e9, e10, e11, e12, e13, e62⟩ := n) | (with_reducible refine hK _ _ ?_; clear hK K) | (with_reducible first | (refine Zi ?_; constructor) | refine yC (by decide) ?_ | refine yJ (by assumption) ?_ | refine yL (by assumption) ?_) | (refine yD rfl ?_) | (simp -implicitDefEqProofs only [push_cast, sevalprocAttr, eq_self, e0, e1, e2, e3, e4, e6, e7, e8, e9, e10, e11, e12, e13, e62, d1]) | (simp -implicitDefEqProofs (disch := omega) only [yH, yM, yI, yG, e0, e1, e2, e3, e4, e6, e7, e8, e9, e10, e11, e12, e13, e62, d1]) | (with_reducible refine yO ?_ ?_) | (refine yF rfl (fun bb => ?_) (fun bb => ?_) <;> (first | have bp := oT bb | have bp := oF bb | skip) <;> simp only [bb]) | (with_reducible refine yK (fun bb => ?_) (fun bb => ?_) <;> (first | have bp := oT bb | have bp := oF bb | skip)) | ((with_reducible refine And.intro ?_ ?_); omega) | (refine yN (f69 t) ?_) | fail)
    rw [endA, hS, hE]
    rfl
  have hE := tabE_ok h1
  have d1 : decide (¬ tabE t = 0) = false := dF (by omega)
  have hb3 := h1.1 3 (by omega)
  have hdl := h1.2
  unfold okC at hb3
  by_cases h2 : t.u 3 = 0
  · have d2 : decide (t.u 3 = 0) = true := dT h2
    have hS : endS b t cs = (0, 0, 21) := by unfold endS; rw [if_neg (fun h => h h1), if_pos h2]
    repeat' (first | ((try clear hf); with_reducible refine yE fun env K hE hK hf => ?_; have n := cj14 hE 0 1 2 3 4 6 7 8 9 10 11 12 13 62; simp -implicitDefEqProofs only [push_cast, reduceIte, Nat.reduceEqDiff, e0, e1, e2, e3, e4, e6, e7, e8, e9, e10, e11, e12, e13, e62] at n; clear hE e0 e1 e2 e3 e4 e6 e7 e8 e9 e10 e11 e12 e13 e62; obtain ⟨e0, e1, e2, e3, e4, e6, e7, e8, e9, e10, e11, e12, e13, e62⟩ := n) | (with_reducible refine hK _ _ ?_; clear hK K) | (with_reducible first | (refine Zi ?_; constructor) | refine yC (by decide) ?_ | refine yJ (by assumption) ?_ | refine yL (by assumption) ?_) | (refine yD rfl ?_) | (simp -implicitDefEqProofs only [push_cast, sevalprocAttr, eq_self, e0, e1, e2, e3, e4, e6, e7, e8, e9, e10, e11, e12, e13, e62, d1, d2, hT3]) | (simp -implicitDefEqProofs (disch := omega) only [yH, yM, yI, yG, e0, e1, e2, e3, e4, e6, e7, e8, e9, e10, e11, e12, e13, e62, d1, d2, hT3]) | (with_reducible refine yO ?_ ?_) | (refine yF rfl (fun bb => ?_) (fun bb => ?_) <;> (first | have bp := oT bb | have bp := oF bb | skip) <;> simp only [bb]) | (with_reducible refine yK (fun bb => ?_) (fun bb => ?_) <;> (first | have bp := oT bb | have bp := oF bb | skip)) | ((with_reducible refine And.intro ?_ ?_); omega) | (refine yN (f69 t) ?_) | fail)
    rw [endA, hS]
    rfl
  have d2 : decide (t.u 3 = 0) = false := dF h2
  by_cases h3 : b.e < 0 ∨ 3 < b.e ∨ (b.e ≠ 0 ∧ 32 ≤ b.a)
  · have hS : endS b t cs = (0, 0, 50) := by unfold endS; rw [if_neg (fun h => h h1), if_neg h2, if_pos h3]
    by_cases h4 : b.e < 0
    · have d3 : decide (b.e < 0) = true := dT h4
      repeat' (first | ((try clear hf); with_reducible refine yE fun env K hE hK hf => ?_; have n := cj14 hE 0 1 2 3 4 6 7 8 9 10 11 12 13 62; simp -implicitDefEqProofs only [push_cast, reduceIte, Nat.reduceEqDiff, e0, e1, e2, e3, e4, e6, e7, e8, e9, e10, e11, e12, e13, e62] at n; clear hE e0 e1 e2 e3 e4 e6 e7 e8 e9 e10 e11 e12 e13 e62; obtain ⟨e0, e1, e2, e3, e4, e6, e7, e8, e9, e10, e11, e12, e13, e62⟩ := n) | (with_reducible refine hK _ _ ?_; clear hK K) | (with_reducible first | (refine Zi ?_; constructor) | refine yC (by decide) ?_ | refine yJ (by assumption) ?_ | refine yL (by assumption) ?_) | (refine yD rfl ?_) | (simp -implicitDefEqProofs only [push_cast, sevalprocAttr, eq_self, e0, e1, e2, e3, e4, e6, e7, e8, e9, e10, e11, e12, e13, e62, d1, d2, d3, hT3, hB1]) | (simp -implicitDefEqProofs (disch := omega) only [yH, yM, yI, yG, e0, e1, e2, e3, e4, e6, e7, e8, e9, e10, e11, e12, e13, e62, d1, d2, d3, hT3, hB1]) | (with_reducible refine yO ?_ ?_) | (refine yF rfl (fun bb => ?_) (fun bb => ?_) <;> (first | have bp := oT bb | have bp := oF bb | skip) <;> simp only [bb]) | (with_reducible refine yK (fun bb => ?_) (fun bb => ?_) <;> (first | have bp := oT bb | have bp := oF bb | skip)) | ((with_reducible refine And.intro ?_ ?_); omega) | (refine yN (f69 t) ?_) | fail)
      rw [endA, hS]
      rfl
    have d3 : decide (b.e < 0) = false := dF h4
    by_cases h5 : 3 < b.e
    · have d4 : decide (3 < b.e) = true := dT h5
      repeat' (first | ((try clear hf); with_reducible refine yE fun env K hE hK hf => ?_; have n := cj14 hE 0 1 2 3 4 6 7 8 9 10 11 12 13 62; simp -implicitDefEqProofs only [push_cast, reduceIte, Nat.reduceEqDiff, e0, e1, e2, e3, e4, e6, e7, e8, e9, e10, e11, e12, e13, e62] at n; clear hE e0 e1 e2 e3 e4 e6 e7 e8 e9 e10 e11 e12 e13 e62; obtain ⟨e0, e1, e2, e3, e4, e6, e7, e8, e9, e10, e11, e12, e13, e62⟩ := n) | (with_reducible refine hK _ _ ?_; clear hK K) | (with_reducible first | (refine Zi ?_; constructor) | refine yC (by decide) ?_ | refine yJ (by assumption) ?_ | refine yL (by assumption) ?_) | (refine yD rfl ?_) | (simp -implicitDefEqProofs only [push_cast, sevalprocAttr, eq_self, e0, e1, e2, e3, e4, e6, e7, e8, e9, e10, e11, e12, e13, e62, d1, d2, d3, d4, hT3, hB1]) | (simp -implicitDefEqProofs (disch := omega) only [yH, yM, yI, yG, e0, e1, e2, e3, e4, e6, e7, e8, e9, e10, e11, e12, e13, e62, d1, d2, d3, d4, hT3, hB1]) | (with_reducible refine yO ?_ ?_) | (refine yF rfl (fun bb => ?_) (fun bb => ?_) <;> (first | have bp := oT bb | have bp := oF bb | skip) <;> simp only [bb]) | (with_reducible refine yK (fun bb => ?_) (fun bb => ?_) <;> (first | have bp := oT bb | have bp := oF bb | skip)) | ((with_reducible refine And.intro ?_ ?_); omega) | (refine yN (f69 t) ?_) | fail)
      rw [endA, hS]
      rfl
    have d4 : decide (3 < b.e) = false := dF h5
    have h6 : b.e ≠ 0 ∧ 32 ≤ b.a := by rcases h3 with h | h | h; exact absurd h h4; exact absurd h h5; exact h
    have d5 : decide (¬ b.e = 0) = true := dT h6.1
    have d6 : decide (32 ≤ b.a) = true := dT h6.2
    repeat' (first | ((try clear hf); with_reducible refine yE fun env K hE hK hf => ?_; have n := cj14 hE 0 1 2 3 4 6 7 8 9 10 11 12 13 62; simp -implicitDefEqProofs only [push_cast, reduceIte, Nat.reduceEqDiff, e0, e1, e2, e3, e4, e6, e7, e8, e9, e10, e11, e12, e13, e62] at n; clear hE e0 e1 e2 e3 e4 e6 e7 e8 e9 e10 e11 e12 e13 e62; obtain ⟨e0, e1, e2, e3, e4, e6, e7, e8, e9, e10, e11, e12, e13, e62⟩ := n) | (with_reducible refine hK _ _ ?_; clear hK K) | (with_reducible first | (refine Zi ?_; constructor) | refine yC (by decide) ?_ | refine yJ (by assumption) ?_ | refine yL (by assumption) ?_) | (refine yD rfl ?_) | (simp -implicitDefEqProofs only [push_cast, sevalprocAttr, eq_self, e0, e1, e2, e3, e4, e6, e7, e8, e9, e10, e11, e12, e13, e62, d1, d2, d3, d4, d5, d6, hT3, hB1, hB2]) | (simp -implicitDefEqProofs (disch := omega) only [yH, yM, yI, yG, e0, e1, e2, e3, e4, e6, e7, e8, e9, e10, e11, e12, e13, e62, d1, d2, d3, d4, d5, d6, hT3, hB1, hB2]) | (with_reducible refine yO ?_ ?_) | (refine yF rfl (fun bb => ?_) (fun bb => ?_) <;> (first | have bp := oT bb | have bp := oF bb | skip) <;> simp only [bb]) | (with_reducible refine yK (fun bb => ?_) (fun bb => ?_) <;> (first | have bp := oT bb | have bp := oF bb | skip)) | ((with_reducible refine And.intro ?_ ?_); omega) | (refine yN (f69 t) ?_) | fail)
    rw [endA, hS]
    rfl
  have d3 : decide (b.e < 0) = false := dF (fun h => h3 (.inl h))
  have d4 : decide (3 < b.e) = false := dF (fun h => h3 (.inr (.inl h)))
  by_cases hck : checkP b.l t cs
  rotate_left
  · have hS : endS b t cs = (0, 0, 160) := by unfold endS; rw [if_neg (fun h => h h1), if_neg h2, if_neg h3, if_pos hck]
    have hcb := checkB_f hck
    by_cases h5 : b.e = 0
    · have d5 : decide (¬ b.e = 0) = false := dF (fun h => h h5)
      repeat' (first | ((try clear hf); with_reducible refine yE fun env K hE hK hf => ?_; have n := cj14 hE 0 1 2 3 4 6 7 8 9 10 11 12 13 62; simp -implicitDefEqProofs only [push_cast, reduceIte, Nat.reduceEqDiff, e0, e1, e2, e3, e4, e6, e7, e8, e9, e10, e11, e12, e13, e62] at n; clear hE e0 e1 e2 e3 e4 e6 e7 e8 e9 e10 e11 e12 e13 e62; obtain ⟨e0, e1, e2, e3, e4, e6, e7, e8, e9, e10, e11, e12, e13, e62⟩ := n) | (with_reducible refine hK _ _ ?_; clear hK K) | (with_reducible first | (refine Zi ?_; constructor) | refine yC (by decide) ?_ | refine yJ (by assumption) ?_ | refine yL (by assumption) ?_) | (refine yD rfl ?_) | (simp -implicitDefEqProofs only [push_cast, sevalprocAttr, eq_self, e0, e1, e2, e3, e4, e6, e7, e8, e9, e10, e11, e12, e13, e62, d1, d2, d3, d4, d5, hT3, hB0, hB1, hB2, hcb]) | (simp -implicitDefEqProofs (disch := omega) only [yH, yM, yI, yG, e0, e1, e2, e3, e4, e6, e7, e8, e9, e10, e11, e12, e13, e62, d1, d2, d3, d4, d5, hT3, hB0, hB1, hB2, hcb]) | (with_reducible refine yO ?_ ?_) | (refine yF rfl (fun bb => ?_) (fun bb => ?_) <;> (first | have bp := oT bb | have bp := oF bb | skip) <;> simp only [bb]) | (with_reducible refine yK (fun bb => ?_) (fun bb => ?_) <;> (first | have bp := oT bb | have bp := oF bb | skip)) | ((with_reducible refine And.intro ?_ ?_); omega) | (refine yN (f69 t) ?_) | (refine yN (f47 b.l t cs hl hcn) ?_) | fail)
      rw [endA, hS]
      rfl
    · have d5 : decide (¬ b.e = 0) = true := dT h5
      have d6 : decide (32 ≤ b.a) = false := dF (fun h => h3 (.inr (.inr ⟨h5, h⟩)))
      repeat' (first | ((try clear hf); with_reducible refine yE fun env K hE hK hf => ?_; have n := cj14 hE 0 1 2 3 4 6 7 8 9 10 11 12 13 62; simp -implicitDefEqProofs only [push_cast, reduceIte, Nat.reduceEqDiff, e0, e1, e2, e3, e4, e6, e7, e8, e9, e10, e11, e12, e13, e62] at n; clear hE e0 e1 e2 e3 e4 e6 e7 e8 e9 e10 e11 e12 e13 e62; obtain ⟨e0, e1, e2, e3, e4, e6, e7, e8, e9, e10, e11, e12, e13, e62⟩ := n) | (with_reducible refine hK _ _ ?_; clear hK K) | (with_reducible first | (refine Zi ?_; constructor) | refine yC (by decide) ?_ | refine yJ (by assumption) ?_ | refine yL (by assumption) ?_) | (refine yD rfl ?_) | (simp -implicitDefEqProofs only [push_cast, sevalprocAttr, eq_self, e0, e1, e2, e3, e4, e6, e7, e8, e9, e10, e11, e12, e13, e62, d1, d2, d3, d4, d5, d6, hT3, hB0, hB1, hB2, hcb]) | (simp -implicitDefEqProofs (disch := omega) only [yH, yM, yI, yG, e0, e1, e2, e3, e4, e6, e7, e8, e9, e10, e11, e12, e13, e62, d1, d2, d3, d4, d5, d6, hT3, hB0, hB1, hB2, hcb]) | (with_reducible refine yO ?_ ?_) | (refine yF rfl (fun bb => ?_) (fun bb => ?_) <;> (first | have bp := oT bb | have bp := oF bb | skip) <;> simp only [bb]) | (with_reducible refine yK (fun bb => ?_) (fun bb => ?_) <;> (first | have bp := oT bb | have bp := oF bb | skip)) | ((with_reducible refine And.intro ?_ ?_); omega) | (refine yN (f69 t) ?_) | (refine yN (f47 b.l t cs hl hcn) ?_) | fail)
      rw [endA, hS]
      rfl
  have hcb := checkB_t hck
  have hn : b.l.length ≤ 100000 := by have := (errR_ok hck.1).2.1; omega
  have hwb := when_bnd (l := b.l) h1 hck.2.2.2.1 b.a b.l.length
  have hmx : ∀ x y : Int, (if y > x then y else x) = mx x y := fun _ _ => rfl
  have hld : mx 0 (t.b 3 - 1 - t.d) = qP t := rfl
  have hlb : 0 ≤ qP t ∧ qP t ≤ 4 := by unfold qP mx; split <;> omega
  have hmb : ∀ x y : Int, mx x y = x ∨ mx x y = y := fun x y => by unfold mx; split; exact .inr rfl; exact .inl rfl
  have hw1 : IntKind.i64.wrap (t.b 3 - 1) = t.b 3 - 1 := qN (by omega) (by omega)
  have hw2 : IntKind.i64.wrap (t.b 3 - 1 - t.d) = t.b 3 - 1 - t.d := qN (by omega) (by omega)
  by_cases h5 : b.e = 0
  · have d5 : decide (¬ b.e = 0) = false := dF (fun h => h h5)
    have d7 : decide (b.e = 3) = false := dF (by omega)
    have d8 : decide (b.e = 2) = false := dF (by omega)
    have d9 : decide (b.e = 1) = false := dF (by omega)
    have d10 : decide (b.e = 0) = true := dT h5
    have hw3 : IntKind.i64.wrap (qP t + 1) = qP t + 1 := qN (by omega) (by omega)
    have hw4 : IntKind.i64.wrap (qP t + 1 + t.d) = qP t + 1 + t.d := qN (by omega) (by omega)
    have hnb := hmb (qW b.l t cs b.l.length) (qP t + 1 + t.d)
    have hS : endS b t cs = (mx (qW b.l t cs b.l.length) (qP t + 1 + t.d) - 1 - t.d, mx (qW b.l t cs b.l.length) (qP t + 1 + t.d), 0) := by
      unfold endS
      rw [if_neg (fun h => h h1), if_neg h2, if_neg h3, if_neg (fun h => h hck), if_neg (by omega), if_neg (by omega), if_neg (by omega)]
    have hw5 : IntKind.i64.wrap (mx (qW b.l t cs b.l.length) (qP t + 1 + t.d) - 1) = mx (qW b.l t cs b.l.length) (qP t + 1 + t.d) - 1 := qN (by omega) (by omega)
    have hw6 : IntKind.i64.wrap (mx (qW b.l t cs b.l.length) (qP t + 1 + t.d) - 1 - t.d) = mx (qW b.l t cs b.l.length) (qP t + 1 + t.d) - 1 - t.d := qN (by omega) (by omega)
    repeat' (first | ((try clear hf); with_reducible refine yE fun env K hE hK hf => ?_; have n := cj14 hE 0 1 2 3 4 6 7 8 9 10 11 12 13 62; simp -implicitDefEqProofs only [push_cast, reduceIte, Nat.reduceEqDiff, e0, e1, e2, e3, e4, e6, e7, e8, e9, e10, e11, e12, e13, e62] at n; clear hE e0 e1 e2 e3 e4 e6 e7 e8 e9 e10 e11 e12 e13 e62; obtain ⟨e0, e1, e2, e3, e4, e6, e7, e8, e9, e10, e11, e12, e13, e62⟩ := n) | (with_reducible refine hK _ _ ?_; clear hK K) | (with_reducible first | (refine Zi ?_; constructor) | refine yC (by decide) ?_ | refine yJ (by assumption) ?_ | refine yL (by assumption) ?_) | (refine yD rfl ?_) | (simp -implicitDefEqProofs only [push_cast, sevalprocAttr, eq_self, e0, e1, e2, e3, e4, e6, e7, e8, e9, e10, e11, e12, e13, e62, d1, d2, d3, d4, hT3, hT11, hT12, hB0, hB1, hB2, hcb, hmx, qA, qF, hw1, hw2, hld, d5, d7, d8, d9, d10, hw3, hw4, hw5, hw6]) | (simp -implicitDefEqProofs (disch := omega) only [yH, yM, yI, yG, e0, e1, e2, e3, e4, e6, e7, e8, e9, e10, e11, e12, e13, e62, d1, d2, d3, d4, hT3, hT11, hT12, hB0, hB1, hB2, hcb, hmx, qA, qF, hw1, hw2, hld, d5, d7, d8, d9, d10, hw3, hw4, hw5, hw6]) | (with_reducible refine yO ?_ ?_) | (refine yF rfl (fun bb => ?_) (fun bb => ?_) <;> (first | have bp := oT bb | have bp := oF bb | skip) <;> simp only [bb]) | (with_reducible refine yK (fun bb => ?_) (fun bb => ?_) <;> (first | have bp := oT bb | have bp := oF bb | skip)) | ((with_reducible refine And.intro ?_ ?_); omega) | (refine yN (f69 t) ?_) | (refine yN (f47 b.l t cs hl hcn) ?_) | (refine yN (f70 t h1) ?_) | (refine yN (f71 b.l t cs b.a hl hn hck.2.2.1 h1 hck.2.2.2.1) ?_) | fail)
    rw [endA, hS]
    rfl
  have d5 : decide (¬ b.e = 0) = true := dT h5
  have d6 : decide (32 ≤ b.a) = false := dF (fun h => h3 (.inr (.inr ⟨h5, h⟩)))
  have d10 : decide (b.e = 0) = false := dF h5
  by_cases h6 : b.e = 3
  · have d7 : decide (b.e = 3) = true := dT h6
    have d8 : decide (b.e = 2) = false := dF (by omega)
    have d9 : decide (b.e = 1) = false := dF (by omega)
    have hS : endS b t cs = (-1, qW b.l t cs b.l.length, 0) := by
      unfold endS
      rw [if_neg (fun h => h h1), if_neg h2, if_neg h3, if_neg (fun h => h hck), if_pos h6]
    repeat' (first | ((try clear hf); with_reducible refine yE fun env K hE hK hf => ?_; have n := cj14 hE 0 1 2 3 4 6 7 8 9 10 11 12 13 62; simp -implicitDefEqProofs only [push_cast, reduceIte, Nat.reduceEqDiff, e0, e1, e2, e3, e4, e6, e7, e8, e9, e10, e11, e12, e13, e62] at n; clear hE e0 e1 e2 e3 e4 e6 e7 e8 e9 e10 e11 e12 e13 e62; obtain ⟨e0, e1, e2, e3, e4, e6, e7, e8, e9, e10, e11, e12, e13, e62⟩ := n) | (with_reducible refine hK _ _ ?_; clear hK K) | (with_reducible first | (refine Zi ?_; constructor) | refine yC (by decide) ?_ | refine yJ (by assumption) ?_ | refine yL (by assumption) ?_) | (refine yD rfl ?_) | (simp -implicitDefEqProofs only [push_cast, sevalprocAttr, eq_self, e0, e1, e2, e3, e4, e6, e7, e8, e9, e10, e11, e12, e13, e62, d1, d2, d3, d4, hT3, hT11, hT12, hB0, hB1, hB2, hcb, hmx, qA, qF, hw1, hw2, hld, d5, d6, d7, d8, d9, d10]) | (simp -implicitDefEqProofs (disch := omega) only [yH, yM, yI, yG, e0, e1, e2, e3, e4, e6, e7, e8, e9, e10, e11, e12, e13, e62, d1, d2, d3, d4, hT3, hT11, hT12, hB0, hB1, hB2, hcb, hmx, qA, qF, hw1, hw2, hld, d5, d6, d7, d8, d9, d10]) | (with_reducible refine yO ?_ ?_) | (refine yF rfl (fun bb => ?_) (fun bb => ?_) <;> (first | have bp := oT bb | have bp := oF bb | skip) <;> simp only [bb]) | (with_reducible refine yK (fun bb => ?_) (fun bb => ?_) <;> (first | have bp := oT bb | have bp := oF bb | skip)) | ((with_reducible refine And.intro ?_ ?_); omega) | (refine yN (f69 t) ?_) | (refine yN (f47 b.l t cs hl hcn) ?_) | (refine yN (f70 t h1) ?_) | (refine yN (f71 b.l t cs b.a hl hn hck.2.2.1 h1 hck.2.2.2.1) ?_) | fail)
    rw [endA, hS]
    rfl
  have d7 : decide (b.e = 3) = false := dF h6
  by_cases h7 : b.e = 2
  · have d8 : decide (b.e = 2) = true := dT h7
    have d9 : decide (b.e = 1) = false := dF (by omega)
    have hnb := hmb (qP t) (whenL b.l t cs b.l.length)
    have hw5 : IntKind.i64.wrap (mx (qP t) (whenL b.l t cs b.l.length) + 1) = mx (qP t) (whenL b.l t cs b.l.length) + 1 := qN (by omega) (by omega)
    have hS : endS b t cs = (mx (qP t) (whenL b.l t cs b.l.length), mx (qP t) (whenL b.l t cs b.l.length) + 1, 0) := by
      unfold endS
      rw [if_neg (fun h => h h1), if_neg h2, if_neg h3, if_neg (fun h => h hck), if_neg h6, if_pos h7]
    repeat' (first | ((try clear hf); with_reducible refine yE fun env K hE hK hf => ?_; have n := cj14 hE 0 1 2 3 4 6 7 8 9 10 11 12 13 62; simp -implicitDefEqProofs only [push_cast, reduceIte, Nat.reduceEqDiff, e0, e1, e2, e3, e4, e6, e7, e8, e9, e10, e11, e12, e13, e62] at n; clear hE e0 e1 e2 e3 e4 e6 e7 e8 e9 e10 e11 e12 e13 e62; obtain ⟨e0, e1, e2, e3, e4, e6, e7, e8, e9, e10, e11, e12, e13, e62⟩ := n) | (with_reducible refine hK _ _ ?_; clear hK K) | (with_reducible first | (refine Zi ?_; constructor) | refine yC (by decide) ?_ | refine yJ (by assumption) ?_ | refine yL (by assumption) ?_) | (refine yD rfl ?_) | (simp -implicitDefEqProofs only [push_cast, sevalprocAttr, eq_self, e0, e1, e2, e3, e4, e6, e7, e8, e9, e10, e11, e12, e13, e62, d1, d2, d3, d4, hT3, hT11, hT12, hB0, hB1, hB2, hcb, hmx, qA, qF, hw1, hw2, hld, d5, d6, d7, d8, d9, d10, hw5]) | (simp -implicitDefEqProofs (disch := omega) only [yH, yM, yI, yG, e0, e1, e2, e3, e4, e6, e7, e8, e9, e10, e11, e12, e13, e62, d1, d2, d3, d4, hT3, hT11, hT12, hB0, hB1, hB2, hcb, hmx, qA, qF, hw1, hw2, hld, d5, d6, d7, d8, d9, d10, hw5]) | (with_reducible refine yO ?_ ?_) | (refine yF rfl (fun bb => ?_) (fun bb => ?_) <;> (first | have bp := oT bb | have bp := oF bb | skip) <;> simp only [bb]) | (with_reducible refine yK (fun bb => ?_) (fun bb => ?_) <;> (first | have bp := oT bb | have bp := oF bb | skip)) | ((with_reducible refine And.intro ?_ ?_); omega) | (refine yN (f69 t) ?_) | (refine yN (f47 b.l t cs hl hcn) ?_) | (refine yN (f70 t h1) ?_) | (refine yN (f71 b.l t cs b.a hl hn hck.2.2.1 h1 hck.2.2.2.1) ?_) | fail)
    rw [endA, hS]
    rfl
  have d8 : decide (b.e = 2) = false := dF h7
  have h8 : b.e = 1 := by omega
  have d9 : decide (b.e = 1) = true := dT h8
  have hlo := hmb (qP t) (whenO b.l t cs b.a b.l.length)
  have hS : endS b t cs = (mx (qW b.l t cs b.l.length) (mx (qP t) (whenO b.l t cs b.a b.l.length) + 1 + t.d) - 1 - t.d, mx (qW b.l t cs b.l.length) (mx (qP t) (whenO b.l t cs b.a b.l.length) + 1 + t.d), 0) := by
    unfold endS
    rw [if_neg (fun h => h h1), if_neg h2, if_neg h3, if_neg (fun h => h hck), if_neg h6, if_neg h7, if_pos h8]
  generalize hlq : mx (qP t) (whenO b.l t cs b.a b.l.length) = lq at *
  have hnb := hmb (qW b.l t cs b.l.length) (lq + 1 + t.d)
  have hw3 : IntKind.i64.wrap (lq + 1) = lq + 1 := qN (by omega) (by omega)
  have hw4 : IntKind.i64.wrap (1 + t.d + lq) = lq + 1 + t.d := (qN (by omega) (by omega)).trans (by omega)
  have hw7 : IntKind.i64.wrap (1 + t.d) = 1 + t.d := qN (by omega) (by omega)
  have hw5 : IntKind.i64.wrap (mx (qW b.l t cs b.l.length) (lq + 1 + t.d) - 1) = mx (qW b.l t cs b.l.length) (lq + 1 + t.d) - 1 := qN (by omega) (by omega)
  have hw6 : IntKind.i64.wrap (mx (qW b.l t cs b.l.length) (lq + 1 + t.d) - 1 - t.d) = mx (qW b.l t cs b.l.length) (lq + 1 + t.d) - 1 - t.d := qN (by omega) (by omega)
  repeat' (first | ((try clear hf); with_reducible refine yE fun env K hE hK hf => ?_; have n := cj14 hE 0 1 2 3 4 6 7 8 9 10 11 12 13 62; simp -implicitDefEqProofs only [push_cast, reduceIte, Nat.reduceEqDiff, e0, e1, e2, e3, e4, e6, e7, e8, e9, e10, e11, e12, e13, e62] at n; clear hE e0 e1 e2 e3 e4 e6 e7 e8 e9 e10 e11 e12 e13 e62; obtain ⟨e0, e1, e2, e3, e4, e6, e7, e8, e9, e10, e11, e12, e13, e62⟩ := n) | (with_reducible refine hK _ _ ?_; clear hK K) | (with_reducible first | (refine Zi ?_; constructor) | refine yC (by decide) ?_ | refine yJ (by assumption) ?_ | refine yL (by assumption) ?_) | (refine yD rfl ?_) | (simp -implicitDefEqProofs only [push_cast, sevalprocAttr, eq_self, e0, e1, e2, e3, e4, e6, e7, e8, e9, e10, e11, e12, e13, e62, d1, d2, d3, d4, hT3, hT11, hT12, hB0, hB1, hB2, hcb, hmx, qA, qF, hw1, hw2, hld, hlq, d5, d6, d7, d8, d9, d10, hw7, hw4, hw5, hw6]) | (simp -implicitDefEqProofs (disch := omega) only [yH, yM, yI, yG, e0, e1, e2, e3, e4, e6, e7, e8, e9, e10, e11, e12, e13, e62, d1, d2, d3, d4, hT3, hT11, hT12, hB0, hB1, hB2, hcb, hmx, qA, qF, hw1, hw2, hld, hlq, d5, d6, d7, d8, d9, d10, hw7, hw4, hw5, hw6]) | (with_reducible refine yO ?_ ?_) | (refine yF rfl (fun bb => ?_) (fun bb => ?_) <;> (first | have bp := oT bb | have bp := oF bb | skip) <;> simp only [bb]) | (with_reducible refine yK (fun bb => ?_) (fun bb => ?_) <;> (first | have bp := oT bb | have bp := oF bb | skip)) | ((with_reducible refine And.intro ?_ ?_); omega) | (refine yN (f69 t) ?_) | (refine yN (f47 b.l t cs hl hcn) ?_) | (refine yN (f70 t h1) ?_) | (refine yN (f71 b.l t cs b.a hl hn hck.2.2.1 h1 hck.2.2.2.1) ?_) | fail)
  rw [endA, hS]
  rfl
end Go.Proofs.Hx

set_option linter.unusedVariables false
set_option linter.unusedSimpArgs false
namespace Go.Proofs.Hx
open Go Go.Proofs
attribute [local irreducible] yS awp opK goV goM qB yZ qH yW HV HVF HC
/-! ### A range is turned -/
end Go.Proofs.Hx

set_option linter.unusedVariables false
set_option linter.unusedSimpArgs false
namespace Go.Proofs.Hx
open Go Go.Proofs
/-! ### Order: by a key, the greater ahead; of the same key, the lesser number ahead -/
def kR (key : Int → Int) (x y : Int) : Prop := key y < key x ∨ (key x = key y ∧ x < y)
theorem kR.trans {key : Int → Int} {x y z : Int} (h : kR key x y) (k : kR key y z) : kR key x z := by unfold kR at *; omega
def cnt (d : Nat → Int) (a : Nat) : Nat → Int → Nat
  | 0, _ => 0
  | m + 1, v => cnt d a m v + if d (a + m) = v then 1 else 0
theorem cnt_pos {d : Nat → Int} {a m : Nat} {v : Int} : 0 < cnt d a m v ↔ ∃ k, k < m ∧ d (a + k) = v := by
  induction m with
  | zero => simp [cnt]
  | succ m ih =>
    simp only [cnt]
    constructor
    · intro h
      by_cases e : d (a + m) = v
      · exact ⟨m, by omega, e⟩
      · rw [if_neg e] at h
        obtain ⟨k, h1, h2⟩ := ih.1 (by omega)
        exact ⟨k, by omega, h2⟩
    · rintro ⟨k, h1, h2⟩
      by_cases e : k = m
      · subst e; rw [if_pos h2]; omega
      · have := ih.2 ⟨k, by omega, h2⟩; omega
/-- The same outside, and the same numbers inside. -/
structure SP (d d' : Nat → Int) (a b : Nat) : Prop where
  out : ∀ k, k < a ∨ b ≤ k → d' k = d k
  num : ∀ v, cnt d' a (b - a) v = cnt d a (b - a) v
theorem SP.refl (d : Nat → Int) (a b : Nat) : SP d d a b := ⟨fun _ _ => rfl, fun _ => rfl⟩
theorem SP.trans {d e f : Nat → Int} {a b : Nat} (h : SP d e a b) (k : SP e f a b) : SP d f a b := ⟨fun i hi => (k.out i hi).trans (h.out i hi), fun v => (k.num v).trans (h.num v)⟩
theorem SP.all {d e : Nat → Int} {a b : Nat} (h : SP d e a b) {Q : Int → Prop} (hq : ∀ k, a ≤ k → k < b → Q (d k)) : ∀ k, a ≤ k → k < b → Q (e k) := by
  intro k h1 h2
  have : 0 < cnt e a (b - a) (e k) := cnt_pos.2 ⟨k - a, by omega, by congr 1; omega⟩
  rw [h.num] at this
  obtain ⟨j, h3, h4⟩ := cnt_pos.1 this
  rw [← h4]
  exact hq _ (by omega) (by omega)
def srt (key : Int → Int) (d : Nat → Int) (a b : Nat) : Prop := ∀ i j, a ≤ i → i < j → j < b → kR key (d i) (d j)
end Go.Proofs.Hx

set_option linter.unusedVariables false
set_option linter.unusedSimpArgs false
namespace Go.Proofs.Hx
open Go Go.Proofs
attribute [local irreducible] yS awp opK goV goM qB yZ qH yW HV HVF HC
end Go.Proofs.Hx

set_option linter.unusedVariables false
set_option linter.unusedSimpArgs false
namespace Go.Proofs.Hx
open Go Go.Proofs
/-! ### Two ranges in order are merged -/
end Go.Proofs.Hx

set_option linter.unusedVariables false
set_option linter.unusedSimpArgs false
namespace Go.Proofs.Hx
open Go Go.Proofs
attribute [local irreducible] yS awp opK goV goM qB yZ qH yW HV HVF HC
end Go.Proofs.Hx

set_option linter.unusedVariables false
set_option linter.unusedSimpArgs false
namespace Go.Proofs.Hx
open Go Go.Proofs
attribute [local irreducible] yS awp opK goV goM qB yZ qH yW HV HVF HC
end Go.Proofs.Hx

set_option linter.unusedVariables false
set_option linter.unusedSimpArgs false
namespace Go.Proofs.Hx
open Go Go.Proofs
attribute [local irreducible] yS awp opK goV goM qB yZ qH yW HV HVF HC
end Go.Proofs.Hx

set_option linter.unusedVariables false
set_option linter.unusedSimpArgs false
namespace Go.Proofs.Hx
open Go Go.Proofs
attribute [local irreducible] yS awp opK goV goM qB yZ qH yW HV HVF HC

end Go.Proofs.Hx

set_option linter.unusedVariables false
set_option linter.unusedSimpArgs false
namespace Go.Proofs.Hx
open Go Go.Proofs
attribute [local irreducible] yS awp opK goV goM qB yZ qH yW HV HVF HC
/-- A range in order, of numbers of its own. -/
def Seg (key : Int → Int) (D : Nat → Int) (lo hi : Nat) : Prop := srt key D lo hi ∧ ∀ k, lo ≤ k → k < hi → (lo : Int) ≤ D k ∧ D k < hi
theorem Seg.congr {key : Int → Int} {D E : Nat → Int} {lo hi : Nat} (s : Seg key D lo hi) (h : ∀ k, lo ≤ k → k < hi → E k = D k) : Seg key E lo hi :=
  ⟨fun i j h1 h2 h3 => by rw [h i h1 (by omega), h j (by omega) h3]; exact s.1 i j h1 h2 h3, fun k h1 h2 => by rw [h k h1 h2]; exact s.2 k h1 h2⟩
def idD : Nat → Int := fun k => (k : Int)
end Go.Proofs.Hx

set_option linter.unusedVariables false
set_option linter.unusedSimpArgs false
namespace Go.Proofs.Hx
open Go Go.Proofs
attribute [local irreducible] yS awp opK goV goM qB yZ qH yW HV HVF HC
theorem flat_intC (H : List Int) : H.flatMap intC = H.map iC := by
  induction H with
  | nil => rfl
  | cons a l ih => rw [List.flatMap_cons, ih]; rfl
def keyH (H : List Int) (x : Int) : Int := H.getD x.toNat 0
end Go.Proofs.Hx

set_option linter.unusedVariables false
set_option linter.unusedSimpArgs false
namespace Go.Proofs.Hx
open Go Go.Proofs
attribute [local irreducible] yS awp opK goV goM qB yZ qH yW HV HVF HC
/-- An order: the numbers from 0 on, the longest way first. -/
def OrdP (H : List Int) (n : Nat) (d : Nat → Int) : Prop := SP idD d 0 n ∧ srt (keyH H) d 0 n
end Go.Proofs.Hx

set_option linter.unusedVariables false
set_option linter.unusedSimpArgs false
namespace Go.Proofs.Hx
open Go Go.Proofs
/-! ### The longest ways, by one equation -/
/-! ### What an order is -/
theorem kR.irr {key : Int → Int} {x : Int} : ¬ kR key x x := by unfold kR; omega
theorem kR.asym {key : Int → Int} {x y : Int} (h : kR key x y) : ¬ kR key y x := by unfold kR at *; omega
theorem OrdP.inj {H : List Int} {n : Nat} {d : Nat → Int} (o : OrdP H n d) {i j : Nat} (hi : i < n) (hj : j < n) (h : d i = d j) : i = j := by
  rcases Nat.lt_trichotomy i j with h1 | h1 | h1
  · have := o.2 i j (by omega) h1 hj; rw [h] at this; exact absurd this kR.irr
  · exact h1
  · have := o.2 j i (by omega) h1 hi; rw [h] at this; exact absurd this kR.irr
theorem OrdP.lt {H : List Int} {n : Nat} {d : Nat → Int} (o : OrdP H n d) {i j : Nat} (hi : i < n) (hj : j < n) (h : kR (keyH H) (d i) (d j)) : i < j := by
  rcases Nat.lt_trichotomy i j with h1 | h1 | h1
  · exact h1
  · subst h1; exact absurd h kR.irr
  · exact absurd (o.2 j i (by omega) h1 hi) h.asym
end Go.Proofs.Hx

set_option linter.unusedVariables false
set_option linter.unusedSimpArgs false
namespace Go.Proofs.Hx
open Go Go.Proofs
attribute [local irreducible] yS awp opK goV goM qB yZ qH yW HV HVF HC
/-! ### The laws' helpers -/
theorem f34 (a b : List Int) (hn : a.length ≤ 100000000000000) : HV Try.prog 34 [.row (a.map intC), .row (b.map intC)] (bl (decide (a = b))) := by
  refine yT yX cf34 (by simp) (by simp [imms, imm, ints_imms]) ?_ rfl
  unfold ac34 re34
  refine yQ fun env hE => ?_; obtain ⟨e0, e1, e4, e5⟩ := cj4 hE 0 1 4 5; simp -implicitDefEqProofs only [push_cast] at e0 e1 e4 e5; clear hE
  by_cases hl : a.length = b.length
  rotate_left
  · have d0 : decide ((a.length : Int) ≠ (b.length : Int)) = true := dT (by omega)
    have : decide (a = b) = false := dF (fun h => hl (by rw [h]))
    rw [this]
    repeat' (first | ((try clear hf); with_reducible refine yE fun env K hE hK hf => ?_; have n := cj4 hE 0 1 4 5; simp -implicitDefEqProofs only [push_cast, reduceIte, Nat.reduceEqDiff, e0, e1, e4, e5] at n; clear hE e0 e1 e4 e5; obtain ⟨e0, e1, e4, e5⟩ := n) | (with_reducible refine hK _ _ ?_; clear hK K) | (with_reducible first | (refine Zi ?_; constructor) | refine yC (by decide) ?_ | refine yJ (by assumption) ?_ | refine yL (by assumption) ?_) | (refine yD rfl ?_) | (simp -implicitDefEqProofs only [push_cast, sevalprocAttr, eq_self, e0, e1, e4, e5, d0]) | (simp -implicitDefEqProofs (disch := omega) only [yH, yM, yI, yG, e0, e1, e4, e5, d0]) | (with_reducible refine yO ?_ ?_) | (refine yF rfl (fun bb => ?_) (fun bb => ?_) <;> (first | have bp := oT bb | have bp := oF bb | skip) <;> simp only [bb]) | (with_reducible refine yK (fun bb => ?_) (fun bb => ?_) <;> (first | have bp := oT bb | have bp := oF bb | skip)) | ((with_reducible refine And.intro ?_ ?_); omega) | fail)
  have d0 : decide ((a.length : Int) ≠ (b.length : Int)) = false := dF (by omega)
  repeat' (first | ((try clear hf); with_reducible refine yE fun env K hE hK hf => ?_; have n := cj4 hE 0 1 4 5; simp -implicitDefEqProofs only [push_cast, reduceIte, Nat.reduceEqDiff, e0, e1, e4, e5] at n; clear hE e0 e1 e4 e5; obtain ⟨e0, e1, e4, e5⟩ := n) | (with_reducible refine hK _ _ ?_; clear hK K) | (with_reducible first | (refine Zi ?_; constructor) | refine yC (by decide) ?_ | refine yJ (by assumption) ?_ | refine yL (by assumption) ?_) | (refine yD rfl ?_) | (simp -implicitDefEqProofs only [push_cast, sevalprocAttr, eq_self, e0, e1, e4, e5, d0]) | (simp -implicitDefEqProofs (disch := omega) only [yH, yM, yI, yG, e0, e1, e4, e5, d0]) | (with_reducible refine yO ?_ ?_) | (refine yF rfl (fun bb => ?_) (fun bb => ?_) <;> (first | have bp := oT bb | have bp := oF bb | skip) <;> simp only [bb]) | (with_reducible refine yK (fun bb => ?_) (fun bb => ?_) <;> (first | have bp := oT bb | have bp := oF bb | skip)) | ((with_reducible refine And.intro ?_ ?_); omega) | fail)
  refine yQ fun env hE => ?_; have n := cj4 hE 0 1 4 5; simp -implicitDefEqProofs only [push_cast, reduceIte, Nat.reduceEqDiff, e0, e1, e4, e5] at n; clear hE e0 e1 e4 e5; obtain ⟨e0, e1, e4, e5⟩ := n; have E34_0_0 := e0; have E34_0_1 := e1
  refine qE (fun nn σ => ∃ (k : Nat), nn = a.length - k ∧ σ.env 0 = env 0 ∧ σ.env 1 = env 1 ∧ σ.env 5 = i64 k ∧ (k ≤ a.length ∧ ∀ q, q < k → a.getD q 0 = b.getD q 0)) _ ⟨0, rfl, rfl, rfl, by refine e5.trans ?_; first | rfl | exact yP (by omega) | (simp -implicitDefEqProofs (disch := omega) only [yG]; first | rfl | exact yP (by omega)), ?_⟩ ?_
  · exact ⟨by omega, fun q hq => by omega⟩
  clear e0 e1 e4 e5; rintro nn ⟨env, h⟩ ⟨k, rfl, q0, q1, e5, hI⟩; simp only at q0 q1 e5 hI; (first | have e0 := q0.trans E34_0_0 | have e0 := True.intro); (first | have e1 := q1.trans E34_0_1 | have e1 := True.intro); clear q0 q1; have e4 := True.intro
  obtain ⟨hk, hall⟩ := hI
  unfold l34_0
  by_cases hlt : k < a.length
  · have hd : decide ((k : Int) < (a.length : Int)) = true := dT (by omega)
    have r1 := int_at (l := a) hlt .i64
    have r2 := int_at (l := b) (k := k) (by omega) .i64
    by_cases hc : a.getD k 0 = b.getD k 0
    · have d1 : decide (a.getD k 0 ≠ b.getD k 0) = false := dF (fun h => h hc)
      repeat' (first | ((try clear hf); with_reducible refine yE fun env K hE hK hf => ?_; have n := cj4 hE 0 1 4 5; simp -implicitDefEqProofs only [push_cast, reduceIte, Nat.reduceEqDiff, e0, e1, e4, e5] at n; clear hE e0 e1 e4 e5; obtain ⟨e0, e1, e4, e5⟩ := n) | (with_reducible refine hK _ _ ?_; clear hK K) | (with_reducible first | (refine Zi ?_; constructor) | refine yC (by decide) ?_ | refine yJ (by assumption) ?_ | refine yL (by assumption) ?_) | (refine yD rfl ?_) | (simp -implicitDefEqProofs only [push_cast, sevalprocAttr, eq_self, e0, e1, e4, e5, hd, r1, r2, d1]) | (simp -implicitDefEqProofs (disch := omega) only [yH, yM, yI, yG, e0, e1, e4, e5, hd, r1, r2, d1]) | (with_reducible refine yO ?_ ?_) | (refine yF rfl (fun bb => ?_) (fun bb => ?_) <;> (first | have bp := oT bb | have bp := oF bb | skip) <;> simp only [bb]) | (with_reducible refine yK (fun bb => ?_) (fun bb => ?_) <;> (first | have bp := oT bb | have bp := oF bb | skip)) | ((with_reducible refine And.intro ?_ ?_); omega) | fail)
      refine ⟨_, ?_, k + 1, rfl, E34_0_0.symm, E34_0_1.symm, by first | rfl | exact yP (by omega) | (simp -implicitDefEqProofs (disch := omega) only [yG]; first | rfl | exact yP (by omega)), ?_⟩
      · omega
      · refine ⟨by omega, fun q hq => ?_⟩
        by_cases e : q < k
        · exact hall q e
        · obtain rfl : q = k := by omega
          exact hc
    · have d1 : decide (a.getD k 0 ≠ b.getD k 0) = true := dT hc
      have : decide (a = b) = false := dF (fun h => hc (by rw [h]))
      rw [this]
      repeat' (first | ((try clear hf); with_reducible refine yE fun env K hE hK hf => ?_; have n := cj4 hE 0 1 4 5; simp -implicitDefEqProofs only [push_cast, reduceIte, Nat.reduceEqDiff, e0, e1, e4, e5] at n; clear hE e0 e1 e4 e5; obtain ⟨e0, e1, e4, e5⟩ := n) | (with_reducible refine hK _ _ ?_; clear hK K) | (with_reducible first | (refine Zi ?_; constructor) | refine yC (by decide) ?_ | refine yJ (by assumption) ?_ | refine yL (by assumption) ?_) | (refine yD rfl ?_) | (simp -implicitDefEqProofs only [push_cast, sevalprocAttr, eq_self, e0, e1, e4, e5, hd, r1, r2, d1]) | (simp -implicitDefEqProofs (disch := omega) only [yH, yM, yI, yG, e0, e1, e4, e5, hd, r1, r2, d1]) | (with_reducible refine yO ?_ ?_) | (refine yF rfl (fun bb => ?_) (fun bb => ?_) <;> (first | have bp := oT bb | have bp := oF bb | skip) <;> simp only [bb]) | (with_reducible refine yK (fun bb => ?_) (fun bb => ?_) <;> (first | have bp := oT bb | have bp := oF bb | skip)) | ((with_reducible refine And.intro ?_ ?_); omega) | fail)
  · have hd : decide ((k : Int) < (a.length : Int)) = false := dF (by omega)
    have : decide (a = b) = true := dT (by
      apply List.ext_getElem hl
      intro q h1 h2
      have := hall q (by omega)
      simpa [List.getD_eq_getElem?_getD, h1, h2] using this)
    rw [this]
    repeat' (first | ((try clear hf); with_reducible refine yE fun env K hE hK hf => ?_; have n := cj4 hE 0 1 4 5; simp -implicitDefEqProofs only [push_cast, reduceIte, Nat.reduceEqDiff, e0, e1, e4, e5] at n; clear hE e0 e1 e4 e5; obtain ⟨e0, e1, e4, e5⟩ := n) | (with_reducible refine hK _ _ ?_; clear hK K) | (with_reducible first | (refine Zi ?_; constructor) | refine yC (by decide) ?_ | refine yJ (by assumption) ?_ | refine yL (by assumption) ?_) | (refine yD rfl ?_) | (simp -implicitDefEqProofs only [push_cast, sevalprocAttr, eq_self, e0, e1, e4, e5, hd]) | (simp -implicitDefEqProofs (disch := omega) only [yH, yM, yI, yG, e0, e1, e4, e5, hd]) | (with_reducible refine yO ?_ ?_) | (refine yF rfl (fun bb => ?_) (fun bb => ?_) <;> (first | have bp := oT bb | have bp := oF bb | skip) <;> simp only [bb]) | (with_reducible refine yK (fun bb => ?_) (fun bb => ?_) <;> (first | have bp := oT bb | have bp := oF bb | skip)) | ((with_reducible refine And.intro ?_ ?_); omega) | fail)
theorem op_ext (a b : Opn) : a = b ↔ a.k = b.k ∧ a.d = b.d ∧ a.a = b.a ∧ a.b = b.b ∧ a.im = b.im := by
  constructor
  · rintro rfl; simp
  · rintro ⟨h1, h2, h3, h4, h5⟩
    cases a; cases b; simp at *; exact ⟨h1, h2, h3, h4, h5⟩
instance : DecidableEq Opn := fun a b => decidable_of_iff _ (op_ext a b).symm
theorem aeq_op (neg : Bool) (a b : Opn) : aeqV neg [(0, 0), (1, 0), (2, 0), (3, 0), (4, 0)] (.agg (opC a)) (.agg (opC b)) = some (bl (if neg then !(decide (a = b)) else decide (a = b))) := by
  have h : eqAll (opC a) (opC b) [(0, 0), (1, 0), (2, 0), (3, 0), (4, 0)] = some (decide (a = b)) := by
    have e : decide (a = b) = ((a.k == b.k) && ((a.d == b.d) && ((a.a == b.a) && ((a.b == b.b) && (a.im == b.im))))) := by
      rw [Bool.eq_iff_iff]; simp [op_ext]
    rw [e]
    simp [eqAll, opC, scEq]
  rw [aeqV_agg, h]
  rfl
theorem f33 (a b : List Opn) (hn : a.length ≤ 10000000000000) : HV Try.prog 33 [.row (a.map opC), .row (b.map opC)] (bl (decide (a = b))) := by
  refine yT yX cf33 (by simp) (by simp [imms, imm, qK]) ?_ rfl
  unfold ac33 re33
  refine yQ fun env hE => ?_; obtain ⟨e0, e1, e4, e5⟩ := cj4 hE 0 1 4 5; simp -implicitDefEqProofs only [push_cast] at e0 e1 e4 e5; clear hE
  by_cases hl : a.length = b.length
  rotate_left
  · have d0 : decide ((a.length : Int) ≠ (b.length : Int)) = true := dT (by omega)
    have : decide (a = b) = false := dF (fun h => hl (by rw [h]))
    rw [this]
    repeat' (first | ((try clear hf); with_reducible refine yE fun env K hE hK hf => ?_; have n := cj4 hE 0 1 4 5; simp -implicitDefEqProofs only [push_cast, reduceIte, Nat.reduceEqDiff, e0, e1, e4, e5] at n; clear hE e0 e1 e4 e5; obtain ⟨e0, e1, e4, e5⟩ := n) | (with_reducible refine hK _ _ ?_; clear hK K) | (with_reducible first | (refine Zi ?_; constructor) | refine yC (by decide) ?_ | refine yJ (by assumption) ?_ | refine yL (by assumption) ?_) | (refine yD rfl ?_) | (simp -implicitDefEqProofs only [push_cast, sevalprocAttr, eq_self, e0, e1, e4, e5, d0]) | (simp -implicitDefEqProofs (disch := omega) only [yH, yM, yI, yG, e0, e1, e4, e5, d0]) | (with_reducible refine yO ?_ ?_) | (refine yF rfl (fun bb => ?_) (fun bb => ?_) <;> (first | have bp := oT bb | have bp := oF bb | skip) <;> simp only [bb]) | (with_reducible refine yK (fun bb => ?_) (fun bb => ?_) <;> (first | have bp := oT bb | have bp := oF bb | skip)) | ((with_reducible refine And.intro ?_ ?_); omega) | fail)
  have d0 : decide ((a.length : Int) ≠ (b.length : Int)) = false := dF (by omega)
  repeat' (first | ((try clear hf); with_reducible refine yE fun env K hE hK hf => ?_; have n := cj4 hE 0 1 4 5; simp -implicitDefEqProofs only [push_cast, reduceIte, Nat.reduceEqDiff, e0, e1, e4, e5] at n; clear hE e0 e1 e4 e5; obtain ⟨e0, e1, e4, e5⟩ := n) | (with_reducible refine hK _ _ ?_; clear hK K) | (with_reducible first | (refine Zi ?_; constructor) | refine yC (by decide) ?_ | refine yJ (by assumption) ?_ | refine yL (by assumption) ?_) | (refine yD rfl ?_) | (simp -implicitDefEqProofs only [push_cast, sevalprocAttr, eq_self, e0, e1, e4, e5, d0]) | (simp -implicitDefEqProofs (disch := omega) only [yH, yM, yI, yG, e0, e1, e4, e5, d0]) | (with_reducible refine yO ?_ ?_) | (refine yF rfl (fun bb => ?_) (fun bb => ?_) <;> (first | have bp := oT bb | have bp := oF bb | skip) <;> simp only [bb]) | (with_reducible refine yK (fun bb => ?_) (fun bb => ?_) <;> (first | have bp := oT bb | have bp := oF bb | skip)) | ((with_reducible refine And.intro ?_ ?_); omega) | fail)
  refine yQ fun env hE => ?_; have n := cj4 hE 0 1 4 5; simp -implicitDefEqProofs only [push_cast, reduceIte, Nat.reduceEqDiff, e0, e1, e4, e5] at n; clear hE e0 e1 e4 e5; obtain ⟨e0, e1, e4, e5⟩ := n; have E33_0_0 := e0; have E33_0_1 := e1
  refine qE (fun nn σ => ∃ (k : Nat), nn = a.length - k ∧ σ.env 0 = env 0 ∧ σ.env 1 = env 1 ∧ σ.env 5 = i64 k ∧ (k ≤ a.length ∧ ∀ q, q < k → opAt a q = opAt b q)) _ ⟨0, rfl, rfl, rfl, by refine e5.trans ?_; first | rfl | exact yP (by omega) | (simp -implicitDefEqProofs (disch := omega) only [yG]; first | rfl | exact yP (by omega)), ?_⟩ ?_
  · exact ⟨by omega, fun q hq => by omega⟩
  clear e0 e1 e4 e5; rintro nn ⟨env, h⟩ ⟨k, rfl, q0, q1, e5, hI⟩; simp only at q0 q1 e5 hI; (first | have e0 := q0.trans E33_0_0 | have e0 := True.intro); (first | have e1 := q1.trans E33_0_1 | have e1 := True.intro); clear q0 q1; have e4 := True.intro
  obtain ⟨hk, hall⟩ := hI
  unfold l33_0
  by_cases hlt : k < a.length
  · have hd : decide ((k : Int) < (a.length : Int)) = true := dT (by omega)
    have r1 := qU hlt .i64
    have r2 := qU (l := b) (k := k) (by omega) .i64
    rw [qR hlt] at r1
    rw [qR (by omega)] at r2
    by_cases hc : opAt a k = opAt b k
    · have d1 : (!(decide (opAt a k = opAt b k))) = false := by rw [hc]; simp
      repeat' (first | ((try clear hf); with_reducible refine yE fun env K hE hK hf => ?_; have n := cj4 hE 0 1 4 5; simp -implicitDefEqProofs only [push_cast, reduceIte, Nat.reduceEqDiff, e0, e1, e4, e5] at n; clear hE e0 e1 e4 e5; obtain ⟨e0, e1, e4, e5⟩ := n) | (with_reducible refine hK _ _ ?_; clear hK K) | (with_reducible first | (refine Zi ?_; constructor) | refine yC (by decide) ?_ | refine yJ (by assumption) ?_ | refine yL (by assumption) ?_) | (refine yD rfl ?_) | (simp -implicitDefEqProofs only [push_cast, sevalprocAttr, eq_self, e0, e1, e4, e5, hd, r1, r2, aeq_op, d1]) | (simp -implicitDefEqProofs (disch := omega) only [yH, yM, yI, yG, e0, e1, e4, e5, hd, r1, r2, aeq_op, d1]) | (with_reducible refine yO ?_ ?_) | (refine yF rfl (fun bb => ?_) (fun bb => ?_) <;> (first | have bp := oT bb | have bp := oF bb | skip) <;> simp only [bb]) | (with_reducible refine yK (fun bb => ?_) (fun bb => ?_) <;> (first | have bp := oT bb | have bp := oF bb | skip)) | ((with_reducible refine And.intro ?_ ?_); omega) | fail)
      refine ⟨_, ?_, k + 1, rfl, E33_0_0.symm, E33_0_1.symm, by first | rfl | exact yP (by omega) | (simp -implicitDefEqProofs (disch := omega) only [yG]; first | rfl | exact yP (by omega)), ?_⟩
      · omega
      · refine ⟨by omega, fun q hq => ?_⟩
        by_cases e : q < k
        · exact hall q e
        · obtain rfl : q = k := by omega
          exact hc
    · have d1 : (!(decide (opAt a k = opAt b k))) = true := by simp [hc]
      have : decide (a = b) = false := dF (fun h => hc (by rw [h]))
      rw [this]
      repeat' (first | ((try clear hf); with_reducible refine yE fun env K hE hK hf => ?_; have n := cj4 hE 0 1 4 5; simp -implicitDefEqProofs only [push_cast, reduceIte, Nat.reduceEqDiff, e0, e1, e4, e5] at n; clear hE e0 e1 e4 e5; obtain ⟨e0, e1, e4, e5⟩ := n) | (with_reducible refine hK _ _ ?_; clear hK K) | (with_reducible first | (refine Zi ?_; constructor) | refine yC (by decide) ?_ | refine yJ (by assumption) ?_ | refine yL (by assumption) ?_) | (refine yD rfl ?_) | (simp -implicitDefEqProofs only [push_cast, sevalprocAttr, eq_self, e0, e1, e4, e5, hd, r1, r2, aeq_op, d1]) | (simp -implicitDefEqProofs (disch := omega) only [yH, yM, yI, yG, e0, e1, e4, e5, hd, r1, r2, aeq_op, d1]) | (with_reducible refine yO ?_ ?_) | (refine yF rfl (fun bb => ?_) (fun bb => ?_) <;> (first | have bp := oT bb | have bp := oF bb | skip) <;> simp only [bb]) | (with_reducible refine yK (fun bb => ?_) (fun bb => ?_) <;> (first | have bp := oT bb | have bp := oF bb | skip)) | ((with_reducible refine And.intro ?_ ?_); omega) | fail)
  · have hd : decide ((k : Int) < (a.length : Int)) = false := dF (by omega)
    have : decide (a = b) = true := dT (by
      apply List.ext_getElem hl
      intro q h1 h2
      rw [qR h1, qR h2]
      exact hall q (by omega))
    rw [this]
    repeat' (first | ((try clear hf); with_reducible refine yE fun env K hE hK hf => ?_; have n := cj4 hE 0 1 4 5; simp -implicitDefEqProofs only [push_cast, reduceIte, Nat.reduceEqDiff, e0, e1, e4, e5] at n; clear hE e0 e1 e4 e5; obtain ⟨e0, e1, e4, e5⟩ := n) | (with_reducible refine hK _ _ ?_; clear hK K) | (with_reducible first | (refine Zi ?_; constructor) | refine yC (by decide) ?_ | refine yJ (by assumption) ?_ | refine yL (by assumption) ?_) | (refine yD rfl ?_) | (simp -implicitDefEqProofs only [push_cast, sevalprocAttr, eq_self, e0, e1, e4, e5, hd]) | (simp -implicitDefEqProofs (disch := omega) only [yH, yM, yI, yG, e0, e1, e4, e5, hd]) | (with_reducible refine yO ?_ ?_) | (refine yF rfl (fun bb => ?_) (fun bb => ?_) <;> (first | have bp := oT bb | have bp := oF bb | skip) <;> simp only [bb]) | (with_reducible refine yK (fun bb => ?_) (fun bb => ?_) <;> (first | have bp := oT bb | have bp := oF bb | skip)) | ((with_reducible refine And.intro ?_ ?_); omega) | fail)
theorem opC_atom (o : Opn) : ∀ x ∈ opC o, atom x = true := by
  intro x hx
  simp only [opC, List.mem_cons, List.not_mem_nil, or_false] at hx
  rcases hx with rfl | rfl | rfl | rfl | rfl <;> rfl
theorem f30 (l : List Opn) (hn : l.length * 16 ≤ 140737488351232) : HVF Try.prog 30 [.row (l.map opC)] (.row (l.map opC)) := by
  refine HVF_of_awp yX cf30 (by simp) (by simp [imms, imm, qK]) ?_ (by simp only [imm]; exact qK l)
  unfold ac30 re30
  refine yQ fun env hE => ?_; obtain ⟨e0, e2, e3⟩ := cj3 hE 0 2 3; simp -implicitDefEqProofs only [push_cast] at e0 e2 e3; clear hE
  have hw : IntKind.i64.wrap ((l.length : Int) + 1) = (l.length : Int) + 1 := qN (by omega) (by omega)
  repeat' (first | ((try clear hf); with_reducible refine yE fun env K hE hK hf => ?_; have n := cj3 hE 0 2 3; simp -implicitDefEqProofs only [push_cast, reduceIte, Nat.reduceEqDiff, e0, e2, e3] at n; clear hE e0 e2 e3; obtain ⟨e0, e2, e3⟩ := n) | (with_reducible refine hK _ _ ?_; clear hK K) | (with_reducible first | (refine Zi ?_; constructor) | refine yC (by decide) ?_ | refine yJ (by assumption) ?_ | refine yL (by assumption) ?_) | (refine yD rfl ?_) | (simp -implicitDefEqProofs only [push_cast, sevalprocAttr, eq_self, e0, e2, e3, hw, app_src opC 5 opC_len]) | (simp -implicitDefEqProofs (disch := omega) only [yH, yM, yI, yG, e0, e2, e3, hw, app_src opC 5 opC_len]) | (with_reducible refine yO ?_ ?_) | (refine yF rfl (fun bb => ?_) (fun bb => ?_) <;> (first | have bp := oT bb | have bp := oF bb | skip) <;> simp only [bb]) | (with_reducible refine yK (fun bb => ?_) (fun bb => ?_) <;> (first | have bp := oT bb | have bp := oF bb | skip)) | ((with_reducible refine And.intro ?_ ?_); omega) | fail)
  refine goM_appN (fs := l) (es := ([] : List Opn)) (f := opC) (sz := 5) ⟨.inr ⟨(3, 7), rfl, by simp -implicitDefEqProofs only [push_cast, sevalprocAttr, eq_self]; rfl, (by first | omega | (simp -implicitDefEqProofs only [push_cast, sevalprocAttr, eq_self]; first | done | omega))⟩⟩ opC_len (flat_one opC_one l) (by simp only [List.length_nil]; omega) (by simp [idOf]) (by first | omega | (simp -implicitDefEqProofs only [push_cast, sevalprocAttr, eq_self]; first | done | omega)) ?_
  intro g a' hs' ha' hep hfr
  repeat' (first | ((try clear hf); with_reducible refine yE fun env K hE hK hf => ?_; have n := cj3 hE 0 2 3; simp -implicitDefEqProofs only [push_cast, reduceIte, Nat.reduceEqDiff, e0, e2, e3] at n; clear hE e0 e2 e3; obtain ⟨e0, e2, e3⟩ := n) | (with_reducible refine hK _ _ ?_; clear hK K) | (with_reducible first | (refine Zi ?_; constructor) | refine yC (by decide) ?_ | refine yJ (by assumption) ?_ | refine yL (by assumption) ?_) | (refine yD rfl ?_) | (simp -implicitDefEqProofs only [push_cast, sevalprocAttr, eq_self, e0, e2, e3]) | (simp -implicitDefEqProofs (disch := omega) only [yH, yM, yI, yG, e0, e2, e3]) | (with_reducible refine yO ?_ ?_) | (refine yF rfl (fun bb => ?_) (fun bb => ?_) <;> (first | have bp := oT bb | have bp := oF bb | skip) <;> simp only [bb]) | (with_reducible refine yK (fun bb => ?_) (fun bb => ?_) <;> (first | have bp := oT bb | have bp := oF bb | skip)) | ((with_reducible refine And.intro ?_ ?_); omega) | fail)
  exact (hs'.ext (Ext.tick (Ext.refl g))).lendF opC_len opC_atom 7
end Go.Proofs.Hx
