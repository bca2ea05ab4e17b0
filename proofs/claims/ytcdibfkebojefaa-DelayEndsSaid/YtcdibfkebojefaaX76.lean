import Derived.Test.YtcdibfkebojefaaG10
import Derived.Test.YtcdibfkebojefaaW29
set_option linter.unusedVariables false
set_option linter.unusedSimpArgs false
namespace Go.Proofs.Hx
open Go Go.Proofs
attribute [local irreducible] yS awp opK goV goM qB yZ qH yW HV HVF HC
theorem wT_imm : imm wT = true := rfl
theorem lend_wB {h : Hp} {id : Id} (hb : h.hp id = some ⟨true, wOp⟩) (e a : Int) : lend fuelL h (wB (.sl id 0 1 5) e a) = some (wB (.row [wOp]) e a) := by
  simp [fuelL, lend, wB, imm, imms, hb, mapO, YN, wOp, wI]
theorem lend_w1 {h : Hp} {id : Id} {n : Int} (hb : h.hp id = some ⟨true, [wI n]⟩) : lend fuelL h (.sl id 0 1 1) = some (.row [[wI n]]) := by
  simp [fuelL, lend, imm, imms, hb, mapO, YN, wI]
theorem call_w {d : Option Nat} {K : St → Prop} {env : Nat → AV} {h : Hp} {id1 id2 : Id} {e a n : Int} {r : AV} (h1 : h.hp id1 = some ⟨true, wOp⟩) (h2 : h.hp id2 = some ⟨true, [wI n]⟩) (hv : HV Try.prog 31 [wB (.row [wOp]) e a, wT, .row [[wI n]]] r) (hr : flat r = true) (k : K ⟨putA env d r, h.tick⟩) :
    qB Try.prog d K env h false (.fn 31 []) [wB (.sl id1 0 1 5) e a, wT, .sl id2 0 1 1] := by
  refine call_lend ?_ hv hr k
  rw [List.append_nil]
  simp only [mapO, lend_wB h1, lend_w1 h2, lend_imm wT_imm]
theorem f29 : HV Try.prog 29 [] (bl true) := by
  refine yT yX cf29 (by simp) rfl ?_ rfl
  unfold ac29 re29
  refine yQ fun env hE => ?_; obtain ⟨e0, e1, e2, e3, e4, e5, e6, e7, e8, e11, e12, e13, e14⟩ := cj13 hE 0 1 2 3 4 5 6 7 8 11 12 13 14; simp -implicitDefEqProofs only [push_cast] at e0 e1 e2 e3 e4 e5 e6 e7 e8 e11 e12 e13 e14; clear hE
  have hwI : ∀ n, wI n = .lit (.int .i64 n) := fun _ => rfl
  repeat' (first | ((try clear hf); with_reducible refine yE fun env K hE hK hf => ?_; have n := cj13 hE 0 1 2 3 4 5 6 7 8 11 12 13 14; simp -implicitDefEqProofs only [push_cast, reduceIte, Nat.reduceEqDiff, e0, e1, e2, e3, e4, e5, e6, e7, e8, e11, e12, e13, e14] at n; clear hE e0 e1 e2 e3 e4 e5 e6 e7 e8 e11 e12 e13 e14; obtain ⟨e0, e1, e2, e3, e4, e5, e6, e7, e8, e11, e12, e13, e14⟩ := n) | (with_reducible refine hK _ _ ?_; clear hK K) | (with_reducible first | (refine Zi ?_; constructor) | refine yC (by decide) ?_ | refine yJ (by assumption) ?_ | refine yL (by assumption) ?_) | (refine yD rfl ?_) | (simp -implicitDefEqProofs only [push_cast, sevalprocAttr, eq_self, e0, e1, e2, e3, e4, e5, e6, e7, e8, e11, e12, e13, e14, hwI]) | (simp -implicitDefEqProofs (disch := omega) only [yH, yM, yI, yG, e0, e1, e2, e3, e4, e5, e6, e7, e8, e11, e12, e13, e14, hwI]) | (with_reducible refine yO ?_ ?_) | (refine yF rfl (fun bb => ?_) (fun bb => ?_) <;> (first | have bp := oT bb | have bp := oF bb | skip) <;> simp only [bb]) | (with_reducible refine yK (fun bb => ?_) (fun bb => ?_) <;> (first | have bp := oT bb | have bp := oF bb | skip)) | ((with_reducible refine And.intro ?_ ?_); omega) | (refine call_w (id1 := (4, 20)) (id2 := (5, 25)) (by simp -implicitDefEqProofs only [push_cast, sevalprocAttr, eq_self]; rfl) (by simp -implicitDefEqProofs only [push_cast, sevalprocAttr, eq_self]; rfl) w29a rfl ?_) | (refine call_w (id1 := (4, 20)) (id2 := (8, 34)) (by simp -implicitDefEqProofs only [push_cast, sevalprocAttr, eq_self]; rfl) (by simp -implicitDefEqProofs only [push_cast, sevalprocAttr, eq_self]; rfl) w29b rfl ?_) | (refine call_w (id1 := (4, 20)) (id2 := (10, 42)) (by simp -implicitDefEqProofs only [push_cast, sevalprocAttr, eq_self]; rfl) (by simp -implicitDefEqProofs only [push_cast, sevalprocAttr, eq_self]; rfl) w29c rfl ?_) | (refine yN w29d ?_) | fail)
/-! ### DelayEnds -/
theorem lend_is {h : Hp} {id : Id} {H : List Int} {n : Nat} (hb : h.hp id = some ⟨true, H.map iC⟩) (hn : H.length = n) : lend fuelL h (.sl id 0 n 1) = some (.row (H.map intC)) := by
  rw [← flat_intC] at hb
  have := lend_rows_d 7 (f := intC) (sz := 1) (fun _ => rfl) (fun _ => rfl) hb (flat1_len (fun _ => rfl) H)
  rw [hn] at this
  exact this
theorem block_imm (b : BlockV) : imm (.agg (YO b)) = true := by simp only [imm]; exact block_imms b
theorem call_end {d : Option Nat} {K : St → Prop} {env : Nat → AV} {h : Hp} {id : Id} {b : BlockV} {t : Tab} {cs : List Int} (hb : h.hp id = some ⟨true, cs.map iC⟩) (hl : ∀ o ∈ b.l, o.ok) (hcn : cs.length ≤ 100000000000000) (k : K ⟨putA env d (.tup [i64 (endS b t cs).1, i64 (endS b t cs).2.1, i64 (endS b t cs).2.2]), h.tick⟩) :
    qB Try.prog d K env h false (.fn 31 []) [.agg (YO b), .agg (tabC t), .sl id 0 cs.length 1] := by
  refine call_lend ?_ (f31 b t cs hl hcn (CycA.row cs)) rfl k
  rw [List.append_nil]
  simp only [mapO, lend_imm (block_imm b), lend_imm (show imm (.agg (tabC t)) = true from rfl), lend_is hb rfl]
theorem call_like {d : Option Nat} {K : St → Prop} {env : Nat → AV} {h : Hp} {id : Id} {cs : List Int} (hb : h.hp id = some ⟨true, cs.map iC⟩) (hcn : cs.length ≤ 100000000000000) (k : K ⟨putA env d (bl true), h.tick⟩) :
    qB Try.prog d K env h false (.fn 34 []) [.sl id 0 cs.length 1, .row (cs.map intC)] := by
  have hs := f34 cs cs (by omega)
  rw [dT rfl] at hs
  refine call_lend ?_ hs rfl k
  rw [List.append_nil]
  simp only [mapO, lend_is hb rfl, lend_imm (show imm (.row (cs.map intC)) = true from ints_imms cs)]
theorem f34'c {a b : AV} {as1 bs : List Int} (ha : CycA a as1) (hb : CycA b bs) (hn : as1.length ≤ 100000000000000) : HV Try.prog 34 [a, b] (bl (decide (as1 = bs))) := by
  refine yT yX cf34 (by simp) (by simp [imms, ha.imm, hb.imm]) ?_ rfl
  unfold ac34 re34
  have la := ha.len
  have lb := hb.len
  refine yQ fun env hE => ?_; obtain ⟨e0, e1, e4, e5⟩ := cj4 hE 0 1 4 5; simp -implicitDefEqProofs only [push_cast] at e0 e1 e4 e5; clear hE
  by_cases hl : as1.length = bs.length
  rotate_left
  · have d0 : decide ((as1.length : Int) ≠ (bs.length : Int)) = true := dT (by omega)
    have : decide (as1 = bs) = false := dF (fun h => hl (by rw [h]))
    rw [this]
    repeat' (first | ((try clear hf); with_reducible refine yE fun env K hE hK hf => ?_; have n := cj4 hE 0 1 4 5; simp -implicitDefEqProofs only [push_cast, reduceIte, Nat.reduceEqDiff, e0, e1, e4, e5] at n; clear hE e0 e1 e4 e5; obtain ⟨e0, e1, e4, e5⟩ := n) | (with_reducible refine hK _ _ ?_; clear hK K) | (with_reducible first | (refine Zi ?_; constructor) | refine yC (by decide) ?_ | refine yJ (by assumption) ?_ | refine yL (by assumption) ?_) | (refine yD rfl ?_) | (simp -implicitDefEqProofs only [push_cast, sevalprocAttr, eq_self, e0, e1, e4, e5, d0, la, lb]) | (simp -implicitDefEqProofs (disch := omega) only [yH, yM, yI, yG, e0, e1, e4, e5, d0, la, lb]) | (with_reducible refine yO ?_ ?_) | (refine yF rfl (fun bb => ?_) (fun bb => ?_) <;> (first | have bp := oT bb | have bp := oF bb | skip) <;> simp only [bb]) | (with_reducible refine yK (fun bb => ?_) (fun bb => ?_) <;> (first | have bp := oT bb | have bp := oF bb | skip)) | ((with_reducible refine And.intro ?_ ?_); omega) | fail)
  have d0 : decide ((as1.length : Int) ≠ (bs.length : Int)) = false := dF (by omega)
  repeat' (first | ((try clear hf); with_reducible refine yE fun env K hE hK hf => ?_; have n := cj4 hE 0 1 4 5; simp -implicitDefEqProofs only [push_cast, reduceIte, Nat.reduceEqDiff, e0, e1, e4, e5] at n; clear hE e0 e1 e4 e5; obtain ⟨e0, e1, e4, e5⟩ := n) | (with_reducible refine hK _ _ ?_; clear hK K) | (with_reducible first | (refine Zi ?_; constructor) | refine yC (by decide) ?_ | refine yJ (by assumption) ?_ | refine yL (by assumption) ?_) | (refine yD rfl ?_) | (simp -implicitDefEqProofs only [push_cast, sevalprocAttr, eq_self, e0, e1, e4, e5, d0, la, lb]) | (simp -implicitDefEqProofs (disch := omega) only [yH, yM, yI, yG, e0, e1, e4, e5, d0, la, lb]) | (with_reducible refine yO ?_ ?_) | (refine yF rfl (fun bb => ?_) (fun bb => ?_) <;> (first | have bp := oT bb | have bp := oF bb | skip) <;> simp only [bb]) | (with_reducible refine yK (fun bb => ?_) (fun bb => ?_) <;> (first | have bp := oT bb | have bp := oF bb | skip)) | ((with_reducible refine And.intro ?_ ?_); omega) | fail)
  refine yQ fun env hE => ?_; have n := cj4 hE 0 1 4 5; simp -implicitDefEqProofs only [push_cast, reduceIte, Nat.reduceEqDiff, e0, e1, e4, e5] at n; clear hE e0 e1 e4 e5; obtain ⟨e0, e1, e4, e5⟩ := n; have E34_0_0 := e0; have E34_0_1 := e1
  refine qE (fun nn σ => ∃ (k : Nat), nn = as1.length - k ∧ σ.env 0 = env 0 ∧ σ.env 1 = env 1 ∧ σ.env 5 = i64 k ∧ (k ≤ as1.length ∧ ∀ q, q < k → as1.getD q 0 = bs.getD q 0)) _ ⟨0, rfl, rfl, rfl, by refine e5.trans ?_; first | rfl | exact yP (by omega) | (simp -implicitDefEqProofs (disch := omega) only [yG]; first | rfl | exact yP (by omega)), ?_⟩ ?_
  · exact ⟨by omega, fun q hq => by omega⟩
  clear e0 e1 e4 e5; rintro nn ⟨env, h⟩ ⟨k, rfl, q0, q1, e5, hI⟩; simp only at q0 q1 e5 hI; (first | have e0 := q0.trans E34_0_0 | have e0 := True.intro); (first | have e1 := q1.trans E34_0_1 | have e1 := True.intro); clear q0 q1; have e4 := True.intro
  obtain ⟨hk, hall⟩ := hI
  unfold l34_0
  by_cases hlt : k < as1.length
  · have hd : decide ((k : Int) < (as1.length : Int)) = true := dT (by omega)
    have r1 := ha.at (k := k) hlt
    have r2 := hb.at (k := k) (by omega)
    by_cases hc : as1.getD k 0 = bs.getD k 0
    · have d1 : decide (as1.getD k 0 ≠ bs.getD k 0) = false := dF (fun h => h hc)
      repeat' (first | ((try clear hf); with_reducible refine yE fun env K hE hK hf => ?_; have n := cj4 hE 0 1 4 5; simp -implicitDefEqProofs only [push_cast, reduceIte, Nat.reduceEqDiff, e0, e1, e4, e5] at n; clear hE e0 e1 e4 e5; obtain ⟨e0, e1, e4, e5⟩ := n) | (with_reducible refine hK _ _ ?_; clear hK K) | (with_reducible first | (refine Zi ?_; constructor) | refine yC (by decide) ?_ | refine yJ (by assumption) ?_ | refine yL (by assumption) ?_) | (refine yD rfl ?_) | (simp -implicitDefEqProofs only [push_cast, sevalprocAttr, eq_self, e0, e1, e4, e5, hd, la, lb, r1, r2, d1]) | (simp -implicitDefEqProofs (disch := omega) only [yH, yM, yI, yG, e0, e1, e4, e5, hd, la, lb, r1, r2, d1]) | (with_reducible refine yO ?_ ?_) | (refine yF rfl (fun bb => ?_) (fun bb => ?_) <;> (first | have bp := oT bb | have bp := oF bb | skip) <;> simp only [bb]) | (with_reducible refine yK (fun bb => ?_) (fun bb => ?_) <;> (first | have bp := oT bb | have bp := oF bb | skip)) | ((with_reducible refine And.intro ?_ ?_); omega) | fail)
      refine ⟨_, ?_, k + 1, rfl, E34_0_0.symm, E34_0_1.symm, by first | rfl | exact yP (by omega) | (simp -implicitDefEqProofs (disch := omega) only [yG]; first | rfl | exact yP (by omega)), ?_⟩
      · omega
      · refine ⟨by omega, fun q hq => ?_⟩
        by_cases e : q < k
        · exact hall q e
        · obtain rfl : q = k := by omega
          exact hc
    · have d1 : decide (as1.getD k 0 ≠ bs.getD k 0) = true := dT hc
      have : decide (as1 = bs) = false := dF (fun h => hc (by rw [h]))
      rw [this]
      repeat' (first | ((try clear hf); with_reducible refine yE fun env K hE hK hf => ?_; have n := cj4 hE 0 1 4 5; simp -implicitDefEqProofs only [push_cast, reduceIte, Nat.reduceEqDiff, e0, e1, e4, e5] at n; clear hE e0 e1 e4 e5; obtain ⟨e0, e1, e4, e5⟩ := n) | (with_reducible refine hK _ _ ?_; clear hK K) | (with_reducible first | (refine Zi ?_; constructor) | refine yC (by decide) ?_ | refine yJ (by assumption) ?_ | refine yL (by assumption) ?_) | (refine yD rfl ?_) | (simp -implicitDefEqProofs only [push_cast, sevalprocAttr, eq_self, e0, e1, e4, e5, hd, la, lb, r1, r2, d1]) | (simp -implicitDefEqProofs (disch := omega) only [yH, yM, yI, yG, e0, e1, e4, e5, hd, la, lb, r1, r2, d1]) | (with_reducible refine yO ?_ ?_) | (refine yF rfl (fun bb => ?_) (fun bb => ?_) <;> (first | have bp := oT bb | have bp := oF bb | skip) <;> simp only [bb]) | (with_reducible refine yK (fun bb => ?_) (fun bb => ?_) <;> (first | have bp := oT bb | have bp := oF bb | skip)) | ((with_reducible refine And.intro ?_ ?_); omega) | fail)
  · have hd : decide ((k : Int) < (as1.length : Int)) = false := dF (by omega)
    have : decide (as1 = bs) = true := dT (by
      apply List.ext_getElem hl
      intro q h1 h2
      have := hall q (by omega)
      simpa [List.getD_eq_getElem?_getD, h1, h2] using this)
    rw [this]
    repeat' (first | ((try clear hf); with_reducible refine yE fun env K hE hK hf => ?_; have n := cj4 hE 0 1 4 5; simp -implicitDefEqProofs only [push_cast, reduceIte, Nat.reduceEqDiff, e0, e1, e4, e5] at n; clear hE e0 e1 e4 e5; obtain ⟨e0, e1, e4, e5⟩ := n) | (with_reducible refine hK _ _ ?_; clear hK K) | (with_reducible first | (refine Zi ?_; constructor) | refine yC (by decide) ?_ | refine yJ (by assumption) ?_ | refine yL (by assumption) ?_) | (refine yD rfl ?_) | (simp -implicitDefEqProofs only [push_cast, sevalprocAttr, eq_self, e0, e1, e4, e5, hd, la, lb]) | (simp -implicitDefEqProofs (disch := omega) only [yH, yM, yI, yG, e0, e1, e4, e5, hd, la, lb]) | (with_reducible refine yO ?_ ?_) | (refine yF rfl (fun bb => ?_) (fun bb => ?_) <;> (first | have bp := oT bb | have bp := oF bb | skip) <;> simp only [bb]) | (with_reducible refine yK (fun bb => ?_) (fun bb => ?_) <;> (first | have bp := oT bb | have bp := oF bb | skip)) | ((with_reducible refine And.intro ?_ ?_); omega) | fail)
theorem f7 {b : BlockV} {t : Tab} {cs : List Int} (hl : ∀ o ∈ b.l, o.ok) (hsz : b.l.length * 16 ≤ 140737488351232) (hbz : b.body.length * 16 ≤ 140737488351232) (hcz : cs.length * 8 ≤ 140737488351232) : HV Try.prog 7 [.agg (YO b), .agg (tabC t), .row (cs.map intC)] (bl true) := by
  refine yT yX cf7 (by simp) (by simp [imms, imm, tab_imms, block_imms, ints_imms]) ?_ rfl
  unfold ac7 re7
  refine yQ fun env hE => ?_; obtain ⟨e0, e1, e2, e3, e4, e6, e7, e8, e9, e10, e11, e12, e13, e14⟩ := cj14 hE 0 1 2 3 4 6 7 8 9 10 11 12 13 14; simp -implicitDefEqProofs only [push_cast] at e0 e1 e2 e3 e4 e6 e7 e8 e9 e10 e11 e12 e13 e14; clear hE
  have hB0 : (YO b)[0]? = some (.row (b.l.map opC)) := rfl
  have hB3 : (YO b)[3]? = some (.row (b.body.map opC)) := rfl
  by_cases h60 : 60 < b.l.length
  · have d1 : decide (60 < (b.l.length : Int)) = true := dT (by omega)
    repeat' (first | ((try clear hf); with_reducible refine yE fun env K hE hK hf => ?_; have n := cj14 hE 0 1 2 3 4 6 7 8 9 10 11 12 13 14; simp -implicitDefEqProofs only [push_cast, reduceIte, Nat.reduceEqDiff, e0, e1, e2, e3, e4, e6, e7, e8, e9, e10, e11, e12, e13, e14] at n; clear hE e0 e1 e2 e3 e4 e6 e7 e8 e9 e10 e11 e12 e13 e14; obtain ⟨e0, e1, e2, e3, e4, e6, e7, e8, e9, e10, e11, e12, e13, e14⟩ := n) | (with_reducible refine hK _ _ ?_; clear hK K) | (with_reducible first | (refine Zi ?_; constructor) | refine yC (by decide) ?_ | refine yJ (by assumption) ?_ | refine yL (by assumption) ?_) | (refine yD rfl ?_) | (simp -implicitDefEqProofs only [push_cast, sevalprocAttr, eq_self, e0, e1, e2, e3, e4, e6, e7, e8, e9, e10, e11, e12, e13, e14, d1, hB0, yU]) | (simp -implicitDefEqProofs (disch := omega) only [yH, yM, yI, yG, e0, e1, e2, e3, e4, e6, e7, e8, e9, e10, e11, e12, e13, e14, d1, hB0, yU]) | (with_reducible refine yO ?_ ?_) | (refine yF rfl (fun bb => ?_) (fun bb => ?_) <;> (first | have bp := oT bb | have bp := oF bb | skip) <;> simp only [bb]) | (with_reducible refine yK (fun bb => ?_) (fun bb => ?_) <;> (first | have bp := oT bb | have bp := oF bb | skip)) | ((with_reducible refine And.intro ?_ ?_); omega) | (refine yN f29 ?_) | fail)
  have d1 : decide (60 < (b.l.length : Int)) = false := dF (by omega)
  by_cases h8 : 8192 < b.body.length
  · have d2 : decide (8192 < (b.body.length : Int)) = true := dT (by omega)
    repeat' (first | ((try clear hf); with_reducible refine yE fun env K hE hK hf => ?_; have n := cj14 hE 0 1 2 3 4 6 7 8 9 10 11 12 13 14; simp -implicitDefEqProofs only [push_cast, reduceIte, Nat.reduceEqDiff, e0, e1, e2, e3, e4, e6, e7, e8, e9, e10, e11, e12, e13, e14] at n; clear hE e0 e1 e2 e3 e4 e6 e7 e8 e9 e10 e11 e12 e13 e14; obtain ⟨e0, e1, e2, e3, e4, e6, e7, e8, e9, e10, e11, e12, e13, e14⟩ := n) | (with_reducible refine hK _ _ ?_; clear hK K) | (with_reducible first | (refine Zi ?_; constructor) | refine yC (by decide) ?_ | refine yJ (by assumption) ?_ | refine yL (by assumption) ?_) | (refine yD rfl ?_) | (simp -implicitDefEqProofs only [push_cast, sevalprocAttr, eq_self, e0, e1, e2, e3, e4, e6, e7, e8, e9, e10, e11, e12, e13, e14, d1, d2, hB0, hB3, yU]) | (simp -implicitDefEqProofs (disch := omega) only [yH, yM, yI, yG, e0, e1, e2, e3, e4, e6, e7, e8, e9, e10, e11, e12, e13, e14, d1, d2, hB0, hB3, yU]) | (with_reducible refine yO ?_ ?_) | (refine yF rfl (fun bb => ?_) (fun bb => ?_) <;> (first | have bp := oT bb | have bp := oF bb | skip) <;> simp only [bb]) | (with_reducible refine yK (fun bb => ?_) (fun bb => ?_) <;> (first | have bp := oT bb | have bp := oF bb | skip)) | ((with_reducible refine And.intro ?_ ?_); omega) | (refine yN f29 ?_) | fail)
  have d2 : decide (8192 < (b.body.length : Int)) = false := dF (by omega)
  have hL := f33 b.l b.l (by omega)
  rw [dT rfl] at hL
  have hBl : (YO b).length = 6 := rfl
  have hB1 : AV.row (b.l.map opC) :: (YO b).drop 1 = YO b := rfl
  have hBt : (YO b).take 6 = YO b := rfl
  have hBo : (YO b).all one = true := rfl
  have hB0' : (YO b).take 0 ++ [.row (b.l.map opC)] ++ (YO b).drop 1 = YO b := rfl
  have hce : endA b t cs = .tup [i64 (endS b t cs).1, i64 (endS b t cs).2.1, i64 (endS b t cs).2.2] := rfl
  have hRE := f32 b t cs hl (by omega)
  rw [hce] at hRE
  have q1 : ∀ x : Int, decide (x = x) = true := fun x => dT rfl
  by_cases h0 : cs = []
  · have ha : ∀ (h : Hp) (id : Id), appV h id 1 8 cs.length (cs.flatMap intC) .nil = some (.nil, h) := fun h id => by rw [h0]; exact appV_nil0 h id 1 8 []
    have hE := f31 b t cs hl (by omega) (.inr ⟨rfl, h0⟩)
    rw [hce] at hE
    have hS := f34'c (.inr ⟨rfl, h0⟩) (CycA.row cs) (by omega)
    rw [dT rfl] at hS
    repeat' (first | ((try clear hf); with_reducible refine yE fun env K hE hK hf => ?_; have n := cj14 hE 0 1 2 3 4 6 7 8 9 10 11 12 13 14; simp -implicitDefEqProofs only [push_cast, reduceIte, Nat.reduceEqDiff, e0, e1, e2, e3, e4, e6, e7, e8, e9, e10, e11, e12, e13, e14] at n; clear hE e0 e1 e2 e3 e4 e6 e7 e8 e9 e10 e11 e12 e13 e14; obtain ⟨e0, e1, e2, e3, e4, e6, e7, e8, e9, e10, e11, e12, e13, e14⟩ := n) | (with_reducible refine hK _ _ ?_; clear hK K) | (with_reducible first | (refine Zi ?_; constructor) | refine yC (by decide) ?_ | refine yJ (by assumption) ?_ | refine yL (by assumption) ?_) | (refine yD rfl ?_) | (simp -implicitDefEqProofs only [push_cast, sevalprocAttr, eq_self, e0, e1, e2, e3, e4, e6, e7, e8, e9, e10, e11, e12, e13, e14, d1, d2, hB0, hB3, hBl, hBt, hBo, hB0', hB1, yU, app_src intC 1 (fun _ => rfl), ha, q1]) | (simp -implicitDefEqProofs (disch := omega) only [yH, yM, yI, yG, e0, e1, e2, e3, e4, e6, e7, e8, e9, e10, e11, e12, e13, e14, d1, d2, hB0, hB3, hBl, hBt, hBo, hB0', hB1, yU, app_src intC 1 (fun _ => rfl), ha, q1]) | (with_reducible refine yO ?_ ?_) | (refine yF rfl (fun bb => ?_) (fun bb => ?_) <;> (first | have bp := oT bb | have bp := oF bb | skip) <;> simp only [bb]) | (with_reducible refine yK (fun bb => ?_) (fun bb => ?_) <;> (first | have bp := oT bb | have bp := oF bb | skip)) | ((with_reducible refine And.intro ?_ ?_); omega) | (refine call_own (YK (by simp [imms, imm, qK])) (f30 b.l hsz) ?_) | (refine yN hE ?_) | (refine yN hRE ?_) | (refine yN hL ?_) | (refine yN hS ?_) | (refine yN f29 ?_) | fail)
    all_goals trace_state
    all_goals sorry
  · have ha : ∀ (h : Hp) (id : Id), appV h id 1 8 cs.length (cs.flatMap intC) .nil = some (.sl id 0 cs.length 1, h.push id (cs.map iC)) := fun h id => by
      rw [appV_nil h id (by simpa using h0) (by omega), flat_intC]
    repeat' (first | ((try clear hf); with_reducible refine yE fun env K hE hK hf => ?_; have n := cj14 hE 0 1 2 3 4 6 7 8 9 10 11 12 13 14; simp -implicitDefEqProofs only [push_cast, reduceIte, Nat.reduceEqDiff, e0, e1, e2, e3, e4, e6, e7, e8, e9, e10, e11, e12, e13, e14] at n; clear hE e0 e1 e2 e3 e4 e6 e7 e8 e9 e10 e11 e12 e13 e14; obtain ⟨e0, e1, e2, e3, e4, e6, e7, e8, e9, e10, e11, e12, e13, e14⟩ := n) | (with_reducible refine hK _ _ ?_; clear hK K) | (with_reducible first | (refine Zi ?_; constructor) | refine yC (by decide) ?_ | refine yJ (by assumption) ?_ | refine yL (by assumption) ?_) | (refine yD rfl ?_) | (simp -implicitDefEqProofs only [push_cast, sevalprocAttr, eq_self, e0, e1, e2, e3, e4, e6, e7, e8, e9, e10, e11, e12, e13, e14, d1, d2, hB0, hB3, hBl, hBt, hBo, hB0', hB1, yU, app_src intC 1 (fun _ => rfl), ha, q1]) | (simp -implicitDefEqProofs (disch := omega) only [yH, yM, yI, yG, e0, e1, e2, e3, e4, e6, e7, e8, e9, e10, e11, e12, e13, e14, d1, d2, hB0, hB3, hBl, hBt, hBo, hB0', hB1, yU, app_src intC 1 (fun _ => rfl), ha, q1]) | (with_reducible refine yO ?_ ?_) | (refine yF rfl (fun bb => ?_) (fun bb => ?_) <;> (first | have bp := oT bb | have bp := oF bb | skip) <;> simp only [bb]) | (with_reducible refine yK (fun bb => ?_) (fun bb => ?_) <;> (first | have bp := oT bb | have bp := oF bb | skip)) | ((with_reducible refine And.intro ?_ ?_); omega) | (refine call_own (YK (by simp [imms, imm, qK])) (f30 b.l hsz) ?_) | (refine call_end (cs := cs) (by first | (simp -implicitDefEqProofs only [push_cast, sevalprocAttr, eq_self]; done) | (simp -implicitDefEqProofs only [push_cast, sevalprocAttr, eq_self]; rfl)) hl (by omega) ?_) | (refine yN hRE ?_) | (refine yN hL ?_) | (refine call_like (cs := cs) (by first | (simp -implicitDefEqProofs only [push_cast, sevalprocAttr, eq_self]; done) | (simp -implicitDefEqProofs only [push_cast, sevalprocAttr, eq_self]; rfl)) (by omega) ?_) | (refine yN f29 ?_) | fail)
    all_goals trace_state
    all_goals sorry
end Go.Proofs.Hx
