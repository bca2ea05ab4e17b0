import Derived.Test.YtcdibfkebojefaaG7
import Derived.Test.YtcdibfkebojefaaG6
set_option linter.unusedVariables false
set_option linter.unusedSimpArgs false
namespace Go.Proofs.Hx
open Go Go.Proofs
attribute [local irreducible] yS awp opK goV goM qB yZ qH yW HV HVF HC
def rp1 : ACode := .seq (.ops r94_3 []) (.cond (.t 33) (.ops r94_4 []) .skip)
def rp2 : ACode := .seq (.ops r94_5 []) (.cond (.t 49) (.ops r94_6 []) .skip)
def rp3 : ACode := .seq (.ops r94_7 []) (.cond (.t 88) (.seq (.ops r94_8 []) (.seq (.block 0 (.seq (.ops r94_9 []) (.cond (.t 93) (.ops r94_10 []) (.seq (.ops r94_11 []) (.cond (.t 112) (.ops r94_12 []) .skip))))) (.ops r94_13 []))) .skip)
def rp4 : ACode := .seq (.ops r94_14 []) (.cond (.t 135) (.ops r94_15 []) .skip)
def rpT : ACode := .seq rp1 (.seq rp2 (.seq rp3 (.seq rp4 (.seq (.ops r94_16 []) .ret))))
theorem rp_code : ac94 = .seq (.ops r94_0 []) (.seq (.ops r94_1 []) (.seq (.ops r94_2 []) rpT)) := rfl
/-- The reference's pair, with the edges so far. -/
def MR (l : List Opn) (t : Tab) (i j : Nat) (dist : Int) (meet : Bool) (E : List Edg) (σ : St) : Prop := ∃ a, σ.env 0 = .row (l.map opC) ∧ σ.env 2 = i64 i ∧ σ.env 3 = i64 j ∧ σ.env 4 = i64 dist ∧ σ.env 5 = bl meet ∧ σ.env 7 = .ptr (2, 7) 0 ∧ σ.env 13 = a ∧ σ.env 14 = u8 (wrS (opAt l j)).1 ∧ σ.env 15 = bl (wrS (opAt l j)).2 ∧
  SlO edC 5 σ.h a E ∧ σ.h.hp (2, 7) = some ⟨true, tabC t⟩ ∧ 2 ≤ σ.h.ep ∧ ∀ x, idOf a = some x → 2 < x.1
theorem MR.done {l : List Opn} {t : Tab} {i j : Nat} {dist : Int} {meet : Bool} {E E' : List Edg} {env : Nat → AV} {h g : Hp} {a : AV} (e0 : env 0 = .row (l.map opC)) (e2 : env 2 = i64 i) (e3 : env 3 = i64 j) (e4 : env 4 = i64 dist) (e5 : env 5 = bl meet) (e7 : env 7 = .ptr (2, 7) 0) (e13 : env 13 = a) (e14 : env 14 = u8 (wrS (opAt l j)).1) (e15 : env 15 = bl (wrS (opAt l j)).2)
    (hs : SlO edC 5 g a E) (hb : g.hp (2, 7) = some ⟨true, tabC t⟩) (he : 2 ≤ g.ep) (hi : ∀ x, idOf a = some x → 2 < x.1) (hx : Ext g h) (hE : E = E') : MR l t i j dist meet E' ⟨env, h⟩ :=
  ⟨a, e0, e2, e3, e4, e5, e7, e13, e14, e15, hE ▸ hs.ext hx, (hx.2 _ (by simpa using he)).trans hb, Nat.le_trans he hx.1, hi⟩
attribute [local irreducible] rpT MR
def rpI (l : List Opn) (t : Tab) (i j : Nat) : Prop := i < l.length ∧ j < l.length ∧ (∀ o ∈ l, o.ok) ∧ YP t
set_option maxHeartbeats 1000000 in
theorem f94'1 {l : List Opn} {t : Tab} {i j : Nat} {dist : Int} {meet : Bool} {E : List Edg} (hI : rpI l t i j) (hE : E.length ≤ 1000) {σ : St} (hM : MR l t i j dist meet E σ) {Q : AEx → St → Prop} : awp Try.prog rp1 (seqK Try.prog (MR l t i j dist meet (E ++ pair1 (opAt l i) (opAt l j) i j dist)) Q) σ := by
  unfold MR at hM
  obtain ⟨env, h⟩ := σ
  obtain ⟨a, e0, e2, e3, e4, e5, e7, e13, e14, e15, hs, hb, he, hi⟩ := hM
  simp only at e0 e2 e3 e4 e5 e7 e13 e14 e15 hs hb he
  obtain ⟨hil, hjl, hl, ht⟩ := hI
  have e1 : True := trivial; have e12 : True := trivial; have e16 : True := trivial
  unfold rp1
  refine yV fun hF => ?_
  have hri := qU hil .i64
  have hoi := hl _ (List.getElem_mem hil)
  have hoj := hl _ (List.getElem_mem hjl)
  rw [qR hil] at hri hoi
  rw [qR hjl] at hoj
  generalize opAt l i = x at *
  generalize hyq : opAt l j = y at *
  have hid := fun x hx => hs.id_le (x := x) hx
  have hnn : (wrS y).2 = true → dS y = (wrS y).1 ∧ 0 ≤ dS y := fun h => by
    have hy := hoj
    unfold Opn.ok at hy
    unfold dS; rw [if_pos h]; refine ⟨rfl, ?_⟩
    unfold wrS; split <;> simp; omega
  by_cases h1 : (wrS y).2 = true
  · obtain ⟨g1, g2⟩ := hnn h1
    by_cases h2 : seesS x (wrS y).1 = true
    · have hp : pair1 x y i j dist = [⟨i, j, 0, dist, 1⟩] := by unfold pair1; rw [if_pos ⟨g2, by rw [g1]; exact h2⟩]
      rw [hp]
      repeat' (first | ((try clear hf); with_reducible refine yE fun env K hE hK hf => ?_; have n := cj12 hE 0 1 2 3 4 5 7 12 13 14 15 16; simp -implicitDefEqProofs only [push_cast, reduceIte, Nat.reduceEqDiff, e0, e1, e2, e3, e4, e5, e7, e12, e13, e14, e15, e16] at n; clear hE e0 e1 e2 e3 e4 e5 e7 e12 e13 e14 e15 e16; obtain ⟨e0, e1, e2, e3, e4, e5, e7, e12, e13, e14, e15, e16⟩ := n) | (with_reducible refine hK _ _ ?_; clear hK K) | (with_reducible first | (refine Zi ?_; constructor) | refine yC (by decide) ?_ | refine yJ (by assumption) ?_ | refine yL (by assumption) ?_) | (refine yD rfl ?_) | (simp -implicitDefEqProofs only [push_cast, sevalprocAttr, eq_self, e0, e1, e2, e3, e4, e5, e7, e12, e13, e14, e15, e16, hF.at, hri, h1, h2]) | (simp -implicitDefEqProofs (disch := omega) only [yH, yM, yI, yG, e0, e1, e2, e3, e4, e5, e7, e12, e13, e14, e15, e16, hF.at, hri, h1, h2]) | (with_reducible refine yO ?_ ?_) | (refine yF rfl (fun bb => ?_) (fun bb => ?_) <;> (first | have bp := oT bb | have bp := oF bb | skip) <;> simp only [bb]) | (with_reducible refine yK (fun bb => ?_) (fun bb => ?_) <;> (first | have bp := oT bb | have bp := oF bb | skip)) | ((with_reducible refine And.intro ?_ ?_); omega) | (refine yN (f56 x hoi _) ?_) | (refine goM_app1 (e := ⟨i, j, 0, dist, 1⟩) (hs.ext (by repeat (first | exact Ext.refl _ | assumption | refine Ext.tick ?_ | refine Ext.push ?_ (by omega) _ | refine Ext.put ?_ (by omega) _ | refine Ext.kill ?_ (by omega) | refine Ext.killA ?_ (by assumption) | refine Ext.setm ?_ _ _))) YF rfl (by omega) (fun e => by have := hid _ e; simp at this; omega) (by first | omega | (simp -implicitDefEqProofs only [push_cast, sevalprocAttr, eq_self]; first | done | omega)) ?_; intro g a' hs' ha' hep hfr) | fail)
      refine MR.done (g := g) e0 e2 e3 e4 e5 e7 rfl (by rw [hyq]; exact e14) (by rw [hyq]; exact e15) hs' ?_ ?_ ?_ (by repeat (first | exact Ext.refl _ | assumption | refine Ext.tick ?_ | refine Ext.push ?_ (by omega) _ | refine Ext.put ?_ (by omega) _ | refine Ext.kill ?_ (by omega) | refine Ext.killA ?_ (by assumption) | refine Ext.setm ?_ _ _)) rfl
      · rw [hfr (2, 7) (by first | (simp; done) | (simp; omega)) (fun e => by have := hi _ e; simp at this)]; simp -implicitDefEqProofs only [push_cast, sevalprocAttr, eq_self, hb]
      · rw [hep]; exact (by first | omega | (simp -implicitDefEqProofs only [push_cast, sevalprocAttr, eq_self]; first | done | omega))
      · intro q hq; have := ha' q hq; rw [this]; simp only; omega
    · have hp : pair1 x y i j dist = [] := by unfold pair1; rw [if_neg (fun h => h2 (by rw [← g1]; exact h.2))]
      rw [hp, List.append_nil]
      rw [Bool.not_eq_true] at h2
      repeat' (first | ((try clear hf); with_reducible refine yE fun env K hE hK hf => ?_; have n := cj12 hE 0 1 2 3 4 5 7 12 13 14 15 16; simp -implicitDefEqProofs only [push_cast, reduceIte, Nat.reduceEqDiff, e0, e1, e2, e3, e4, e5, e7, e12, e13, e14, e15, e16] at n; clear hE e0 e1 e2 e3 e4 e5 e7 e12 e13 e14 e15 e16; obtain ⟨e0, e1, e2, e3, e4, e5, e7, e12, e13, e14, e15, e16⟩ := n) | (with_reducible refine hK _ _ ?_; clear hK K) | (with_reducible first | (refine Zi ?_; constructor) | refine yC (by decide) ?_ | refine yJ (by assumption) ?_ | refine yL (by assumption) ?_) | (refine yD rfl ?_) | (simp -implicitDefEqProofs only [push_cast, sevalprocAttr, eq_self, e0, e1, e2, e3, e4, e5, e7, e12, e13, e14, e15, e16, hF.at, hri, h1, h2]) | (simp -implicitDefEqProofs (disch := omega) only [yH, yM, yI, yG, e0, e1, e2, e3, e4, e5, e7, e12, e13, e14, e15, e16, hF.at, hri, h1, h2]) | (with_reducible refine yO ?_ ?_) | (refine yF rfl (fun bb => ?_) (fun bb => ?_) <;> (first | have bp := oT bb | have bp := oF bb | skip) <;> simp only [bb]) | (with_reducible refine yK (fun bb => ?_) (fun bb => ?_) <;> (first | have bp := oT bb | have bp := oF bb | skip)) | ((with_reducible refine And.intro ?_ ?_); omega) | (refine yN (f56 x hoi _) ?_) | fail)
      exact MR.done (g := h) e0 e2 e3 e4 e5 e7 e13 (by rw [hyq]; exact e14) (by rw [hyq]; exact e15) hs hb he hi (by repeat (first | exact Ext.refl _ | assumption | refine Ext.tick ?_ | refine Ext.push ?_ (by omega) _ | refine Ext.put ?_ (by omega) _ | refine Ext.kill ?_ (by omega) | refine Ext.killA ?_ (by assumption) | refine Ext.setm ?_ _ _)) rfl
  · have hp : pair1 x y i j dist = [] := by
      unfold pair1
      rw [if_neg (fun h => h1 (by
        have := h.1
        unfold dS at this
        by_cases g : (wrS y).2 = true
        · exact g
        · rw [if_neg g] at this; omega))]
    rw [hp, List.append_nil]
    rw [Bool.not_eq_true] at h1
    repeat' (first | ((try clear hf); with_reducible refine yE fun env K hE hK hf => ?_; have n := cj12 hE 0 1 2 3 4 5 7 12 13 14 15 16; simp -implicitDefEqProofs only [push_cast, reduceIte, Nat.reduceEqDiff, e0, e1, e2, e3, e4, e5, e7, e12, e13, e14, e15, e16] at n; clear hE e0 e1 e2 e3 e4 e5 e7 e12 e13 e14 e15 e16; obtain ⟨e0, e1, e2, e3, e4, e5, e7, e12, e13, e14, e15, e16⟩ := n) | (with_reducible refine hK _ _ ?_; clear hK K) | (with_reducible first | (refine Zi ?_; constructor) | refine yC (by decide) ?_ | refine yJ (by assumption) ?_ | refine yL (by assumption) ?_) | (refine yD rfl ?_) | (simp -implicitDefEqProofs only [push_cast, sevalprocAttr, eq_self, e0, e1, e2, e3, e4, e5, e7, e12, e13, e14, e15, e16, hF.at, hri, h1]) | (simp -implicitDefEqProofs (disch := omega) only [yH, yM, yI, yG, e0, e1, e2, e3, e4, e5, e7, e12, e13, e14, e15, e16, hF.at, hri, h1]) | (with_reducible refine yO ?_ ?_) | (refine yF rfl (fun bb => ?_) (fun bb => ?_) <;> (first | have bp := oT bb | have bp := oF bb | skip) <;> simp only [bb]) | (with_reducible refine yK (fun bb => ?_) (fun bb => ?_) <;> (first | have bp := oT bb | have bp := oF bb | skip)) | ((with_reducible refine And.intro ?_ ?_); omega) | fail)
    exact MR.done (g := h) e0 e2 e3 e4 e5 e7 e13 (by rw [hyq]; exact e14) (by rw [hyq]; exact e15) hs hb he hi (by repeat (first | exact Ext.refl _ | assumption | refine Ext.tick ?_ | refine Ext.push ?_ (by omega) _ | refine Ext.put ?_ (by omega) _ | refine Ext.kill ?_ (by omega) | refine Ext.killA ?_ (by assumption) | refine Ext.setm ?_ _ _)) rfl
set_option maxHeartbeats 1000000 in
theorem f94'2 {l : List Opn} {t : Tab} {i j : Nat} {dist : Int} {meet : Bool} {E : List Edg} (hI : rpI l t i j) (hE : E.length ≤ 1000) {σ : St} (hM : MR l t i j dist meet E σ) {Q : AEx → St → Prop} : awp Try.prog rp2 (seqK Try.prog (MR l t i j dist meet (E ++ pair2 t (opAt l i) (opAt l j) i j dist)) Q) σ := by
  unfold MR at hM
  obtain ⟨env, h⟩ := σ
  obtain ⟨a, e0, e2, e3, e4, e5, e7, e13, e14, e15, hs, hb, he, hi⟩ := hM
  simp only at e0 e2 e3 e4 e5 e7 e13 e14 e15 hs hb he
  obtain ⟨hil, hjl, hl, ht⟩ := hI
  have e1 : True := trivial; have e12 : True := trivial; have e16 : True := trivial
  unfold rp2
  refine yV fun hF => ?_
  have hri := qU hil .i64
  have hrj := qU hjl .i64
  have hoi := hl _ (List.getElem_mem hil)
  have hoj := hl _ (List.getElem_mem hjl)
  rw [qR hil] at hri hoi
  rw [qR hjl] at hrj hoj
  have l1 := latS_ok ht (opAt l i)
  have l2 := latS_ok ht (opAt l j)
  have l3 := ht.1 2 (by omega)
  unfold okC at l3
  generalize opAt l i = x at *
  generalize hyq : opAt l j = y at *
  have hid := fun x hx => hs.id_le (x := x) hx
  by_cases h1 : (wrS y).2 = true
  · have g1 : dS y = (wrS y).1 := by unfold dS; rw [if_pos h1]
    have g2 : 0 ≤ (wrS y).1 := by
      have hy := hoj
      unfold Opn.ok at hy
      unfold wrS; split <;> simp; omega
    have hw := wr_dS hoi g2
    have hxd := (dS_lt hoi).1
    by_cases h2 : ((wrS x).2 && decide ((wrS x).1 = (wrS y).1)) = true
    · have hd := hw.1 h2
      have hp : pair2 t x y i j dist = [⟨i, j, if latS t x - latS t y + 1 > 0 then latS t x - latS t y + 1 else 0, dist, 2⟩] := by unfold pair2; rw [if_pos ⟨by omega, by omega⟩]
      rw [hp]
      repeat' (first | ((try clear hf); with_reducible refine yE fun env K hE hK hf => ?_; have n := cj12 hE 0 1 2 3 4 5 7 12 13 14 15 16; simp -implicitDefEqProofs only [push_cast, reduceIte, Nat.reduceEqDiff, e0, e1, e2, e3, e4, e5, e7, e12, e13, e14, e15, e16] at n; clear hE e0 e1 e2 e3 e4 e5 e7 e12 e13 e14 e15 e16; obtain ⟨e0, e1, e2, e3, e4, e5, e7, e12, e13, e14, e15, e16⟩ := n) | (with_reducible refine hK _ _ ?_; clear hK K) | (with_reducible first | (refine Zi ?_; constructor) | refine yC (by decide) ?_ | refine yJ (by assumption) ?_ | refine yL (by assumption) ?_) | (refine yD rfl ?_) | (simp -implicitDefEqProofs only [push_cast, sevalprocAttr, eq_self, e0, e1, e2, e3, e4, e5, e7, e12, e13, e14, e15, e16, hF.at, hri, hrj, h1, h2, hb]) | (simp -implicitDefEqProofs (disch := omega) only [yH, yM, yI, yG, e0, e1, e2, e3, e4, e5, e7, e12, e13, e14, e15, e16, hF.at, hri, hrj, h1, h2, hb]) | (with_reducible refine yO ?_ ?_) | (refine yF rfl (fun bb => ?_) (fun bb => ?_) <;> (first | have bp := oT bb | have bp := oF bb | skip) <;> simp only [bb]) | (with_reducible refine yK (fun bb => ?_) (fun bb => ?_) <;> (first | have bp := oT bb | have bp := oF bb | skip)) | ((with_reducible refine And.intro ?_ ?_); omega) | (refine yN (f113 x hoi _) ?_) | (refine call_immq (f93 x t) ?_) | (refine call_immq (f93 y t) ?_) | (refine goM_app1 (e := ⟨i, j, if latS t x - latS t y + 1 > 0 then latS t x - latS t y + 1 else 0, dist, 2⟩) (hs.ext (by repeat (first | exact Ext.refl _ | assumption | refine Ext.tick ?_ | refine Ext.push ?_ (by omega) _ | refine Ext.put ?_ (by omega) _ | refine Ext.kill ?_ (by omega) | refine Ext.killA ?_ (by assumption) | refine Ext.setm ?_ _ _))) YF rfl (by omega) (fun e => by have := hid _ e; simp at this; omega) (by first | omega | (simp -implicitDefEqProofs only [push_cast, sevalprocAttr, eq_self]; first | done | omega)) ?_; intro g a' hs' ha' hep hfr) | fail)
      refine MR.done (g := g) e0 e2 e3 e4 e5 e7 rfl (by rw [hyq]; exact e14) (by rw [hyq]; exact e15) hs' ?_ ?_ ?_ (by repeat (first | exact Ext.refl _ | assumption | refine Ext.tick ?_ | refine Ext.push ?_ (by omega) _ | refine Ext.put ?_ (by omega) _ | refine Ext.kill ?_ (by omega) | refine Ext.killA ?_ (by assumption) | refine Ext.setm ?_ _ _)) rfl
      · rw [hfr (2, 7) (by first | (simp; done) | (simp; omega)) (fun e => by have := hi _ e; simp at this)]; simp -implicitDefEqProofs (disch := omega) only [yH, yM, yI, yG, hb, YA]
      · rw [hep]; exact (by first | omega | (simp -implicitDefEqProofs only [push_cast, sevalprocAttr, eq_self]; first | done | omega))
      · intro q hq; have := ha' q hq; rw [this]; simp only; omega
    · have hp : pair2 t x y i j dist = [] := by
        unfold pair2
        rw [if_neg (fun h => h2 (hw.2 ⟨by omega, by omega⟩))]
      rw [hp, List.append_nil]
      rw [Bool.not_eq_true] at h2
      repeat' (first | ((try clear hf); with_reducible refine yE fun env K hE hK hf => ?_; have n := cj12 hE 0 1 2 3 4 5 7 12 13 14 15 16; simp -implicitDefEqProofs only [push_cast, reduceIte, Nat.reduceEqDiff, e0, e1, e2, e3, e4, e5, e7, e12, e13, e14, e15, e16] at n; clear hE e0 e1 e2 e3 e4 e5 e7 e12 e13 e14 e15 e16; obtain ⟨e0, e1, e2, e3, e4, e5, e7, e12, e13, e14, e15, e16⟩ := n) | (with_reducible refine hK _ _ ?_; clear hK K) | (with_reducible first | (refine Zi ?_; constructor) | refine yC (by decide) ?_ | refine yJ (by assumption) ?_ | refine yL (by assumption) ?_) | (refine yD rfl ?_) | (simp -implicitDefEqProofs only [push_cast, sevalprocAttr, eq_self, e0, e1, e2, e3, e4, e5, e7, e12, e13, e14, e15, e16, hF.at, hri, hrj, h1, h2]) | (simp -implicitDefEqProofs (disch := omega) only [yH, yM, yI, yG, e0, e1, e2, e3, e4, e5, e7, e12, e13, e14, e15, e16, hF.at, hri, hrj, h1, h2]) | (with_reducible refine yO ?_ ?_) | (refine yF rfl (fun bb => ?_) (fun bb => ?_) <;> (first | have bp := oT bb | have bp := oF bb | skip) <;> simp only [bb]) | (with_reducible refine yK (fun bb => ?_) (fun bb => ?_) <;> (first | have bp := oT bb | have bp := oF bb | skip)) | ((with_reducible refine And.intro ?_ ?_); omega) | (refine yN (f113 x hoi _) ?_) | fail)
      exact MR.done (g := h) e0 e2 e3 e4 e5 e7 e13 (by rw [hyq]; exact e14) (by rw [hyq]; exact e15) hs hb he hi (by repeat (first | exact Ext.refl _ | assumption | refine Ext.tick ?_ | refine Ext.push ?_ (by omega) _ | refine Ext.put ?_ (by omega) _ | refine Ext.kill ?_ (by omega) | refine Ext.killA ?_ (by assumption) | refine Ext.setm ?_ _ _)) rfl
  · have hp : pair2 t x y i j dist = [] := by
      unfold pair2
      rw [if_neg (fun h => h1 (by
        have := h.1
        unfold dS at this
        by_cases g : (wrS y).2 = true
        · exact g
        · rw [if_neg g] at this; omega))]
    rw [hp, List.append_nil]
    rw [Bool.not_eq_true] at h1
    repeat' (first | ((try clear hf); with_reducible refine yE fun env K hE hK hf => ?_; have n := cj12 hE 0 1 2 3 4 5 7 12 13 14 15 16; simp -implicitDefEqProofs only [push_cast, reduceIte, Nat.reduceEqDiff, e0, e1, e2, e3, e4, e5, e7, e12, e13, e14, e15, e16] at n; clear hE e0 e1 e2 e3 e4 e5 e7 e12 e13 e14 e15 e16; obtain ⟨e0, e1, e2, e3, e4, e5, e7, e12, e13, e14, e15, e16⟩ := n) | (with_reducible refine hK _ _ ?_; clear hK K) | (with_reducible first | (refine Zi ?_; constructor) | refine yC (by decide) ?_ | refine yJ (by assumption) ?_ | refine yL (by assumption) ?_) | (refine yD rfl ?_) | (simp -implicitDefEqProofs only [push_cast, sevalprocAttr, eq_self, e0, e1, e2, e3, e4, e5, e7, e12, e13, e14, e15, e16, hF.at, hri, h1]) | (simp -implicitDefEqProofs (disch := omega) only [yH, yM, yI, yG, e0, e1, e2, e3, e4, e5, e7, e12, e13, e14, e15, e16, hF.at, hri, h1]) | (with_reducible refine yO ?_ ?_) | (refine yF rfl (fun bb => ?_) (fun bb => ?_) <;> (first | have bp := oT bb | have bp := oF bb | skip) <;> simp only [bb]) | (with_reducible refine yK (fun bb => ?_) (fun bb => ?_) <;> (first | have bp := oT bb | have bp := oF bb | skip)) | ((with_reducible refine And.intro ?_ ?_); omega) | fail)
    exact MR.done (g := h) e0 e2 e3 e4 e5 e7 e13 (by rw [hyq]; exact e14) (by rw [hyq]; exact e15) hs hb he hi (by repeat (first | exact Ext.refl _ | assumption | refine Ext.tick ?_ | refine Ext.push ?_ (by omega) _ | refine Ext.put ?_ (by omega) _ | refine Ext.kill ?_ (by omega) | refine Ext.killA ?_ (by assumption) | refine Ext.setm ?_ _ _)) rfl
set_option maxHeartbeats 1000000 in
theorem f94'3 {l : List Opn} {t : Tab} {i j : Nat} {dist : Int} {meet : Bool} {E : List Edg} (hI : rpI l t i j) (hE : E.length ≤ 1000) (hmt : meet = true → (opAt l j).k = 15 ∨ (opAt l j).k = 16) {σ : St} (hM : MR l t i j dist meet E σ) {Q : AEx → St → Prop} : awp Try.prog rp3 (seqK Try.prog (MR l t i j dist meet (E ++ pair3 t (opAt l i) (opAt l j) i j dist meet)) Q) σ := by
  unfold MR at hM
  obtain ⟨env, h⟩ := σ
  obtain ⟨a, e0, e2, e3, e4, e5, e7, e13, e14, e15, hs, hb, he, hi⟩ := hM
  simp only at e0 e2 e3 e4 e5 e7 e13 e14 e15 hs hb he
  obtain ⟨hil, hjl, hl, ht⟩ := hI
  have e1 : True := trivial; have e12 : True := trivial; have e16 : True := trivial
  unfold rp3
  refine yV fun hF => ?_
  have hri := qU hil .i64
  have hrj := qU hjl .i64
  have hoi := hl _ (List.getElem_mem hil)
  have hoj := hl _ (List.getElem_mem hjl)
  rw [qR hil] at hri hoi
  rw [qR hjl] at hrj hoj
  have l1 := latS_ok ht (opAt l i)
  have l2 := latS_ok ht (opAt l j)
  have l3 := ht.1 2 (by omega)
  unfold okC at l3
  generalize opAt l i = x at *
  generalize hyq : opAt l j = y at *
  have hid := fun x hx => hs.id_le (x := x) hx
  have q2 : (tabC t)[4 + 2]? = some (i64 (t.l 2)) := rfl
  have q3 : (tabC t)[6]? = some (i64 (t.l 2)) := rfl
  by_cases h0 : meet = true
  rotate_left
  · rw [Bool.not_eq_true] at h0
    subst h0
    have hp : pair3 t x y i j dist false = [] := by unfold pair3; rw [if_neg (fun h => by cases h.1)]
    rw [hp, List.append_nil]
    repeat' (first | ((try clear hf); with_reducible refine yE fun env K hE hK hf => ?_; have n := cj12 hE 0 1 2 3 4 5 7 12 13 14 15 16; simp -implicitDefEqProofs only [push_cast, reduceIte, Nat.reduceEqDiff, e0, e1, e2, e3, e4, e5, e7, e12, e13, e14, e15, e16] at n; clear hE e0 e1 e2 e3 e4 e5 e7 e12 e13 e14 e15 e16; obtain ⟨e0, e1, e2, e3, e4, e5, e7, e12, e13, e14, e15, e16⟩ := n) | (with_reducible refine hK _ _ ?_; clear hK K) | (with_reducible first | (refine Zi ?_; constructor) | refine yC (by decide) ?_ | refine yJ (by assumption) ?_ | refine yL (by assumption) ?_) | (refine yD rfl ?_) | (simp -implicitDefEqProofs only [push_cast, sevalprocAttr, eq_self, e0, e1, e2, e3, e4, e5, e7, e12, e13, e14, e15, e16, hF.at]) | (simp -implicitDefEqProofs (disch := omega) only [yH, yM, yI, yG, e0, e1, e2, e3, e4, e5, e7, e12, e13, e14, e15, e16, hF.at]) | (with_reducible refine yO ?_ ?_) | (refine yF rfl (fun bb => ?_) (fun bb => ?_) <;> (first | have bp := oT bb | have bp := oF bb | skip) <;> simp only [bb]) | (with_reducible refine yK (fun bb => ?_) (fun bb => ?_) <;> (first | have bp := oT bb | have bp := oF bb | skip)) | ((with_reducible refine And.intro ?_ ?_); omega) | fail)
    exact MR.done (g := h) e0 e2 e3 e4 e5 e7 e13 (by rw [hyq]; exact e14) (by rw [hyq]; exact e15) hs hb he hi (by repeat (first | exact Ext.refl _ | assumption | refine Ext.tick ?_ | refine Ext.push ?_ (by omega) _ | refine Ext.put ?_ (by omega) _ | refine Ext.kill ?_ (by omega) | refine Ext.killA ?_ (by assumption) | refine Ext.setm ?_ _ _)) rfl
  have hmt2 := hmt h0
  subst h0
  by_cases h1 : x.k = 16
  · have d1 : decide (x.k = 16) = true := dT h1
    have s1 : stS x = true := d1
    by_cases h2 : y.k = 15
    · have d2 : decide (y.k = 15) = true := dT h2
      have s2 : stS y = false := dF (by omega)
      have hp : pair3 t x y i j dist true = [⟨i, j, t.l 2, dist, 3⟩] := by unfold pair3; rw [s1, s2, if_pos ⟨rfl, .inl rfl⟩]; simp
      rw [hp]
      repeat' (first | ((try clear hf); with_reducible refine yE fun env K hE hK hf => ?_; have n := cj12 hE 0 1 2 3 4 5 7 12 13 14 15 16; simp -implicitDefEqProofs only [push_cast, reduceIte, Nat.reduceEqDiff, e0, e1, e2, e3, e4, e5, e7, e12, e13, e14, e15, e16] at n; clear hE e0 e1 e2 e3 e4 e5 e7 e12 e13 e14 e15 e16; obtain ⟨e0, e1, e2, e3, e4, e5, e7, e12, e13, e14, e15, e16⟩ := n) | (with_reducible refine hK _ _ ?_; clear hK K) | (with_reducible first | (refine Zi ?_; constructor) | refine yC (by decide) ?_ | refine yJ (by assumption) ?_ | refine yL (by assumption) ?_) | (refine yD rfl ?_) | (simp -implicitDefEqProofs only [push_cast, sevalprocAttr, eq_self, e0, e1, e2, e3, e4, e5, e7, e12, e13, e14, e15, e16, hF.at, hri, hrj, d1, d2, hb, q2, q3, op_0]) | (simp -implicitDefEqProofs (disch := omega) only [yH, yM, yI, yG, e0, e1, e2, e3, e4, e5, e7, e12, e13, e14, e15, e16, hF.at, hri, hrj, d1, d2, hb, q2, q3, op_0]) | (with_reducible refine yO ?_ ?_) | (refine yF rfl (fun bb => ?_) (fun bb => ?_) <;> (first | have bp := oT bb | have bp := oF bb | skip) <;> simp only [bb]) | (with_reducible refine yK (fun bb => ?_) (fun bb => ?_) <;> (first | have bp := oT bb | have bp := oF bb | skip)) | ((with_reducible refine And.intro ?_ ?_); omega) | (refine goM_app1 (e := ⟨i, j, t.l 2, dist, 3⟩) (hs.ext (by repeat (first | exact Ext.refl _ | assumption | refine Ext.tick ?_ | refine Ext.push ?_ (by omega) _ | refine Ext.put ?_ (by omega) _ | refine Ext.kill ?_ (by omega) | refine Ext.killA ?_ (by assumption) | refine Ext.setm ?_ _ _))) YF rfl (by omega) (fun e => by have := hid _ e; simp at this; omega) (by first | omega | (simp -implicitDefEqProofs only [push_cast, sevalprocAttr, eq_self]; first | done | omega)) ?_; intro g a' hs' ha' hep hfr) | fail)
      refine MR.done (g := g) e0 e2 e3 e4 e5 e7 rfl (by rw [hyq]; exact e14) (by rw [hyq]; exact e15) hs' ?_ ?_ ?_ (by repeat (first | exact Ext.refl _ | assumption | refine Ext.tick ?_ | refine Ext.push ?_ (by omega) _ | refine Ext.put ?_ (by omega) _ | refine Ext.kill ?_ (by omega) | refine Ext.killA ?_ (by assumption) | refine Ext.setm ?_ _ _)) rfl
      · rw [hfr (2, 7) (by first | (simp; done) | (simp; omega)) (fun e => by have := hi _ e; simp at this)]; simp -implicitDefEqProofs (disch := omega) only [yH, yM, yI, yG, hb, YA]
      · rw [hep]; exact (by first | omega | (simp -implicitDefEqProofs only [push_cast, sevalprocAttr, eq_self]; first | done | omega))
      · intro q hq; have := ha' q hq; rw [this]; simp only; omega
    · have d2 : decide (y.k = 15) = false := dF h2
      have s2 : stS y = true := dT (by omega)
      have hp : pair3 t x y i j dist true = [⟨i, j, 1, dist, 3⟩] := by unfold pair3; rw [s1, s2, if_pos ⟨rfl, .inl rfl⟩]; simp
      rw [hp]
      repeat' (first | ((try clear hf); with_reducible refine yE fun env K hE hK hf => ?_; have n := cj12 hE 0 1 2 3 4 5 7 12 13 14 15 16; simp -implicitDefEqProofs only [push_cast, reduceIte, Nat.reduceEqDiff, e0, e1, e2, e3, e4, e5, e7, e12, e13, e14, e15, e16] at n; clear hE e0 e1 e2 e3 e4 e5 e7 e12 e13 e14 e15 e16; obtain ⟨e0, e1, e2, e3, e4, e5, e7, e12, e13, e14, e15, e16⟩ := n) | (with_reducible refine hK _ _ ?_; clear hK K) | (with_reducible first | (refine Zi ?_; constructor) | refine yC (by decide) ?_ | refine yJ (by assumption) ?_ | refine yL (by assumption) ?_) | (refine yD rfl ?_) | (simp -implicitDefEqProofs only [push_cast, sevalprocAttr, eq_self, e0, e1, e2, e3, e4, e5, e7, e12, e13, e14, e15, e16, hF.at, hri, hrj, d1, d2, hb, q2, q3, op_0]) | (simp -implicitDefEqProofs (disch := omega) only [yH, yM, yI, yG, e0, e1, e2, e3, e4, e5, e7, e12, e13, e14, e15, e16, hF.at, hri, hrj, d1, d2, hb, q2, q3, op_0]) | (with_reducible refine yO ?_ ?_) | (refine yF rfl (fun bb => ?_) (fun bb => ?_) <;> (first | have bp := oT bb | have bp := oF bb | skip) <;> simp only [bb]) | (with_reducible refine yK (fun bb => ?_) (fun bb => ?_) <;> (first | have bp := oT bb | have bp := oF bb | skip)) | ((with_reducible refine And.intro ?_ ?_); omega) | (refine goM_app1 (e := ⟨i, j, 1, dist, 3⟩) (hs.ext (by repeat (first | exact Ext.refl _ | assumption | refine Ext.tick ?_ | refine Ext.push ?_ (by omega) _ | refine Ext.put ?_ (by omega) _ | refine Ext.kill ?_ (by omega) | refine Ext.killA ?_ (by assumption) | refine Ext.setm ?_ _ _))) YF rfl (by omega) (fun e => by have := hid _ e; simp at this; omega) (by first | omega | (simp -implicitDefEqProofs only [push_cast, sevalprocAttr, eq_self]; first | done | omega)) ?_; intro g a' hs' ha' hep hfr) | fail)
      refine MR.done (g := g) e0 e2 e3 e4 e5 e7 rfl (by rw [hyq]; exact e14) (by rw [hyq]; exact e15) hs' ?_ ?_ ?_ (by repeat (first | exact Ext.refl _ | assumption | refine Ext.tick ?_ | refine Ext.push ?_ (by omega) _ | refine Ext.put ?_ (by omega) _ | refine Ext.kill ?_ (by omega) | refine Ext.killA ?_ (by assumption) | refine Ext.setm ?_ _ _)) rfl
      · rw [hfr (2, 7) (by first | (simp; done) | (simp; omega)) (fun e => by have := hi _ e; simp at this)]; simp -implicitDefEqProofs (disch := omega) only [yH, yM, yI, yG, hb, YA]
      · rw [hep]; exact (by first | omega | (simp -implicitDefEqProofs only [push_cast, sevalprocAttr, eq_self]; first | done | omega))
      · intro q hq; have := ha' q hq; rw [this]; simp only; omega
  · have d1 : decide (x.k = 16) = false := dF h1
    have s1 : stS x = false := d1
    by_cases h2 : y.k = 16
    · have d2 : decide (y.k = 16) = true := dT h2
      have s2 : stS y = true := d2
      have hp : pair3 t x y i j dist true = [⟨i, j, 0, dist, 3⟩] := by unfold pair3; rw [s1, s2, if_pos ⟨rfl, .inr rfl⟩]; simp
      rw [hp]
      repeat' (first | ((try clear hf); with_reducible refine yE fun env K hE hK hf => ?_; have n := cj12 hE 0 1 2 3 4 5 7 12 13 14 15 16; simp -implicitDefEqProofs only [push_cast, reduceIte, Nat.reduceEqDiff, e0, e1, e2, e3, e4, e5, e7, e12, e13, e14, e15, e16] at n; clear hE e0 e1 e2 e3 e4 e5 e7 e12 e13 e14 e15 e16; obtain ⟨e0, e1, e2, e3, e4, e5, e7, e12, e13, e14, e15, e16⟩ := n) | (with_reducible refine hK _ _ ?_; clear hK K) | (with_reducible first | (refine Zi ?_; constructor) | refine yC (by decide) ?_ | refine yJ (by assumption) ?_ | refine yL (by assumption) ?_) | (refine yD rfl ?_) | (simp -implicitDefEqProofs only [push_cast, sevalprocAttr, eq_self, e0, e1, e2, e3, e4, e5, e7, e12, e13, e14, e15, e16, hF.at, hri, hrj, d1, d2, hb, q2, q3, op_0]) | (simp -implicitDefEqProofs (disch := omega) only [yH, yM, yI, yG, e0, e1, e2, e3, e4, e5, e7, e12, e13, e14, e15, e16, hF.at, hri, hrj, d1, d2, hb, q2, q3, op_0]) | (with_reducible refine yO ?_ ?_) | (refine yF rfl (fun bb => ?_) (fun bb => ?_) <;> (first | have bp := oT bb | have bp := oF bb | skip) <;> simp only [bb]) | (with_reducible refine yK (fun bb => ?_) (fun bb => ?_) <;> (first | have bp := oT bb | have bp := oF bb | skip)) | ((with_reducible refine And.intro ?_ ?_); omega) | (refine goM_app1 (e := ⟨i, j, 0, dist, 3⟩) (hs.ext (by repeat (first | exact Ext.refl _ | assumption | refine Ext.tick ?_ | refine Ext.push ?_ (by omega) _ | refine Ext.put ?_ (by omega) _ | refine Ext.kill ?_ (by omega) | refine Ext.killA ?_ (by assumption) | refine Ext.setm ?_ _ _))) YF rfl (by omega) (fun e => by have := hid _ e; simp at this; omega) (by first | omega | (simp -implicitDefEqProofs only [push_cast, sevalprocAttr, eq_self]; first | done | omega)) ?_; intro g a' hs' ha' hep hfr) | fail)
      refine MR.done (g := g) e0 e2 e3 e4 e5 e7 rfl (by rw [hyq]; exact e14) (by rw [hyq]; exact e15) hs' ?_ ?_ ?_ (by repeat (first | exact Ext.refl _ | assumption | refine Ext.tick ?_ | refine Ext.push ?_ (by omega) _ | refine Ext.put ?_ (by omega) _ | refine Ext.kill ?_ (by omega) | refine Ext.killA ?_ (by assumption) | refine Ext.setm ?_ _ _)) rfl
      · rw [hfr (2, 7) (by first | (simp; done) | (simp; omega)) (fun e => by have := hi _ e; simp at this)]; simp -implicitDefEqProofs (disch := omega) only [yH, yM, yI, yG, hb, YA]
      · rw [hep]; exact (by first | omega | (simp -implicitDefEqProofs only [push_cast, sevalprocAttr, eq_self]; first | done | omega))
      · intro q hq; have := ha' q hq; rw [this]; simp only; omega
    · have d2 : decide (y.k = 16) = false := dF h2
      have s2 : stS y = false := d2
      have hp : pair3 t x y i j dist true = [] := by unfold pair3; rw [s1, s2, if_neg (by simp)]
      rw [hp, List.append_nil]
      repeat' (first | ((try clear hf); with_reducible refine yE fun env K hE hK hf => ?_; have n := cj12 hE 0 1 2 3 4 5 7 12 13 14 15 16; simp -implicitDefEqProofs only [push_cast, reduceIte, Nat.reduceEqDiff, e0, e1, e2, e3, e4, e5, e7, e12, e13, e14, e15, e16] at n; clear hE e0 e1 e2 e3 e4 e5 e7 e12 e13 e14 e15 e16; obtain ⟨e0, e1, e2, e3, e4, e5, e7, e12, e13, e14, e15, e16⟩ := n) | (with_reducible refine hK _ _ ?_; clear hK K) | (with_reducible first | (refine Zi ?_; constructor) | refine yC (by decide) ?_ | refine yJ (by assumption) ?_ | refine yL (by assumption) ?_) | (refine yD rfl ?_) | (simp -implicitDefEqProofs only [push_cast, sevalprocAttr, eq_self, e0, e1, e2, e3, e4, e5, e7, e12, e13, e14, e15, e16, hF.at, hri, hrj, d1, d2, hb, q2, q3, op_0]) | (simp -implicitDefEqProofs (disch := omega) only [yH, yM, yI, yG, e0, e1, e2, e3, e4, e5, e7, e12, e13, e14, e15, e16, hF.at, hri, hrj, d1, d2, hb, q2, q3, op_0]) | (with_reducible refine yO ?_ ?_) | (refine yF rfl (fun bb => ?_) (fun bb => ?_) <;> (first | have bp := oT bb | have bp := oF bb | skip) <;> simp only [bb]) | (with_reducible refine yK (fun bb => ?_) (fun bb => ?_) <;> (first | have bp := oT bb | have bp := oF bb | skip)) | ((with_reducible refine And.intro ?_ ?_); omega) | fail)
      exact MR.done (g := h) e0 e2 e3 e4 e5 e7 e13 (by rw [hyq]; exact e14) (by rw [hyq]; exact e15) hs hb he hi (by repeat (first | exact Ext.refl _ | assumption | refine Ext.tick ?_ | refine Ext.push ?_ (by omega) _ | refine Ext.put ?_ (by omega) _ | refine Ext.kill ?_ (by omega) | refine Ext.killA ?_ (by assumption) | refine Ext.setm ?_ _ _)) rfl
set_option maxHeartbeats 1000000 in
theorem f94'4 {l : List Opn} {t : Tab} {i j : Nat} {dist : Int} {meet : Bool} {E : List Edg} (hI : rpI l t i j) (hE : E.length ≤ 1000) {σ : St} (hM : MR l t i j dist meet E σ) {Q : AEx → St → Prop} : awp Try.prog rp4 (seqK Try.prog (MR l t i j dist meet (E ++ pair4 (opAt l i) (opAt l j) i j dist)) Q) σ := by
  unfold MR at hM
  obtain ⟨env, h⟩ := σ
  obtain ⟨a, e0, e2, e3, e4, e5, e7, e13, e14, e15, hs, hb, he, hi⟩ := hM
  simp only at e0 e2 e3 e4 e5 e7 e13 e14 e15 hs hb he
  obtain ⟨hil, hjl, hl, ht⟩ := hI
  have e1 : True := trivial; have e12 : True := trivial; have e16 : True := trivial
  unfold rp4
  refine yV fun hF => ?_
  have hri := qU hil .i64
  have hrj := qU hjl .i64
  have hoi := hl _ (List.getElem_mem hil)
  have hoj := hl _ (List.getElem_mem hjl)
  rw [qR hil] at hri hoi
  rw [qR hjl] at hrj hoj
  have l1 := latS_ok ht (opAt l i)
  have l2 := latS_ok ht (opAt l j)
  have l3 := ht.1 2 (by omega)
  unfold okC at l3
  generalize opAt l i = x at *
  generalize hyq : opAt l j = y at *
  have hid := fun x hx => hs.id_le (x := x) hx
  by_cases h1 : effS x = true
  · by_cases h2 : effS y = true
    · have hp : pair4 x y i j dist = [⟨i, j, 1, dist, 4⟩] := by unfold pair4; rw [if_pos ⟨h1, h2⟩]
      rw [hp]
      repeat' (first | ((try clear hf); with_reducible refine yE fun env K hE hK hf => ?_; have n := cj12 hE 0 1 2 3 4 5 7 12 13 14 15 16; simp -implicitDefEqProofs only [push_cast, reduceIte, Nat.reduceEqDiff, e0, e1, e2, e3, e4, e5, e7, e12, e13, e14, e15, e16] at n; clear hE e0 e1 e2 e3 e4 e5 e7 e12 e13 e14 e15 e16; obtain ⟨e0, e1, e2, e3, e4, e5, e7, e12, e13, e14, e15, e16⟩ := n) | (with_reducible refine hK _ _ ?_; clear hK K) | (with_reducible first | (refine Zi ?_; constructor) | refine yC (by decide) ?_ | refine yJ (by assumption) ?_ | refine yL (by assumption) ?_) | (refine yD rfl ?_) | (simp -implicitDefEqProofs only [push_cast, sevalprocAttr, eq_self, e0, e1, e2, e3, e4, e5, e7, e12, e13, e14, e15, e16, hF.at, hri, hrj, h1, h2]) | (simp -implicitDefEqProofs (disch := omega) only [yH, yM, yI, yG, e0, e1, e2, e3, e4, e5, e7, e12, e13, e14, e15, e16, hF.at, hri, hrj, h1, h2]) | (with_reducible refine yO ?_ ?_) | (refine yF rfl (fun bb => ?_) (fun bb => ?_) <;> (first | have bp := oT bb | have bp := oF bb | skip) <;> simp only [bb]) | (with_reducible refine yK (fun bb => ?_) (fun bb => ?_) <;> (first | have bp := oT bb | have bp := oF bb | skip)) | ((with_reducible refine And.intro ?_ ?_); omega) | (refine yN (f114 x) ?_) | (refine yN (f114 y) ?_) | (refine goM_app1 (e := ⟨i, j, 1, dist, 4⟩) (hs.ext (by repeat (first | exact Ext.refl _ | assumption | refine Ext.tick ?_ | refine Ext.push ?_ (by omega) _ | refine Ext.put ?_ (by omega) _ | refine Ext.kill ?_ (by omega) | refine Ext.killA ?_ (by assumption) | refine Ext.setm ?_ _ _))) YF rfl (by omega) (fun e => by have := hid _ e; simp at this; omega) (by first | omega | (simp -implicitDefEqProofs only [push_cast, sevalprocAttr, eq_self]; first | done | omega)) ?_; intro g a' hs' ha' hep hfr) | fail)
      refine MR.done (g := g) e0 e2 e3 e4 e5 e7 rfl (by rw [hyq]; exact e14) (by rw [hyq]; exact e15) hs' ?_ ?_ ?_ (by repeat (first | exact Ext.refl _ | assumption | refine Ext.tick ?_ | refine Ext.push ?_ (by omega) _ | refine Ext.put ?_ (by omega) _ | refine Ext.kill ?_ (by omega) | refine Ext.killA ?_ (by assumption) | refine Ext.setm ?_ _ _)) rfl
      · rw [hfr (2, 7) (by first | (simp; done) | (simp; omega)) (fun e => by have := hi _ e; simp at this)]; simp -implicitDefEqProofs (disch := omega) only [yH, yM, yI, yG, hb, YA]
      · rw [hep]; exact (by first | omega | (simp -implicitDefEqProofs only [push_cast, sevalprocAttr, eq_self]; first | done | omega))
      · intro q hq; have := ha' q hq; rw [this]; simp only; omega
    · have hp : pair4 x y i j dist = [] := by unfold pair4; rw [if_neg (fun h => h2 h.2)]
      rw [hp, List.append_nil]
      rw [Bool.not_eq_true] at h2
      repeat' (first | ((try clear hf); with_reducible refine yE fun env K hE hK hf => ?_; have n := cj12 hE 0 1 2 3 4 5 7 12 13 14 15 16; simp -implicitDefEqProofs only [push_cast, reduceIte, Nat.reduceEqDiff, e0, e1, e2, e3, e4, e5, e7, e12, e13, e14, e15, e16] at n; clear hE e0 e1 e2 e3 e4 e5 e7 e12 e13 e14 e15 e16; obtain ⟨e0, e1, e2, e3, e4, e5, e7, e12, e13, e14, e15, e16⟩ := n) | (with_reducible refine hK _ _ ?_; clear hK K) | (with_reducible first | (refine Zi ?_; constructor) | refine yC (by decide) ?_ | refine yJ (by assumption) ?_ | refine yL (by assumption) ?_) | (refine yD rfl ?_) | (simp -implicitDefEqProofs only [push_cast, sevalprocAttr, eq_self, e0, e1, e2, e3, e4, e5, e7, e12, e13, e14, e15, e16, hF.at, hri, hrj, h1, h2]) | (simp -implicitDefEqProofs (disch := omega) only [yH, yM, yI, yG, e0, e1, e2, e3, e4, e5, e7, e12, e13, e14, e15, e16, hF.at, hri, hrj, h1, h2]) | (with_reducible refine yO ?_ ?_) | (refine yF rfl (fun bb => ?_) (fun bb => ?_) <;> (first | have bp := oT bb | have bp := oF bb | skip) <;> simp only [bb]) | (with_reducible refine yK (fun bb => ?_) (fun bb => ?_) <;> (first | have bp := oT bb | have bp := oF bb | skip)) | ((with_reducible refine And.intro ?_ ?_); omega) | (refine yN (f114 x) ?_) | (refine yN (f114 y) ?_) | fail)
      exact MR.done (g := h) e0 e2 e3 e4 e5 e7 e13 (by rw [hyq]; exact e14) (by rw [hyq]; exact e15) hs hb he hi (by repeat (first | exact Ext.refl _ | assumption | refine Ext.tick ?_ | refine Ext.push ?_ (by omega) _ | refine Ext.put ?_ (by omega) _ | refine Ext.kill ?_ (by omega) | refine Ext.killA ?_ (by assumption) | refine Ext.setm ?_ _ _)) rfl
  · have hp : pair4 x y i j dist = [] := by unfold pair4; rw [if_neg (fun h => h1 h.1)]
    rw [hp, List.append_nil]
    rw [Bool.not_eq_true] at h1
    repeat' (first | ((try clear hf); with_reducible refine yE fun env K hE hK hf => ?_; have n := cj12 hE 0 1 2 3 4 5 7 12 13 14 15 16; simp -implicitDefEqProofs only [push_cast, reduceIte, Nat.reduceEqDiff, e0, e1, e2, e3, e4, e5, e7, e12, e13, e14, e15, e16] at n; clear hE e0 e1 e2 e3 e4 e5 e7 e12 e13 e14 e15 e16; obtain ⟨e0, e1, e2, e3, e4, e5, e7, e12, e13, e14, e15, e16⟩ := n) | (with_reducible refine hK _ _ ?_; clear hK K) | (with_reducible first | (refine Zi ?_; constructor) | refine yC (by decide) ?_ | refine yJ (by assumption) ?_ | refine yL (by assumption) ?_) | (refine yD rfl ?_) | (simp -implicitDefEqProofs only [push_cast, sevalprocAttr, eq_self, e0, e1, e2, e3, e4, e5, e7, e12, e13, e14, e15, e16, hF.at, hri, hrj, h1]) | (simp -implicitDefEqProofs (disch := omega) only [yH, yM, yI, yG, e0, e1, e2, e3, e4, e5, e7, e12, e13, e14, e15, e16, hF.at, hri, hrj, h1]) | (with_reducible refine yO ?_ ?_) | (refine yF rfl (fun bb => ?_) (fun bb => ?_) <;> (first | have bp := oT bb | have bp := oF bb | skip) <;> simp only [bb]) | (with_reducible refine yK (fun bb => ?_) (fun bb => ?_) <;> (first | have bp := oT bb | have bp := oF bb | skip)) | ((with_reducible refine And.intro ?_ ?_); omega) | (refine yN (f114 x) ?_) | fail)
    exact MR.done (g := h) e0 e2 e3 e4 e5 e7 e13 (by rw [hyq]; exact e14) (by rw [hyq]; exact e15) hs hb he hi (by repeat (first | exact Ext.refl _ | assumption | refine Ext.tick ?_ | refine Ext.push ?_ (by omega) _ | refine Ext.put ?_ (by omega) _ | refine Ext.kill ?_ (by omega) | refine Ext.killA ?_ (by assumption) | refine Ext.setm ?_ _ _)) rfl
set_option maxHeartbeats 1000000 in
theorem f94 {l : List Opn} {t : Tab} {i j : Nat} (hi : i < l.length) (hj : j < l.length) (hl : ∀ o ∈ l, o.ok) (ht : YP t) (dist : Int) (meet : Bool) (hmt : meet = true → (opAt l j).k = 15 ∨ (opAt l j).k = 16) :
    HVF Try.prog 94 [.row (l.map opC), .agg (tabC t), i64 i, i64 j, i64 dist, bl meet] (.row ((pairE t (opAt l i) (opAt l j) i j dist meet).map edC)) := by
  refine HVF_of_awp yX cf94 (by simp) (by simp [imms, imm, qK, tab_imms]) ?_ (by simp only [imm]; exact edrows_imms _)
  rw [rp_code]
  unfold re94
  refine yQ fun env hE => ?_; obtain ⟨e0, e1, e2, e3, e4, e5, e7, e12, e13, e14, e15, e16⟩ := cj12 hE 0 1 2 3 4 5 7 12 13 14 15 16; simp -implicitDefEqProofs only [push_cast] at e0 e1 e2 e3 e4 e5 e7 e12 e13 e14 e15 e16; clear hE
  have hrj := qU hj .i64
  have hoj := hl _ (List.getElem_mem hj)
  rw [qR hj] at hrj hoj
  have hI : rpI l t i j := ⟨hi, hj, hl, ht⟩
  obtain ⟨n1, n2, n3, n4⟩ := pair_lens t (opAt l i) (opAt l j) i j dist meet
  rw [pairE_eq]
  have main : ∀ σ, MR l t i j dist meet [] σ → awp Try.prog rpT (PostF [.mv (.t 12)] fun r' h' => lendF fuelL h' r' = some (.row ((pair1 (opAt l i) (opAt l j) i j dist ++ pair2 t (opAt l i) (opAt l j) i j dist ++ pair3 t (opAt l i) (opAt l j) i j dist meet ++ pair4 (opAt l i) (opAt l j) i j dist).map edC))) σ := by
    intro σ hM
    unfold rpT
    refine awp_cut _ (f94'1 hI (by simp) hM) fun σ hM => ?_
    refine awp_cut _ (f94'2 hI (by simp; omega) hM) fun σ hM => ?_
    refine awp_cut _ (f94'3 hI (by simp; omega) hmt hM) fun σ hM => ?_
    refine awp_cut _ (f94'4 hI (by simp; omega) hM) fun σ hM => ?_
    unfold MR at hM
    obtain ⟨env, h⟩ := σ
    obtain ⟨a, e0, e2, e3, e4, e5, e7, e13, e14, e15, hs, hb, he, hi⟩ := hM
    simp only at e0 e2 e3 e4 e5 e7 e13 e14 e15 hs hb he
    have hlf := (hs.ext (Ext.tick (Ext.refl h))).lendF YF edC_atom 7
    rw [List.nil_append] at hlf
    have e1 : True := trivial; have e12 : True := trivial; have e16 : True := trivial
    repeat' (first | ((try clear hf); with_reducible refine yE fun env K hE hK hf => ?_; have n := cj12 hE 0 1 2 3 4 5 7 12 13 14 15 16; simp -implicitDefEqProofs only [push_cast, reduceIte, Nat.reduceEqDiff, e0, e1, e2, e3, e4, e5, e7, e12, e13, e14, e15, e16] at n; clear hE e0 e1 e2 e3 e4 e5 e7 e12 e13 e14 e15 e16; obtain ⟨e0, e1, e2, e3, e4, e5, e7, e12, e13, e14, e15, e16⟩ := n) | (with_reducible refine hK _ _ ?_; clear hK K) | (with_reducible first | (refine Zi ?_; constructor) | refine yC (by decide) ?_ | refine yJ (by assumption) ?_ | refine yL (by assumption) ?_) | (refine yD rfl ?_) | (simp -implicitDefEqProofs only [push_cast, sevalprocAttr, eq_self, e0, e1, e2, e3, e4, e5, e7, e12, e13, e14, e15, e16]) | (simp -implicitDefEqProofs (disch := omega) only [yH, yM, yI, yG, e0, e1, e2, e3, e4, e5, e7, e12, e13, e14, e15, e16]) | (with_reducible refine yO ?_ ?_) | (refine yF rfl (fun bb => ?_) (fun bb => ?_) <;> (first | have bp := oT bb | have bp := oF bb | skip) <;> simp only [bb]) | (with_reducible refine yK (fun bb => ?_) (fun bb => ?_) <;> (first | have bp := oT bb | have bp := oF bb | skip)) | ((with_reducible refine And.intro ?_ ?_); omega) | fail)
    exact hlf
  repeat' (first | ((try clear hf); with_reducible refine yE fun env K hE hK hf => ?_; have n := cj12 hE 0 1 2 3 4 5 7 12 13 14 15 16; simp -implicitDefEqProofs only [push_cast, reduceIte, Nat.reduceEqDiff, e0, e1, e2, e3, e4, e5, e7, e12, e13, e14, e15, e16] at n; clear hE e0 e1 e2 e3 e4 e5 e7 e12 e13 e14 e15 e16; obtain ⟨e0, e1, e2, e3, e4, e5, e7, e12, e13, e14, e15, e16⟩ := n) | (with_reducible refine hK _ _ ?_; clear hK K) | (with_reducible first | (refine Zi ?_; constructor) | refine yC (by decide) ?_ | refine yJ (by assumption) ?_ | refine yL (by assumption) ?_) | (refine yD rfl ?_) | (simp -implicitDefEqProofs only [push_cast, sevalprocAttr, eq_self, e0, e1, e2, e3, e4, e5, e7, e12, e13, e14, e15, e16, hrj]) | (simp -implicitDefEqProofs (disch := omega) only [yH, yM, yI, yG, e0, e1, e2, e3, e4, e5, e7, e12, e13, e14, e15, e16, hrj]) | (with_reducible refine yO ?_ ?_) | (refine yF rfl (fun bb => ?_) (fun bb => ?_) <;> (first | have bp := oT bb | have bp := oF bb | skip) <;> simp only [bb]) | (with_reducible refine yK (fun bb => ?_) (fun bb => ?_) <;> (first | have bp := oT bb | have bp := oF bb | skip)) | ((with_reducible refine And.intro ?_ ?_); omega) | (refine yN (f88 _ hoj) ?_) | (refine main _ ?_) | fail)
  exact MR.done (g := _) e0 e2 e3 e4 e5 e7 e13 rfl rfl (SlO.nil _ _ _) (by simp -implicitDefEqProofs only [push_cast, sevalprocAttr, eq_self]) (by first | omega | (simp -implicitDefEqProofs only [push_cast, sevalprocAttr, eq_self]; first | done | omega)) (fun x hx => by simp [idOf] at hx) (Ext.refl _) rfl
end Go.Proofs.Hx

set_option linter.unusedVariables false
set_option linter.unusedSimpArgs false
namespace Go.Proofs.Hx
open Go Go.Proofs
attribute [local irreducible] yS awp opK goV goM qB yZ qH yW HV HVF HC
/-- The reference's edges under way: in slot 'o', beside the table's box; 'ex': what else is known of the slots. -/
def MO (h0 : Hp) (o : Nat) (l : List Opn) (t : Tab) (E : List Edg) (ex : (Nat → AV) → Prop) (σ : St) : Prop := ∃ a, σ.env 0 = .row (l.map opC) ∧ σ.env 3 = .ptr (h0.ep + 1 + 1, 3) 0 ∧ σ.env o = a ∧ ex σ.env ∧
  SlO edC 5 σ.h a E ∧ σ.h.hp (h0.ep + 1 + 1, 3) = some ⟨true, tabC t⟩ ∧ Ext h0 σ.h ∧ h0.ep + 2 ≤ σ.h.ep ∧ ∀ x, idOf a = some x → h0.ep + 2 < x.1
theorem MO.mk {h0 : Hp} {o : Nat} {l : List Opn} {t : Tab} {E E' : List Edg} {ex : (Nat → AV) → Prop} {env : Nat → AV} {g h : Hp} {a : AV} (e0 : env 0 = .row (l.map opC)) (e3 : env 3 = .ptr (h0.ep + 1 + 1, 3) 0) (eo : env o = a) (he : ex env) (hs : SlO edC 5 g a E) (hb : g.hp (h0.ep + 1 + 1, 3) = some ⟨true, tabC t⟩)
    (hX : Ext h0 g) (hp : h0.ep + 2 ≤ g.ep) (hi : ∀ x, idOf a = some x → h0.ep + 2 < x.1) (hx : Ext g h) (hE : E = E') : MO h0 o l t E' ex ⟨env, h⟩ :=
  ⟨a, e0, e3, eo, he, hE ▸ hs.ext hx, (hx.2 _ (by simpa using hp)).trans hb, hX.tr hx, Nat.le_trans hp hx.1, hi⟩
theorem MO.imp {h0 : Hp} {o : Nat} {l : List Opn} {t : Tab} {E : List Edg} {ex ex' : (Nat → AV) → Prop} {σ : St} (h : MO h0 o l t E ex σ) (k : ∀ env, ex env → ex' env) : MO h0 o l t E ex' σ := by
  obtain ⟨a, e0, e3, eo, he, r⟩ := h
  exact ⟨a, e0, e3, eo, k _ he, r⟩
/-- The frame behind an append. -/
theorem MO.app {h0 g h : Hp} {a : AV} {id : Id} (hX : Ext h0 h) (hp : h0.ep + 2 ≤ h.ep) (hi : ∀ x, idOf a = some x → h0.ep + 2 < x.1) (hid : h0.ep + 2 < id.1) (hep : g.ep = h.ep) (hfr : ∀ x, x ≠ id → idOf a ≠ some x → g.hp x = h.hp x) :
    Ext h0 g ∧ g.hp (h0.ep + 1 + 1, 3) = h.hp (h0.ep + 1 + 1, 3) := by
  refine ⟨⟨by rw [hep]; exact hX.1, fun x hx => ?_⟩, hfr _ (fun e => by have := congrArg Prod.fst e; simp at this; omega) (fun e => by have := hi _ e; simp at this)⟩
  rw [hfr x (fun e => by rw [e] at hx; omega) (fun e => by have := hi _ e; omega)]
  exact hX.2 x hx
def exIJ (i j : Nat) (env : Nat → AV) : Prop := env 8 = i64 j ∧ env 9 = i64 i
def exJ (j : Nat) (env : Nat → AV) : Prop := env 8 = i64 j
theorem meet_mem {a b : Opn} {s : List Opn} (h : meetS a b s = true) : b.k = 15 ∨ b.k = 16 := by
  unfold meetS memS at h
  simp only [Bool.and_eq_true, Bool.or_eq_true, decide_eq_true_eq] at h
  exact h.1.1.2.1

set_option maxHeartbeats 1000000 in
theorem f72'1 {h0 : Hp} {l : List Opn} {t : Tab} {i j : Nat} {E : List Edg} (hil : i < l.length) (hjl : j < l.length) (hl : ∀ o ∈ l, o.ok) (ht : YP t) (hn : l.length ≤ 1024) (hE : E.length ≤ 30000000) {σ : St} (hM : MO h0 7 l t E (exIJ i j) σ) {Q : AEx → St → Prop} :
    awp Try.prog (.seq (.ops r72_9 []) (.cond (.t 30) (.ops r72_10 []) .skip)) (seqK Try.prog (MO h0 7 l t (E ++ if fromS (YM l j) (opAt l j) i = true then [⟨i, j, latS t (opAt l i), 0, 0⟩] else []) (exIJ i j)) Q) σ := by
  obtain ⟨env, h⟩ := σ
  obtain ⟨a, e0, e3, e7, ⟨e8, e9⟩, hs, hb, hX, hp, hi⟩ := hM
  simp only at e0 e3 e7 e8 e9 hs hb hX hp
  have e1 : True := trivial; have e4 : True := trivial; have e5 : True := trivial; have e6 : True := trivial
  refine yV fun hF => ?_
  have hri := qU hil .i64
  have hfl := f92'n l i j (by omega) hjl hl (by omega)
  rw [qR hil] at hri
  rw [qR hjl] at hfl
  have l1 := latS_ok ht (opAt l i)
  generalize opAt l i = x at *
  generalize opAt l j = y at *
  have hid := fun x hx => hs.id_le (x := x) hx
  by_cases h1 : fromS (YM l j) y i = true
  · rw [if_pos h1]
    rw [h1] at hfl
    repeat' (first | ((try clear hf); with_reducible refine yE fun env K hE hK hf => ?_; have n := cj9 hE 0 1 3 4 5 6 7 8 9; simp -implicitDefEqProofs only [push_cast, reduceIte, Nat.reduceEqDiff, e0, e1, e3, e4, e5, e6, e7, e8, e9] at n; clear hE e0 e1 e3 e4 e5 e6 e7 e8 e9; obtain ⟨e0, e1, e3, e4, e5, e6, e7, e8, e9⟩ := n) | (with_reducible refine hK _ _ ?_; clear hK K) | (with_reducible first | (refine Zi ?_; constructor) | refine yC (by decide) ?_ | refine yJ (by assumption) ?_ | refine yL (by assumption) ?_) | (refine yD rfl ?_) | (simp -implicitDefEqProofs only [push_cast, sevalprocAttr, eq_self, e0, e1, e3, e4, e5, e6, e7, e8, e9, hF.at, hri, hb]) | (simp -implicitDefEqProofs (disch := omega) only [yH, yM, yI, yG, e0, e1, e3, e4, e5, e6, e7, e8, e9, hF.at, hri, hb]) | (with_reducible refine yO ?_ ?_) | (refine yF rfl (fun bb => ?_) (fun bb => ?_) <;> (first | have bp := oT bb | have bp := oF bb | skip) <;> simp only [bb]) | (with_reducible refine yK (fun bb => ?_) (fun bb => ?_) <;> (first | have bp := oT bb | have bp := oF bb | skip)) | ((with_reducible refine And.intro ?_ ?_); omega) | (refine yN hfl ?_) | (refine call_immq (f93 x t) ?_) | (refine goM_app1 (e := ⟨i, j, latS t x, 0, 0⟩) (hs.ext (by repeat (first | exact Ext.refl _ | assumption | refine Ext.tick ?_ | refine Ext.push ?_ (by omega) _ | refine Ext.put ?_ (by omega) _ | refine Ext.kill ?_ (by omega) | refine Ext.killA ?_ (by assumption) | refine Ext.setm ?_ _ _))) YF rfl (by omega) (fun e => by have := hid _ e; simp at this; omega) (by first | omega | (simp -implicitDefEqProofs only [push_cast, sevalprocAttr, eq_self]; first | done | omega)) ?_; intro g a' hs' ha' hep hfr) | fail)
    obtain ⟨q1, q2⟩ := MO.app (h0 := h0) (Ext.tr hX (by repeat (first | exact Ext.refl _ | assumption | refine Ext.tick ?_ | refine Ext.push ?_ (by omega) _ | refine Ext.put ?_ (by omega) _ | refine Ext.kill ?_ (by omega) | refine Ext.killA ?_ (by assumption) | refine Ext.setm ?_ _ _))) (by simp -implicitDefEqProofs only [push_cast, sevalprocAttr, eq_self]; omega) hi (by simp only; omega) hep hfr
    exact MO.mk (g := g) e0 e3 rfl ⟨e8, e9⟩ hs' (by rw [q2]; simp -implicitDefEqProofs (disch := omega) only [yH, yM, yI, yG, hb, YA]) q1 (by rw [hep]; exact (by first | omega | (simp -implicitDefEqProofs only [push_cast, sevalprocAttr, eq_self]; first | done | omega))) (fun q hq => by have := ha' q hq; rw [this]; simp only; omega) (by repeat (first | exact Ext.refl _ | assumption | refine Ext.tick ?_ | refine Ext.push ?_ (by omega) _ | refine Ext.put ?_ (by omega) _ | refine Ext.kill ?_ (by omega) | refine Ext.killA ?_ (by assumption) | refine Ext.setm ?_ _ _)) rfl
  · rw [if_neg h1, List.append_nil]
    rw [Bool.not_eq_true] at h1
    rw [h1] at hfl
    repeat' (first | ((try clear hf); with_reducible refine yE fun env K hE hK hf => ?_; have n := cj9 hE 0 1 3 4 5 6 7 8 9; simp -implicitDefEqProofs only [push_cast, reduceIte, Nat.reduceEqDiff, e0, e1, e3, e4, e5, e6, e7, e8, e9] at n; clear hE e0 e1 e3 e4 e5 e6 e7 e8 e9; obtain ⟨e0, e1, e3, e4, e5, e6, e7, e8, e9⟩ := n) | (with_reducible refine hK _ _ ?_; clear hK K) | (with_reducible first | (refine Zi ?_; constructor) | refine yC (by decide) ?_ | refine yJ (by assumption) ?_ | refine yL (by assumption) ?_) | (refine yD rfl ?_) | (simp -implicitDefEqProofs only [push_cast, sevalprocAttr, eq_self, e0, e1, e3, e4, e5, e6, e7, e8, e9, hF.at, hri, hb]) | (simp -implicitDefEqProofs (disch := omega) only [yH, yM, yI, yG, e0, e1, e3, e4, e5, e6, e7, e8, e9, hF.at, hri, hb]) | (with_reducible refine yO ?_ ?_) | (refine yF rfl (fun bb => ?_) (fun bb => ?_) <;> (first | have bp := oT bb | have bp := oF bb | skip) <;> simp only [bb]) | (with_reducible refine yK (fun bb => ?_) (fun bb => ?_) <;> (first | have bp := oT bb | have bp := oF bb | skip)) | ((with_reducible refine And.intro ?_ ?_); omega) | (refine yN hfl ?_) | fail)
    exact MO.mk (g := h) e0 e3 e7 ⟨e8, e9⟩ hs hb hX hp hi (by repeat (first | exact Ext.refl _ | assumption | refine Ext.tick ?_ | refine Ext.push ?_ (by omega) _ | refine Ext.put ?_ (by omega) _ | refine Ext.kill ?_ (by omega) | refine Ext.killA ?_ (by assumption) | refine Ext.setm ?_ _ _)) rfl
set_option maxHeartbeats 1000000 in
theorem f72'2 {h0 : Hp} {l : List Opn} {t : Tab} {i j : Nat} {E : List Edg} (hil : i < l.length) (hjl : j < l.length) (hij : i < j) (hl : ∀ o ∈ l, o.ok) (ht : YP t) (hn : l.length ≤ 1024) (hE : E.length ≤ 30000000) {σ : St} (hM : MO h0 7 l t E (exIJ i j) σ) {Q : AEx → St → Prop}
    (hQ : ∀ σ', MO h0 7 l t (E ++ pairE t (opAt l i) (opAt l j) i j 0 (meetS (opAt l i) (opAt l j) ((l.drop i).take (j - i)))) (exIJ i j) σ' → Q .normal σ') : awp Try.prog (.ops r72_11 []) Q σ := by
  obtain ⟨env, h⟩ := σ
  obtain ⟨a, e0, e3, e7, ⟨e8, e9⟩, hs, hb, hX, hp, hi⟩ := hM
  simp only at e0 e3 e7 e8 e9 hs hb hX hp
  have e1 : True := trivial; have e4 : True := trivial; have e5 : True := trivial; have e6 : True := trivial
  have hF : qZ h → qZ h := id
  have hmt : HV Try.prog 102 [.row (l.map opC), i64 i, i64 j] (bl (meetS (opAt l i) (opAt l j) ((l.drop i).take (j - i)))) := by
    have := f102 l i j hij hjl hl (by omega)
    unfold meetL at this; rw [qR hil, qR hjl] at this
    exact this
  have hpr := f94 hil hjl hl ht 0 (meetS (opAt l i) (opAt l j) ((l.drop i).take (j - i))) (fun h => meet_mem h)
  obtain ⟨n1, n2, n3, n4⟩ := pair_lens t (opAt l i) (opAt l j) i j 0 (meetS (opAt l i) (opAt l j) ((l.drop i).take (j - i)))
  have hpl : (pairE t (opAt l i) (opAt l j) i j 0 (meetS (opAt l i) (opAt l j) ((l.drop i).take (j - i)))).length ≤ 4 := by rw [pairE_eq]; simp only [List.length_append]; omega
  generalize pairE t (opAt l i) (opAt l j) i j 0 (meetS (opAt l i) (opAt l j) ((l.drop i).take (j - i))) = pe at *
  have hid := fun x hx => hs.id_le (x := x) hx
  repeat' (first | ((try clear hf); with_reducible refine yE fun env K hE hK hf => ?_; have n := cj9 hE 0 1 3 4 5 6 7 8 9; simp -implicitDefEqProofs only [push_cast, reduceIte, Nat.reduceEqDiff, e0, e1, e3, e4, e5, e6, e7, e8, e9] at n; clear hE e0 e1 e3 e4 e5 e6 e7 e8 e9; obtain ⟨e0, e1, e3, e4, e5, e6, e7, e8, e9⟩ := n) | (with_reducible refine hK _ _ ?_; clear hK K) | (with_reducible first | (refine Zi ?_; constructor) | refine yC (by decide) ?_ | refine yJ (by assumption) ?_ | refine yL (by assumption) ?_) | (refine yD rfl ?_) | (simp -implicitDefEqProofs only [push_cast, sevalprocAttr, eq_self, e0, e1, e3, e4, e5, e6, e7, e8, e9, hb, app_src edC 5 YF]) | (simp -implicitDefEqProofs (disch := omega) only [yH, yM, yI, yG, e0, e1, e3, e4, e5, e6, e7, e8, e9, hb, app_src edC 5 YF]) | (with_reducible refine yO ?_ ?_) | (refine yF rfl (fun bb => ?_) (fun bb => ?_) <;> (first | have bp := oT bb | have bp := oF bb | skip) <;> simp only [bb]) | (with_reducible refine yK (fun bb => ?_) (fun bb => ?_) <;> (first | have bp := oT bb | have bp := oF bb | skip)) | ((with_reducible refine And.intro ?_ ?_); omega) | (refine call_immq hmt ?_) | (refine call_ownq (YK (by simp [imms, imm, qK, tab_imms])) hpr ?_) | (refine goM_appN (fs := pe) (hs.ext (by repeat (first | exact Ext.refl _ | assumption | refine Ext.tick ?_ | refine Ext.push ?_ (by omega) _ | refine Ext.put ?_ (by omega) _ | refine Ext.kill ?_ (by omega) | refine Ext.killA ?_ (by assumption) | refine Ext.setm ?_ _ _))) YF (flat_one edC_one pe) (by omega) (fun e => by have := hid _ e; simp at this; omega) (by first | omega | (simp -implicitDefEqProofs only [push_cast, sevalprocAttr, eq_self]; first | done | omega)) ?_; intro g a' hs' ha' hep hfr) | fail)
  obtain ⟨q1, q2⟩ := MO.app (h0 := h0) (Ext.tr hX (by repeat (first | exact Ext.refl _ | assumption | refine Ext.tick ?_ | refine Ext.push ?_ (by omega) _ | refine Ext.put ?_ (by omega) _ | refine Ext.kill ?_ (by omega) | refine Ext.killA ?_ (by assumption) | refine Ext.setm ?_ _ _))) (by simp -implicitDefEqProofs only [push_cast, sevalprocAttr, eq_self]; omega) hi (by simp only; omega) hep hfr
  exact hQ _ (MO.mk (g := g) e0 e3 rfl ⟨e8, e9⟩ hs' (by rw [q2]; simp -implicitDefEqProofs (disch := omega) only [yH, yM, yI, yG, hb, YA]) q1 (by rw [hep]; exact (by first | omega | (simp -implicitDefEqProofs only [push_cast, sevalprocAttr, eq_self]; first | done | omega))) (fun q hq => by have := ha' q hq; rw [this]; simp only; omega) (by repeat (first | exact Ext.refl _ | assumption | refine Ext.tick ?_ | refine Ext.push ?_ (by omega) _ | refine Ext.put ?_ (by omega) _ | refine Ext.kill ?_ (by omega) | refine Ext.killA ?_ (by assumption) | refine Ext.setm ?_ _ _)) rfl)

end Go.Proofs.Hx

set_option linter.unusedVariables false
set_option linter.unusedSimpArgs false
namespace Go.Proofs.Hx
open Go Go.Proofs
attribute [local irreducible] yS awp opK goV goM qB yZ qH yW HV HVF HC
def rOb : ACode := .seq (.seq (.ops r72_9 []) (.cond (.t 30) (.ops r72_10 []) .skip)) (.ops r72_11 [])
theorem rO_eq : l72_0 = .seq (.seq (.ops r72_8 []) (.cond (.t 24) .skip (.exit 2))) (.seq (.block 3 rOb) (.ops r72_12 [])) := rfl
theorem ijE_eq (l : List Opn) (t : Tab) (i j : Nat) : ijE l t i j = (if fromS (YM l j) (opAt l j) i = true then [⟨i, j, latS t (opAt l i), 0, 0⟩] else []) ++ pairE t (opAt l i) (opAt l j) i j 0 (meetS (opAt l i) (opAt l j) ((l.drop i).take (j - i))) := rfl
attribute [local irreducible] rOb
set_option maxHeartbeats 1000000 in
theorem f72'b {h0 : Hp} {l : List Opn} {t : Tab} {j : Nat} (hj : j < l.length) (hl : ∀ o ∈ l, o.ok) (ht : YP t) (hn : l.length ≤ 1024) {σ : St} (hM : MO h0 7 l t (onceE l t j) (exJ j) σ) {Q : AEx → St → Prop} (h9 : σ.env 9 = i64 0)
    (hQ : ∀ σ', MO h0 7 l t (onceE l t (j + 1)) (exJ j) σ' → Q (.exit 2) σ') : awp Try.prog (.loop l72_0) Q σ := by
  have hol := onceE_len l t l.length j (by omega)
  have hmul : 5 * l.length * j ≤ 5 * 1024 * 1024 := Nat.mul_le_mul (by omega) (by omega)
  refine qE (fun nn σ => ∃ i, nn = j - i ∧ i ≤ j ∧ MO h0 7 l t (onceE l t j ++ toE l t j i) (exIJ i j) σ) j ⟨0, by omega, by omega, ?_⟩ ?_
  · obtain ⟨a, e0, e3, eo, e8, r⟩ := hM
    exact ⟨a, e0, e3, eo, ⟨e8, h9⟩, by rw [show toE l t j 0 = [] from rfl, List.append_nil]; exact r⟩
  rintro nn ⟨env, h⟩ ⟨i, rfl, hi, hM⟩
  have hM' := hM
  obtain ⟨a, e0, e3, e7, ⟨e8, e9⟩, hs, hb, hX, hp, hia⟩ := hM
  simp only at e0 e3 e7 e8 e9 hs hb hX hp
  have e1 : True := trivial; have e4 : True := trivial; have e5 : True := trivial; have e6 : True := trivial
  rw [rO_eq]
  have hmx : ∀ env, exIJ i j env → True := fun _ _ => trivial
  by_cases hlt : i < j
  · have hd : decide ((i : Int) < (j : Int)) = true := dT (by omega)
    have main : ∀ (Q : AEx → St → Prop) (env' : Nat → AV) (h' : Hp), env' 0 = .row (l.map opC) → env' 3 = .ptr (h0.ep + 1 + 1, 3) 0 → env' 7 = a → env' 8 = i64 j → env' 9 = i64 i → Ext h h' → (∀ σ', MO h0 7 l t (onceE l t j ++ toE l t j (i + 1)) (exIJ i j) σ' → Q .normal σ') → awp Try.prog rOb Q ⟨env', h'⟩ := by
      intro Q env' h' g0 g3 go g8 g9 hx hQ
      have hM2 := MO.mk (h0 := h0) (o := 7) (l := l) (t := t) (ex := exIJ i j) g0 g3 go ⟨g8, g9⟩ hs hb hX hp hia hx rfl
      have hl1 := toE_len l t j i
      unfold rOb
      refine awp_cut _ (f72'1 (by omega) hj hl ht hn (by rw [List.length_append]; omega) hM2) fun σ' hM3 => ?_
      refine f72'2 (by omega) hj hlt hl ht hn (by simp only [List.length_append]; split <;> simp <;> omega) hM3 fun σ' hM4 => hQ σ' ?_
      have hE : onceE l t j ++ toE l t j (i + 1) = (onceE l t j ++ toE l t j i ++ if fromS (YM l j) (opAt l j) i = true then [⟨i, j, latS t (opAt l i), 0, 0⟩] else []) ++ pairE t (opAt l i) (opAt l j) i j 0 (meetS (opAt l i) (opAt l j) ((l.drop i).take (j - i))) := by
        rw [show toE l t j (i + 1) = toE l t j i ++ ijE l t i j from rfl, ijE_eq]
        simp only [List.append_assoc]
      rw [hE]
      exact hM4
    repeat' (first | ((try clear hf); with_reducible refine yE fun env K hE hK hf => ?_; have n := cj9 hE 0 1 3 4 5 6 7 8 9; simp -implicitDefEqProofs only [push_cast, reduceIte, Nat.reduceEqDiff, e0, e1, e3, e4, e5, e6, e7, e8, e9] at n; clear hE e0 e1 e3 e4 e5 e6 e7 e8 e9; obtain ⟨e0, e1, e3, e4, e5, e6, e7, e8, e9⟩ := n) | (with_reducible refine hK _ _ ?_; clear hK K) | (with_reducible first | (refine Zi ?_; constructor) | refine yC (by decide) ?_ | refine yJ (by assumption) ?_ | refine yL (by assumption) ?_) | (refine yD rfl ?_) | (simp -implicitDefEqProofs only [push_cast, sevalprocAttr, eq_self, e0, e1, e3, e4, e5, e6, e7, e8, e9, hd]) | (simp -implicitDefEqProofs (disch := omega) only [yH, yM, yI, yG, e0, e1, e3, e4, e5, e6, e7, e8, e9, hd]) | (with_reducible refine yO ?_ ?_) | (refine yF rfl (fun bb => ?_) (fun bb => ?_) <;> (first | have bp := oT bb | have bp := oF bb | skip) <;> simp only [bb]) | (with_reducible refine yK (fun bb => ?_) (fun bb => ?_) <;> (first | have bp := oT bb | have bp := oF bb | skip)) | ((with_reducible refine And.intro ?_ ?_); omega) | (refine main _ _ _ e0 e3 e7 e8 e9 (by repeat (first | exact Ext.refl _ | assumption | refine Ext.tick ?_ | refine Ext.push ?_ (by omega) _ | refine Ext.put ?_ (by omega) _ | refine Ext.kill ?_ (by omega) | refine Ext.killA ?_ (by assumption) | refine Ext.setm ?_ _ _)) ?_) | fail)
    rintro ⟨env, h⟩ hM
    obtain ⟨a, e0, e3, e7, ⟨e8, e9⟩, hs, hb, hX, hp, hia⟩ := hM
    simp only at e0 e3 e7 e8 e9 hs hb hX hp
    have e1 : True := trivial; have e4 : True := trivial; have e5 : True := trivial; have e6 : True := trivial
    repeat' (first | ((try clear hf); with_reducible refine yE fun env K hE hK hf => ?_; have n := cj9 hE 0 1 3 4 5 6 7 8 9; simp -implicitDefEqProofs only [push_cast, reduceIte, Nat.reduceEqDiff, e0, e1, e3, e4, e5, e6, e7, e8, e9] at n; clear hE e0 e1 e3 e4 e5 e6 e7 e8 e9; obtain ⟨e0, e1, e3, e4, e5, e6, e7, e8, e9⟩ := n) | (with_reducible refine hK _ _ ?_; clear hK K) | (with_reducible first | (refine Zi ?_; constructor) | refine yC (by decide) ?_ | refine yJ (by assumption) ?_ | refine yL (by assumption) ?_) | (refine yD rfl ?_) | (simp -implicitDefEqProofs only [push_cast, sevalprocAttr, eq_self, e0, e1, e3, e4, e5, e6, e7, e8, e9]) | (simp -implicitDefEqProofs (disch := omega) only [yH, yM, yI, yG, e0, e1, e3, e4, e5, e6, e7, e8, e9]) | (with_reducible refine yO ?_ ?_) | (refine yF rfl (fun bb => ?_) (fun bb => ?_) <;> (first | have bp := oT bb | have bp := oF bb | skip) <;> simp only [bb]) | (with_reducible refine yK (fun bb => ?_) (fun bb => ?_) <;> (first | have bp := oT bb | have bp := oF bb | skip)) | ((with_reducible refine And.intro ?_ ?_); omega) | fail)
    refine ⟨j - (i + 1), by omega, i + 1, rfl, by omega, MO.mk e0 e3 e7 ⟨e8, ?_⟩ hs hb hX hp hia (by repeat (first | exact Ext.refl _ | assumption | refine Ext.tick ?_ | refine Ext.push ?_ (by omega) _ | refine Ext.put ?_ (by omega) _ | refine Ext.kill ?_ (by omega) | refine Ext.killA ?_ (by assumption) | refine Ext.setm ?_ _ _)) rfl⟩
    simp -implicitDefEqProofs only [push_cast, sevalprocAttr, eq_self]
  · have hd : decide ((i : Int) < (j : Int)) = false := dF (by omega)
    obtain rfl : i = j := by omega
    repeat' (first | ((try clear hf); with_reducible refine yE fun env K hE hK hf => ?_; have n := cj9 hE 0 1 3 4 5 6 7 8 9; simp -implicitDefEqProofs only [push_cast, reduceIte, Nat.reduceEqDiff, e0, e1, e3, e4, e5, e6, e7, e8, e9] at n; clear hE e0 e1 e3 e4 e5 e6 e7 e8 e9; obtain ⟨e0, e1, e3, e4, e5, e6, e7, e8, e9⟩ := n) | (with_reducible refine hK _ _ ?_; clear hK K) | (with_reducible first | (refine Zi ?_; constructor) | refine yC (by decide) ?_ | refine yJ (by assumption) ?_ | refine yL (by assumption) ?_) | (refine yD rfl ?_) | (simp -implicitDefEqProofs only [push_cast, sevalprocAttr, eq_self, e0, e1, e3, e4, e5, e6, e7, e8, e9, hd]) | (simp -implicitDefEqProofs (disch := omega) only [yH, yM, yI, yG, e0, e1, e3, e4, e5, e6, e7, e8, e9, hd]) | (with_reducible refine yO ?_ ?_) | (refine yF rfl (fun bb => ?_) (fun bb => ?_) <;> (first | have bp := oT bb | have bp := oF bb | skip) <;> simp only [bb]) | (with_reducible refine yK (fun bb => ?_) (fun bb => ?_) <;> (first | have bp := oT bb | have bp := oF bb | skip)) | ((with_reducible refine And.intro ?_ ?_); omega) | (refine hQ _ ?_) | fail)
    exact MO.mk e0 e3 e7 e8 hs hb hX hp hia (by repeat (first | exact Ext.refl _ | assumption | refine Ext.tick ?_ | refine Ext.push ?_ (by omega) _ | refine Ext.put ?_ (by omega) _ | refine Ext.kill ?_ (by omega) | refine Ext.killA ?_ (by assumption) | refine Ext.setm ?_ _ _)) rfl

end Go.Proofs.Hx

set_option linter.unusedVariables false
set_option linter.unusedSimpArgs false
namespace Go.Proofs.Hx
open Go Go.Proofs
attribute [local irreducible] yS awp opK goV goM qB yZ qH yW HV HVF HC
set_option maxHeartbeats 1000000 in
theorem f72 {h0 : Hp} {l : List Opn} {t : Tab} (hl : ∀ o ∈ l, o.ok) :
    HC Try.prog 72 [.row (l.map opC), .agg (tabC t)] h0 fun r h' => Ext h0 h' ∧ ((errR l t ≠ 0 ∧ r = .tup [.nil, i64 (errR l t)]) ∨ (errR l t = 0 ∧ ∃ out, r = .tup [out, i64 0] ∧ OutR h' out (onceE l t l.length) ∧ ∀ x, idOf out = some x → h0.ep < x.1)) := by
  refine YD yX cf72 (by simp) fun hF => ?_
  unfold ac72 re72
  refine yQ fun env hE => ?_; obtain ⟨e0, e1, e3, e4, e5, e6, e7, e8, e9⟩ := cj9 hE 0 1 3 4 5 6 7 8 9; simp -implicitDefEqProofs only [push_cast] at e0 e1 e3 e4 e5 e6 e7 e8 e9; clear hE
  by_cases hR : errR l t = 0
  rotate_left
  · have hd : decide (errR l t ≠ 0) = true := dT hR
    repeat' (first | ((try clear hf); with_reducible refine yE fun env K hE hK hf => ?_; have n := cj9 hE 0 1 3 4 5 6 7 8 9; simp -implicitDefEqProofs only [push_cast, reduceIte, Nat.reduceEqDiff, e0, e1, e3, e4, e5, e6, e7, e8, e9] at n; clear hE e0 e1 e3 e4 e5 e6 e7 e8 e9; obtain ⟨e0, e1, e3, e4, e5, e6, e7, e8, e9⟩ := n) | (with_reducible refine hK _ _ ?_; clear hK K) | (with_reducible first | (refine Zi ?_; constructor) | refine yC (by decide) ?_ | refine yJ (by assumption) ?_ | refine yL (by assumption) ?_) | (refine yD rfl ?_) | (simp -implicitDefEqProofs only [push_cast, sevalprocAttr, eq_self, e0, e1, e3, e4, e5, e6, e7, e8, e9, hF.at, hd]) | (simp -implicitDefEqProofs (disch := omega) only [yH, yM, yI, yG, e0, e1, e3, e4, e5, e6, e7, e8, e9, hF.at, hd]) | (with_reducible refine yO ?_ ?_) | (refine yF rfl (fun bb => ?_) (fun bb => ?_) <;> (first | have bp := oT bb | have bp := oF bb | skip) <;> simp only [bb]) | (with_reducible refine yK (fun bb => ?_) (fun bb => ?_) <;> (first | have bp := oT bb | have bp := oF bb | skip)) | ((with_reducible refine And.intro ?_ ?_); omega) | (refine yN (f90 l t hl) ?_) | fail)
    exact ⟨(by repeat (first | exact Ext.refl _ | assumption | refine Ext.tick ?_ | refine Ext.push ?_ (by omega) _ | refine Ext.put ?_ (by omega) _ | refine Ext.kill ?_ (by omega) | refine Ext.killA ?_ (by assumption) | refine Ext.setm ?_ _ _)), .inl hR⟩
  obtain ⟨ht, hn, _⟩ := errR_ok hR
  have hd0 : decide (errR l t ≠ 0) = false := dF (fun h => h hR)
  repeat' (first | ((try clear hf); with_reducible refine yE fun env K hE hK hf => ?_; have n := cj9 hE 0 1 3 4 5 6 7 8 9; simp -implicitDefEqProofs only [push_cast, reduceIte, Nat.reduceEqDiff, e0, e1, e3, e4, e5, e6, e7, e8, e9] at n; clear hE e0 e1 e3 e4 e5 e6 e7 e8 e9; obtain ⟨e0, e1, e3, e4, e5, e6, e7, e8, e9⟩ := n) | (with_reducible refine hK _ _ ?_; clear hK K) | (with_reducible first | (refine Zi ?_; constructor) | refine yC (by decide) ?_ | refine yJ (by assumption) ?_ | refine yL (by assumption) ?_) | (refine yD rfl ?_) | (simp -implicitDefEqProofs only [push_cast, sevalprocAttr, eq_self, e0, e1, e3, e4, e5, e6, e7, e8, e9, hF.at, hd0]) | (simp -implicitDefEqProofs (disch := omega) only [yH, yM, yI, yG, e0, e1, e3, e4, e5, e6, e7, e8, e9, hF.at, hd0]) | (with_reducible refine yO ?_ ?_) | (refine yF rfl (fun bb => ?_) (fun bb => ?_) <;> (first | have bp := oT bb | have bp := oF bb | skip) <;> simp only [bb]) | (with_reducible refine yK (fun bb => ?_) (fun bb => ?_) <;> (first | have bp := oT bb | have bp := oF bb | skip)) | ((with_reducible refine And.intro ?_ ?_); omega) | (refine yN (f90 l t hl) ?_) | fail)
  refine qE (fun nn σ => ∃ j, nn = l.length - j ∧ j ≤ l.length ∧ MO h0 7 l t (onceE l t j) (exJ j) σ) l.length ⟨0, by omega, by omega, MO.mk e0 e3 e7 (by show _ = _; simp -implicitDefEqProofs only [push_cast, sevalprocAttr, eq_self]) (SlO.nil _ _ _) (by simp -implicitDefEqProofs only [push_cast, sevalprocAttr, eq_self]) (by repeat (first | exact Ext.refl _ | assumption | refine Ext.tick ?_ | refine Ext.push ?_ (by omega) _ | refine Ext.put ?_ (by omega) _ | refine Ext.kill ?_ (by omega) | refine Ext.killA ?_ (by assumption) | refine Ext.setm ?_ _ _)) (by first | omega | (simp -implicitDefEqProofs only [push_cast, sevalprocAttr, eq_self]; first | done | omega)) (fun x hx => by simp [idOf] at hx) (Ext.refl _) rfl⟩ ?_
  rintro nn ⟨env, h⟩ ⟨j, rfl, hj, a, e0, e3, e7, e8, hs, hb, hX, hp, hia⟩
  simp only at e0 e3 e7 e8 hs hb hX hp
  unfold exJ at e8
  have e1 : True := trivial; have e4 : True := trivial; have e5 : True := trivial; have e6 : True := trivial; have e9 : True := trivial
  unfold l72_1
  by_cases hlt : j < l.length
  · have hd : decide ((j : Int) < (l.length : Int)) = true := dT (by omega)
    repeat' (first | ((try clear hf); with_reducible refine yE fun env K hE hK hf => ?_; have n := cj9 hE 0 1 3 4 5 6 7 8 9; simp -implicitDefEqProofs only [push_cast, reduceIte, Nat.reduceEqDiff, e0, e1, e3, e4, e5, e6, e7, e8, e9] at n; clear hE e0 e1 e3 e4 e5 e6 e7 e8 e9; obtain ⟨e0, e1, e3, e4, e5, e6, e7, e8, e9⟩ := n) | (with_reducible refine hK _ _ ?_; clear hK K) | (with_reducible first | (refine Zi ?_; constructor) | refine yC (by decide) ?_ | refine yJ (by assumption) ?_ | refine yL (by assumption) ?_) | (refine yD rfl ?_) | (simp -implicitDefEqProofs only [push_cast, sevalprocAttr, eq_self, e0, e1, e3, e4, e5, e6, e7, e8, e9, hd]) | (simp -implicitDefEqProofs (disch := omega) only [yH, yM, yI, yG, e0, e1, e3, e4, e5, e6, e7, e8, e9, hd]) | (with_reducible refine yO ?_ ?_) | (refine yF rfl (fun bb => ?_) (fun bb => ?_) <;> (first | have bp := oT bb | have bp := oF bb | skip) <;> simp only [bb]) | (with_reducible refine yK (fun bb => ?_) (fun bb => ?_) <;> (first | have bp := oT bb | have bp := oF bb | skip)) | ((with_reducible refine And.intro ?_ ?_); omega) | fail)
    refine f72'b (h0 := h0) hlt hl ht hn ?_ ?_ ?_
    · exact MO.mk e0 e3 e7 e8 hs hb hX hp hia (by repeat (first | exact Ext.refl _ | assumption | refine Ext.tick ?_ | refine Ext.push ?_ (by omega) _ | refine Ext.put ?_ (by omega) _ | refine Ext.kill ?_ (by omega) | refine Ext.killA ?_ (by assumption) | refine Ext.setm ?_ _ _)) rfl
    · rfl
    rintro ⟨env, h⟩ ⟨a, e0, e3, e7, e8, hs, hb, hX, hp, hia⟩
    simp only at e0 e3 e7 e8 hs hb hX hp
    unfold exJ at e8
    have e1 : True := trivial; have e4 : True := trivial; have e5 : True := trivial; have e6 : True := trivial; have e9 : True := trivial
    repeat' (first | ((try clear hf); with_reducible refine yE fun env K hE hK hf => ?_; have n := cj9 hE 0 1 3 4 5 6 7 8 9; simp -implicitDefEqProofs only [push_cast, reduceIte, Nat.reduceEqDiff, e0, e1, e3, e4, e5, e6, e7, e8, e9] at n; clear hE e0 e1 e3 e4 e5 e6 e7 e8 e9; obtain ⟨e0, e1, e3, e4, e5, e6, e7, e8, e9⟩ := n) | (with_reducible refine hK _ _ ?_; clear hK K) | (with_reducible first | (refine Zi ?_; constructor) | refine yC (by decide) ?_ | refine yJ (by assumption) ?_ | refine yL (by assumption) ?_) | (refine yD rfl ?_) | (simp -implicitDefEqProofs only [push_cast, sevalprocAttr, eq_self, e0, e1, e3, e4, e5, e6, e7, e8, e9]) | (simp -implicitDefEqProofs (disch := omega) only [yH, yM, yI, yG, e0, e1, e3, e4, e5, e6, e7, e8, e9]) | (with_reducible refine yO ?_ ?_) | (refine yF rfl (fun bb => ?_) (fun bb => ?_) <;> (first | have bp := oT bb | have bp := oF bb | skip) <;> simp only [bb]) | (with_reducible refine yK (fun bb => ?_) (fun bb => ?_) <;> (first | have bp := oT bb | have bp := oF bb | skip)) | ((with_reducible refine And.intro ?_ ?_); omega) | fail)
    refine ⟨l.length - (j + 1), by omega, j + 1, rfl, by omega, MO.mk e0 e3 e7 (by show _ = _; simp -implicitDefEqProofs only [push_cast, sevalprocAttr, eq_self]) hs hb hX hp hia (by repeat (first | exact Ext.refl _ | assumption | refine Ext.tick ?_ | refine Ext.push ?_ (by omega) _ | refine Ext.put ?_ (by omega) _ | refine Ext.kill ?_ (by omega) | refine Ext.killA ?_ (by assumption) | refine Ext.setm ?_ _ _)) rfl⟩
  · have hd : decide ((j : Int) < (l.length : Int)) = false := dF (by omega)
    obtain rfl : j = l.length := by omega
    repeat' (first | ((try clear hf); with_reducible refine yE fun env K hE hK hf => ?_; have n := cj9 hE 0 1 3 4 5 6 7 8 9; simp -implicitDefEqProofs only [push_cast, reduceIte, Nat.reduceEqDiff, e0, e1, e3, e4, e5, e6, e7, e8, e9] at n; clear hE e0 e1 e3 e4 e5 e6 e7 e8 e9; obtain ⟨e0, e1, e3, e4, e5, e6, e7, e8, e9⟩ := n) | (with_reducible refine hK _ _ ?_; clear hK K) | (with_reducible first | (refine Zi ?_; constructor) | refine yC (by decide) ?_ | refine yJ (by assumption) ?_ | refine yL (by assumption) ?_) | (refine yD rfl ?_) | (simp -implicitDefEqProofs only [push_cast, sevalprocAttr, eq_self, e0, e1, e3, e4, e5, e6, e7, e8, e9, hd]) | (simp -implicitDefEqProofs (disch := omega) only [yH, yM, yI, yG, e0, e1, e3, e4, e5, e6, e7, e8, e9, hd]) | (with_reducible refine yO ?_ ?_) | (refine yF rfl (fun bb => ?_) (fun bb => ?_) <;> (first | have bp := oT bb | have bp := oF bb | skip) <;> simp only [bb]) | (with_reducible refine yK (fun bb => ?_) (fun bb => ?_) <;> (first | have bp := oT bb | have bp := oF bb | skip)) | ((with_reducible refine And.intro ?_ ?_); omega) | fail)
    exact ⟨(by repeat (first | exact Ext.refl _ | assumption | refine Ext.tick ?_ | refine Ext.push ?_ (by omega) _ | refine Ext.put ?_ (by omega) _ | refine Ext.kill ?_ (by omega) | refine Ext.killA ?_ (by assumption) | refine Ext.setm ?_ _ _)), .inr ⟨hR, a, rfl, (hs.ext (show Ext h _ from (by repeat (first | exact Ext.refl _ | assumption | refine Ext.tick ?_ | refine Ext.push ?_ (by omega) _ | refine Ext.put ?_ (by omega) _ | refine Ext.kill ?_ (by omega) | refine Ext.killA ?_ (by assumption) | refine Ext.setm ?_ _ _)))).st, fun x hx => by have := hia x hx; omega⟩⟩
end Go.Proofs.Hx

set_option linter.unusedVariables false
set_option linter.unusedSimpArgs false
namespace Go.Proofs.Hx
open Go Go.Proofs
attribute [local irreducible] yS awp opK goV goM qB yZ qH yW HV HVF HC
/-! ### Reference 04 Uses, reference 14 Check -/
def usesB (l : List Opn) (t : Tab) : Bool := l.any fun o => (clsS o.k).2 && decide (t.u (clsN o) = 0)
theorem f82 (l : List Opn) (t : Tab) (hl : l.length ≤ 1000000) : HV Try.prog 82 [.row (l.map opC), .agg (tabC t)] (bl (usesB l t)) := by
  refine yT yX cf82 (by simp) (lack_args l t) ?_ rfl
  unfold ac82 re82
  refine yQ fun env hE => ?_; obtain ⟨e0, e1, e3, e4, e5, e6, e7⟩ := cj7 hE 0 1 3 4 5 6 7; simp -implicitDefEqProofs only [push_cast] at e0 e1 e3 e4 e5 e6 e7; clear hE
  repeat' (first | ((try clear hf); with_reducible refine yE fun env K hE hK hf => ?_; have n := cj7 hE 0 1 3 4 5 6 7; simp -implicitDefEqProofs only [push_cast, reduceIte, Nat.reduceEqDiff, e0, e1, e3, e4, e5, e6, e7] at n; clear hE e0 e1 e3 e4 e5 e6 e7; obtain ⟨e0, e1, e3, e4, e5, e6, e7⟩ := n) | (with_reducible refine hK _ _ ?_; clear hK K) | (with_reducible first | (refine Zi ?_; constructor) | refine yC (by decide) ?_ | refine yJ (by assumption) ?_ | refine yL (by assumption) ?_) | (refine yD rfl ?_) | (simp -implicitDefEqProofs only [push_cast, sevalprocAttr, eq_self, e0, e1, e3, e4, e5, e6, e7, yU]) | (simp -implicitDefEqProofs (disch := omega) only [yH, yM, yI, yG, e0, e1, e3, e4, e5, e6, e7, yU]) | (with_reducible refine yO ?_ ?_) | (refine yF rfl (fun bb => ?_) (fun bb => ?_) <;> (first | have bp := oT bb | have bp := oF bb | skip) <;> simp only [bb]) | (with_reducible refine yK (fun bb => ?_) (fun bb => ?_) <;> (first | have bp := oT bb | have bp := oF bb | skip)) | ((with_reducible refine And.intro ?_ ?_); omega) | fail)
  refine yQ fun env hE => ?_; have n := cj7 hE 0 1 3 4 5 6 7; simp -implicitDefEqProofs only [push_cast, reduceIte, Nat.reduceEqDiff, e0, e1, e3, e4, e5, e6, e7] at n; clear hE e0 e1 e3 e4 e5 e6 e7; obtain ⟨e0, e1, e3, e4, e5, e6, e7⟩ := n; have E82_0_0 := e0; have E82_0_1 := e1; have E82_0_3 := e3
  refine qE (fun nn σ => ∃ (k : Nat), nn = l.length - k ∧ σ.env 0 = env 0 ∧ σ.env 1 = env 1 ∧ σ.env 3 = env 3 ∧ σ.env 5 = i64 k ∧ (k ≤ l.length ∧ (∀ o ∈ l.take k, ¬ ((clsS o.k).2 = true ∧ t.u (clsN o) = 0)) ∧ σ.h.hp (2, 3) = some ⟨true, tabC t⟩ ∧ 2 ≤ σ.h.ep)) _ ⟨0, rfl, rfl, rfl, rfl, by refine e5.trans ?_; first | rfl | exact yP (by omega) | (simp -implicitDefEqProofs (disch := omega) only [yG]; first | rfl | exact yP (by omega)), ?_⟩ ?_
  · exact ⟨by omega, by simp, by simp -implicitDefEqProofs only [push_cast, sevalprocAttr, eq_self], by simp -implicitDefEqProofs only [push_cast, sevalprocAttr, eq_self]⟩
  clear e0 e1 e3 e4 e5 e6 e7; rintro nn ⟨env, h⟩ ⟨k, rfl, q0, q1, q3, e5, hI⟩; simp only at q0 q1 q3 e5 hI; (first | have e0 := q0.trans E82_0_0 | have e0 := True.intro); (first | have e1 := q1.trans E82_0_1 | have e1 := True.intro); (first | have e3 := q3.trans E82_0_3 | have e3 := True.intro); clear q0 q1 q3; have e4 := True.intro; have e6 := True.intro; have e7 := True.intro
  obtain ⟨hk, hno, hb3, hep⟩ := hI
  unfold l82_0
  (first | refine yV fun hF => ?_ | refine qM fun hF => ?_ | refine qL fun hF => ?_)
  by_cases hlt : k < l.length
  · have hd : decide ((k : Int) < (l.length : Int)) = true := dT (by omega)
    have hr := qU hlt .i64
    have hq := tab_u t (clsN_lt l[k])
    have hc := clsN_eq l[k]
    have hc4 := clsN_lt l[k]
    have htk : l.take (k + 1) = l.take k ++ [l[k]] := by rw [List.take_succ_eq_append_getElem hlt]
    have hmem : l[k] ∈ l := List.getElem_mem hlt
    generalize l[k] = o at *
    by_cases h1 : (clsS o.k).2 = true
    · by_cases h0 : t.u (clsN o) = 0
      · have hd2 : decide (t.u (clsN o) = 0) = true := dT h0
        have hE : usesB l t = true := by simp only [usesB, List.any_eq_true, Bool.and_eq_true, decide_eq_true_eq]; exact ⟨o, hmem, h1, h0⟩
        repeat' (first | ((try clear hf); with_reducible refine yE fun env K hE hK hf => ?_; have n := cj7 hE 0 1 3 4 5 6 7; simp -implicitDefEqProofs only [push_cast, reduceIte, Nat.reduceEqDiff, e0, e1, e3, e4, e5, e6, e7] at n; clear hE e0 e1 e3 e4 e5 e6 e7; obtain ⟨e0, e1, e3, e4, e5, e6, e7⟩ := n) | (with_reducible refine hK _ _ ?_; clear hK K) | (with_reducible first | (refine Zi ?_; constructor) | refine yC (by decide) ?_ | refine yJ (by assumption) ?_ | refine yL (by assumption) ?_) | (refine yD rfl ?_) | (simp -implicitDefEqProofs only [push_cast, sevalprocAttr, eq_self, e0, e1, e3, e4, e5, e6, e7, hd, hF.at, hr, hb3, hq, hd2, hE, op_0, hc, h1]) | (simp -implicitDefEqProofs (disch := omega) only [yH, yM, yI, yG, e0, e1, e3, e4, e5, e6, e7, hd, hF.at, hr, hb3, hq, hd2, hE, op_0, hc, h1]) | (with_reducible refine yO ?_ ?_) | (refine yF rfl (fun bb => ?_) (fun bb => ?_) <;> (first | have bp := oT bb | have bp := oF bb | skip) <;> simp only [bb]) | (with_reducible refine yK (fun bb => ?_) (fun bb => ?_) <;> (first | have bp := oT bb | have bp := oF bb | skip)) | ((with_reducible refine And.intro ?_ ?_); omega) | (refine yN (f51 _) ?_) | fail)
      · have hd2 : decide (t.u (clsN o) = 0) = false := dF h0
        repeat' (first | ((try clear hf); with_reducible refine yE fun env K hE hK hf => ?_; have n := cj7 hE 0 1 3 4 5 6 7; simp -implicitDefEqProofs only [push_cast, reduceIte, Nat.reduceEqDiff, e0, e1, e3, e4, e5, e6, e7] at n; clear hE e0 e1 e3 e4 e5 e6 e7; obtain ⟨e0, e1, e3, e4, e5, e6, e7⟩ := n) | (with_reducible refine hK _ _ ?_; clear hK K) | (with_reducible first | (refine Zi ?_; constructor) | refine yC (by decide) ?_ | refine yJ (by assumption) ?_ | refine yL (by assumption) ?_) | (refine yD rfl ?_) | (simp -implicitDefEqProofs only [push_cast, sevalprocAttr, eq_self, e0, e1, e3, e4, e5, e6, e7, hd, hF.at, hr, hb3, hq, hd2, op_0, hc, h1]) | (simp -implicitDefEqProofs (disch := omega) only [yH, yM, yI, yG, e0, e1, e3, e4, e5, e6, e7, hd, hF.at, hr, hb3, hq, hd2, op_0, hc, h1]) | (with_reducible refine yO ?_ ?_) | (refine yF rfl (fun bb => ?_) (fun bb => ?_) <;> (first | have bp := oT bb | have bp := oF bb | skip) <;> simp only [bb]) | (with_reducible refine yK (fun bb => ?_) (fun bb => ?_) <;> (first | have bp := oT bb | have bp := oF bb | skip)) | ((with_reducible refine And.intro ?_ ?_); omega) | (refine yN (f51 _) ?_) | fail)
        refine ⟨_, ?_, k + 1, rfl, E82_0_0.symm, E82_0_1.symm, E82_0_3.symm, by first | rfl | exact yP (by omega) | (simp -implicitDefEqProofs (disch := omega) only [yG]; first | rfl | exact yP (by omega)), ?_⟩
        · omega
        · refine ⟨by omega, ?_⟩
          rw [htk]
          intro x hx
          simp only [List.mem_append, List.mem_singleton] at hx
          rcases hx with hx | hx
          · exact hno x hx
          · subst hx; exact fun h => h0 h.2
    · have h1' : (clsS o.k).2 = false := by simpa using h1
      repeat' (first | ((try clear hf); with_reducible refine yE fun env K hE hK hf => ?_; have n := cj7 hE 0 1 3 4 5 6 7; simp -implicitDefEqProofs only [push_cast, reduceIte, Nat.reduceEqDiff, e0, e1, e3, e4, e5, e6, e7] at n; clear hE e0 e1 e3 e4 e5 e6 e7; obtain ⟨e0, e1, e3, e4, e5, e6, e7⟩ := n) | (with_reducible refine hK _ _ ?_; clear hK K) | (with_reducible first | (refine Zi ?_; constructor) | refine yC (by decide) ?_ | refine yJ (by assumption) ?_ | refine yL (by assumption) ?_) | (refine yD rfl ?_) | (simp -implicitDefEqProofs only [push_cast, sevalprocAttr, eq_self, e0, e1, e3, e4, e5, e6, e7, hd, hF.at, hr, hb3, hq, op_0, hc, h1']) | (simp -implicitDefEqProofs (disch := omega) only [yH, yM, yI, yG, e0, e1, e3, e4, e5, e6, e7, hd, hF.at, hr, hb3, hq, op_0, hc, h1']) | (with_reducible refine yO ?_ ?_) | (refine yF rfl (fun bb => ?_) (fun bb => ?_) <;> (first | have bp := oT bb | have bp := oF bb | skip) <;> simp only [bb]) | (with_reducible refine yK (fun bb => ?_) (fun bb => ?_) <;> (first | have bp := oT bb | have bp := oF bb | skip)) | ((with_reducible refine And.intro ?_ ?_); omega) | (refine yN (f51 _) ?_) | fail)
      refine ⟨_, ?_, k + 1, rfl, E82_0_0.symm, E82_0_1.symm, E82_0_3.symm, by first | rfl | exact yP (by omega) | (simp -implicitDefEqProofs (disch := omega) only [yG]; first | rfl | exact yP (by omega)), ?_⟩
      · omega
      · refine ⟨by omega, ?_⟩
        rw [htk]
        intro x hx
        simp only [List.mem_append, List.mem_singleton] at hx
        rcases hx with hx | hx
        · exact hno x hx
        · subst hx; exact fun h => h1 h.1
  · have hd : decide ((k : Int) < (l.length : Int)) = false := dF (by omega)
    obtain rfl : k = l.length := by omega
    have hE : usesB l t = false := by
      rw [List.take_length] at hno
      simp only [usesB, List.any_eq_false, Bool.and_eq_true, decide_eq_true_eq]
      exact hno
    repeat' (first | ((try clear hf); with_reducible refine yE fun env K hE hK hf => ?_; have n := cj7 hE 0 1 3 4 5 6 7; simp -implicitDefEqProofs only [push_cast, reduceIte, Nat.reduceEqDiff, e0, e1, e3, e4, e5, e6, e7] at n; clear hE e0 e1 e3 e4 e5 e6 e7; obtain ⟨e0, e1, e3, e4, e5, e6, e7⟩ := n) | (with_reducible refine hK _ _ ?_; clear hK K) | (with_reducible first | (refine Zi ?_; constructor) | refine yC (by decide) ?_ | refine yJ (by assumption) ?_ | refine yL (by assumption) ?_) | (refine yD rfl ?_) | (simp -implicitDefEqProofs only [push_cast, sevalprocAttr, eq_self, e0, e1, e3, e4, e5, e6, e7, hd, hE]) | (simp -implicitDefEqProofs (disch := omega) only [yH, yM, yI, yG, e0, e1, e3, e4, e5, e6, e7, hd, hE]) | (with_reducible refine yO ?_ ?_) | (refine yF rfl (fun bb => ?_) (fun bb => ?_) <;> (first | have bp := oT bb | have bp := oF bb | skip) <;> simp only [bb]) | (with_reducible refine yK (fun bb => ?_) (fun bb => ?_) <;> (first | have bp := oT bb | have bp := oF bb | skip)) | ((with_reducible refine And.intro ?_ ?_); omega) | fail)
/-- How many units of the class c those of the first k that are placed use in the cycle y. -/
def useR (l : List Opn) (t : Tab) (cs : List Int) : Nat → Int → Int → Int
  | 0, _, _ => 0
  | k + 1, c, y => useR l t cs k c y + if c = (clsN (opAt l k) : Int) ∧ 0 ≤ cs.getD k 0 ∧ cs.getD k 0 ≤ y ∧ y < cs.getD k 0 + t.b (clsN (opAt l k)) then 1 else 0
theorem useR_bnd (l : List Opn) (t : Tab) (cs : List Int) : ∀ (k : Nat) (c y : Int), 0 ≤ useR l t cs k c y ∧ useR l t cs k c y ≤ k
  | 0, c, y => by simp [useR]
  | k + 1, c, y => by
    have := useR_bnd l t cs k c y
    simp only [useR]
    split <;> omega
theorem useR_eq (l : List Opn) (t : Tab) (cs : List Int) (h : ∀ x ∈ cs, 0 ≤ x) : ∀ (k : Nat) (c y : Int), k ≤ cs.length → useR l t cs k c y = useN l t cs k c y
  | 0, _, _, _ => rfl
  | k + 1, c, y, hk => by
    simp only [useR, useN, useR_eq l t cs h k c y (by omega)]
    have : 0 ≤ cs.getD k 0 := h _ (by rw [List.getD_eq_getElem?_getD, List.getElem?_eq_getElem (by omega)]; exact List.getElem_mem _)
    simp only [this, true_and]
theorem f85 (l : List Opn) (t : Tab) (cs : List Int) (c : Nat) (y : Int) (hl : l.length ≤ 1000000) (hcs : cs.length = l.length) (hx : ∀ x ∈ cs, -1 ≤ x ∧ x ≤ 100000) (ht : YP t) (hc4 : c < 4) :
    HV Try.prog 85 [.row (l.map opC), .agg (tabC t), .row (cs.map intC), i64 c, i64 y] (i64 (useR l t cs l.length c y)) := by
  refine yT yX cf85 (by simp) (by simp [imms, imm, tab_imms, qK, ints_imms]) ?_ rfl
  unfold ac85 re85
  refine yQ fun env hE => ?_; obtain ⟨e0, e1, e2, e3, e4, e6, e10, e11, e12, e13⟩ := cj10 hE 0 1 2 3 4 6 10 11 12 13; simp -implicitDefEqProofs only [push_cast] at e0 e1 e2 e3 e4 e6 e10 e11 e12 e13; clear hE
  repeat' (first | ((try clear hf); with_reducible refine yE fun env K hE hK hf => ?_; have n := cj10 hE 0 1 2 3 4 6 10 11 12 13; simp -implicitDefEqProofs only [push_cast, reduceIte, Nat.reduceEqDiff, e0, e1, e2, e3, e4, e6, e10, e11, e12, e13] at n; clear hE e0 e1 e2 e3 e4 e6 e10 e11 e12 e13; obtain ⟨e0, e1, e2, e3, e4, e6, e10, e11, e12, e13⟩ := n) | (with_reducible refine hK _ _ ?_; clear hK K) | (with_reducible first | (refine Zi ?_; constructor) | refine yC (by decide) ?_ | refine yJ (by assumption) ?_ | refine yL (by assumption) ?_) | (refine yD rfl ?_) | (simp -implicitDefEqProofs only [push_cast, sevalprocAttr, eq_self, e0, e1, e2, e3, e4, e6, e10, e11, e12, e13, yU]) | (simp -implicitDefEqProofs (disch := omega) only [yH, yM, yI, yG, e0, e1, e2, e3, e4, e6, e10, e11, e12, e13, yU]) | (with_reducible refine yO ?_ ?_) | (refine yF rfl (fun bb => ?_) (fun bb => ?_) <;> (first | have bp := oT bb | have bp := oF bb | skip) <;> simp only [bb]) | (with_reducible refine yK (fun bb => ?_) (fun bb => ?_) <;> (first | have bp := oT bb | have bp := oF bb | skip)) | ((with_reducible refine And.intro ?_ ?_); omega) | fail)
  refine yQ fun env hE => ?_; have n := cj10 hE 0 1 2 3 4 6 10 11 12 13; simp -implicitDefEqProofs only [push_cast, reduceIte, Nat.reduceEqDiff, e0, e1, e2, e3, e4, e6, e10, e11, e12, e13] at n; clear hE e0 e1 e2 e3 e4 e6 e10 e11 e12 e13; obtain ⟨e0, e1, e2, e3, e4, e6, e10, e11, e12, e13⟩ := n; have E85_0_0 := e0; have E85_0_1 := e1; have E85_0_2 := e2; have E85_0_3 := e3; have E85_0_4 := e4; have E85_0_6 := e6; have E85_0_10 := e10
  refine qE (fun nn σ => ∃ (k : Nat), nn = l.length - k ∧ σ.env 0 = env 0 ∧ σ.env 1 = env 1 ∧ σ.env 2 = env 2 ∧ σ.env 3 = env 3 ∧ σ.env 4 = env 4 ∧ σ.env 6 = env 6 ∧ σ.env 10 = env 10 ∧ σ.env 12 = i64 k ∧ σ.env 11 = i64 (useR l t cs k c y) ∧ (k ≤ l.length ∧ σ.h.hp (2, 6) = some ⟨true, tabC t⟩ ∧ 2 ≤ σ.h.ep)) _ ⟨0, rfl, rfl, rfl, rfl, rfl, rfl, rfl, rfl, by refine e12.trans ?_; first | rfl | exact yP (by omega) | (simp -implicitDefEqProofs (disch := omega) only [yG]; first | rfl | exact yP (by omega)), by refine e11.trans ?_; first | rfl | exact yP (by omega) | (simp -implicitDefEqProofs (disch := omega) only [yG]; first | rfl | exact yP (by omega)), ?_⟩ ?_
  · exact ⟨by omega, by simp -implicitDefEqProofs only [push_cast, sevalprocAttr, eq_self], by simp -implicitDefEqProofs only [push_cast, sevalprocAttr, eq_self]⟩
  clear e0 e1 e2 e3 e4 e6 e10 e11 e12 e13; rintro nn ⟨env, h⟩ ⟨k, rfl, q0, q1, q2, q3, q4, q6, q10, e12, e11, hI⟩; simp only at q0 q1 q2 q3 q4 q6 q10 e12 e11 hI; (first | have e0 := q0.trans E85_0_0 | have e0 := True.intro); (first | have e1 := q1.trans E85_0_1 | have e1 := True.intro); (first | have e2 := q2.trans E85_0_2 | have e2 := True.intro); (first | have e3 := q3.trans E85_0_3 | have e3 := True.intro); (first | have e4 := q4.trans E85_0_4 | have e4 := True.intro); (first | have e6 := q6.trans E85_0_6 | have e6 := True.intro); (first | have e10 := q10.trans E85_0_10 | have e10 := True.intro); clear q0 q1 q2 q3 q4 q6 q10; have e13 := True.intro
  obtain ⟨hk, hb3, hep⟩ := hI
  unfold l85_0
  (first | refine yV fun hF => ?_ | refine qM fun hF => ?_ | refine qL fun hF => ?_)
  by_cases hlt : k < l.length
  · have hd : decide ((k : Int) < (l.length : Int)) = true := dT (by omega)
    have hro := qU hlt .i64
    have hr := int_at (l := cs) (k := k) (by omega) .i64
    have hq := tab_b t (clsN_lt l[k])
    have hcl := clsN_eq l[k]
    have hcc := clsN_lt l[k]
    have hU : useR l t cs (k + 1) c y = useR l t cs k c y + if (c : Int) = (clsN l[k] : Int) ∧ 0 ≤ cs.getD k 0 ∧ cs.getD k 0 ≤ y ∧ y < cs.getD k 0 + t.b (clsN l[k]) then 1 else 0 := by
      rw [useR, qR hlt]
    have hub := useR_bnd l t cs k c y
    have hvx := hx (cs.getD k 0) (by rw [List.getD_eq_getElem?_getD, List.getElem?_eq_getElem (by omega)]; exact List.getElem_mem _)
    have hbu := ht.1 _ hcc
    unfold okC at hbu
    generalize l[k] = o at *
    generalize cs.getD k 0 = v at *
    have hw : IntKind.i64.wrap (v + t.b (clsN o)) = v + t.b (clsN o) := qN (by omega) (by omega)
    have hw2 : IntKind.i64.wrap (useR l t cs k c y + 1) = useR l t cs k c y + 1 := qN (by omega) (by omega)
    by_cases h1 : (clsN o : Int) = (c : Int)
    · have d1 : decide ((clsN o : Int) = (c : Int)) = true := dT h1
      by_cases h2 : 0 ≤ v
      · have d2 : decide (0 ≤ v) = true := dT h2
        by_cases h3 : v ≤ y
        · have d3 : decide (v ≤ y) = true := dT h3
          by_cases h4 : y < v + t.b (clsN o)
          · have d4 : decide (y < v + t.b (clsN o)) = true := dT h4
            rw [if_pos ⟨h1.symm, h2, h3, h4⟩] at hU
            repeat' (first | ((try clear hf); with_reducible refine yE fun env K hE hK hf => ?_; have n := cj10 hE 0 1 2 3 4 6 10 11 12 13; simp -implicitDefEqProofs only [push_cast, reduceIte, Nat.reduceEqDiff, e0, e1, e2, e3, e4, e6, e10, e11, e12, e13] at n; clear hE e0 e1 e2 e3 e4 e6 e10 e11 e12 e13; obtain ⟨e0, e1, e2, e3, e4, e6, e10, e11, e12, e13⟩ := n) | (with_reducible refine hK _ _ ?_; clear hK K) | (with_reducible first | (refine Zi ?_; constructor) | refine yC (by decide) ?_ | refine yJ (by assumption) ?_ | refine yL (by assumption) ?_) | (refine yD rfl ?_) | (simp -implicitDefEqProofs only [push_cast, sevalprocAttr, eq_self, e0, e1, e2, e3, e4, e6, e10, e11, e12, e13, hd, hF.at, hr, hro, hb3, hq, op_0, hcl, hw, hw2, d1, d2, d3, d4]) | (simp -implicitDefEqProofs (disch := omega) only [yH, yM, yI, yG, e0, e1, e2, e3, e4, e6, e10, e11, e12, e13, hd, hF.at, hr, hro, hb3, hq, op_0, hcl, hw, hw2, d1, d2, d3, d4]) | (with_reducible refine yO ?_ ?_) | (refine yF rfl (fun bb => ?_) (fun bb => ?_) <;> (first | have bp := oT bb | have bp := oF bb | skip) <;> simp only [bb]) | (with_reducible refine yK (fun bb => ?_) (fun bb => ?_) <;> (first | have bp := oT bb | have bp := oF bb | skip)) | ((with_reducible refine And.intro ?_ ?_); omega) | (refine yN (f51 _) ?_) | fail)
            refine ⟨_, ?_, k + 1, rfl, E85_0_0.symm, E85_0_1.symm, E85_0_2.symm, E85_0_3.symm, E85_0_4.symm, E85_0_6.symm, E85_0_10.symm, by first | rfl | exact yP (by omega) | (simp only [hU]; exact yP (by omega)) | (simp -implicitDefEqProofs (disch := omega) only [yG]; first | rfl | exact yP (by omega)), by first | rfl | exact yP (by omega) | (simp only [hU]; exact yP (by omega)) | (simp -implicitDefEqProofs (disch := omega) only [yG]; first | rfl | exact yP (by omega)), ?_⟩
            · omega
            · omega
          · have d4 : decide (y < v + t.b (clsN o)) = false := dF h4
            rw [if_neg (fun h => h4 h.2.2.2), Int.add_zero] at hU
            repeat' (first | ((try clear hf); with_reducible refine yE fun env K hE hK hf => ?_; have n := cj10 hE 0 1 2 3 4 6 10 11 12 13; simp -implicitDefEqProofs only [push_cast, reduceIte, Nat.reduceEqDiff, e0, e1, e2, e3, e4, e6, e10, e11, e12, e13] at n; clear hE e0 e1 e2 e3 e4 e6 e10 e11 e12 e13; obtain ⟨e0, e1, e2, e3, e4, e6, e10, e11, e12, e13⟩ := n) | (with_reducible refine hK _ _ ?_; clear hK K) | (with_reducible first | (refine Zi ?_; constructor) | refine yC (by decide) ?_ | refine yJ (by assumption) ?_ | refine yL (by assumption) ?_) | (refine yD rfl ?_) | (simp -implicitDefEqProofs only [push_cast, sevalprocAttr, eq_self, e0, e1, e2, e3, e4, e6, e10, e11, e12, e13, hd, hF.at, hr, hro, hb3, hq, op_0, hcl, hw, hw2, d1, d2, d3, d4]) | (simp -implicitDefEqProofs (disch := omega) only [yH, yM, yI, yG, e0, e1, e2, e3, e4, e6, e10, e11, e12, e13, hd, hF.at, hr, hro, hb3, hq, op_0, hcl, hw, hw2, d1, d2, d3, d4]) | (with_reducible refine yO ?_ ?_) | (refine yF rfl (fun bb => ?_) (fun bb => ?_) <;> (first | have bp := oT bb | have bp := oF bb | skip) <;> simp only [bb]) | (with_reducible refine yK (fun bb => ?_) (fun bb => ?_) <;> (first | have bp := oT bb | have bp := oF bb | skip)) | ((with_reducible refine And.intro ?_ ?_); omega) | (refine yN (f51 _) ?_) | fail)
            refine ⟨_, ?_, k + 1, rfl, E85_0_0.symm, E85_0_1.symm, E85_0_2.symm, E85_0_3.symm, E85_0_4.symm, E85_0_6.symm, E85_0_10.symm, by first | rfl | exact yP (by omega) | (simp only [hU]; exact yP (by omega)) | (simp -implicitDefEqProofs (disch := omega) only [yG]; first | rfl | exact yP (by omega)), by first | rfl | exact yP (by omega) | (simp only [hU]; exact yP (by omega)) | (simp -implicitDefEqProofs (disch := omega) only [yG]; first | rfl | exact yP (by omega)), ?_⟩
            · omega
            · omega
        · have d3 : decide (v ≤ y) = false := dF h3
          rw [if_neg (fun h => h3 h.2.2.1), Int.add_zero] at hU
          repeat' (first | ((try clear hf); with_reducible refine yE fun env K hE hK hf => ?_; have n := cj10 hE 0 1 2 3 4 6 10 11 12 13; simp -implicitDefEqProofs only [push_cast, reduceIte, Nat.reduceEqDiff, e0, e1, e2, e3, e4, e6, e10, e11, e12, e13] at n; clear hE e0 e1 e2 e3 e4 e6 e10 e11 e12 e13; obtain ⟨e0, e1, e2, e3, e4, e6, e10, e11, e12, e13⟩ := n) | (with_reducible refine hK _ _ ?_; clear hK K) | (with_reducible first | (refine Zi ?_; constructor) | refine yC (by decide) ?_ | refine yJ (by assumption) ?_ | refine yL (by assumption) ?_) | (refine yD rfl ?_) | (simp -implicitDefEqProofs only [push_cast, sevalprocAttr, eq_self, e0, e1, e2, e3, e4, e6, e10, e11, e12, e13, hd, hF.at, hr, hro, hb3, hq, op_0, hcl, hw, hw2, d1, d2, d3]) | (simp -implicitDefEqProofs (disch := omega) only [yH, yM, yI, yG, e0, e1, e2, e3, e4, e6, e10, e11, e12, e13, hd, hF.at, hr, hro, hb3, hq, op_0, hcl, hw, hw2, d1, d2, d3]) | (with_reducible refine yO ?_ ?_) | (refine yF rfl (fun bb => ?_) (fun bb => ?_) <;> (first | have bp := oT bb | have bp := oF bb | skip) <;> simp only [bb]) | (with_reducible refine yK (fun bb => ?_) (fun bb => ?_) <;> (first | have bp := oT bb | have bp := oF bb | skip)) | ((with_reducible refine And.intro ?_ ?_); omega) | (refine yN (f51 _) ?_) | fail)
          refine ⟨_, ?_, k + 1, rfl, E85_0_0.symm, E85_0_1.symm, E85_0_2.symm, E85_0_3.symm, E85_0_4.symm, E85_0_6.symm, E85_0_10.symm, by first | rfl | exact yP (by omega) | (simp only [hU]; exact yP (by omega)) | (simp -implicitDefEqProofs (disch := omega) only [yG]; first | rfl | exact yP (by omega)), by first | rfl | exact yP (by omega) | (simp only [hU]; exact yP (by omega)) | (simp -implicitDefEqProofs (disch := omega) only [yG]; first | rfl | exact yP (by omega)), ?_⟩
          · omega
          · omega
      · have d2 : decide (0 ≤ v) = false := dF h2
        rw [if_neg (fun h => h2 h.2.1), Int.add_zero] at hU
        repeat' (first | ((try clear hf); with_reducible refine yE fun env K hE hK hf => ?_; have n := cj10 hE 0 1 2 3 4 6 10 11 12 13; simp -implicitDefEqProofs only [push_cast, reduceIte, Nat.reduceEqDiff, e0, e1, e2, e3, e4, e6, e10, e11, e12, e13] at n; clear hE e0 e1 e2 e3 e4 e6 e10 e11 e12 e13; obtain ⟨e0, e1, e2, e3, e4, e6, e10, e11, e12, e13⟩ := n) | (with_reducible refine hK _ _ ?_; clear hK K) | (with_reducible first | (refine Zi ?_; constructor) | refine yC (by decide) ?_ | refine yJ (by assumption) ?_ | refine yL (by assumption) ?_) | (refine yD rfl ?_) | (simp -implicitDefEqProofs only [push_cast, sevalprocAttr, eq_self, e0, e1, e2, e3, e4, e6, e10, e11, e12, e13, hd, hF.at, hr, hro, hb3, hq, op_0, hcl, hw, hw2, d1, d2]) | (simp -implicitDefEqProofs (disch := omega) only [yH, yM, yI, yG, e0, e1, e2, e3, e4, e6, e10, e11, e12, e13, hd, hF.at, hr, hro, hb3, hq, op_0, hcl, hw, hw2, d1, d2]) | (with_reducible refine yO ?_ ?_) | (refine yF rfl (fun bb => ?_) (fun bb => ?_) <;> (first | have bp := oT bb | have bp := oF bb | skip) <;> simp only [bb]) | (with_reducible refine yK (fun bb => ?_) (fun bb => ?_) <;> (first | have bp := oT bb | have bp := oF bb | skip)) | ((with_reducible refine And.intro ?_ ?_); omega) | (refine yN (f51 _) ?_) | fail)
        refine ⟨_, ?_, k + 1, rfl, E85_0_0.symm, E85_0_1.symm, E85_0_2.symm, E85_0_3.symm, E85_0_4.symm, E85_0_6.symm, E85_0_10.symm, by first | rfl | exact yP (by omega) | (simp only [hU]; exact yP (by omega)) | (simp -implicitDefEqProofs (disch := omega) only [yG]; first | rfl | exact yP (by omega)), by first | rfl | exact yP (by omega) | (simp only [hU]; exact yP (by omega)) | (simp -implicitDefEqProofs (disch := omega) only [yG]; first | rfl | exact yP (by omega)), ?_⟩
        · omega
        · omega
    · have d1 : decide ((clsN o : Int) = (c : Int)) = false := dF h1
      rw [if_neg (fun h => h1 h.1.symm), Int.add_zero] at hU
      repeat' (first | ((try clear hf); with_reducible refine yE fun env K hE hK hf => ?_; have n := cj10 hE 0 1 2 3 4 6 10 11 12 13; simp -implicitDefEqProofs only [push_cast, reduceIte, Nat.reduceEqDiff, e0, e1, e2, e3, e4, e6, e10, e11, e12, e13] at n; clear hE e0 e1 e2 e3 e4 e6 e10 e11 e12 e13; obtain ⟨e0, e1, e2, e3, e4, e6, e10, e11, e12, e13⟩ := n) | (with_reducible refine hK _ _ ?_; clear hK K) | (with_reducible first | (refine Zi ?_; constructor) | refine yC (by decide) ?_ | refine yJ (by assumption) ?_ | refine yL (by assumption) ?_) | (refine yD rfl ?_) | (simp -implicitDefEqProofs only [push_cast, sevalprocAttr, eq_self, e0, e1, e2, e3, e4, e6, e10, e11, e12, e13, hd, hF.at, hr, hro, hb3, hq, op_0, hcl, hw, hw2, d1]) | (simp -implicitDefEqProofs (disch := omega) only [yH, yM, yI, yG, e0, e1, e2, e3, e4, e6, e10, e11, e12, e13, hd, hF.at, hr, hro, hb3, hq, op_0, hcl, hw, hw2, d1]) | (with_reducible refine yO ?_ ?_) | (refine yF rfl (fun bb => ?_) (fun bb => ?_) <;> (first | have bp := oT bb | have bp := oF bb | skip) <;> simp only [bb]) | (with_reducible refine yK (fun bb => ?_) (fun bb => ?_) <;> (first | have bp := oT bb | have bp := oF bb | skip)) | ((with_reducible refine And.intro ?_ ?_); omega) | (refine yN (f51 _) ?_) | fail)
      refine ⟨_, ?_, k + 1, rfl, E85_0_0.symm, E85_0_1.symm, E85_0_2.symm, E85_0_3.symm, E85_0_4.symm, E85_0_6.symm, E85_0_10.symm, by first | rfl | exact yP (by omega) | (simp only [hU]; exact yP (by omega)) | (simp -implicitDefEqProofs (disch := omega) only [yG]; first | rfl | exact yP (by omega)), by first | rfl | exact yP (by omega) | (simp only [hU]; exact yP (by omega)) | (simp -implicitDefEqProofs (disch := omega) only [yG]; first | rfl | exact yP (by omega)), ?_⟩
      · omega
      · omega
  · have hd : decide ((k : Int) < (l.length : Int)) = false := dF (by omega)
    obtain rfl : k = l.length := by omega
    repeat' (first | ((try clear hf); with_reducible refine yE fun env K hE hK hf => ?_; have n := cj10 hE 0 1 2 3 4 6 10 11 12 13; simp -implicitDefEqProofs only [push_cast, reduceIte, Nat.reduceEqDiff, e0, e1, e2, e3, e4, e6, e10, e11, e12, e13] at n; clear hE e0 e1 e2 e3 e4 e6 e10 e11 e12 e13; obtain ⟨e0, e1, e2, e3, e4, e6, e10, e11, e12, e13⟩ := n) | (with_reducible refine hK _ _ ?_; clear hK K) | (with_reducible first | (refine Zi ?_; constructor) | refine yC (by decide) ?_ | refine yJ (by assumption) ?_ | refine yL (by assumption) ?_) | (refine yD rfl ?_) | (simp -implicitDefEqProofs only [push_cast, sevalprocAttr, eq_self, e0, e1, e2, e3, e4, e6, e10, e11, e12, e13, hd]) | (simp -implicitDefEqProofs (disch := omega) only [yH, yM, yI, yG, e0, e1, e2, e3, e4, e6, e10, e11, e12, e13, hd]) | (with_reducible refine yO ?_ ?_) | (refine yF rfl (fun bb => ?_) (fun bb => ?_) <;> (first | have bp := oT bb | have bp := oF bb | skip) <;> simp only [bb]) | (with_reducible refine yK (fun bb => ?_) (fun bb => ?_) <;> (first | have bp := oT bb | have bp := oF bb | skip)) | ((with_reducible refine And.intro ?_ ?_); omega) | fail)
end Go.Proofs.Hx

set_option linter.unusedVariables false
set_option linter.unusedSimpArgs false
namespace Go.Proofs.Hx
open Go Go.Proofs
attribute [local irreducible] yS awp opK goV goM qB yZ qH yW HV HVF HC
theorem useN_mono (l : List Opn) (t : Tab) (cs : List Int) (c y : Int) {a : Nat} : ∀ {b : Nat}, a ≤ b → useN l t cs a c y ≤ useN l t cs b c y
  | 0, h => by obtain rfl : a = 0 := by omega
               exact Int.le_refl _
  | b + 1, h => by
    by_cases e : a = b + 1
    · rw [e]; exact Int.le_refl _
    · have := useN_mono l t cs c y (a := a) (b := b) (by omega)
      simp only [useN]
      split <;> omega
theorem use_le {l : List Opn} {t : Tab} {cs : List Int} {c y : Int} : ∀ (m : Nat), (∀ k < m, roomK l t cs k) → (∃ i, i < m ∧ c = (clsN (opAt l i) : Int) ∧ cs.getD i 0 ≤ y ∧ y < cs.getD i 0 + t.b (clsN (opAt l i))) → useN l t cs m c y ≤ t.u c.toNat
  | 0, _, ⟨i, h, _⟩ => by omega
  | m + 1, hr, ⟨i, hi, h1, h2, h3⟩ => by
    by_cases e : c = (clsN (opAt l m) : Int) ∧ cs.getD m 0 ≤ y ∧ y < cs.getD m 0 + t.b (clsN (opAt l m))
    · have := hr m (by omega) (y - cs.getD m 0).toNat (by omega)
      simp only [useN]
      rw [if_pos e]
      rw [show cs.getD m 0 + ((y - cs.getD m 0).toNat : Int) = y by omega, ← e.1, show clsN (opAt l m) = c.toNat by omega] at this
      exact this
    · have hne : i ≠ m := fun e' => e (by subst e'; exact ⟨h1, h2, h3⟩)
      have := use_le m (fun k hk => hr k (by omega)) ⟨i, by omega, h1, h2, h3⟩
      simp only [useN]
      rw [if_neg e]
      omega
theorem room_use {l : List Opn} {t : Tab} {cs : List Int} : (∀ k < l.length, roomK l t cs k) ↔ (∀ k < l.length, ∀ j : Nat, (j : Int) < t.b (clsN (opAt l k)) → useN l t cs l.length (clsN (opAt l k)) (cs.getD k 0 + j) ≤ t.u (clsN (opAt l k))) := by
  constructor
  · intro h k hk j hj
    have := use_le (c := (clsN (opAt l k) : Int)) (y := cs.getD k 0 + j) l.length h ⟨k, hk, rfl, by omega, by omega⟩
    rwa [Int.toNat_natCast] at this
  · intro h k hk j hj
    have h1 := h k hk j hj
    have h2 := useN_mono l t cs (clsN (opAt l k)) (cs.getD k 0 + j) (a := k + 1) (b := l.length) (by omega)
    rw [useN, if_pos ⟨rfl, by omega, by omega⟩] at h2
    omega
theorem there_edges {l : List Opn} {cs : List Int} {ES : List Edg} (hE : ∀ e ∈ ES, edOK l.length e) (hcs : ∀ x ∈ cs, 0 ≤ x ∧ x ≤ 65536) : (∀ k < l.length, thereB (inE ES k) cs (cs.getD k 0) = true) ↔ ∀ e ∈ ES, cs.getD e.f.toNat 0 + e.l ≤ cs.getD e.t.toNat 0 := by
  have h0 : ∀ i, 0 ≤ cs.getD i 0 := fun i => by
    rw [List.getD_eq_getElem?_getD]
    by_cases h : i < cs.length
    · rw [List.getElem?_eq_getElem h]; exact (hcs _ (List.getElem_mem h)).1
    · rw [List.getElem?_eq_none (by omega)]; simp
  simp only [thereB, List.all_eq_true, Bool.and_eq_true, decide_eq_true_eq, inE, List.mem_filter]
  constructor
  · intro h e he
    obtain ⟨x1, x2, x3, x4, x5⟩ := hE e he
    have := (h e.t.toNat (by omega) e ⟨he, by omega⟩).2
    exact this
  · intro h k hk e ⟨he, het⟩
    have := h e he
    rw [show e.t.toNat = k by omega] at this
    exact ⟨h0 _, this⟩
theorem uses_lack {l : List Opn} {t : Tab} (h : ∀ o ∈ l, opOK o) : usesB l t = lackB l t := by
  unfold usesB lackB
  have key : ∀ o ∈ l, (clsS o.k).2 = true := fun o ho => by
    obtain ⟨h1, h2, _⟩ := h o ho
    have : o.k = 1 ∨ o.k = 2 ∨ o.k = 3 ∨ o.k = 4 ∨ o.k = 5 ∨ o.k = 6 ∨ o.k = 7 ∨ o.k = 8 ∨ o.k = 9 ∨ o.k = 10 ∨ o.k = 11 ∨ o.k = 12 ∨ o.k = 13 ∨ o.k = 14 ∨ o.k = 15 ∨ o.k = 16 ∨ o.k = 17 := by omega
    rcases this with e | e | e | e | e | e | e | e | e | e | e | e | e | e | e | e | e <;> rw [e] <;> rfl
  induction l with
  | nil => rfl
  | cons o l ih =>
    rw [List.any_cons, List.any_cons, key o List.mem_cons_self, Bool.true_and, ih (fun o ho => h o (List.mem_cons_of_mem _ ho)) (fun o ho => key o (List.mem_cons_of_mem _ ho))]
/-- What the reference asks for. -/
def refP (l : List Opn) (t : Tab) (cs : List Int) : Prop := errR l t = 0 ∧ usesB l t = false ∧ cs.length = l.length ∧ (∀ x ∈ cs, 0 ≤ x ∧ x ≤ 65536) ∧ (∀ e ∈ onceE l t l.length, cs.getD e.f.toNat 0 + e.l ≤ cs.getD e.t.toNat 0) ∧
  ∀ k < l.length, ∀ j : Nat, (j : Int) < t.b (clsN (opAt l k)) → useR l t cs l.length (clsN (opAt l k)) (cs.getD k 0 + j) ≤ t.u (clsN (opAt l k))
theorem refP_iff (l : List Opn) (t : Tab) (cs : List Int) : refP l t cs ↔ checkP l t cs := by
  unfold refP checkP
  constructor
  · rintro ⟨h1, h2, h3, h4, h5, h6⟩
    obtain ⟨ht, hn, hop⟩ := errR_ok h1
    have hE := onceE_ok (l := l) ht l.length
    rw [uses_lack hop] at h2
    refine ⟨h1, h2, h3, h4, fun k hk => ⟨(there_edges hE h4).2 h5 k hk, room_use.2 (fun k hk j hj => ?_) k hk⟩⟩
    rw [← useR_eq l t cs (fun x hx => (h4 x hx).1) _ _ _ (by omega)]
    exact h6 k hk j hj
  · rintro ⟨h1, h2, h3, h4, h5⟩
    obtain ⟨ht, hn, hop⟩ := errR_ok h1
    have hE := onceE_ok (l := l) ht l.length
    rw [← uses_lack hop] at h2
    refine ⟨h1, h2, h3, h4, (there_edges hE h4).1 fun k hk => (h5 k hk).1, fun k hk j hj => ?_⟩
    rw [useR_eq l t cs (fun x hx => (h4 x hx).1) _ _ _ (by omega)]
    exact room_use.1 (fun k hk => (h5 k hk).2) k hk j hj
/-- The reference says the same. -/
theorem f47 (l : List Opn) (t : Tab) (cs : List Int) (hl : ∀ o ∈ l, o.ok) (hcn : cs.length ≤ 100000000000000) :
    HV Try.prog 47 [.row (l.map opC), .agg (tabC t), .row (cs.map intC)] (bl (checkB l t cs)) := by
  refine yT yX cf47 (by simp) (by simp [imms, imm, tab_imms, qK, ints_imms]) ?_ rfl
  unfold ac47 re47
  refine yQ fun env hE => ?_; obtain ⟨e0, e1, e2, e4, e6, e7, e8, e9, e10, e11, e12, e14⟩ := cj12 hE 0 1 2 4 6 7 8 9 10 11 12 14; simp -implicitDefEqProofs only [push_cast] at e0 e1 e2 e4 e6 e7 e8 e9 e10 e11 e12 e14; clear hE
  by_cases hR : errR l t = 0
  · obtain ⟨ht, hn, hop⟩ := errR_ok hR
    have hbT := hR
    have hul := uses_lack (t := t) hop
    by_cases hlk : lackB l t = false
    · rw [hlk] at hul
      by_cases hln : cs.length = l.length
      · have hE := onceE_ok (l := l) ht l.length
        have hEl := onceE_len l t l.length l.length (Nat.le_refl _)
        have hmul : 5 * l.length * l.length ≤ 5 * 1024 * 1024 := Nat.mul_le_mul (by omega) (by omega)
        have hdn : decide (¬ (cs.length : Int) = (l.length : Int)) = false := dF (by omega)
        have hiff := refP_iff l t cs
        have hno : ¬ refP l t cs → checkB l t cs = false := fun h => checkB_f fun h' => h (hiff.2 h')
        unfold refP at hno hiff
        generalize hES : onceE l t l.length = ES at *
        repeat' (first | ((try clear hf); with_reducible refine yE fun env K hE hK hf => ?_; have n := cj12 hE 0 1 2 4 6 7 8 9 10 11 12 14; simp -implicitDefEqProofs only [push_cast, reduceIte, Nat.reduceEqDiff, e0, e1, e2, e4, e6, e7, e8, e9, e10, e11, e12, e14] at n; clear hE e0 e1 e2 e4 e6 e7 e8 e9 e10 e11 e12 e14; obtain ⟨e0, e1, e2, e4, e6, e7, e8, e9, e10, e11, e12, e14⟩ := n) | (with_reducible refine hK _ _ ?_; clear hK K) | (with_reducible first | (refine Zi ?_; constructor) | refine yC (by decide) ?_ | refine yJ (by assumption) ?_ | refine yL (by assumption) ?_) | (refine yD rfl ?_) | (simp -implicitDefEqProofs only [push_cast, sevalprocAttr, eq_self, e0, e1, e2, e4, e6, e7, e8, e9, e10, e11, e12, e14, yU, hbT, hul, hdn]) | (simp -implicitDefEqProofs (disch := omega) only [yH, yM, yI, yG, e0, e1, e2, e4, e6, e7, e8, e9, e10, e11, e12, e14, yU, hbT, hul, hdn]) | (with_reducible refine yO ?_ ?_) | (refine yF rfl (fun bb => ?_) (fun bb => ?_) <;> (first | have bp := oT bb | have bp := oF bb | skip) <;> simp only [bb]) | (with_reducible refine yK (fun bb => ?_) (fun bb => ?_) <;> (first | have bp := oT bb | have bp := oF bb | skip)) | ((with_reducible refine And.intro ?_ ?_); omega) | (refine YB (HC.mono (f72 hl) ?_); rintro r h1 ⟨hx, hr⟩ hF1; obtain ⟨_, out, hr, hO, _⟩ := hr.resolve_left (fun h => h.1 hR); subst hr; have hbT := chk_T t hx; have hep1 : 2 ≤ h1.ep := Nat.le_trans (Nat.le_succ 2) hx.1; rw [hES] at hO) | (refine yN (f82 l t (by omega)) ?_) | fail)
        have hget : ∀ i, i < l.length → cs.getD i 0 ∈ cs := fun i hi => by rw [List.getD_eq_getElem?_getD, List.getElem?_eq_getElem (by omega)]; exact List.getElem_mem _
        refine yQ fun env hE => ?_; have n := cj12 hE 0 1 2 4 6 7 8 9 10 11 12 14; simp -implicitDefEqProofs only [push_cast, reduceIte, Nat.reduceEqDiff, e0, e1, e2, e4, e6, e7, e8, e9, e10, e11, e12, e14] at n; clear hE e0 e1 e2 e4 e6 e7 e8 e9 e10 e11 e12 e14; obtain ⟨e0, e1, e2, e4, e6, e7, e8, e9, e10, e11, e12, e14⟩ := n; have E47_0_0 := e0; have E47_0_1 := e1; have E47_0_2 := e2; have E47_0_4 := e4; have E47_0_7 := e7; have E47_0_8 := e8
        refine qE (fun nn σ => ∃ (k : Nat), nn = l.length - k ∧ σ.env 0 = env 0 ∧ σ.env 1 = env 1 ∧ σ.env 2 = env 2 ∧ σ.env 4 = env 4 ∧ σ.env 7 = env 7 ∧ σ.env 8 = env 8 ∧ σ.env 9 = i64 k ∧ (k ≤ l.length ∧ (∀ i, i < k → 0 ≤ cs.getD i 0 ∧ cs.getD i 0 ≤ 65536) ∧ Ext h1 σ.h)) _ ⟨0, rfl, rfl, rfl, rfl, rfl, rfl, rfl, by refine e9.trans ?_; first | rfl | exact yP (by omega) | (simp -implicitDefEqProofs (disch := omega) only [yG]; first | rfl | exact yP (by omega)), ?_⟩ ?_
        · exact ⟨by omega, fun i hi => by omega, (by repeat (first | exact Ext.refl _ | assumption | refine Ext.tick ?_ | refine Ext.push ?_ (by omega) _ | refine Ext.put ?_ (by omega) _ | refine Ext.kill ?_ (by omega) | refine Ext.killA ?_ (by assumption) | refine Ext.setm ?_ _ _))⟩
        clear hF1 hx
        clear e0 e1 e2 e4 e6 e7 e8 e9 e10 e11 e12 e14; rintro nn ⟨env, h3⟩ ⟨k, rfl, q0, q1, q2, q4, q7, q8, e9, hI⟩; simp only at q0 q1 q2 q4 q7 q8 e9 hI; (first | have e0 := q0.trans E47_0_0 | have e0 := True.intro); (first | have e1 := q1.trans E47_0_1 | have e1 := True.intro); (first | have e2 := q2.trans E47_0_2 | have e2 := True.intro); (first | have e4 := q4.trans E47_0_4 | have e4 := True.intro); (first | have e7 := q7.trans E47_0_7 | have e7 := True.intro); (first | have e8 := q8.trans E47_0_8 | have e8 := True.intro); clear q0 q1 q2 q4 q7 q8; have e6 := True.intro; have e10 := True.intro; have e11 := True.intro; have e12 := True.intro; have e14 := True.intro
        obtain ⟨hk, hin, hx⟩ := hI
        unfold l47_0
        (first | refine yV fun hF => ?_ | refine qM fun hF => ?_ | refine qL fun hF => ?_)
        by_cases hlt : k < l.length
        · have hd : decide ((k : Int) < (l.length : Int)) = true := dT (by omega)
          have hr := int_at (l := cs) (k := k) (by omega) .i64
          have hmem := hget k hlt
          generalize hv : cs.getD k 0 = v at *
          by_cases hok : 0 ≤ v ∧ v ≤ 65536
          · have d1 : decide (v < 0) = false := dF (by omega)
            have d2 : decide (65536 < v) = false := dF (by omega)
            repeat' (first | ((try clear hf); with_reducible refine yE fun env K hE hK hf => ?_; have n := cj12 hE 0 1 2 4 6 7 8 9 10 11 12 14; simp -implicitDefEqProofs only [push_cast, reduceIte, Nat.reduceEqDiff, e0, e1, e2, e4, e6, e7, e8, e9, e10, e11, e12, e14] at n; clear hE e0 e1 e2 e4 e6 e7 e8 e9 e10 e11 e12 e14; obtain ⟨e0, e1, e2, e4, e6, e7, e8, e9, e10, e11, e12, e14⟩ := n) | (with_reducible refine hK _ _ ?_; clear hK K) | (with_reducible first | (refine Zi ?_; constructor) | refine yC (by decide) ?_ | refine yJ (by assumption) ?_ | refine yL (by assumption) ?_) | (refine yD rfl ?_) | (simp -implicitDefEqProofs only [push_cast, sevalprocAttr, eq_self, e0, e1, e2, e4, e6, e7, e8, e9, e10, e11, e12, e14, hd, hF.at, hr, d1, d2]) | (simp -implicitDefEqProofs (disch := omega) only [yH, yM, yI, yG, e0, e1, e2, e4, e6, e7, e8, e9, e10, e11, e12, e14, hd, hF.at, hr, d1, d2]) | (with_reducible refine yO ?_ ?_) | (refine yF rfl (fun bb => ?_) (fun bb => ?_) <;> (first | have bp := oT bb | have bp := oF bb | skip) <;> simp only [bb]) | (with_reducible refine yK (fun bb => ?_) (fun bb => ?_) <;> (first | have bp := oT bb | have bp := oF bb | skip)) | ((with_reducible refine And.intro ?_ ?_); omega) | fail)
            refine ⟨_, ?_, k + 1, rfl, E47_0_0.symm, E47_0_1.symm, E47_0_2.symm, E47_0_4.symm, E47_0_7.symm, E47_0_8.symm, by first | rfl | exact yP (by omega) | (simp -implicitDefEqProofs (disch := omega) only [yG]; first | rfl | exact yP (by omega)), ?_⟩
            · omega
            · refine ⟨by omega, fun i hi => ?_, (by repeat (first | exact Ext.refl _ | assumption | refine Ext.tick ?_ | refine Ext.push ?_ (by omega) _ | refine Ext.put ?_ (by omega) _ | refine Ext.kill ?_ (by omega) | refine Ext.killA ?_ (by assumption) | refine Ext.setm ?_ _ _))⟩
              by_cases e : i = k
              · subst e; rw [hv]; exact hok
              · exact hin i (by omega)
          · have hE : checkB l t cs = false := hno fun h => hok (h.2.2.2.1 v hmem)
            by_cases hv0 : v < 0
            · have d1 : decide (v < 0) = true := dT hv0
              repeat' (first | ((try clear hf); with_reducible refine yE fun env K hE hK hf => ?_; have n := cj12 hE 0 1 2 4 6 7 8 9 10 11 12 14; simp -implicitDefEqProofs only [push_cast, reduceIte, Nat.reduceEqDiff, e0, e1, e2, e4, e6, e7, e8, e9, e10, e11, e12, e14] at n; clear hE e0 e1 e2 e4 e6 e7 e8 e9 e10 e11 e12 e14; obtain ⟨e0, e1, e2, e4, e6, e7, e8, e9, e10, e11, e12, e14⟩ := n) | (with_reducible refine hK _ _ ?_; clear hK K) | (with_reducible first | (refine Zi ?_; constructor) | refine yC (by decide) ?_ | refine yJ (by assumption) ?_ | refine yL (by assumption) ?_) | (refine yD rfl ?_) | (simp -implicitDefEqProofs only [push_cast, sevalprocAttr, eq_self, e0, e1, e2, e4, e6, e7, e8, e9, e10, e11, e12, e14, hd, hF.at, hr, d1, hE]) | (simp -implicitDefEqProofs (disch := omega) only [yH, yM, yI, yG, e0, e1, e2, e4, e6, e7, e8, e9, e10, e11, e12, e14, hd, hF.at, hr, d1, hE]) | (with_reducible refine yO ?_ ?_) | (refine yF rfl (fun bb => ?_) (fun bb => ?_) <;> (first | have bp := oT bb | have bp := oF bb | skip) <;> simp only [bb]) | (with_reducible refine yK (fun bb => ?_) (fun bb => ?_) <;> (first | have bp := oT bb | have bp := oF bb | skip)) | ((with_reducible refine And.intro ?_ ?_); omega) | fail)
            · have d1 : decide (v < 0) = false := dF hv0
              have d2 : decide (65536 < v) = true := dT (by omega)
              repeat' (first | ((try clear hf); with_reducible refine yE fun env K hE hK hf => ?_; have n := cj12 hE 0 1 2 4 6 7 8 9 10 11 12 14; simp -implicitDefEqProofs only [push_cast, reduceIte, Nat.reduceEqDiff, e0, e1, e2, e4, e6, e7, e8, e9, e10, e11, e12, e14] at n; clear hE e0 e1 e2 e4 e6 e7 e8 e9 e10 e11 e12 e14; obtain ⟨e0, e1, e2, e4, e6, e7, e8, e9, e10, e11, e12, e14⟩ := n) | (with_reducible refine hK _ _ ?_; clear hK K) | (with_reducible first | (refine Zi ?_; constructor) | refine yC (by decide) ?_ | refine yJ (by assumption) ?_ | refine yL (by assumption) ?_) | (refine yD rfl ?_) | (simp -implicitDefEqProofs only [push_cast, sevalprocAttr, eq_self, e0, e1, e2, e4, e6, e7, e8, e9, e10, e11, e12, e14, hd, hF.at, hr, d1, d2, hE]) | (simp -implicitDefEqProofs (disch := omega) only [yH, yM, yI, yG, e0, e1, e2, e4, e6, e7, e8, e9, e10, e11, e12, e14, hd, hF.at, hr, d1, d2, hE]) | (with_reducible refine yO ?_ ?_) | (refine yF rfl (fun bb => ?_) (fun bb => ?_) <;> (first | have bp := oT bb | have bp := oF bb | skip) <;> simp only [bb]) | (with_reducible refine yK (fun bb => ?_) (fun bb => ?_) <;> (first | have bp := oT bb | have bp := oF bb | skip)) | ((with_reducible refine And.intro ?_ ?_); omega) | fail)
        have hd : decide ((k : Int) < (l.length : Int)) = false := dF (by omega)
        obtain rfl : k = l.length := by omega
        have hrange : ∀ x ∈ cs, 0 ≤ x ∧ x ≤ 65536 := fun x hx => by
          obtain ⟨i, hi, rfl⟩ := List.getElem_of_mem hx
          have := hin i (by omega)
          rw [List.getD_eq_getElem?_getD, List.getElem?_eq_getElem hi] at this
          exact this
        repeat' (first | ((try clear hf); with_reducible refine yE fun env K hE hK hf => ?_; have n := cj12 hE 0 1 2 4 6 7 8 9 10 11 12 14; simp -implicitDefEqProofs only [push_cast, reduceIte, Nat.reduceEqDiff, e0, e1, e2, e4, e6, e7, e8, e9, e10, e11, e12, e14] at n; clear hE e0 e1 e2 e4 e6 e7 e8 e9 e10 e11 e12 e14; obtain ⟨e0, e1, e2, e4, e6, e7, e8, e9, e10, e11, e12, e14⟩ := n) | (with_reducible refine hK _ _ ?_; clear hK K) | (with_reducible first | (refine Zi ?_; constructor) | refine yC (by decide) ?_ | refine yJ (by assumption) ?_ | refine yL (by assumption) ?_) | (refine yD rfl ?_) | (simp -implicitDefEqProofs only [push_cast, sevalprocAttr, eq_self, e0, e1, e2, e4, e6, e7, e8, e9, e10, e11, e12, e14, hd, hF.at]) | (simp -implicitDefEqProofs (disch := omega) only [yH, yM, yI, yG, e0, e1, e2, e4, e6, e7, e8, e9, e10, e11, e12, e14, hd, hF.at]) | (with_reducible refine yO ?_ ?_) | (refine yF rfl (fun bb => ?_) (fun bb => ?_) <;> (first | have bp := oT bb | have bp := oF bb | skip) <;> simp only [bb]) | (with_reducible refine yK (fun bb => ?_) (fun bb => ?_) <;> (first | have bp := oT bb | have bp := oF bb | skip)) | ((with_reducible refine And.intro ?_ ?_); omega) | fail)
        refine yQ fun env hE => ?_; have n := cj12 hE 0 1 2 4 6 7 8 9 10 11 12 14; simp -implicitDefEqProofs only [push_cast, reduceIte, Nat.reduceEqDiff, e0, e1, e2, e4, e6, e7, e8, e9, e10, e11, e12, e14] at n; clear hE e0 e1 e2 e4 e6 e7 e8 e9 e10 e11 e12 e14; obtain ⟨e0, e1, e2, e4, e6, e7, e8, e9, e10, e11, e12, e14⟩ := n; have E47_1_0 := e0; have E47_1_1 := e1; have E47_1_2 := e2; have E47_1_4 := e4; have E47_1_7 := e7; have E47_1_8 := e8; have E47_1_9 := e9
        refine qE (fun nn σ => ∃ (k : Nat), nn = ES.length - k ∧ σ.env 0 = env 0 ∧ σ.env 1 = env 1 ∧ σ.env 2 = env 2 ∧ σ.env 4 = env 4 ∧ σ.env 7 = env 7 ∧ σ.env 8 = env 8 ∧ σ.env 9 = env 9 ∧ σ.env 10 = i64 k ∧ (k ≤ ES.length ∧ (∀ e ∈ ES.take k, cs.getD e.f.toNat 0 + e.l ≤ cs.getD e.t.toNat 0) ∧ Ext h1 σ.h)) _ ⟨0, rfl, rfl, rfl, rfl, rfl, rfl, rfl, rfl, by refine e10.trans ?_; first | rfl | exact yP (by omega) | (simp -implicitDefEqProofs (disch := omega) only [yG]; first | rfl | exact yP (by omega)), ?_⟩ ?_
        · exact ⟨by omega, by simp, (by repeat (first | exact Ext.refl _ | assumption | refine Ext.tick ?_ | refine Ext.push ?_ (by omega) _ | refine Ext.put ?_ (by omega) _ | refine Ext.kill ?_ (by omega) | refine Ext.killA ?_ (by assumption) | refine Ext.setm ?_ _ _))⟩
        clear hx
        clear e0 e1 e2 e4 e6 e7 e8 e9 e10 e11 e12 e14; rintro nn ⟨env, h4⟩ ⟨k, rfl, q0, q1, q2, q4, q7, q8, q9, e10, hI⟩; simp only at q0 q1 q2 q4 q7 q8 q9 e10 hI; (first | have e0 := q0.trans E47_1_0 | have e0 := True.intro); (first | have e1 := q1.trans E47_1_1 | have e1 := True.intro); (first | have e2 := q2.trans E47_1_2 | have e2 := True.intro); (first | have e4 := q4.trans E47_1_4 | have e4 := True.intro); (first | have e7 := q7.trans E47_1_7 | have e7 := True.intro); (first | have e8 := q8.trans E47_1_8 | have e8 := True.intro); (first | have e9 := q9.trans E47_1_9 | have e9 := True.intro); clear q0 q1 q2 q4 q7 q8 q9; have e6 := True.intro; have e11 := True.intro; have e12 := True.intro; have e14 := True.intro
        obtain ⟨hk, hed, hx⟩ := hI
        unfold l47_1
        (first | refine yV fun hF => ?_ | refine qM fun hF => ?_ | refine qL fun hF => ?_)
        have hOl := hO.slo.len
        by_cases hlt : k < ES.length
        · have hd : decide ((k : Int) < (ES.length : Int)) = true := dT (by omega)
          obtain ⟨oe, os, hoe, hob, hol⟩ := hO.slo.blk (by omega)
          subst hoe
          replace hob := (hx.2 _ hol).trans hob
          have hg0 : (ES.flatMap edC)[k * 5]? = some (i64 ES[k].f) := flat_get YF ES hlt (i := 0) (by decide)
          have hg1 : (ES.flatMap edC)[k * 5 + 1]? = some (i64 ES[k].t) := flat_get YF ES hlt (i := 1) (by decide)
          have hg2 : (ES.flatMap edC)[k * 5 + 2]? = some (i64 ES[k].l) := flat_get YF ES hlt (i := 2) (by decide)
          have hxo := hE _ (List.getElem_mem hlt)
          have hmem := List.getElem_mem hlt
          have htk : ES.take (k + 1) = ES.take k ++ [ES[k]] := by rw [List.take_succ_eq_append_getElem hlt]
          generalize ES[k] = x at *
          obtain ⟨x1, x2, x3, x4, x5⟩ := hxo
          obtain ⟨f, hf⟩ : ∃ f : Nat, x.f = f := ⟨x.f.toNat, by omega⟩
          obtain ⟨g, hg⟩ : ∃ g : Nat, x.t = g := ⟨x.t.toNat, by omega⟩
          have hf2 : x.f.toNat = f := by omega
          have hg3 : x.t.toNat = g := by omega
          have r1 := int_at (l := cs) (k := f) (by omega) .i64
          have r2 := int_at (l := cs) (k := g) (by omega) .i64
          have b1 := hrange _ (hget f (by omega))
          have b2 := hrange _ (hget g (by omega))
          rw [← hf] at r1
          rw [← hg] at r2
          generalize hvf : cs.getD f 0 = vf at *
          generalize hvg : cs.getD g 0 = vg at *
          have hw : IntKind.i64.wrap (vf + x.l) = vf + x.l := qN (by omega) (by omega)
          by_cases hok : vg < vf + x.l
          · have d1 : decide (vg < vf + x.l) = true := dT hok
            have hE : checkB l t cs = false := hno fun h => by
              have := h.2.2.2.2.1 x hmem
              rw [hf2, hg3, hvf, hvg] at this
              omega
            repeat' (first | ((try clear hf); with_reducible refine yE fun env K hE hK hf => ?_; have n := cj12 hE 0 1 2 4 6 7 8 9 10 11 12 14; simp -implicitDefEqProofs only [push_cast, reduceIte, Nat.reduceEqDiff, e0, e1, e2, e4, e6, e7, e8, e9, e10, e11, e12, e14] at n; clear hE e0 e1 e2 e4 e6 e7 e8 e9 e10 e11 e12 e14; obtain ⟨e0, e1, e2, e4, e6, e7, e8, e9, e10, e11, e12, e14⟩ := n) | (with_reducible refine hK _ _ ?_; clear hK K) | (with_reducible first | (refine Zi ?_; constructor) | refine yC (by decide) ?_ | refine yJ (by assumption) ?_ | refine yL (by assumption) ?_) | (refine yD rfl ?_) | (simp -implicitDefEqProofs only [push_cast, sevalprocAttr, eq_self, e0, e1, e2, e4, e6, e7, e8, e9, e10, e11, e12, e14, hd, hF.at, hob, hg0, hg1, hg2, Nat.add_zero, r1, r2, hw, d1, hE]) | (simp -implicitDefEqProofs (disch := omega) only [yH, yM, yI, yG, e0, e1, e2, e4, e6, e7, e8, e9, e10, e11, e12, e14, hd, hF.at, hob, hg0, hg1, hg2, Nat.add_zero, r1, r2, hw, d1, hE]) | (with_reducible refine yO ?_ ?_) | (refine yF rfl (fun bb => ?_) (fun bb => ?_) <;> (first | have bp := oT bb | have bp := oF bb | skip) <;> simp only [bb]) | (with_reducible refine yK (fun bb => ?_) (fun bb => ?_) <;> (first | have bp := oT bb | have bp := oF bb | skip)) | ((with_reducible refine And.intro ?_ ?_); omega) | fail)
          · have d1 : decide (vg < vf + x.l) = false := dF hok
            repeat' (first | ((try clear hf); with_reducible refine yE fun env K hE hK hf => ?_; have n := cj12 hE 0 1 2 4 6 7 8 9 10 11 12 14; simp -implicitDefEqProofs only [push_cast, reduceIte, Nat.reduceEqDiff, e0, e1, e2, e4, e6, e7, e8, e9, e10, e11, e12, e14] at n; clear hE e0 e1 e2 e4 e6 e7 e8 e9 e10 e11 e12 e14; obtain ⟨e0, e1, e2, e4, e6, e7, e8, e9, e10, e11, e12, e14⟩ := n) | (with_reducible refine hK _ _ ?_; clear hK K) | (with_reducible first | (refine Zi ?_; constructor) | refine yC (by decide) ?_ | refine yJ (by assumption) ?_ | refine yL (by assumption) ?_) | (refine yD rfl ?_) | (simp -implicitDefEqProofs only [push_cast, sevalprocAttr, eq_self, e0, e1, e2, e4, e6, e7, e8, e9, e10, e11, e12, e14, hd, hF.at, hob, hg0, hg1, hg2, Nat.add_zero, r1, r2, hw, d1]) | (simp -implicitDefEqProofs (disch := omega) only [yH, yM, yI, yG, e0, e1, e2, e4, e6, e7, e8, e9, e10, e11, e12, e14, hd, hF.at, hob, hg0, hg1, hg2, Nat.add_zero, r1, r2, hw, d1]) | (with_reducible refine yO ?_ ?_) | (refine yF rfl (fun bb => ?_) (fun bb => ?_) <;> (first | have bp := oT bb | have bp := oF bb | skip) <;> simp only [bb]) | (with_reducible refine yK (fun bb => ?_) (fun bb => ?_) <;> (first | have bp := oT bb | have bp := oF bb | skip)) | ((with_reducible refine And.intro ?_ ?_); omega) | fail)
            refine ⟨_, ?_, k + 1, rfl, E47_1_0.symm, E47_1_1.symm, E47_1_2.symm, E47_1_4.symm, E47_1_7.symm, E47_1_8.symm, E47_1_9.symm, by first | rfl | exact yP (by omega) | (simp -implicitDefEqProofs (disch := omega) only [yG]; first | rfl | exact yP (by omega)), ?_⟩
            · omega
            · refine ⟨by omega, ?_, (by repeat (first | exact Ext.refl _ | assumption | refine Ext.tick ?_ | refine Ext.push ?_ (by omega) _ | refine Ext.put ?_ (by omega) _ | refine Ext.kill ?_ (by omega) | refine Ext.killA ?_ (by assumption) | refine Ext.setm ?_ _ _))⟩
              rw [htk]
              intro e he
              simp only [List.mem_append, List.mem_singleton] at he
              rcases he with he | he
              · exact hed e he
              · subst he; rw [hf2, hg3, hvf, hvg]; omega
        have hd : decide ((k : Int) < (ES.length : Int)) = false := dF (by omega)
        obtain rfl : k = ES.length := by omega
        rw [List.take_length] at hed
        repeat' (first | ((try clear hf); with_reducible refine yE fun env K hE hK hf => ?_; have n := cj12 hE 0 1 2 4 6 7 8 9 10 11 12 14; simp -implicitDefEqProofs only [push_cast, reduceIte, Nat.reduceEqDiff, e0, e1, e2, e4, e6, e7, e8, e9, e10, e11, e12, e14] at n; clear hE e0 e1 e2 e4 e6 e7 e8 e9 e10 e11 e12 e14; obtain ⟨e0, e1, e2, e4, e6, e7, e8, e9, e10, e11, e12, e14⟩ := n) | (with_reducible refine hK _ _ ?_; clear hK K) | (with_reducible first | (refine Zi ?_; constructor) | refine yC (by decide) ?_ | refine yJ (by assumption) ?_ | refine yL (by assumption) ?_) | (refine yD rfl ?_) | (simp -implicitDefEqProofs only [push_cast, sevalprocAttr, eq_self, e0, e1, e2, e4, e6, e7, e8, e9, e10, e11, e12, e14, hd, hF.at, hOl]) | (simp -implicitDefEqProofs (disch := omega) only [yH, yM, yI, yG, e0, e1, e2, e4, e6, e7, e8, e9, e10, e11, e12, e14, hd, hF.at, hOl]) | (with_reducible refine yO ?_ ?_) | (refine yF rfl (fun bb => ?_) (fun bb => ?_) <;> (first | have bp := oT bb | have bp := oF bb | skip) <;> simp only [bb]) | (with_reducible refine yK (fun bb => ?_) (fun bb => ?_) <;> (first | have bp := oT bb | have bp := oF bb | skip)) | ((with_reducible refine And.intro ?_ ?_); omega) | fail)
        refine yQ fun env hE => ?_; have n := cj12 hE 0 1 2 4 6 7 8 9 10 11 12 14; simp -implicitDefEqProofs only [push_cast, reduceIte, Nat.reduceEqDiff, e0, e1, e2, e4, e6, e7, e8, e9, e10, e11, e12, e14] at n; clear hE e0 e1 e2 e4 e6 e7 e8 e9 e10 e11 e12 e14; obtain ⟨e0, e1, e2, e4, e6, e7, e8, e9, e10, e11, e12, e14⟩ := n; have E47_3_0 := e0; have E47_3_1 := e1; have E47_3_2 := e2; have E47_3_4 := e4; have E47_3_7 := e7; have E47_3_8 := e8; have E47_3_9 := e9; have E47_3_10 := e10
        refine qE (fun nn σ => ∃ (i : Nat), nn = l.length - i ∧ σ.env 0 = env 0 ∧ σ.env 1 = env 1 ∧ σ.env 2 = env 2 ∧ σ.env 4 = env 4 ∧ σ.env 7 = env 7 ∧ σ.env 8 = env 8 ∧ σ.env 9 = env 9 ∧ σ.env 10 = env 10 ∧ σ.env 11 = i64 i ∧ (i ≤ l.length ∧ (∀ k < i, ∀ j : Nat, (j : Int) < t.b (clsN (opAt l k)) → useR l t cs l.length (clsN (opAt l k)) (cs.getD k 0 + j) ≤ t.u (clsN (opAt l k))) ∧ Ext h1 σ.h)) _ ⟨0, rfl, rfl, rfl, rfl, rfl, rfl, rfl, rfl, rfl, by refine e11.trans ?_; first | rfl | exact yP (by omega) | (simp -implicitDefEqProofs (disch := omega) only [yG]; first | rfl | exact yP (by omega)), ?_⟩ ?_
        · exact ⟨by omega, fun k hk => by omega, (by repeat (first | exact Ext.refl _ | assumption | refine Ext.tick ?_ | refine Ext.push ?_ (by omega) _ | refine Ext.put ?_ (by omega) _ | refine Ext.kill ?_ (by omega) | refine Ext.killA ?_ (by assumption) | refine Ext.setm ?_ _ _))⟩
        clear hx
        clear e0 e1 e2 e4 e6 e7 e8 e9 e10 e11 e12 e14; rintro nn ⟨env, h5⟩ ⟨i, rfl, q0, q1, q2, q4, q7, q8, q9, q10, e11, hI⟩; simp only at q0 q1 q2 q4 q7 q8 q9 q10 e11 hI; (first | have e0 := q0.trans E47_3_0 | have e0 := True.intro); (first | have e1 := q1.trans E47_3_1 | have e1 := True.intro); (first | have e2 := q2.trans E47_3_2 | have e2 := True.intro); (first | have e4 := q4.trans E47_3_4 | have e4 := True.intro); (first | have e7 := q7.trans E47_3_7 | have e7 := True.intro); (first | have e8 := q8.trans E47_3_8 | have e8 := True.intro); (first | have e9 := q9.trans E47_3_9 | have e9 := True.intro); (first | have e10 := q10.trans E47_3_10 | have e10 := True.intro); clear q0 q1 q2 q4 q7 q8 q9 q10; have e6 := True.intro; have e12 := True.intro; have e14 := True.intro
        obtain ⟨hi, hrooms, hx⟩ := hI
        unfold l47_3
        (first | refine yV fun hF => ?_ | refine qM fun hF => ?_ | refine qL fun hF => ?_)
        by_cases hlt : i < l.length
        · have hd : decide ((i : Int) < (l.length : Int)) = true := dT (by omega)
          have hro := qU hlt .i64
          have hcl := clsN_eq l[i]
          have hcc := clsN_lt l[i]
          have hop := qR hlt
          repeat' (first | ((try clear hf); with_reducible refine yE fun env K hE hK hf => ?_; have n := cj12 hE 0 1 2 4 6 7 8 9 10 11 12 14; simp -implicitDefEqProofs only [push_cast, reduceIte, Nat.reduceEqDiff, e0, e1, e2, e4, e6, e7, e8, e9, e10, e11, e12, e14] at n; clear hE e0 e1 e2 e4 e6 e7 e8 e9 e10 e11 e12 e14; obtain ⟨e0, e1, e2, e4, e6, e7, e8, e9, e10, e11, e12, e14⟩ := n) | (with_reducible refine hK _ _ ?_; clear hK K) | (with_reducible first | (refine Zi ?_; constructor) | refine yC (by decide) ?_ | refine yJ (by assumption) ?_ | refine yL (by assumption) ?_) | (refine yD rfl ?_) | (simp -implicitDefEqProofs only [push_cast, sevalprocAttr, eq_self, e0, e1, e2, e4, e6, e7, e8, e9, e10, e11, e12, e14, hd, hF.at, hro, op_0, hcl]) | (simp -implicitDefEqProofs (disch := omega) only [yH, yM, yI, yG, e0, e1, e2, e4, e6, e7, e8, e9, e10, e11, e12, e14, hd, hF.at, hro, op_0, hcl]) | (with_reducible refine yO ?_ ?_) | (refine yF rfl (fun bb => ?_) (fun bb => ?_) <;> (first | have bp := oT bb | have bp := oF bb | skip) <;> simp only [bb]) | (with_reducible refine yK (fun bb => ?_) (fun bb => ?_) <;> (first | have bp := oT bb | have bp := oF bb | skip)) | ((with_reducible refine And.intro ?_ ?_); omega) | (refine yN (f51 _) ?_) | fail)
          have hbu := ht.1 _ hcc
          unfold okC at hbu
          obtain ⟨b, hb⟩ : ∃ b : Nat, t.b (clsN l[i]) = b := ⟨(t.b (clsN l[i])).toNat, by omega⟩
          have hvr := hrange _ (hget i hlt)
          have hr := int_at (l := cs) (k := i) (by omega) .i64
          have hx0 := hx
          refine yQ fun env hE => ?_; have n := cj12 hE 0 1 2 4 6 7 8 9 10 11 12 14; simp -implicitDefEqProofs only [push_cast, reduceIte, Nat.reduceEqDiff, e0, e1, e2, e4, e6, e7, e8, e9, e10, e11, e12, e14] at n; clear hE e0 e1 e2 e4 e6 e7 e8 e9 e10 e11 e12 e14; obtain ⟨e0, e1, e2, e4, e6, e7, e8, e9, e10, e11, e12, e14⟩ := n; have E47_2_0 := e0; have E47_2_1 := e1; have E47_2_2 := e2; have E47_2_4 := e4; have E47_2_7 := e7; have E47_2_8 := e8; have E47_2_9 := e9; have E47_2_10 := e10; have E47_2_11 := e11; have E47_2_12 := e12
          refine qE (fun nn σ => ∃ (j : Nat), nn = b - j ∧ σ.env 0 = env 0 ∧ σ.env 1 = env 1 ∧ σ.env 2 = env 2 ∧ σ.env 4 = env 4 ∧ σ.env 7 = env 7 ∧ σ.env 8 = env 8 ∧ σ.env 9 = env 9 ∧ σ.env 10 = env 10 ∧ σ.env 11 = env 11 ∧ σ.env 12 = env 12 ∧ σ.env 14 = i64 j ∧ (j ≤ b ∧ (∀ q : Nat, q < j → useR l t cs l.length (clsN l[i]) (cs.getD i 0 + q) ≤ t.u (clsN l[i])) ∧ Ext h1 σ.h)) _ ⟨0, rfl, rfl, rfl, rfl, rfl, rfl, rfl, rfl, rfl, rfl, rfl, by refine e14.trans ?_; first | rfl | exact yP (by omega) | (simp -implicitDefEqProofs (disch := omega) only [yG]; first | rfl | exact yP (by omega)), ?_⟩ ?_
          · exact ⟨by omega, fun q hq => by omega, (by repeat (first | exact Ext.refl _ | assumption | refine Ext.tick ?_ | refine Ext.push ?_ (by omega) _ | refine Ext.put ?_ (by omega) _ | refine Ext.kill ?_ (by omega) | refine Ext.killA ?_ (by assumption) | refine Ext.setm ?_ _ _))⟩
          clear hx
          clear e0 e1 e2 e4 e6 e7 e8 e9 e10 e11 e12 e14; rintro nn ⟨env, h6⟩ ⟨j, rfl, q0, q1, q2, q4, q7, q8, q9, q10, q11, q12, e14, hI⟩; simp only at q0 q1 q2 q4 q7 q8 q9 q10 q11 q12 e14 hI; (first | have e0 := q0.trans E47_2_0 | have e0 := True.intro); (first | have e1 := q1.trans E47_2_1 | have e1 := True.intro); (first | have e2 := q2.trans E47_2_2 | have e2 := True.intro); (first | have e4 := q4.trans E47_2_4 | have e4 := True.intro); (first | have e7 := q7.trans E47_2_7 | have e7 := True.intro); (first | have e8 := q8.trans E47_2_8 | have e8 := True.intro); (first | have e9 := q9.trans E47_2_9 | have e9 := True.intro); (first | have e10 := q10.trans E47_2_10 | have e10 := True.intro); (first | have e11 := q11.trans E47_2_11 | have e11 := True.intro); (first | have e12 := q12.trans E47_2_12 | have e12 := True.intro); clear q0 q1 q2 q4 q7 q8 q9 q10 q11 q12; have e6 := True.intro
          obtain ⟨hj, hq, hx⟩ := hI
          unfold l47_2
          (first | refine yV fun hF => ?_ | refine qM fun hF => ?_ | refine qL fun hF => ?_)
          have hbT2 := (hx.2 (2, 4) (by simp only; omega)).trans hbT
          have hq8 := tab_b t hcc
          have hq0 := tab_u t hcc
          by_cases hlj : j < b
          · have hd : decide ((j : Int) < t.b (clsN l[i])) = true := dT (by omega)
            have hw : IntKind.i64.wrap (cs.getD i 0 + j) = cs.getD i 0 + j := qN (by omega) (by omega)
            have hub := useR_bnd l t cs l.length (clsN l[i]) (cs.getD i 0 + j)
            by_cases hok : t.u (clsN l[i]) < useR l t cs l.length (clsN l[i]) (cs.getD i 0 + j)
            · have d1 : decide (t.u (clsN l[i]) < useR l t cs l.length (clsN l[i]) (cs.getD i 0 + j)) = true := dT hok
              have hE : checkB l t cs = false := hno fun h => by
                have := h.2.2.2.2.2 i hlt j (by rw [← hop]; omega)
                rw [← hop] at this
                omega
              repeat' (first | ((try clear hf); with_reducible refine yE fun env K hE hK hf => ?_; have n := cj12 hE 0 1 2 4 6 7 8 9 10 11 12 14; simp -implicitDefEqProofs only [push_cast, reduceIte, Nat.reduceEqDiff, e0, e1, e2, e4, e6, e7, e8, e9, e10, e11, e12, e14] at n; clear hE e0 e1 e2 e4 e6 e7 e8 e9 e10 e11 e12 e14; obtain ⟨e0, e1, e2, e4, e6, e7, e8, e9, e10, e11, e12, e14⟩ := n) | (with_reducible refine hK _ _ ?_; clear hK K) | (with_reducible first | (refine Zi ?_; constructor) | refine yC (by decide) ?_ | refine yJ (by assumption) ?_ | refine yL (by assumption) ?_) | (refine yD rfl ?_) | (simp -implicitDefEqProofs only [push_cast, sevalprocAttr, eq_self, e0, e1, e2, e4, e6, e7, e8, e9, e10, e11, e12, e14, hd, hF.at, hbT2, hq8, hq0, hr, hw, d1, hE]) | (simp -implicitDefEqProofs (disch := omega) only [yH, yM, yI, yG, e0, e1, e2, e4, e6, e7, e8, e9, e10, e11, e12, e14, hd, hF.at, hbT2, hq8, hq0, hr, hw, d1, hE]) | (with_reducible refine yO ?_ ?_) | (refine yF rfl (fun bb => ?_) (fun bb => ?_) <;> (first | have bp := oT bb | have bp := oF bb | skip) <;> simp only [bb]) | (with_reducible refine yK (fun bb => ?_) (fun bb => ?_) <;> (first | have bp := oT bb | have bp := oF bb | skip)) | ((with_reducible refine And.intro ?_ ?_); omega) | (refine call_immq (f85 l t cs (clsN l[i]) (cs.getD i 0 + j) (by omega) hln (fun x hx => by have := hrange x hx; omega) ht hcc) ?_) | fail)
            · have d1 : decide (t.u (clsN l[i]) < useR l t cs l.length (clsN l[i]) (cs.getD i 0 + j)) = false := dF hok
              repeat' (first | ((try clear hf); with_reducible refine yE fun env K hE hK hf => ?_; have n := cj12 hE 0 1 2 4 6 7 8 9 10 11 12 14; simp -implicitDefEqProofs only [push_cast, reduceIte, Nat.reduceEqDiff, e0, e1, e2, e4, e6, e7, e8, e9, e10, e11, e12, e14] at n; clear hE e0 e1 e2 e4 e6 e7 e8 e9 e10 e11 e12 e14; obtain ⟨e0, e1, e2, e4, e6, e7, e8, e9, e10, e11, e12, e14⟩ := n) | (with_reducible refine hK _ _ ?_; clear hK K) | (with_reducible first | (refine Zi ?_; constructor) | refine yC (by decide) ?_ | refine yJ (by assumption) ?_ | refine yL (by assumption) ?_) | (refine yD rfl ?_) | (simp -implicitDefEqProofs only [push_cast, sevalprocAttr, eq_self, e0, e1, e2, e4, e6, e7, e8, e9, e10, e11, e12, e14, hd, hF.at, hbT2, hq8, hq0, hr, hw, d1]) | (simp -implicitDefEqProofs (disch := omega) only [yH, yM, yI, yG, e0, e1, e2, e4, e6, e7, e8, e9, e10, e11, e12, e14, hd, hF.at, hbT2, hq8, hq0, hr, hw, d1]) | (with_reducible refine yO ?_ ?_) | (refine yF rfl (fun bb => ?_) (fun bb => ?_) <;> (first | have bp := oT bb | have bp := oF bb | skip) <;> simp only [bb]) | (with_reducible refine yK (fun bb => ?_) (fun bb => ?_) <;> (first | have bp := oT bb | have bp := oF bb | skip)) | ((with_reducible refine And.intro ?_ ?_); omega) | (refine call_immq (f85 l t cs (clsN l[i]) (cs.getD i 0 + j) (by omega) hln (fun x hx => by have := hrange x hx; omega) ht hcc) ?_) | fail)
              refine ⟨_, ?_, j + 1, rfl, E47_2_0.symm, E47_2_1.symm, E47_2_2.symm, E47_2_4.symm, E47_2_7.symm, E47_2_8.symm, E47_2_9.symm, E47_2_10.symm, E47_2_11.symm, E47_2_12.symm, by first | rfl | exact yP (by omega) | (simp -implicitDefEqProofs (disch := omega) only [yG]; first | rfl | exact yP (by omega)), ?_⟩
              · omega
              · refine ⟨by omega, fun q hqj => ?_, (by repeat (first | exact Ext.refl _ | assumption | refine Ext.tick ?_ | refine Ext.push ?_ (by omega) _ | refine Ext.put ?_ (by omega) _ | refine Ext.kill ?_ (by omega) | refine Ext.killA ?_ (by assumption) | refine Ext.setm ?_ _ _))⟩
                by_cases e : q = j
                · subst e; omega
                · exact hq q (by omega)
          · have hd : decide ((j : Int) < t.b (clsN l[i])) = false := dF (by omega)
            repeat' (first | ((try clear hf); with_reducible refine yE fun env K hE hK hf => ?_; have n := cj12 hE 0 1 2 4 6 7 8 9 10 11 12 14; simp -implicitDefEqProofs only [push_cast, reduceIte, Nat.reduceEqDiff, e0, e1, e2, e4, e6, e7, e8, e9, e10, e11, e12, e14] at n; clear hE e0 e1 e2 e4 e6 e7 e8 e9 e10 e11 e12 e14; obtain ⟨e0, e1, e2, e4, e6, e7, e8, e9, e10, e11, e12, e14⟩ := n) | (with_reducible refine hK _ _ ?_; clear hK K) | (with_reducible first | (refine Zi ?_; constructor) | refine yC (by decide) ?_ | refine yJ (by assumption) ?_ | refine yL (by assumption) ?_) | (refine yD rfl ?_) | (simp -implicitDefEqProofs only [push_cast, sevalprocAttr, eq_self, e0, e1, e2, e4, e6, e7, e8, e9, e10, e11, e12, e14, hd, hF.at, hbT2, hq8]) | (simp -implicitDefEqProofs (disch := omega) only [yH, yM, yI, yG, e0, e1, e2, e4, e6, e7, e8, e9, e10, e11, e12, e14, hd, hF.at, hbT2, hq8]) | (with_reducible refine yO ?_ ?_) | (refine yF rfl (fun bb => ?_) (fun bb => ?_) <;> (first | have bp := oT bb | have bp := oF bb | skip) <;> simp only [bb]) | (with_reducible refine yK (fun bb => ?_) (fun bb => ?_) <;> (first | have bp := oT bb | have bp := oF bb | skip)) | ((with_reducible refine And.intro ?_ ?_); omega) | fail)
            refine ⟨_, ?_, i + 1, rfl, E47_3_0.symm, E47_3_1.symm, E47_3_2.symm, E47_3_4.symm, E47_3_7.symm, E47_3_8.symm, E47_3_9.symm, E47_3_10.symm, by first | rfl | exact yP (by omega) | (simp -implicitDefEqProofs (disch := omega) only [yG]; first | rfl | exact yP (by omega)), ?_⟩
            · omega
            · refine ⟨by omega, fun k hk => ?_, (by repeat (first | exact Ext.refl _ | assumption | refine Ext.tick ?_ | refine Ext.push ?_ (by omega) _ | refine Ext.put ?_ (by omega) _ | refine Ext.kill ?_ (by omega) | refine Ext.killA ?_ (by assumption) | refine Ext.setm ?_ _ _))⟩
              by_cases e : k = i
              · subst e
                rw [← hop]
                exact fun q hqb => hq q (by omega)
              · exact hrooms k (by omega)
        · have hd : decide ((i : Int) < (l.length : Int)) = false := dF (by omega)
          obtain rfl : i = l.length := by omega
          have hE : checkB l t cs = true := checkB_t (hiff.1 ⟨hR, hul, hln, hrange, hed, hrooms⟩)
          repeat' (first | ((try clear hf); with_reducible refine yE fun env K hE hK hf => ?_; have n := cj12 hE 0 1 2 4 6 7 8 9 10 11 12 14; simp -implicitDefEqProofs only [push_cast, reduceIte, Nat.reduceEqDiff, e0, e1, e2, e4, e6, e7, e8, e9, e10, e11, e12, e14] at n; clear hE e0 e1 e2 e4 e6 e7 e8 e9 e10 e11 e12 e14; obtain ⟨e0, e1, e2, e4, e6, e7, e8, e9, e10, e11, e12, e14⟩ := n) | (with_reducible refine hK _ _ ?_; clear hK K) | (with_reducible first | (refine Zi ?_; constructor) | refine yC (by decide) ?_ | refine yJ (by assumption) ?_ | refine yL (by assumption) ?_) | (refine yD rfl ?_) | (simp -implicitDefEqProofs only [push_cast, sevalprocAttr, eq_self, e0, e1, e2, e4, e6, e7, e8, e9, e10, e11, e12, e14, hd, hF.at, hE]) | (simp -implicitDefEqProofs (disch := omega) only [yH, yM, yI, yG, e0, e1, e2, e4, e6, e7, e8, e9, e10, e11, e12, e14, hd, hF.at, hE]) | (with_reducible refine yO ?_ ?_) | (refine yF rfl (fun bb => ?_) (fun bb => ?_) <;> (first | have bp := oT bb | have bp := oF bb | skip) <;> simp only [bb]) | (with_reducible refine yK (fun bb => ?_) (fun bb => ?_) <;> (first | have bp := oT bb | have bp := oF bb | skip)) | ((with_reducible refine And.intro ?_ ?_); omega) | fail)
      · have hdn : decide (¬ (cs.length : Int) = (l.length : Int)) = true := dT (by omega)
        have hE : checkB l t cs = false := checkB_f fun h => hln h.2.2.1
        repeat' (first | ((try clear hf); with_reducible refine yE fun env K hE hK hf => ?_; have n := cj12 hE 0 1 2 4 6 7 8 9 10 11 12 14; simp -implicitDefEqProofs only [push_cast, reduceIte, Nat.reduceEqDiff, e0, e1, e2, e4, e6, e7, e8, e9, e10, e11, e12, e14] at n; clear hE e0 e1 e2 e4 e6 e7 e8 e9 e10 e11 e12 e14; obtain ⟨e0, e1, e2, e4, e6, e7, e8, e9, e10, e11, e12, e14⟩ := n) | (with_reducible refine hK _ _ ?_; clear hK K) | (with_reducible first | (refine Zi ?_; constructor) | refine yC (by decide) ?_ | refine yJ (by assumption) ?_ | refine yL (by assumption) ?_) | (refine yD rfl ?_) | (simp -implicitDefEqProofs only [push_cast, sevalprocAttr, eq_self, e0, e1, e2, e4, e6, e7, e8, e9, e10, e11, e12, e14, yU, hbT, hul, hdn, hE]) | (simp -implicitDefEqProofs (disch := omega) only [yH, yM, yI, yG, e0, e1, e2, e4, e6, e7, e8, e9, e10, e11, e12, e14, yU, hbT, hul, hdn, hE]) | (with_reducible refine yO ?_ ?_) | (refine yF rfl (fun bb => ?_) (fun bb => ?_) <;> (first | have bp := oT bb | have bp := oF bb | skip) <;> simp only [bb]) | (with_reducible refine yK (fun bb => ?_) (fun bb => ?_) <;> (first | have bp := oT bb | have bp := oF bb | skip)) | ((with_reducible refine And.intro ?_ ?_); omega) | (refine YB (HC.mono (f72 hl) ?_); rintro r h1 ⟨hx, hr⟩ hF1; obtain ⟨_, out, hr, hO, _⟩ := hr.resolve_left (fun h => h.1 hR); subst hr; have hbT := chk_T t hx) | (refine yN (f82 l t (by omega)) ?_) | fail)
    · have hlk : lackB l t = true := by simpa using hlk
      rw [hlk] at hul
      have hE : checkB l t cs = false := checkB_f fun h => by have := h.2.1; rw [hlk] at this; exact absurd this (by decide)
      repeat' (first | ((try clear hf); with_reducible refine yE fun env K hE hK hf => ?_; have n := cj12 hE 0 1 2 4 6 7 8 9 10 11 12 14; simp -implicitDefEqProofs only [push_cast, reduceIte, Nat.reduceEqDiff, e0, e1, e2, e4, e6, e7, e8, e9, e10, e11, e12, e14] at n; clear hE e0 e1 e2 e4 e6 e7 e8 e9 e10 e11 e12 e14; obtain ⟨e0, e1, e2, e4, e6, e7, e8, e9, e10, e11, e12, e14⟩ := n) | (with_reducible refine hK _ _ ?_; clear hK K) | (with_reducible first | (refine Zi ?_; constructor) | refine yC (by decide) ?_ | refine yJ (by assumption) ?_ | refine yL (by assumption) ?_) | (refine yD rfl ?_) | (simp -implicitDefEqProofs only [push_cast, sevalprocAttr, eq_self, e0, e1, e2, e4, e6, e7, e8, e9, e10, e11, e12, e14, yU, hbT, hul, hE]) | (simp -implicitDefEqProofs (disch := omega) only [yH, yM, yI, yG, e0, e1, e2, e4, e6, e7, e8, e9, e10, e11, e12, e14, yU, hbT, hul, hE]) | (with_reducible refine yO ?_ ?_) | (refine yF rfl (fun bb => ?_) (fun bb => ?_) <;> (first | have bp := oT bb | have bp := oF bb | skip) <;> simp only [bb]) | (with_reducible refine yK (fun bb => ?_) (fun bb => ?_) <;> (first | have bp := oT bb | have bp := oF bb | skip)) | ((with_reducible refine And.intro ?_ ?_); omega) | (refine YB (HC.mono (f72 hl) ?_); rintro r h1 ⟨hx, hr⟩ hF1; obtain ⟨_, out, hr, hO, _⟩ := hr.resolve_left (fun h => h.1 hR); subst hr; have hbT := chk_T t hx) | (refine yN (f82 l t (by omega)) ?_) | fail)
  · have hE : checkB l t cs = false := checkB_f fun h => hR h.1
    have hd : decide (¬ errR l t = 0) = true := dT hR
    repeat' (first | ((try clear hf); with_reducible refine yE fun env K hE hK hf => ?_; have n := cj12 hE 0 1 2 4 6 7 8 9 10 11 12 14; simp -implicitDefEqProofs only [push_cast, reduceIte, Nat.reduceEqDiff, e0, e1, e2, e4, e6, e7, e8, e9, e10, e11, e12, e14] at n; clear hE e0 e1 e2 e4 e6 e7 e8 e9 e10 e11 e12 e14; obtain ⟨e0, e1, e2, e4, e6, e7, e8, e9, e10, e11, e12, e14⟩ := n) | (with_reducible refine hK _ _ ?_; clear hK K) | (with_reducible first | (refine Zi ?_; constructor) | refine yC (by decide) ?_ | refine yJ (by assumption) ?_ | refine yL (by assumption) ?_) | (refine yD rfl ?_) | (simp -implicitDefEqProofs only [push_cast, sevalprocAttr, eq_self, e0, e1, e2, e4, e6, e7, e8, e9, e10, e11, e12, e14, yU, hd, hE]) | (simp -implicitDefEqProofs (disch := omega) only [yH, yM, yI, yG, e0, e1, e2, e4, e6, e7, e8, e9, e10, e11, e12, e14, yU, hd, hE]) | (with_reducible refine yO ?_ ?_) | (refine yF rfl (fun bb => ?_) (fun bb => ?_) <;> (first | have bp := oT bb | have bp := oF bb | skip) <;> simp only [bb]) | (with_reducible refine yK (fun bb => ?_) (fun bb => ?_) <;> (first | have bp := oT bb | have bp := oF bb | skip)) | ((with_reducible refine And.intro ?_ ?_); omega) | (refine YB (HC.mono (f72 hl) ?_); rintro r h1 ⟨hx, hr⟩ hF1; replace hr := (hr.resolve_right (fun h => hR h.1)).2; subst hr) | fail)
end Go.Proofs.Hx

set_option linter.unusedVariables false
set_option linter.unusedSimpArgs false
namespace Go.Proofs.Hx
open Go Go.Proofs
attribute [local irreducible] yS awp opK goV goM qB yZ qH yW HV HVF HC
end Go.Proofs.Hx

set_option linter.unusedVariables false
set_option linter.unusedSimpArgs false
namespace Go.Proofs.Hx
open Go Go.Proofs
attribute [local irreducible] yS awp opK goV goM qB yZ qH yW HV HVF HC
end Go.Proofs.Hx

set_option linter.unusedVariables false
set_option linter.unusedSimpArgs false
namespace Go.Proofs.Hx
open Go Go.Proofs
attribute [local irreducible] yS awp opK goV goM qB yZ qH yW HV HVF HC
end Go.Proofs.Hx

set_option linter.unusedVariables false
set_option linter.unusedSimpArgs false
namespace Go.Proofs.Hx
open Go Go.Proofs
attribute [local irreducible] yS awp opK goV goM qB yZ qH yW HV HVF HC
end Go.Proofs.Hx

set_option linter.unusedVariables false
set_option linter.unusedSimpArgs false
namespace Go.Proofs.Hx
open Go Go.Proofs
attribute [local irreducible] yS awp opK goV goM qB yZ qH yW HV HVF HC
end Go.Proofs.Hx

set_option linter.unusedVariables false
set_option linter.unusedSimpArgs false
namespace Go.Proofs.Hx
open Go Go.Proofs
attribute [local irreducible] yS awp opK goV goM qB yZ qH yW HV HVF HC
end Go.Proofs.Hx

set_option linter.unusedVariables false
set_option linter.unusedSimpArgs false
namespace Go.Proofs.Hx
open Go Go.Proofs
attribute [local irreducible] yS awp opK goV goM qB yZ qH yW HV HVF HC
/-! ### The square of the longest ways, as a function -/
/-! ### The array's cells -/
end Go.Proofs.Hx

set_option linter.unusedVariables false
set_option linter.unusedSimpArgs false
namespace Go.Proofs.Hx
open Go Go.Proofs
/-! ### Ways, and the square -/
def wgt (n : Int) (e : Edg) : Int := e.l - n * e.d
theorem fset_same (D : Nat → Int) (p : Nat) (v : Int) : fset D p v p = v := by simp [fset]
/-! the row's step -/
/-! the lower qT -/
/-! the edges -/
/-! the upper qT -/
end Go.Proofs.Hx

set_option linter.unusedVariables false
set_option linter.unusedSimpArgs false
namespace Go.Proofs.Hx
open Go Go.Proofs
/-! ### Longest ways from everywhere, round by round -/
/-! chains of changes -/
def Chain (es : List Edg) (n : Int) : List (Nat × Int) → Prop
  | [] => False
  | [_] => True
  | (v, a) :: (u, b) :: r => (∃ e ∈ es, e.f = u ∧ e.t = v ∧ a = b + wgt n e) ∧ Chain es n ((u, b) :: r)
/-- What stands behind the values of a round. -/
structure CHs (es : List Edg) (n : Int) (s : Nat) (A : Nat → Int) (c : Nat → List (Nat × Int)) : Prop where
  hd : ∀ v, ∃ r, c v = (v, A v) :: r
  ch : ∀ v, Chain es n (c v)
  pw : ∀ v, (c v).Pairwise fun x y => x.1 = y.1 → y.2 < x.2
  le : ∀ v, ∀ x ∈ c v, x.2 ≤ A x.1
  lt : ∀ v, v < s → ∀ x ∈ c v, x.1 < s
def cset (c : Nat → List (Nat × Int)) (v : Nat) (l : List (Nat × Int)) : Nat → List (Nat × Int) := fun u => if u = v then l else c u
theorem CHs.step {es : List Edg} {n : Int} {s : Nat} {A : Nat → Int} {c : Nat → List (Nat × Int)} (h : CHs es n s A c) {e : Edg} (hm : e ∈ es) (hf : 0 ≤ e.f ∧ e.f < s) (ht : 0 ≤ e.t ∧ e.t < s) {x : Int} (hx : x = A e.f.toNat + wgt n e) (hgt : A e.t.toNat < x) :
    CHs es n s (fset A e.t.toNat x) (cset c e.t.toNat ((e.t.toNat, x) :: c e.f.toNat)) := by
  have hA : ∀ u, A u ≤ fset A e.t.toNat x u := fun u => by
    unfold fset; split
    · rename_i e'; subst e'; omega
    · exact Int.le_refl _
  have hle : ∀ v, ∀ y ∈ c v, y.2 ≤ fset A e.t.toNat x y.1 := fun v y hy => Int.le_trans (h.le v y hy) (hA _)
  refine ⟨fun v => ?_, fun v => ?_, fun v => ?_, fun v => ?_, fun v => ?_⟩
  · unfold cset fset; split
    · rename_i e'; subst e'; exact ⟨_, rfl⟩
    · exact h.hd v
  · unfold cset; split
    · obtain ⟨r, hr⟩ := h.hd e.f.toNat
      have := h.ch e.f.toNat
      rw [hr] at this ⊢
      exact ⟨⟨e, hm, by omega, by omega, hx⟩, this⟩
    · exact h.ch v
  · unfold cset; split
    · refine List.pairwise_cons.2 ⟨fun y hy e' => ?_, h.pw _⟩
      have := h.le _ y hy
      rw [← e'] at this
      simp only at this ⊢
      omega
    · exact h.pw v
  · unfold cset; split
    · intro y hy
      rcases List.mem_cons.1 hy with rfl | hy
      · rw [fset_same]; exact Int.le_refl _
      · exact hle _ y hy
    · exact hle v
  · intro hv
    unfold cset; split
    · intro y hy
      rcases List.mem_cons.1 hy with rfl | hy
      · simp only; omega
      · exact h.lt _ (by omega) y hy
    · exact h.lt v hv
end Go.Proofs.Hx

set_option linter.unusedVariables false
set_option linter.unusedSimpArgs false
namespace Go.Proofs.Hx
open Go Go.Proofs
/-! ### What the edges of a loop are like -/
/-! ### The least round -/
def lst (p : Int → Bool) : Nat → Nat → Nat
  | a, 0 => a
  | a, f + 1 => if p a = true then a else lst p (a + 1) f
end Go.Proofs.Hx

set_option linter.unusedVariables false
set_option linter.unusedSimpArgs false
namespace Go.Proofs.Hx
open Go Go.Proofs
attribute [local irreducible] yS awp opK goV goM qB yZ qH yW HV HVF HC
theorem erows_imms (l : List Edg) : immss (l.map edC) = true := qV fun i x hx => by simp at hx; obtain ⟨o, _, rfl⟩ := hx; rfl
/-- Edges, as they are lent: none may be nil. -/
def EdV (E : AV) (es : List Edg) : Prop := E = .row (es.map edC) ∨ (E = .nil ∧ es = [])
theorem EdV.imm {E : AV} {es : List Edg} (h : EdV E es) : imm E = true := by
  rcases h with rfl | ⟨rfl, _⟩
  · simp [Hx.imm, erows_imms]
  · rfl
theorem EdV.len {E : AV} {es : List Edg} (h : EdV E es) : lenV E = some (.lit (.int .i64 es.length)) := by
  rcases h with rfl | ⟨rfl, rfl⟩
  · simp [lenV]
  · rfl
theorem EdV.at {E : AV} {es : List Edg} (h : EdV E es) {k : Nat} (hk : k < es.length) (kd : IntKind) : YJ none 5 E (.lit (.int kd (k : Int))) = some (.ip (edC es[k])) := by
  rcases h with rfl | ⟨rfl, rfl⟩
  · exact idxAddr_row edC 5 YF es kd hk
  · exact absurd hk (by simp)
end Go.Proofs.Hx

set_option linter.unusedVariables false
set_option linter.unusedSimpArgs false
namespace Go.Proofs.Hx
open Go Go.Proofs
attribute [local irreducible] yS awp opK goV goM qB yZ qH yW HV HVF HC
end Go.Proofs.Hx

set_option linter.unusedVariables false
set_option linter.unusedSimpArgs false
namespace Go.Proofs.Hx
open Go Go.Proofs
attribute [local irreducible] yS awp opK goV goM qB yZ qH yW HV HVF HC
theorem OutR.ext {h g : Hp} {a : AV} {es : List Edg} (o : OutR h a es) (hg : Ext h g) : OutR g a es := by
  rcases o with h1 | ⟨id, h1, h2, h3⟩
  · exact .inl h1
  · exact .inr ⟨id, h1, (hg.2 id h3).trans h2, Nat.le_trans h3 hg.1⟩
end Go.Proofs.Hx

set_option linter.unusedVariables false
set_option linter.unusedSimpArgs false
namespace Go.Proofs.Hx
open Go Go.Proofs
attribute [local irreducible] yS awp opK goV goM qB yZ qH yW HV HVF HC
/-! The values stay small. -/
end Go.Proofs.Hx
