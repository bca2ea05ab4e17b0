import Derived.Test.YtcdibfkebojefaaG5
set_option linter.unusedVariables false
set_option linter.unusedSimpArgs false
namespace Go.Proofs.Hx
open Go Go.Proofs
attribute [local irreducible] yM awp opK goV goM yZ qB qD yQ HV HVF HC
def rp1 : ACode := .seq (.ops r94_3 []) (.cond (.t 33) (.ops r94_4 []) .skip)
def rp2 : ACode := .seq (.ops r94_5 []) (.cond (.t 49) (.ops r94_6 []) .skip)
def rp3 : ACode := .seq (.ops r94_7 []) (.cond (.t 88) (.seq (.ops r94_8 []) (.seq (.block 0 (.seq (.ops r94_9 []) (.cond (.t 93) (.ops r94_10 []) (.seq (.ops r94_11 []) (.cond (.t 112) (.ops r94_12 []) .skip))))) (.ops r94_13 []))) .skip)
def rp4 : ACode := .seq (.ops r94_14 []) (.cond (.t 135) (.ops r94_15 []) .skip)
def rpT : ACode := .seq rp1 (.seq rp2 (.seq rp3 (.seq rp4 (.seq (.ops r94_16 []) .ret))))
theorem rp_code : ac94 = .seq (.ops r94_0 []) (.seq (.ops r94_1 []) (.seq (.ops r94_2 []) rpT)) := rfl
/-- The reference's pair, with the edges so far. -/
def MR (l : List Opn) (t : Tab) (i j : Nat) (dist : Int) (meet : Bool) (E : List Edg) (σ : St) : Prop := ∃ a, σ.env 0 = .row (l.map opC) ∧ σ.env 2 = i64 i ∧ σ.env 3 = i64 j ∧ σ.env 4 = i64 dist ∧ σ.env 5 = bl meet ∧ σ.env 7 = .ptr (2, 7) 0 ∧ σ.env 13 = a ∧ σ.env 14 = u8 (wrS (opAt l j)).1 ∧ σ.env 15 = bl (wrS (opAt l j)).2 ∧
  SlO edC 5 σ.h a E ∧ σ.h.hp (2, 7) = some ⟨true, tabC t⟩ ∧ 2 ≤ σ.h.ep ∧ ∀ x, idOf a = some x → 2 < x.1
theorem MR.done {l : List Opn} {t : Tab} {i j : Nat} {dist : Int} {meet : Bool} {E E' : List Edg} {env : Nat → AV} {h g : Hp} {a : AV} (e0 : env 0 = .row (l.map opC)) (e2 : env 2 = i64 i) (e3 : env 3 = i64 j) (e4 : env 4 = i64 dist) (e5 : env 5 = bl meet) (e7 : env 7 = .ptr (2, 7) 0) (e13 : env 13 = a) (e14 : env 14 = u8 (wrS (opAt l j)).1) (e15 : env 15 = bl (wrS (opAt l j)).2)
    (hs : SlO edC 5 g a E) (hb : g.hp (2, 7) = some ⟨true, tabC t⟩) (he : 2 ≤ g.ep) (hi : ∀ x, idOf a = some x → 2 < x.1) (hx : Ext g h) (hE : E = E') : MR l t i j dist meet E' ⟨env, h⟩ :=
  ⟨a, e0, e2, e3, e4, e5, e7, e13, e14, e15, hE ▸ hs.ext hx, (hx.2 _ (by simpa using he)).trans hb, Nat.le_trans he hx.1, hi⟩
attribute [local irreducible] rpT MR
def rpI (l : List Opn) (t : Tab) (i j : Nat) : Prop := i < l.length ∧ j < l.length ∧ (∀ o ∈ l, o.ok) ∧ tabOK t
set_option maxHeartbeats 1000000 in
theorem f94'1 {l : List Opn} {t : Tab} {i j : Nat} {dist : Int} {meet : Bool} {E : List Edg} (hI : rpI l t i j) (hE : E.length ≤ 1000) {σ : St} (hM : MR l t i j dist meet E σ) {Q : AEx → St → Prop} : awp Try.prog rp1 (seqK Try.prog (MR l t i j dist meet (E ++ pair1 (opAt l i) (opAt l j) i j dist)) Q) σ := by
  unfold MR at hM
  obtain ⟨env, h⟩ := σ
  obtain ⟨a, e0, e2, e3, e4, e5, e7, e13, e14, e15, hs, hb, he, hi⟩ := hM
  simp only at e0 e2 e3 e4 e5 e7 e13 e14 e15 hs hb he
  obtain ⟨hil, hjl, hl, ht⟩ := hI
  have e1 : True := trivial; have e12 : True := trivial; have e16 : True := trivial
  unfold rp1
  refine yI fun hF => ?_
  have hri := qK hil .i64
  have hoi := hl _ (List.getElem_mem hil)
  have hoj := hl _ (List.getElem_mem hjl)
  rw [qH hil] at hri hoi
  rw [qH hjl] at hoj
  generalize opAt l i = x at *
  generalize hyq : opAt l j = y at *
  have hid := fun x hx => hs.id_le (x := x) hx
  have hnn : (wrS y).2 = true → dS y = (wrS y).1 ∧ 0 ≤ dS y := fun h => by
    have hy := hoj
    unfold Opn.ok at hy
    unfold dS; rw [if_pos h]; refine ⟨rfl, ?_⟩
    unfold wrS; split <;> simp; omega
  by_cases h1 : (wrS y).2 = true
  · obtain ⟨g1, g2⟩ := hnn h1
    by_cases h2 : seesS x (wrS y).1 = true
    · have hp : pair1 x y i j dist = [⟨i, j, 0, dist, 1⟩] := by unfold pair1; rw [if_pos ⟨g2, by rw [g1]; exact h2⟩]
      rw [hp]
      repeat' (first | ((try clear hf); with_reducible refine zO fun env K hE hK hf => ?_; have n : _ ∧ _ ∧ _ ∧ _ ∧ _ ∧ _ ∧ _ ∧ _ ∧ _ ∧ _ ∧ _ ∧ _ := ⟨hE 0, hE 1, hE 2, hE 3, hE 4, hE 5, hE 7, hE 12, hE 13, hE 14, hE 15, hE 16⟩; simp -implicitDefEqProofs only [push_cast, reduceIte, Nat.reduceEqDiff, e0, e1, e2, e3, e4, e5, e7, e12, e13, e14, e15, e16] at n; clear hE e0 e1 e2 e3 e4 e5 e7 e12 e13 e14 e15 e16; obtain ⟨e0, e1, e2, e3, e4, e5, e7, e12, e13, e14, e15, e16⟩ := n) | (with_reducible refine hK _ _ ?_; clear hK K) | (with_reducible first | refine zK ?_ | refine zU ?_ | refine zB ?_ | refine zF ?_ | refine zD ?_ | refine zN ?_ | refine zT ?_ | refine zC ?_ | refine zG ?_ | refine zV ?_ | refine zE ?_ | refine zA (by decide) ?_ | refine zL ?_ | refine zQ ?_ | refine zM ?_ | refine yB ?_ | refine yC ?_ | refine zW (by assumption) ?_ | refine zY (by assumption) ?_) | (refine zH rfl ?_) | (simp -implicitDefEqProofs only [push_cast, sevalprocAttr, eq_self, e0, e1, e2, e3, e4, e5, e7, e12, e13, e14, e15, e16, hF.at, hri, h1, h2]) | (simp -implicitDefEqProofs (disch := omega) only [zR, zZ, zS, zJ, e0, e1, e2, e3, e4, e5, e7, e12, e13, e14, e15, e16, hF.at, hri, h1, h2]) | (with_reducible refine yE ?_ ?_) | (refine zP rfl (fun bb => ?_) (fun bb => ?_) <;> (first | have bp := of_decide_eq_true bb | have bp := of_decide_eq_false bb | skip) <;> simp only [bb]) | (with_reducible refine zX (fun bb => ?_) (fun bb => ?_) <;> (first | have bp := of_decide_eq_true bb | have bp := of_decide_eq_false bb | skip)) | ((with_reducible refine And.intro ?_ ?_); omega) | (refine yG (f56 x hoi _) ?_) | (refine goM_app1 (e := ⟨i, j, 0, dist, 1⟩) (hs.ext (by repeat (first | exact Ext.refl _ | assumption | refine Ext.tick ?_ | refine Ext.push ?_ (by omega) _ | refine Ext.put ?_ (by omega) _ | refine Ext.kill ?_ (by omega) | refine Ext.killA ?_ (by assumption)))) qO rfl (by omega) (fun e => by have := hid _ e; simp at this; omega) (by first | omega | (simp -implicitDefEqProofs only [push_cast, sevalprocAttr, eq_self]; first | done | omega)) ?_; intro g a' hs' ha' hep hfr) | fail)
      refine MR.done (g := g) e0 e2 e3 e4 e5 e7 rfl (by rw [hyq]; exact e14) (by rw [hyq]; exact e15) hs' ?_ ?_ ?_ (by repeat (first | exact Ext.refl _ | assumption | refine Ext.tick ?_ | refine Ext.push ?_ (by omega) _ | refine Ext.put ?_ (by omega) _ | refine Ext.kill ?_ (by omega) | refine Ext.killA ?_ (by assumption))) rfl
      · rw [hfr (2, 7) (by first | (simp; done) | (simp; omega)) (fun e => by have := hi _ e; simp at this)]; simp -implicitDefEqProofs only [push_cast, sevalprocAttr, eq_self, hb]
      · rw [hep]; exact (by first | omega | (simp -implicitDefEqProofs only [push_cast, sevalprocAttr, eq_self]; first | done | omega))
      · intro q hq; have := ha' q hq; rw [this]; simp only; omega
    · have hp : pair1 x y i j dist = [] := by unfold pair1; rw [if_neg (fun h => h2 (by rw [← g1]; exact h.2))]
      rw [hp, List.append_nil]
      rw [Bool.not_eq_true] at h2
      repeat' (first | ((try clear hf); with_reducible refine zO fun env K hE hK hf => ?_; have n : _ ∧ _ ∧ _ ∧ _ ∧ _ ∧ _ ∧ _ ∧ _ ∧ _ ∧ _ ∧ _ ∧ _ := ⟨hE 0, hE 1, hE 2, hE 3, hE 4, hE 5, hE 7, hE 12, hE 13, hE 14, hE 15, hE 16⟩; simp -implicitDefEqProofs only [push_cast, reduceIte, Nat.reduceEqDiff, e0, e1, e2, e3, e4, e5, e7, e12, e13, e14, e15, e16] at n; clear hE e0 e1 e2 e3 e4 e5 e7 e12 e13 e14 e15 e16; obtain ⟨e0, e1, e2, e3, e4, e5, e7, e12, e13, e14, e15, e16⟩ := n) | (with_reducible refine hK _ _ ?_; clear hK K) | (with_reducible first | refine zK ?_ | refine zU ?_ | refine zB ?_ | refine zF ?_ | refine zD ?_ | refine zN ?_ | refine zT ?_ | refine zC ?_ | refine zG ?_ | refine zV ?_ | refine zE ?_ | refine zA (by decide) ?_ | refine zL ?_ | refine zQ ?_ | refine zM ?_ | refine yB ?_ | refine yC ?_ | refine zW (by assumption) ?_ | refine zY (by assumption) ?_) | (refine zH rfl ?_) | (simp -implicitDefEqProofs only [push_cast, sevalprocAttr, eq_self, e0, e1, e2, e3, e4, e5, e7, e12, e13, e14, e15, e16, hF.at, hri, h1, h2]) | (simp -implicitDefEqProofs (disch := omega) only [zR, zZ, zS, zJ, e0, e1, e2, e3, e4, e5, e7, e12, e13, e14, e15, e16, hF.at, hri, h1, h2]) | (with_reducible refine yE ?_ ?_) | (refine zP rfl (fun bb => ?_) (fun bb => ?_) <;> (first | have bp := of_decide_eq_true bb | have bp := of_decide_eq_false bb | skip) <;> simp only [bb]) | (with_reducible refine zX (fun bb => ?_) (fun bb => ?_) <;> (first | have bp := of_decide_eq_true bb | have bp := of_decide_eq_false bb | skip)) | ((with_reducible refine And.intro ?_ ?_); omega) | (refine yG (f56 x hoi _) ?_) | fail)
      exact MR.done (g := h) e0 e2 e3 e4 e5 e7 e13 (by rw [hyq]; exact e14) (by rw [hyq]; exact e15) hs hb he hi (by repeat (first | exact Ext.refl _ | assumption | refine Ext.tick ?_ | refine Ext.push ?_ (by omega) _ | refine Ext.put ?_ (by omega) _ | refine Ext.kill ?_ (by omega) | refine Ext.killA ?_ (by assumption))) rfl
  · have hp : pair1 x y i j dist = [] := by
      unfold pair1
      rw [if_neg (fun h => h1 (by
        have := h.1
        unfold dS at this
        by_cases g : (wrS y).2 = true
        · exact g
        · rw [if_neg g] at this; omega))]
    rw [hp, List.append_nil]
    rw [Bool.not_eq_true] at h1
    repeat' (first | ((try clear hf); with_reducible refine zO fun env K hE hK hf => ?_; have n : _ ∧ _ ∧ _ ∧ _ ∧ _ ∧ _ ∧ _ ∧ _ ∧ _ ∧ _ ∧ _ ∧ _ := ⟨hE 0, hE 1, hE 2, hE 3, hE 4, hE 5, hE 7, hE 12, hE 13, hE 14, hE 15, hE 16⟩; simp -implicitDefEqProofs only [push_cast, reduceIte, Nat.reduceEqDiff, e0, e1, e2, e3, e4, e5, e7, e12, e13, e14, e15, e16] at n; clear hE e0 e1 e2 e3 e4 e5 e7 e12 e13 e14 e15 e16; obtain ⟨e0, e1, e2, e3, e4, e5, e7, e12, e13, e14, e15, e16⟩ := n) | (with_reducible refine hK _ _ ?_; clear hK K) | (with_reducible first | refine zK ?_ | refine zU ?_ | refine zB ?_ | refine zF ?_ | refine zD ?_ | refine zN ?_ | refine zT ?_ | refine zC ?_ | refine zG ?_ | refine zV ?_ | refine zE ?_ | refine zA (by decide) ?_ | refine zL ?_ | refine zQ ?_ | refine zM ?_ | refine yB ?_ | refine yC ?_ | refine zW (by assumption) ?_ | refine zY (by assumption) ?_) | (refine zH rfl ?_) | (simp -implicitDefEqProofs only [push_cast, sevalprocAttr, eq_self, e0, e1, e2, e3, e4, e5, e7, e12, e13, e14, e15, e16, hF.at, hri, h1]) | (simp -implicitDefEqProofs (disch := omega) only [zR, zZ, zS, zJ, e0, e1, e2, e3, e4, e5, e7, e12, e13, e14, e15, e16, hF.at, hri, h1]) | (with_reducible refine yE ?_ ?_) | (refine zP rfl (fun bb => ?_) (fun bb => ?_) <;> (first | have bp := of_decide_eq_true bb | have bp := of_decide_eq_false bb | skip) <;> simp only [bb]) | (with_reducible refine zX (fun bb => ?_) (fun bb => ?_) <;> (first | have bp := of_decide_eq_true bb | have bp := of_decide_eq_false bb | skip)) | ((with_reducible refine And.intro ?_ ?_); omega) | fail)
    exact MR.done (g := h) e0 e2 e3 e4 e5 e7 e13 (by rw [hyq]; exact e14) (by rw [hyq]; exact e15) hs hb he hi (by repeat (first | exact Ext.refl _ | assumption | refine Ext.tick ?_ | refine Ext.push ?_ (by omega) _ | refine Ext.put ?_ (by omega) _ | refine Ext.kill ?_ (by omega) | refine Ext.killA ?_ (by assumption))) rfl
set_option maxHeartbeats 1000000 in
theorem f94'2 {l : List Opn} {t : Tab} {i j : Nat} {dist : Int} {meet : Bool} {E : List Edg} (hI : rpI l t i j) (hE : E.length ≤ 1000) {σ : St} (hM : MR l t i j dist meet E σ) {Q : AEx → St → Prop} : awp Try.prog rp2 (seqK Try.prog (MR l t i j dist meet (E ++ pair2 t (opAt l i) (opAt l j) i j dist)) Q) σ := by
  unfold MR at hM
  obtain ⟨env, h⟩ := σ
  obtain ⟨a, e0, e2, e3, e4, e5, e7, e13, e14, e15, hs, hb, he, hi⟩ := hM
  simp only at e0 e2 e3 e4 e5 e7 e13 e14 e15 hs hb he
  obtain ⟨hil, hjl, hl, ht⟩ := hI
  have e1 : True := trivial; have e12 : True := trivial; have e16 : True := trivial
  unfold rp2
  refine yI fun hF => ?_
  have hri := qK hil .i64
  have hrj := qK hjl .i64
  have hoi := hl _ (List.getElem_mem hil)
  have hoj := hl _ (List.getElem_mem hjl)
  rw [qH hil] at hri hoi
  rw [qH hjl] at hrj hoj
  have l1 := latS_ok ht (opAt l i)
  have l2 := latS_ok ht (opAt l j)
  have l3 := ht.1 2 (by omega)
  unfold okC at l3
  generalize opAt l i = x at *
  generalize hyq : opAt l j = y at *
  have hid := fun x hx => hs.id_le (x := x) hx
  by_cases h1 : (wrS y).2 = true
  · have g1 : dS y = (wrS y).1 := by unfold dS; rw [if_pos h1]
    have g2 : 0 ≤ (wrS y).1 := by
      have hy := hoj
      unfold Opn.ok at hy
      unfold wrS; split <;> simp; omega
    have hw := wr_dS hoi g2
    have hxd := (dS_lt hoi).1
    by_cases h2 : ((wrS x).2 && decide ((wrS x).1 = (wrS y).1)) = true
    · have hd := hw.1 h2
      have hp : pair2 t x y i j dist = [⟨i, j, if latS t x - latS t y + 1 > 0 then latS t x - latS t y + 1 else 0, dist, 2⟩] := by unfold pair2; rw [if_pos ⟨by omega, by omega⟩]
      rw [hp]
      repeat' (first | ((try clear hf); with_reducible refine zO fun env K hE hK hf => ?_; have n : _ ∧ _ ∧ _ ∧ _ ∧ _ ∧ _ ∧ _ ∧ _ ∧ _ ∧ _ ∧ _ ∧ _ := ⟨hE 0, hE 1, hE 2, hE 3, hE 4, hE 5, hE 7, hE 12, hE 13, hE 14, hE 15, hE 16⟩; simp -implicitDefEqProofs only [push_cast, reduceIte, Nat.reduceEqDiff, e0, e1, e2, e3, e4, e5, e7, e12, e13, e14, e15, e16] at n; clear hE e0 e1 e2 e3 e4 e5 e7 e12 e13 e14 e15 e16; obtain ⟨e0, e1, e2, e3, e4, e5, e7, e12, e13, e14, e15, e16⟩ := n) | (with_reducible refine hK _ _ ?_; clear hK K) | (with_reducible first | refine zK ?_ | refine zU ?_ | refine zB ?_ | refine zF ?_ | refine zD ?_ | refine zN ?_ | refine zT ?_ | refine zC ?_ | refine zG ?_ | refine zV ?_ | refine zE ?_ | refine zA (by decide) ?_ | refine zL ?_ | refine zQ ?_ | refine zM ?_ | refine yB ?_ | refine yC ?_ | refine zW (by assumption) ?_ | refine zY (by assumption) ?_) | (refine zH rfl ?_) | (simp -implicitDefEqProofs only [push_cast, sevalprocAttr, eq_self, e0, e1, e2, e3, e4, e5, e7, e12, e13, e14, e15, e16, hF.at, hri, hrj, h1, h2, hb]) | (simp -implicitDefEqProofs (disch := omega) only [zR, zZ, zS, zJ, e0, e1, e2, e3, e4, e5, e7, e12, e13, e14, e15, e16, hF.at, hri, hrj, h1, h2, hb]) | (with_reducible refine yE ?_ ?_) | (refine zP rfl (fun bb => ?_) (fun bb => ?_) <;> (first | have bp := of_decide_eq_true bb | have bp := of_decide_eq_false bb | skip) <;> simp only [bb]) | (with_reducible refine zX (fun bb => ?_) (fun bb => ?_) <;> (first | have bp := of_decide_eq_true bb | have bp := of_decide_eq_false bb | skip)) | ((with_reducible refine And.intro ?_ ?_); omega) | (refine yG (f113 x hoi _) ?_) | (refine call_immq (f93 x t) ?_) | (refine call_immq (f93 y t) ?_) | (refine goM_app1 (e := ⟨i, j, if latS t x - latS t y + 1 > 0 then latS t x - latS t y + 1 else 0, dist, 2⟩) (hs.ext (by repeat (first | exact Ext.refl _ | assumption | refine Ext.tick ?_ | refine Ext.push ?_ (by omega) _ | refine Ext.put ?_ (by omega) _ | refine Ext.kill ?_ (by omega) | refine Ext.killA ?_ (by assumption)))) qO rfl (by omega) (fun e => by have := hid _ e; simp at this; omega) (by first | omega | (simp -implicitDefEqProofs only [push_cast, sevalprocAttr, eq_self]; first | done | omega)) ?_; intro g a' hs' ha' hep hfr) | fail)
      refine MR.done (g := g) e0 e2 e3 e4 e5 e7 rfl (by rw [hyq]; exact e14) (by rw [hyq]; exact e15) hs' ?_ ?_ ?_ (by repeat (first | exact Ext.refl _ | assumption | refine Ext.tick ?_ | refine Ext.push ?_ (by omega) _ | refine Ext.put ?_ (by omega) _ | refine Ext.kill ?_ (by omega) | refine Ext.killA ?_ (by assumption))) rfl
      · rw [hfr (2, 7) (by first | (simp; done) | (simp; omega)) (fun e => by have := hi _ e; simp at this)]; simp -implicitDefEqProofs (disch := omega) only [zR, zZ, zS, zJ, hb, qN]
      · rw [hep]; exact (by first | omega | (simp -implicitDefEqProofs only [push_cast, sevalprocAttr, eq_self]; first | done | omega))
      · intro q hq; have := ha' q hq; rw [this]; simp only; omega
    · have hp : pair2 t x y i j dist = [] := by
        unfold pair2
        rw [if_neg (fun h => h2 (hw.2 ⟨by omega, by omega⟩))]
      rw [hp, List.append_nil]
      rw [Bool.not_eq_true] at h2
      repeat' (first | ((try clear hf); with_reducible refine zO fun env K hE hK hf => ?_; have n : _ ∧ _ ∧ _ ∧ _ ∧ _ ∧ _ ∧ _ ∧ _ ∧ _ ∧ _ ∧ _ ∧ _ := ⟨hE 0, hE 1, hE 2, hE 3, hE 4, hE 5, hE 7, hE 12, hE 13, hE 14, hE 15, hE 16⟩; simp -implicitDefEqProofs only [push_cast, reduceIte, Nat.reduceEqDiff, e0, e1, e2, e3, e4, e5, e7, e12, e13, e14, e15, e16] at n; clear hE e0 e1 e2 e3 e4 e5 e7 e12 e13 e14 e15 e16; obtain ⟨e0, e1, e2, e3, e4, e5, e7, e12, e13, e14, e15, e16⟩ := n) | (with_reducible refine hK _ _ ?_; clear hK K) | (with_reducible first | refine zK ?_ | refine zU ?_ | refine zB ?_ | refine zF ?_ | refine zD ?_ | refine zN ?_ | refine zT ?_ | refine zC ?_ | refine zG ?_ | refine zV ?_ | refine zE ?_ | refine zA (by decide) ?_ | refine zL ?_ | refine zQ ?_ | refine zM ?_ | refine yB ?_ | refine yC ?_ | refine zW (by assumption) ?_ | refine zY (by assumption) ?_) | (refine zH rfl ?_) | (simp -implicitDefEqProofs only [push_cast, sevalprocAttr, eq_self, e0, e1, e2, e3, e4, e5, e7, e12, e13, e14, e15, e16, hF.at, hri, hrj, h1, h2]) | (simp -implicitDefEqProofs (disch := omega) only [zR, zZ, zS, zJ, e0, e1, e2, e3, e4, e5, e7, e12, e13, e14, e15, e16, hF.at, hri, hrj, h1, h2]) | (with_reducible refine yE ?_ ?_) | (refine zP rfl (fun bb => ?_) (fun bb => ?_) <;> (first | have bp := of_decide_eq_true bb | have bp := of_decide_eq_false bb | skip) <;> simp only [bb]) | (with_reducible refine zX (fun bb => ?_) (fun bb => ?_) <;> (first | have bp := of_decide_eq_true bb | have bp := of_decide_eq_false bb | skip)) | ((with_reducible refine And.intro ?_ ?_); omega) | (refine yG (f113 x hoi _) ?_) | fail)
      exact MR.done (g := h) e0 e2 e3 e4 e5 e7 e13 (by rw [hyq]; exact e14) (by rw [hyq]; exact e15) hs hb he hi (by repeat (first | exact Ext.refl _ | assumption | refine Ext.tick ?_ | refine Ext.push ?_ (by omega) _ | refine Ext.put ?_ (by omega) _ | refine Ext.kill ?_ (by omega) | refine Ext.killA ?_ (by assumption))) rfl
  · have hp : pair2 t x y i j dist = [] := by
      unfold pair2
      rw [if_neg (fun h => h1 (by
        have := h.1
        unfold dS at this
        by_cases g : (wrS y).2 = true
        · exact g
        · rw [if_neg g] at this; omega))]
    rw [hp, List.append_nil]
    rw [Bool.not_eq_true] at h1
    repeat' (first | ((try clear hf); with_reducible refine zO fun env K hE hK hf => ?_; have n : _ ∧ _ ∧ _ ∧ _ ∧ _ ∧ _ ∧ _ ∧ _ ∧ _ ∧ _ ∧ _ ∧ _ := ⟨hE 0, hE 1, hE 2, hE 3, hE 4, hE 5, hE 7, hE 12, hE 13, hE 14, hE 15, hE 16⟩; simp -implicitDefEqProofs only [push_cast, reduceIte, Nat.reduceEqDiff, e0, e1, e2, e3, e4, e5, e7, e12, e13, e14, e15, e16] at n; clear hE e0 e1 e2 e3 e4 e5 e7 e12 e13 e14 e15 e16; obtain ⟨e0, e1, e2, e3, e4, e5, e7, e12, e13, e14, e15, e16⟩ := n) | (with_reducible refine hK _ _ ?_; clear hK K) | (with_reducible first | refine zK ?_ | refine zU ?_ | refine zB ?_ | refine zF ?_ | refine zD ?_ | refine zN ?_ | refine zT ?_ | refine zC ?_ | refine zG ?_ | refine zV ?_ | refine zE ?_ | refine zA (by decide) ?_ | refine zL ?_ | refine zQ ?_ | refine zM ?_ | refine yB ?_ | refine yC ?_ | refine zW (by assumption) ?_ | refine zY (by assumption) ?_) | (refine zH rfl ?_) | (simp -implicitDefEqProofs only [push_cast, sevalprocAttr, eq_self, e0, e1, e2, e3, e4, e5, e7, e12, e13, e14, e15, e16, hF.at, hri, h1]) | (simp -implicitDefEqProofs (disch := omega) only [zR, zZ, zS, zJ, e0, e1, e2, e3, e4, e5, e7, e12, e13, e14, e15, e16, hF.at, hri, h1]) | (with_reducible refine yE ?_ ?_) | (refine zP rfl (fun bb => ?_) (fun bb => ?_) <;> (first | have bp := of_decide_eq_true bb | have bp := of_decide_eq_false bb | skip) <;> simp only [bb]) | (with_reducible refine zX (fun bb => ?_) (fun bb => ?_) <;> (first | have bp := of_decide_eq_true bb | have bp := of_decide_eq_false bb | skip)) | ((with_reducible refine And.intro ?_ ?_); omega) | fail)
    exact MR.done (g := h) e0 e2 e3 e4 e5 e7 e13 (by rw [hyq]; exact e14) (by rw [hyq]; exact e15) hs hb he hi (by repeat (first | exact Ext.refl _ | assumption | refine Ext.tick ?_ | refine Ext.push ?_ (by omega) _ | refine Ext.put ?_ (by omega) _ | refine Ext.kill ?_ (by omega) | refine Ext.killA ?_ (by assumption))) rfl
set_option maxHeartbeats 1000000 in
theorem f94'3 {l : List Opn} {t : Tab} {i j : Nat} {dist : Int} {meet : Bool} {E : List Edg} (hI : rpI l t i j) (hE : E.length ≤ 1000) (hmt : meet = true → (opAt l j).k = 15 ∨ (opAt l j).k = 16) {σ : St} (hM : MR l t i j dist meet E σ) {Q : AEx → St → Prop} : awp Try.prog rp3 (seqK Try.prog (MR l t i j dist meet (E ++ pair3 t (opAt l i) (opAt l j) i j dist meet)) Q) σ := by
  unfold MR at hM
  obtain ⟨env, h⟩ := σ
  obtain ⟨a, e0, e2, e3, e4, e5, e7, e13, e14, e15, hs, hb, he, hi⟩ := hM
  simp only at e0 e2 e3 e4 e5 e7 e13 e14 e15 hs hb he
  obtain ⟨hil, hjl, hl, ht⟩ := hI
  have e1 : True := trivial; have e12 : True := trivial; have e16 : True := trivial
  unfold rp3
  refine yI fun hF => ?_
  have hri := qK hil .i64
  have hrj := qK hjl .i64
  have hoi := hl _ (List.getElem_mem hil)
  have hoj := hl _ (List.getElem_mem hjl)
  rw [qH hil] at hri hoi
  rw [qH hjl] at hrj hoj
  have l1 := latS_ok ht (opAt l i)
  have l2 := latS_ok ht (opAt l j)
  have l3 := ht.1 2 (by omega)
  unfold okC at l3
  generalize opAt l i = x at *
  generalize hyq : opAt l j = y at *
  have hid := fun x hx => hs.id_le (x := x) hx
  have q2 : (tabC t)[4 + 2]? = some (i64 (t.l 2)) := rfl
  have q3 : (tabC t)[6]? = some (i64 (t.l 2)) := rfl
  by_cases h0 : meet = true
  rotate_left
  · rw [Bool.not_eq_true] at h0
    subst h0
    have hp : pair3 t x y i j dist false = [] := by unfold pair3; rw [if_neg (fun h => by cases h.1)]
    rw [hp, List.append_nil]
    repeat' (first | ((try clear hf); with_reducible refine zO fun env K hE hK hf => ?_; have n : _ ∧ _ ∧ _ ∧ _ ∧ _ ∧ _ ∧ _ ∧ _ ∧ _ ∧ _ ∧ _ ∧ _ := ⟨hE 0, hE 1, hE 2, hE 3, hE 4, hE 5, hE 7, hE 12, hE 13, hE 14, hE 15, hE 16⟩; simp -implicitDefEqProofs only [push_cast, reduceIte, Nat.reduceEqDiff, e0, e1, e2, e3, e4, e5, e7, e12, e13, e14, e15, e16] at n; clear hE e0 e1 e2 e3 e4 e5 e7 e12 e13 e14 e15 e16; obtain ⟨e0, e1, e2, e3, e4, e5, e7, e12, e13, e14, e15, e16⟩ := n) | (with_reducible refine hK _ _ ?_; clear hK K) | (with_reducible first | refine zK ?_ | refine zU ?_ | refine zB ?_ | refine zF ?_ | refine zD ?_ | refine zN ?_ | refine zT ?_ | refine zC ?_ | refine zG ?_ | refine zV ?_ | refine zE ?_ | refine zA (by decide) ?_ | refine zL ?_ | refine zQ ?_ | refine zM ?_ | refine yB ?_ | refine yC ?_ | refine zW (by assumption) ?_ | refine zY (by assumption) ?_) | (refine zH rfl ?_) | (simp -implicitDefEqProofs only [push_cast, sevalprocAttr, eq_self, e0, e1, e2, e3, e4, e5, e7, e12, e13, e14, e15, e16, hF.at]) | (simp -implicitDefEqProofs (disch := omega) only [zR, zZ, zS, zJ, e0, e1, e2, e3, e4, e5, e7, e12, e13, e14, e15, e16, hF.at]) | (with_reducible refine yE ?_ ?_) | (refine zP rfl (fun bb => ?_) (fun bb => ?_) <;> (first | have bp := of_decide_eq_true bb | have bp := of_decide_eq_false bb | skip) <;> simp only [bb]) | (with_reducible refine zX (fun bb => ?_) (fun bb => ?_) <;> (first | have bp := of_decide_eq_true bb | have bp := of_decide_eq_false bb | skip)) | ((with_reducible refine And.intro ?_ ?_); omega) | fail)
    exact MR.done (g := h) e0 e2 e3 e4 e5 e7 e13 (by rw [hyq]; exact e14) (by rw [hyq]; exact e15) hs hb he hi (by repeat (first | exact Ext.refl _ | assumption | refine Ext.tick ?_ | refine Ext.push ?_ (by omega) _ | refine Ext.put ?_ (by omega) _ | refine Ext.kill ?_ (by omega) | refine Ext.killA ?_ (by assumption))) rfl
  have hmt2 := hmt h0
  subst h0
  by_cases h1 : x.k = 16
  · have d1 : decide (x.k = 16) = true := decide_eq_true h1
    have s1 : stS x = true := d1
    by_cases h2 : y.k = 15
    · have d2 : decide (y.k = 15) = true := decide_eq_true h2
      have s2 : stS y = false := decide_eq_false (by omega)
      have hp : pair3 t x y i j dist true = [⟨i, j, t.l 2, dist, 3⟩] := by unfold pair3; rw [s1, s2, if_pos ⟨rfl, .inl rfl⟩]; simp
      rw [hp]
      repeat' (first | ((try clear hf); with_reducible refine zO fun env K hE hK hf => ?_; have n : _ ∧ _ ∧ _ ∧ _ ∧ _ ∧ _ ∧ _ ∧ _ ∧ _ ∧ _ ∧ _ ∧ _ := ⟨hE 0, hE 1, hE 2, hE 3, hE 4, hE 5, hE 7, hE 12, hE 13, hE 14, hE 15, hE 16⟩; simp -implicitDefEqProofs only [push_cast, reduceIte, Nat.reduceEqDiff, e0, e1, e2, e3, e4, e5, e7, e12, e13, e14, e15, e16] at n; clear hE e0 e1 e2 e3 e4 e5 e7 e12 e13 e14 e15 e16; obtain ⟨e0, e1, e2, e3, e4, e5, e7, e12, e13, e14, e15, e16⟩ := n) | (with_reducible refine hK _ _ ?_; clear hK K) | (with_reducible first | refine zK ?_ | refine zU ?_ | refine zB ?_ | refine zF ?_ | refine zD ?_ | refine zN ?_ | refine zT ?_ | refine zC ?_ | refine zG ?_ | refine zV ?_ | refine zE ?_ | refine zA (by decide) ?_ | refine zL ?_ | refine zQ ?_ | refine zM ?_ | refine yB ?_ | refine yC ?_ | refine zW (by assumption) ?_ | refine zY (by assumption) ?_) | (refine zH rfl ?_) | (simp -implicitDefEqProofs only [push_cast, sevalprocAttr, eq_self, e0, e1, e2, e3, e4, e5, e7, e12, e13, e14, e15, e16, hF.at, hri, hrj, d1, d2, hb, q2, q3, op_0]) | (simp -implicitDefEqProofs (disch := omega) only [zR, zZ, zS, zJ, e0, e1, e2, e3, e4, e5, e7, e12, e13, e14, e15, e16, hF.at, hri, hrj, d1, d2, hb, q2, q3, op_0]) | (with_reducible refine yE ?_ ?_) | (refine zP rfl (fun bb => ?_) (fun bb => ?_) <;> (first | have bp := of_decide_eq_true bb | have bp := of_decide_eq_false bb | skip) <;> simp only [bb]) | (with_reducible refine zX (fun bb => ?_) (fun bb => ?_) <;> (first | have bp := of_decide_eq_true bb | have bp := of_decide_eq_false bb | skip)) | ((with_reducible refine And.intro ?_ ?_); omega) | (refine goM_app1 (e := ⟨i, j, t.l 2, dist, 3⟩) (hs.ext (by repeat (first | exact Ext.refl _ | assumption | refine Ext.tick ?_ | refine Ext.push ?_ (by omega) _ | refine Ext.put ?_ (by omega) _ | refine Ext.kill ?_ (by omega) | refine Ext.killA ?_ (by assumption)))) qO rfl (by omega) (fun e => by have := hid _ e; simp at this; omega) (by first | omega | (simp -implicitDefEqProofs only [push_cast, sevalprocAttr, eq_self]; first | done | omega)) ?_; intro g a' hs' ha' hep hfr) | fail)
      refine MR.done (g := g) e0 e2 e3 e4 e5 e7 rfl (by rw [hyq]; exact e14) (by rw [hyq]; exact e15) hs' ?_ ?_ ?_ (by repeat (first | exact Ext.refl _ | assumption | refine Ext.tick ?_ | refine Ext.push ?_ (by omega) _ | refine Ext.put ?_ (by omega) _ | refine Ext.kill ?_ (by omega) | refine Ext.killA ?_ (by assumption))) rfl
      · rw [hfr (2, 7) (by first | (simp; done) | (simp; omega)) (fun e => by have := hi _ e; simp at this)]; simp -implicitDefEqProofs (disch := omega) only [zR, zZ, zS, zJ, hb, qN]
      · rw [hep]; exact (by first | omega | (simp -implicitDefEqProofs only [push_cast, sevalprocAttr, eq_self]; first | done | omega))
      · intro q hq; have := ha' q hq; rw [this]; simp only; omega
    · have d2 : decide (y.k = 15) = false := decide_eq_false h2
      have s2 : stS y = true := decide_eq_true (by omega)
      have hp : pair3 t x y i j dist true = [⟨i, j, 1, dist, 3⟩] := by unfold pair3; rw [s1, s2, if_pos ⟨rfl, .inl rfl⟩]; simp
      rw [hp]
      repeat' (first | ((try clear hf); with_reducible refine zO fun env K hE hK hf => ?_; have n : _ ∧ _ ∧ _ ∧ _ ∧ _ ∧ _ ∧ _ ∧ _ ∧ _ ∧ _ ∧ _ ∧ _ := ⟨hE 0, hE 1, hE 2, hE 3, hE 4, hE 5, hE 7, hE 12, hE 13, hE 14, hE 15, hE 16⟩; simp -implicitDefEqProofs only [push_cast, reduceIte, Nat.reduceEqDiff, e0, e1, e2, e3, e4, e5, e7, e12, e13, e14, e15, e16] at n; clear hE e0 e1 e2 e3 e4 e5 e7 e12 e13 e14 e15 e16; obtain ⟨e0, e1, e2, e3, e4, e5, e7, e12, e13, e14, e15, e16⟩ := n) | (with_reducible refine hK _ _ ?_; clear hK K) | (with_reducible first | refine zK ?_ | refine zU ?_ | refine zB ?_ | refine zF ?_ | refine zD ?_ | refine zN ?_ | refine zT ?_ | refine zC ?_ | refine zG ?_ | refine zV ?_ | refine zE ?_ | refine zA (by decide) ?_ | refine zL ?_ | refine zQ ?_ | refine zM ?_ | refine yB ?_ | refine yC ?_ | refine zW (by assumption) ?_ | refine zY (by assumption) ?_) | (refine zH rfl ?_) | (simp -implicitDefEqProofs only [push_cast, sevalprocAttr, eq_self, e0, e1, e2, e3, e4, e5, e7, e12, e13, e14, e15, e16, hF.at, hri, hrj, d1, d2, hb, q2, q3, op_0]) | (simp -implicitDefEqProofs (disch := omega) only [zR, zZ, zS, zJ, e0, e1, e2, e3, e4, e5, e7, e12, e13, e14, e15, e16, hF.at, hri, hrj, d1, d2, hb, q2, q3, op_0]) | (with_reducible refine yE ?_ ?_) | (refine zP rfl (fun bb => ?_) (fun bb => ?_) <;> (first | have bp := of_decide_eq_true bb | have bp := of_decide_eq_false bb | skip) <;> simp only [bb]) | (with_reducible refine zX (fun bb => ?_) (fun bb => ?_) <;> (first | have bp := of_decide_eq_true bb | have bp := of_decide_eq_false bb | skip)) | ((with_reducible refine And.intro ?_ ?_); omega) | (refine goM_app1 (e := ⟨i, j, 1, dist, 3⟩) (hs.ext (by repeat (first | exact Ext.refl _ | assumption | refine Ext.tick ?_ | refine Ext.push ?_ (by omega) _ | refine Ext.put ?_ (by omega) _ | refine Ext.kill ?_ (by omega) | refine Ext.killA ?_ (by assumption)))) qO rfl (by omega) (fun e => by have := hid _ e; simp at this; omega) (by first | omega | (simp -implicitDefEqProofs only [push_cast, sevalprocAttr, eq_self]; first | done | omega)) ?_; intro g a' hs' ha' hep hfr) | fail)
      refine MR.done (g := g) e0 e2 e3 e4 e5 e7 rfl (by rw [hyq]; exact e14) (by rw [hyq]; exact e15) hs' ?_ ?_ ?_ (by repeat (first | exact Ext.refl _ | assumption | refine Ext.tick ?_ | refine Ext.push ?_ (by omega) _ | refine Ext.put ?_ (by omega) _ | refine Ext.kill ?_ (by omega) | refine Ext.killA ?_ (by assumption))) rfl
      · rw [hfr (2, 7) (by first | (simp; done) | (simp; omega)) (fun e => by have := hi _ e; simp at this)]; simp -implicitDefEqProofs (disch := omega) only [zR, zZ, zS, zJ, hb, qN]
      · rw [hep]; exact (by first | omega | (simp -implicitDefEqProofs only [push_cast, sevalprocAttr, eq_self]; first | done | omega))
      · intro q hq; have := ha' q hq; rw [this]; simp only; omega
  · have d1 : decide (x.k = 16) = false := decide_eq_false h1
    have s1 : stS x = false := d1
    by_cases h2 : y.k = 16
    · have d2 : decide (y.k = 16) = true := decide_eq_true h2
      have s2 : stS y = true := d2
      have hp : pair3 t x y i j dist true = [⟨i, j, 0, dist, 3⟩] := by unfold pair3; rw [s1, s2, if_pos ⟨rfl, .inr rfl⟩]; simp
      rw [hp]
      repeat' (first | ((try clear hf); with_reducible refine zO fun env K hE hK hf => ?_; have n : _ ∧ _ ∧ _ ∧ _ ∧ _ ∧ _ ∧ _ ∧ _ ∧ _ ∧ _ ∧ _ ∧ _ := ⟨hE 0, hE 1, hE 2, hE 3, hE 4, hE 5, hE 7, hE 12, hE 13, hE 14, hE 15, hE 16⟩; simp -implicitDefEqProofs only [push_cast, reduceIte, Nat.reduceEqDiff, e0, e1, e2, e3, e4, e5, e7, e12, e13, e14, e15, e16] at n; clear hE e0 e1 e2 e3 e4 e5 e7 e12 e13 e14 e15 e16; obtain ⟨e0, e1, e2, e3, e4, e5, e7, e12, e13, e14, e15, e16⟩ := n) | (with_reducible refine hK _ _ ?_; clear hK K) | (with_reducible first | refine zK ?_ | refine zU ?_ | refine zB ?_ | refine zF ?_ | refine zD ?_ | refine zN ?_ | refine zT ?_ | refine zC ?_ | refine zG ?_ | refine zV ?_ | refine zE ?_ | refine zA (by decide) ?_ | refine zL ?_ | refine zQ ?_ | refine zM ?_ | refine yB ?_ | refine yC ?_ | refine zW (by assumption) ?_ | refine zY (by assumption) ?_) | (refine zH rfl ?_) | (simp -implicitDefEqProofs only [push_cast, sevalprocAttr, eq_self, e0, e1, e2, e3, e4, e5, e7, e12, e13, e14, e15, e16, hF.at, hri, hrj, d1, d2, hb, q2, q3, op_0]) | (simp -implicitDefEqProofs (disch := omega) only [zR, zZ, zS, zJ, e0, e1, e2, e3, e4, e5, e7, e12, e13, e14, e15, e16, hF.at, hri, hrj, d1, d2, hb, q2, q3, op_0]) | (with_reducible refine yE ?_ ?_) | (refine zP rfl (fun bb => ?_) (fun bb => ?_) <;> (first | have bp := of_decide_eq_true bb | have bp := of_decide_eq_false bb | skip) <;> simp only [bb]) | (with_reducible refine zX (fun bb => ?_) (fun bb => ?_) <;> (first | have bp := of_decide_eq_true bb | have bp := of_decide_eq_false bb | skip)) | ((with_reducible refine And.intro ?_ ?_); omega) | (refine goM_app1 (e := ⟨i, j, 0, dist, 3⟩) (hs.ext (by repeat (first | exact Ext.refl _ | assumption | refine Ext.tick ?_ | refine Ext.push ?_ (by omega) _ | refine Ext.put ?_ (by omega) _ | refine Ext.kill ?_ (by omega) | refine Ext.killA ?_ (by assumption)))) qO rfl (by omega) (fun e => by have := hid _ e; simp at this; omega) (by first | omega | (simp -implicitDefEqProofs only [push_cast, sevalprocAttr, eq_self]; first | done | omega)) ?_; intro g a' hs' ha' hep hfr) | fail)
      refine MR.done (g := g) e0 e2 e3 e4 e5 e7 rfl (by rw [hyq]; exact e14) (by rw [hyq]; exact e15) hs' ?_ ?_ ?_ (by repeat (first | exact Ext.refl _ | assumption | refine Ext.tick ?_ | refine Ext.push ?_ (by omega) _ | refine Ext.put ?_ (by omega) _ | refine Ext.kill ?_ (by omega) | refine Ext.killA ?_ (by assumption))) rfl
      · rw [hfr (2, 7) (by first | (simp; done) | (simp; omega)) (fun e => by have := hi _ e; simp at this)]; simp -implicitDefEqProofs (disch := omega) only [zR, zZ, zS, zJ, hb, qN]
      · rw [hep]; exact (by first | omega | (simp -implicitDefEqProofs only [push_cast, sevalprocAttr, eq_self]; first | done | omega))
      · intro q hq; have := ha' q hq; rw [this]; simp only; omega
    · have d2 : decide (y.k = 16) = false := decide_eq_false h2
      have s2 : stS y = false := d2
      have hp : pair3 t x y i j dist true = [] := by unfold pair3; rw [s1, s2, if_neg (by simp)]
      rw [hp, List.append_nil]
      repeat' (first | ((try clear hf); with_reducible refine zO fun env K hE hK hf => ?_; have n : _ ∧ _ ∧ _ ∧ _ ∧ _ ∧ _ ∧ _ ∧ _ ∧ _ ∧ _ ∧ _ ∧ _ := ⟨hE 0, hE 1, hE 2, hE 3, hE 4, hE 5, hE 7, hE 12, hE 13, hE 14, hE 15, hE 16⟩; simp -implicitDefEqProofs only [push_cast, reduceIte, Nat.reduceEqDiff, e0, e1, e2, e3, e4, e5, e7, e12, e13, e14, e15, e16] at n; clear hE e0 e1 e2 e3 e4 e5 e7 e12 e13 e14 e15 e16; obtain ⟨e0, e1, e2, e3, e4, e5, e7, e12, e13, e14, e15, e16⟩ := n) | (with_reducible refine hK _ _ ?_; clear hK K) | (with_reducible first | refine zK ?_ | refine zU ?_ | refine zB ?_ | refine zF ?_ | refine zD ?_ | refine zN ?_ | refine zT ?_ | refine zC ?_ | refine zG ?_ | refine zV ?_ | refine zE ?_ | refine zA (by decide) ?_ | refine zL ?_ | refine zQ ?_ | refine zM ?_ | refine yB ?_ | refine yC ?_ | refine zW (by assumption) ?_ | refine zY (by assumption) ?_) | (refine zH rfl ?_) | (simp -implicitDefEqProofs only [push_cast, sevalprocAttr, eq_self, e0, e1, e2, e3, e4, e5, e7, e12, e13, e14, e15, e16, hF.at, hri, hrj, d1, d2, hb, q2, q3, op_0]) | (simp -implicitDefEqProofs (disch := omega) only [zR, zZ, zS, zJ, e0, e1, e2, e3, e4, e5, e7, e12, e13, e14, e15, e16, hF.at, hri, hrj, d1, d2, hb, q2, q3, op_0]) | (with_reducible refine yE ?_ ?_) | (refine zP rfl (fun bb => ?_) (fun bb => ?_) <;> (first | have bp := of_decide_eq_true bb | have bp := of_decide_eq_false bb | skip) <;> simp only [bb]) | (with_reducible refine zX (fun bb => ?_) (fun bb => ?_) <;> (first | have bp := of_decide_eq_true bb | have bp := of_decide_eq_false bb | skip)) | ((with_reducible refine And.intro ?_ ?_); omega) | fail)
      exact MR.done (g := h) e0 e2 e3 e4 e5 e7 e13 (by rw [hyq]; exact e14) (by rw [hyq]; exact e15) hs hb he hi (by repeat (first | exact Ext.refl _ | assumption | refine Ext.tick ?_ | refine Ext.push ?_ (by omega) _ | refine Ext.put ?_ (by omega) _ | refine Ext.kill ?_ (by omega) | refine Ext.killA ?_ (by assumption))) rfl
set_option maxHeartbeats 1000000 in
theorem f94'4 {l : List Opn} {t : Tab} {i j : Nat} {dist : Int} {meet : Bool} {E : List Edg} (hI : rpI l t i j) (hE : E.length ≤ 1000) {σ : St} (hM : MR l t i j dist meet E σ) {Q : AEx → St → Prop} : awp Try.prog rp4 (seqK Try.prog (MR l t i j dist meet (E ++ pair4 (opAt l i) (opAt l j) i j dist)) Q) σ := by
  unfold MR at hM
  obtain ⟨env, h⟩ := σ
  obtain ⟨a, e0, e2, e3, e4, e5, e7, e13, e14, e15, hs, hb, he, hi⟩ := hM
  simp only at e0 e2 e3 e4 e5 e7 e13 e14 e15 hs hb he
  obtain ⟨hil, hjl, hl, ht⟩ := hI
  have e1 : True := trivial; have e12 : True := trivial; have e16 : True := trivial
  unfold rp4
  refine yI fun hF => ?_
  have hri := qK hil .i64
  have hrj := qK hjl .i64
  have hoi := hl _ (List.getElem_mem hil)
  have hoj := hl _ (List.getElem_mem hjl)
  rw [qH hil] at hri hoi
  rw [qH hjl] at hrj hoj
  have l1 := latS_ok ht (opAt l i)
  have l2 := latS_ok ht (opAt l j)
  have l3 := ht.1 2 (by omega)
  unfold okC at l3
  generalize opAt l i = x at *
  generalize hyq : opAt l j = y at *
  have hid := fun x hx => hs.id_le (x := x) hx
  by_cases h1 : effS x = true
  · by_cases h2 : effS y = true
    · have hp : pair4 x y i j dist = [⟨i, j, 1, dist, 4⟩] := by unfold pair4; rw [if_pos ⟨h1, h2⟩]
      rw [hp]
      repeat' (first | ((try clear hf); with_reducible refine zO fun env K hE hK hf => ?_; have n : _ ∧ _ ∧ _ ∧ _ ∧ _ ∧ _ ∧ _ ∧ _ ∧ _ ∧ _ ∧ _ ∧ _ := ⟨hE 0, hE 1, hE 2, hE 3, hE 4, hE 5, hE 7, hE 12, hE 13, hE 14, hE 15, hE 16⟩; simp -implicitDefEqProofs only [push_cast, reduceIte, Nat.reduceEqDiff, e0, e1, e2, e3, e4, e5, e7, e12, e13, e14, e15, e16] at n; clear hE e0 e1 e2 e3 e4 e5 e7 e12 e13 e14 e15 e16; obtain ⟨e0, e1, e2, e3, e4, e5, e7, e12, e13, e14, e15, e16⟩ := n) | (with_reducible refine hK _ _ ?_; clear hK K) | (with_reducible first | refine zK ?_ | refine zU ?_ | refine zB ?_ | refine zF ?_ | refine zD ?_ | refine zN ?_ | refine zT ?_ | refine zC ?_ | refine zG ?_ | refine zV ?_ | refine zE ?_ | refine zA (by decide) ?_ | refine zL ?_ | refine zQ ?_ | refine zM ?_ | refine yB ?_ | refine yC ?_ | refine zW (by assumption) ?_ | refine zY (by assumption) ?_) | (refine zH rfl ?_) | (simp -implicitDefEqProofs only [push_cast, sevalprocAttr, eq_self, e0, e1, e2, e3, e4, e5, e7, e12, e13, e14, e15, e16, hF.at, hri, hrj, h1, h2]) | (simp -implicitDefEqProofs (disch := omega) only [zR, zZ, zS, zJ, e0, e1, e2, e3, e4, e5, e7, e12, e13, e14, e15, e16, hF.at, hri, hrj, h1, h2]) | (with_reducible refine yE ?_ ?_) | (refine zP rfl (fun bb => ?_) (fun bb => ?_) <;> (first | have bp := of_decide_eq_true bb | have bp := of_decide_eq_false bb | skip) <;> simp only [bb]) | (with_reducible refine zX (fun bb => ?_) (fun bb => ?_) <;> (first | have bp := of_decide_eq_true bb | have bp := of_decide_eq_false bb | skip)) | ((with_reducible refine And.intro ?_ ?_); omega) | (refine yG (f114 x) ?_) | (refine yG (f114 y) ?_) | (refine goM_app1 (e := ⟨i, j, 1, dist, 4⟩) (hs.ext (by repeat (first | exact Ext.refl _ | assumption | refine Ext.tick ?_ | refine Ext.push ?_ (by omega) _ | refine Ext.put ?_ (by omega) _ | refine Ext.kill ?_ (by omega) | refine Ext.killA ?_ (by assumption)))) qO rfl (by omega) (fun e => by have := hid _ e; simp at this; omega) (by first | omega | (simp -implicitDefEqProofs only [push_cast, sevalprocAttr, eq_self]; first | done | omega)) ?_; intro g a' hs' ha' hep hfr) | fail)
      refine MR.done (g := g) e0 e2 e3 e4 e5 e7 rfl (by rw [hyq]; exact e14) (by rw [hyq]; exact e15) hs' ?_ ?_ ?_ (by repeat (first | exact Ext.refl _ | assumption | refine Ext.tick ?_ | refine Ext.push ?_ (by omega) _ | refine Ext.put ?_ (by omega) _ | refine Ext.kill ?_ (by omega) | refine Ext.killA ?_ (by assumption))) rfl
      · rw [hfr (2, 7) (by first | (simp; done) | (simp; omega)) (fun e => by have := hi _ e; simp at this)]; simp -implicitDefEqProofs (disch := omega) only [zR, zZ, zS, zJ, hb, qN]
      · rw [hep]; exact (by first | omega | (simp -implicitDefEqProofs only [push_cast, sevalprocAttr, eq_self]; first | done | omega))
      · intro q hq; have := ha' q hq; rw [this]; simp only; omega
    · have hp : pair4 x y i j dist = [] := by unfold pair4; rw [if_neg (fun h => h2 h.2)]
      rw [hp, List.append_nil]
      rw [Bool.not_eq_true] at h2
      repeat' (first | ((try clear hf); with_reducible refine zO fun env K hE hK hf => ?_; have n : _ ∧ _ ∧ _ ∧ _ ∧ _ ∧ _ ∧ _ ∧ _ ∧ _ ∧ _ ∧ _ ∧ _ := ⟨hE 0, hE 1, hE 2, hE 3, hE 4, hE 5, hE 7, hE 12, hE 13, hE 14, hE 15, hE 16⟩; simp -implicitDefEqProofs only [push_cast, reduceIte, Nat.reduceEqDiff, e0, e1, e2, e3, e4, e5, e7, e12, e13, e14, e15, e16] at n; clear hE e0 e1 e2 e3 e4 e5 e7 e12 e13 e14 e15 e16; obtain ⟨e0, e1, e2, e3, e4, e5, e7, e12, e13, e14, e15, e16⟩ := n) | (with_reducible refine hK _ _ ?_; clear hK K) | (with_reducible first | refine zK ?_ | refine zU ?_ | refine zB ?_ | refine zF ?_ | refine zD ?_ | refine zN ?_ | refine zT ?_ | refine zC ?_ | refine zG ?_ | refine zV ?_ | refine zE ?_ | refine zA (by decide) ?_ | refine zL ?_ | refine zQ ?_ | refine zM ?_ | refine yB ?_ | refine yC ?_ | refine zW (by assumption) ?_ | refine zY (by assumption) ?_) | (refine zH rfl ?_) | (simp -implicitDefEqProofs only [push_cast, sevalprocAttr, eq_self, e0, e1, e2, e3, e4, e5, e7, e12, e13, e14, e15, e16, hF.at, hri, hrj, h1, h2]) | (simp -implicitDefEqProofs (disch := omega) only [zR, zZ, zS, zJ, e0, e1, e2, e3, e4, e5, e7, e12, e13, e14, e15, e16, hF.at, hri, hrj, h1, h2]) | (with_reducible refine yE ?_ ?_) | (refine zP rfl (fun bb => ?_) (fun bb => ?_) <;> (first | have bp := of_decide_eq_true bb | have bp := of_decide_eq_false bb | skip) <;> simp only [bb]) | (with_reducible refine zX (fun bb => ?_) (fun bb => ?_) <;> (first | have bp := of_decide_eq_true bb | have bp := of_decide_eq_false bb | skip)) | ((with_reducible refine And.intro ?_ ?_); omega) | (refine yG (f114 x) ?_) | (refine yG (f114 y) ?_) | fail)
      exact MR.done (g := h) e0 e2 e3 e4 e5 e7 e13 (by rw [hyq]; exact e14) (by rw [hyq]; exact e15) hs hb he hi (by repeat (first | exact Ext.refl _ | assumption | refine Ext.tick ?_ | refine Ext.push ?_ (by omega) _ | refine Ext.put ?_ (by omega) _ | refine Ext.kill ?_ (by omega) | refine Ext.killA ?_ (by assumption))) rfl
  · have hp : pair4 x y i j dist = [] := by unfold pair4; rw [if_neg (fun h => h1 h.1)]
    rw [hp, List.append_nil]
    rw [Bool.not_eq_true] at h1
    repeat' (first | ((try clear hf); with_reducible refine zO fun env K hE hK hf => ?_; have n : _ ∧ _ ∧ _ ∧ _ ∧ _ ∧ _ ∧ _ ∧ _ ∧ _ ∧ _ ∧ _ ∧ _ := ⟨hE 0, hE 1, hE 2, hE 3, hE 4, hE 5, hE 7, hE 12, hE 13, hE 14, hE 15, hE 16⟩; simp -implicitDefEqProofs only [push_cast, reduceIte, Nat.reduceEqDiff, e0, e1, e2, e3, e4, e5, e7, e12, e13, e14, e15, e16] at n; clear hE e0 e1 e2 e3 e4 e5 e7 e12 e13 e14 e15 e16; obtain ⟨e0, e1, e2, e3, e4, e5, e7, e12, e13, e14, e15, e16⟩ := n) | (with_reducible refine hK _ _ ?_; clear hK K) | (with_reducible first | refine zK ?_ | refine zU ?_ | refine zB ?_ | refine zF ?_ | refine zD ?_ | refine zN ?_ | refine zT ?_ | refine zC ?_ | refine zG ?_ | refine zV ?_ | refine zE ?_ | refine zA (by decide) ?_ | refine zL ?_ | refine zQ ?_ | refine zM ?_ | refine yB ?_ | refine yC ?_ | refine zW (by assumption) ?_ | refine zY (by assumption) ?_) | (refine zH rfl ?_) | (simp -implicitDefEqProofs only [push_cast, sevalprocAttr, eq_self, e0, e1, e2, e3, e4, e5, e7, e12, e13, e14, e15, e16, hF.at, hri, hrj, h1]) | (simp -implicitDefEqProofs (disch := omega) only [zR, zZ, zS, zJ, e0, e1, e2, e3, e4, e5, e7, e12, e13, e14, e15, e16, hF.at, hri, hrj, h1]) | (with_reducible refine yE ?_ ?_) | (refine zP rfl (fun bb => ?_) (fun bb => ?_) <;> (first | have bp := of_decide_eq_true bb | have bp := of_decide_eq_false bb | skip) <;> simp only [bb]) | (with_reducible refine zX (fun bb => ?_) (fun bb => ?_) <;> (first | have bp := of_decide_eq_true bb | have bp := of_decide_eq_false bb | skip)) | ((with_reducible refine And.intro ?_ ?_); omega) | (refine yG (f114 x) ?_) | fail)
    exact MR.done (g := h) e0 e2 e3 e4 e5 e7 e13 (by rw [hyq]; exact e14) (by rw [hyq]; exact e15) hs hb he hi (by repeat (first | exact Ext.refl _ | assumption | refine Ext.tick ?_ | refine Ext.push ?_ (by omega) _ | refine Ext.put ?_ (by omega) _ | refine Ext.kill ?_ (by omega) | refine Ext.killA ?_ (by assumption))) rfl
set_option maxHeartbeats 1000000 in
theorem f94 {l : List Opn} {t : Tab} {i j : Nat} (hi : i < l.length) (hj : j < l.length) (hl : ∀ o ∈ l, o.ok) (ht : tabOK t) (dist : Int) (meet : Bool) (hmt : meet = true → (opAt l j).k = 15 ∨ (opAt l j).k = 16) :
    HVF Try.prog 94 [.row (l.map opC), .agg (tabC t), i64 i, i64 j, i64 dist, bl meet] (.row ((pairE t (opAt l i) (opAt l j) i j dist meet).map edC)) := by
  refine HVF_of_awp yK cf94 (by simp) (by simp [imms, imm, qF, tab_imms]) ?_ (by simp only [imm]; exact edrows_imms _)
  rw [rp_code]
  unfold re94
  refine yF fun env hE => ?_; have e0 := hE 0; have e1 := hE 1; have e2 := hE 2; have e3 := hE 3; have e4 := hE 4; have e5 := hE 5; have e7 := hE 7; have e12 := hE 12; have e13 := hE 13; have e14 := hE 14; have e15 := hE 15; have e16 := hE 16; simp -implicitDefEqProofs only [push_cast] at e0 e1 e2 e3 e4 e5 e7 e12 e13 e14 e15 e16; clear hE
  have hrj := qK hj .i64
  have hoj := hl _ (List.getElem_mem hj)
  rw [qH hj] at hrj hoj
  have hI : rpI l t i j := ⟨hi, hj, hl, ht⟩
  obtain ⟨n1, n2, n3, n4⟩ := pair_lens t (opAt l i) (opAt l j) i j dist meet
  rw [pairE_eq]
  have main : ∀ σ, MR l t i j dist meet [] σ → awp Try.prog rpT (PostF [.mv (.t 12)] fun r' h' => lendF fuelL h' r' = some (.row ((pair1 (opAt l i) (opAt l j) i j dist ++ pair2 t (opAt l i) (opAt l j) i j dist ++ pair3 t (opAt l i) (opAt l j) i j dist meet ++ pair4 (opAt l i) (opAt l j) i j dist).map edC))) σ := by
    intro σ hM
    unfold rpT
    refine awp_cut _ (f94'1 hI (by simp) hM) fun σ hM => ?_
    refine awp_cut _ (f94'2 hI (by simp; omega) hM) fun σ hM => ?_
    refine awp_cut _ (f94'3 hI (by simp; omega) hmt hM) fun σ hM => ?_
    refine awp_cut _ (f94'4 hI (by simp; omega) hM) fun σ hM => ?_
    unfold MR at hM
    obtain ⟨env, h⟩ := σ
    obtain ⟨a, e0, e2, e3, e4, e5, e7, e13, e14, e15, hs, hb, he, hi⟩ := hM
    simp only at e0 e2 e3 e4 e5 e7 e13 e14 e15 hs hb he
    have hlf := (hs.ext (Ext.tick (Ext.refl h))).lendF qO edC_atom 7
    rw [List.nil_append] at hlf
    have e1 : True := trivial; have e12 : True := trivial; have e16 : True := trivial
    repeat' (first | ((try clear hf); with_reducible refine zO fun env K hE hK hf => ?_; have n : _ ∧ _ ∧ _ ∧ _ ∧ _ ∧ _ ∧ _ ∧ _ ∧ _ ∧ _ ∧ _ ∧ _ := ⟨hE 0, hE 1, hE 2, hE 3, hE 4, hE 5, hE 7, hE 12, hE 13, hE 14, hE 15, hE 16⟩; simp -implicitDefEqProofs only [push_cast, reduceIte, Nat.reduceEqDiff, e0, e1, e2, e3, e4, e5, e7, e12, e13, e14, e15, e16] at n; clear hE e0 e1 e2 e3 e4 e5 e7 e12 e13 e14 e15 e16; obtain ⟨e0, e1, e2, e3, e4, e5, e7, e12, e13, e14, e15, e16⟩ := n) | (with_reducible refine hK _ _ ?_; clear hK K) | (with_reducible first | refine zK ?_ | refine zU ?_ | refine zB ?_ | refine zF ?_ | refine zD ?_ | refine zN ?_ | refine zT ?_ | refine zC ?_ | refine zG ?_ | refine zV ?_ | refine zE ?_ | refine zA (by decide) ?_ | refine zL ?_ | refine zQ ?_ | refine zM ?_ | refine yB ?_ | refine yC ?_ | refine zW (by assumption) ?_ | refine zY (by assumption) ?_) | (refine zH rfl ?_) | (simp -implicitDefEqProofs only [push_cast, sevalprocAttr, eq_self, e0, e1, e2, e3, e4, e5, e7, e12, e13, e14, e15, e16]) | (simp -implicitDefEqProofs (disch := omega) only [zR, zZ, zS, zJ, e0, e1, e2, e3, e4, e5, e7, e12, e13, e14, e15, e16]) | (with_reducible refine yE ?_ ?_) | (refine zP rfl (fun bb => ?_) (fun bb => ?_) <;> (first | have bp := of_decide_eq_true bb | have bp := of_decide_eq_false bb | skip) <;> simp only [bb]) | (with_reducible refine zX (fun bb => ?_) (fun bb => ?_) <;> (first | have bp := of_decide_eq_true bb | have bp := of_decide_eq_false bb | skip)) | ((with_reducible refine And.intro ?_ ?_); omega) | fail)
    exact hlf
  repeat' (first | ((try clear hf); with_reducible refine zO fun env K hE hK hf => ?_; have n : _ ∧ _ ∧ _ ∧ _ ∧ _ ∧ _ ∧ _ ∧ _ ∧ _ ∧ _ ∧ _ ∧ _ := ⟨hE 0, hE 1, hE 2, hE 3, hE 4, hE 5, hE 7, hE 12, hE 13, hE 14, hE 15, hE 16⟩; simp -implicitDefEqProofs only [push_cast, reduceIte, Nat.reduceEqDiff, e0, e1, e2, e3, e4, e5, e7, e12, e13, e14, e15, e16] at n; clear hE e0 e1 e2 e3 e4 e5 e7 e12 e13 e14 e15 e16; obtain ⟨e0, e1, e2, e3, e4, e5, e7, e12, e13, e14, e15, e16⟩ := n) | (with_reducible refine hK _ _ ?_; clear hK K) | (with_reducible first | refine zK ?_ | refine zU ?_ | refine zB ?_ | refine zF ?_ | refine zD ?_ | refine zN ?_ | refine zT ?_ | refine zC ?_ | refine zG ?_ | refine zV ?_ | refine zE ?_ | refine zA (by decide) ?_ | refine zL ?_ | refine zQ ?_ | refine zM ?_ | refine yB ?_ | refine yC ?_ | refine zW (by assumption) ?_ | refine zY (by assumption) ?_) | (refine zH rfl ?_) | (simp -implicitDefEqProofs only [push_cast, sevalprocAttr, eq_self, e0, e1, e2, e3, e4, e5, e7, e12, e13, e14, e15, e16, hrj]) | (simp -implicitDefEqProofs (disch := omega) only [zR, zZ, zS, zJ, e0, e1, e2, e3, e4, e5, e7, e12, e13, e14, e15, e16, hrj]) | (with_reducible refine yE ?_ ?_) | (refine zP rfl (fun bb => ?_) (fun bb => ?_) <;> (first | have bp := of_decide_eq_true bb | have bp := of_decide_eq_false bb | skip) <;> simp only [bb]) | (with_reducible refine zX (fun bb => ?_) (fun bb => ?_) <;> (first | have bp := of_decide_eq_true bb | have bp := of_decide_eq_false bb | skip)) | ((with_reducible refine And.intro ?_ ?_); omega) | (refine yG (f88 _ hoj) ?_) | (refine main _ ?_) | fail)
  exact MR.done (g := _) e0 e2 e3 e4 e5 e7 e13 rfl rfl (SlO.nil _ _ _) (by simp -implicitDefEqProofs only [push_cast, sevalprocAttr, eq_self]) (by first | omega | (simp -implicitDefEqProofs only [push_cast, sevalprocAttr, eq_self]; first | done | omega)) (fun x hx => by simp [idOf] at hx) (Ext.refl _) rfl
end Go.Proofs.Hx

set_option linter.unusedVariables false
set_option linter.unusedSimpArgs false
namespace Go.Proofs.Hx
open Go Go.Proofs
attribute [local irreducible] yM awp opK goV goM yZ qB qD yQ HV HVF HC
/-- The reference's edges under way: in slot 'o', beside the table's box; 'ex': what else is known of the slots. -/
def MO (h0 : Hp) (o : Nat) (l : List Opn) (t : Tab) (E : List Edg) (ex : (Nat → AV) → Prop) (σ : St) : Prop := ∃ a, σ.env 0 = .row (l.map opC) ∧ σ.env 3 = .ptr (h0.ep + 1 + 1, 3) 0 ∧ σ.env o = a ∧ ex σ.env ∧
  SlO edC 5 σ.h a E ∧ σ.h.hp (h0.ep + 1 + 1, 3) = some ⟨true, tabC t⟩ ∧ Ext h0 σ.h ∧ h0.ep + 2 ≤ σ.h.ep ∧ ∀ x, idOf a = some x → h0.ep + 2 < x.1
theorem MO.mk {h0 : Hp} {o : Nat} {l : List Opn} {t : Tab} {E E' : List Edg} {ex : (Nat → AV) → Prop} {env : Nat → AV} {g h : Hp} {a : AV} (e0 : env 0 = .row (l.map opC)) (e3 : env 3 = .ptr (h0.ep + 1 + 1, 3) 0) (eo : env o = a) (he : ex env) (hs : SlO edC 5 g a E) (hb : g.hp (h0.ep + 1 + 1, 3) = some ⟨true, tabC t⟩)
    (hX : Ext h0 g) (hp : h0.ep + 2 ≤ g.ep) (hi : ∀ x, idOf a = some x → h0.ep + 2 < x.1) (hx : Ext g h) (hE : E = E') : MO h0 o l t E' ex ⟨env, h⟩ :=
  ⟨a, e0, e3, eo, he, hE ▸ hs.ext hx, (hx.2 _ (by simpa using hp)).trans hb, hX.tr hx, Nat.le_trans hp hx.1, hi⟩
theorem MO.imp {h0 : Hp} {o : Nat} {l : List Opn} {t : Tab} {E : List Edg} {ex ex' : (Nat → AV) → Prop} {σ : St} (h : MO h0 o l t E ex σ) (k : ∀ env, ex env → ex' env) : MO h0 o l t E ex' σ := by
  obtain ⟨a, e0, e3, eo, he, r⟩ := h
  exact ⟨a, e0, e3, eo, k _ he, r⟩
/-- The frame behind an append. -/
theorem MO.app {h0 g h : Hp} {a : AV} {id : Id} (hX : Ext h0 h) (hp : h0.ep + 2 ≤ h.ep) (hi : ∀ x, idOf a = some x → h0.ep + 2 < x.1) (hid : h0.ep + 2 < id.1) (hep : g.ep = h.ep) (hfr : ∀ x, x ≠ id → idOf a ≠ some x → g.hp x = h.hp x) :
    Ext h0 g ∧ g.hp (h0.ep + 1 + 1, 3) = h.hp (h0.ep + 1 + 1, 3) := by
  refine ⟨⟨by rw [hep]; exact hX.1, fun x hx => ?_⟩, hfr _ (fun e => by have := congrArg Prod.fst e; simp at this; omega) (fun e => by have := hi _ e; simp at this)⟩
  rw [hfr x (fun e => by rw [e] at hx; omega) (fun e => by have := hi _ e; omega)]
  exact hX.2 x hx
def exIJ (i j : Nat) (env : Nat → AV) : Prop := env 8 = i64 j ∧ env 9 = i64 i
def exJ (j : Nat) (env : Nat → AV) : Prop := env 8 = i64 j
theorem meet_mem {a b : Opn} {s : List Opn} (h : meetS a b s = true) : b.k = 15 ∨ b.k = 16 := by
  unfold meetS memS at h
  simp only [Bool.and_eq_true, Bool.or_eq_true, decide_eq_true_eq] at h
  exact h.1.1.2.1

set_option maxHeartbeats 1000000 in
theorem f72'1 {h0 : Hp} {l : List Opn} {t : Tab} {i j : Nat} {E : List Edg} (hil : i < l.length) (hjl : j < l.length) (hl : ∀ o ∈ l, o.ok) (ht : tabOK t) (hn : l.length ≤ 1024) (hE : E.length ≤ 30000000) {σ : St} (hM : MO h0 7 l t E (exIJ i j) σ) {Q : AEx → St → Prop} :
    awp Try.prog (.seq (.ops r72_9 []) (.cond (.t 30) (.ops r72_10 []) .skip)) (seqK Try.prog (MO h0 7 l t (E ++ if fromS (lastL l j) (opAt l j) i = true then [⟨i, j, latS t (opAt l i), 0, 0⟩] else []) (exIJ i j)) Q) σ := by
  obtain ⟨env, h⟩ := σ
  obtain ⟨a, e0, e3, e7, ⟨e8, e9⟩, hs, hb, hX, hp, hi⟩ := hM
  simp only at e0 e3 e7 e8 e9 hs hb hX hp
  have e1 : True := trivial; have e4 : True := trivial; have e5 : True := trivial; have e6 : True := trivial
  refine yI fun hF => ?_
  have hri := qK hil .i64
  have hfl := f92'n l i j (by omega) hjl hl (by omega)
  rw [qH hil] at hri
  rw [qH hjl] at hfl
  have l1 := latS_ok ht (opAt l i)
  generalize opAt l i = x at *
  generalize opAt l j = y at *
  have hid := fun x hx => hs.id_le (x := x) hx
  by_cases h1 : fromS (lastL l j) y i = true
  · rw [if_pos h1]
    rw [h1] at hfl
    repeat' (first | ((try clear hf); with_reducible refine zO fun env K hE hK hf => ?_; have n : _ ∧ _ ∧ _ ∧ _ ∧ _ ∧ _ ∧ _ ∧ _ ∧ _ := ⟨hE 0, hE 1, hE 3, hE 4, hE 5, hE 6, hE 7, hE 8, hE 9⟩; simp -implicitDefEqProofs only [push_cast, reduceIte, Nat.reduceEqDiff, e0, e1, e3, e4, e5, e6, e7, e8, e9] at n; clear hE e0 e1 e3 e4 e5 e6 e7 e8 e9; obtain ⟨e0, e1, e3, e4, e5, e6, e7, e8, e9⟩ := n) | (with_reducible refine hK _ _ ?_; clear hK K) | (with_reducible first | refine zK ?_ | refine zU ?_ | refine zB ?_ | refine zF ?_ | refine zD ?_ | refine zN ?_ | refine zT ?_ | refine zC ?_ | refine zG ?_ | refine zV ?_ | refine zE ?_ | refine zA (by decide) ?_ | refine zL ?_ | refine zQ ?_ | refine zM ?_ | refine yB ?_ | refine yC ?_ | refine zW (by assumption) ?_ | refine zY (by assumption) ?_) | (refine zH rfl ?_) | (simp -implicitDefEqProofs only [push_cast, sevalprocAttr, eq_self, e0, e1, e3, e4, e5, e6, e7, e8, e9, hF.at, hri, hb]) | (simp -implicitDefEqProofs (disch := omega) only [zR, zZ, zS, zJ, e0, e1, e3, e4, e5, e6, e7, e8, e9, hF.at, hri, hb]) | (with_reducible refine yE ?_ ?_) | (refine zP rfl (fun bb => ?_) (fun bb => ?_) <;> (first | have bp := of_decide_eq_true bb | have bp := of_decide_eq_false bb | skip) <;> simp only [bb]) | (with_reducible refine zX (fun bb => ?_) (fun bb => ?_) <;> (first | have bp := of_decide_eq_true bb | have bp := of_decide_eq_false bb | skip)) | ((with_reducible refine And.intro ?_ ?_); omega) | (refine yG hfl ?_) | (refine call_immq (f93 x t) ?_) | (refine goM_app1 (e := ⟨i, j, latS t x, 0, 0⟩) (hs.ext (by repeat (first | exact Ext.refl _ | assumption | refine Ext.tick ?_ | refine Ext.push ?_ (by omega) _ | refine Ext.put ?_ (by omega) _ | refine Ext.kill ?_ (by omega) | refine Ext.killA ?_ (by assumption)))) qO rfl (by omega) (fun e => by have := hid _ e; simp at this; omega) (by first | omega | (simp -implicitDefEqProofs only [push_cast, sevalprocAttr, eq_self]; first | done | omega)) ?_; intro g a' hs' ha' hep hfr) | fail)
    obtain ⟨q1, q2⟩ := MO.app (h0 := h0) (Ext.tr hX (by repeat (first | exact Ext.refl _ | assumption | refine Ext.tick ?_ | refine Ext.push ?_ (by omega) _ | refine Ext.put ?_ (by omega) _ | refine Ext.kill ?_ (by omega) | refine Ext.killA ?_ (by assumption)))) (by simp -implicitDefEqProofs only [push_cast, sevalprocAttr, eq_self]; omega) hi (by simp only; omega) hep hfr
    exact MO.mk (g := g) e0 e3 rfl ⟨e8, e9⟩ hs' (by rw [q2]; simp -implicitDefEqProofs (disch := omega) only [zR, zZ, zS, zJ, hb, qN]) q1 (by rw [hep]; exact (by first | omega | (simp -implicitDefEqProofs only [push_cast, sevalprocAttr, eq_self]; first | done | omega))) (fun q hq => by have := ha' q hq; rw [this]; simp only; omega) (by repeat (first | exact Ext.refl _ | assumption | refine Ext.tick ?_ | refine Ext.push ?_ (by omega) _ | refine Ext.put ?_ (by omega) _ | refine Ext.kill ?_ (by omega) | refine Ext.killA ?_ (by assumption))) rfl
  · rw [if_neg h1, List.append_nil]
    rw [Bool.not_eq_true] at h1
    rw [h1] at hfl
    repeat' (first | ((try clear hf); with_reducible refine zO fun env K hE hK hf => ?_; have n : _ ∧ _ ∧ _ ∧ _ ∧ _ ∧ _ ∧ _ ∧ _ ∧ _ := ⟨hE 0, hE 1, hE 3, hE 4, hE 5, hE 6, hE 7, hE 8, hE 9⟩; simp -implicitDefEqProofs only [push_cast, reduceIte, Nat.reduceEqDiff, e0, e1, e3, e4, e5, e6, e7, e8, e9] at n; clear hE e0 e1 e3 e4 e5 e6 e7 e8 e9; obtain ⟨e0, e1, e3, e4, e5, e6, e7, e8, e9⟩ := n) | (with_reducible refine hK _ _ ?_; clear hK K) | (with_reducible first | refine zK ?_ | refine zU ?_ | refine zB ?_ | refine zF ?_ | refine zD ?_ | refine zN ?_ | refine zT ?_ | refine zC ?_ | refine zG ?_ | refine zV ?_ | refine zE ?_ | refine zA (by decide) ?_ | refine zL ?_ | refine zQ ?_ | refine zM ?_ | refine yB ?_ | refine yC ?_ | refine zW (by assumption) ?_ | refine zY (by assumption) ?_) | (refine zH rfl ?_) | (simp -implicitDefEqProofs only [push_cast, sevalprocAttr, eq_self, e0, e1, e3, e4, e5, e6, e7, e8, e9, hF.at, hri, hb]) | (simp -implicitDefEqProofs (disch := omega) only [zR, zZ, zS, zJ, e0, e1, e3, e4, e5, e6, e7, e8, e9, hF.at, hri, hb]) | (with_reducible refine yE ?_ ?_) | (refine zP rfl (fun bb => ?_) (fun bb => ?_) <;> (first | have bp := of_decide_eq_true bb | have bp := of_decide_eq_false bb | skip) <;> simp only [bb]) | (with_reducible refine zX (fun bb => ?_) (fun bb => ?_) <;> (first | have bp := of_decide_eq_true bb | have bp := of_decide_eq_false bb | skip)) | ((with_reducible refine And.intro ?_ ?_); omega) | (refine yG hfl ?_) | fail)
    exact MO.mk (g := h) e0 e3 e7 ⟨e8, e9⟩ hs hb hX hp hi (by repeat (first | exact Ext.refl _ | assumption | refine Ext.tick ?_ | refine Ext.push ?_ (by omega) _ | refine Ext.put ?_ (by omega) _ | refine Ext.kill ?_ (by omega) | refine Ext.killA ?_ (by assumption))) rfl
set_option maxHeartbeats 1000000 in
theorem f72'2 {h0 : Hp} {l : List Opn} {t : Tab} {i j : Nat} {E : List Edg} (hil : i < l.length) (hjl : j < l.length) (hij : i < j) (hl : ∀ o ∈ l, o.ok) (ht : tabOK t) (hn : l.length ≤ 1024) (hE : E.length ≤ 30000000) {σ : St} (hM : MO h0 7 l t E (exIJ i j) σ) {Q : AEx → St → Prop}
    (hQ : ∀ σ', MO h0 7 l t (E ++ pairE t (opAt l i) (opAt l j) i j 0 (meetS (opAt l i) (opAt l j) ((l.drop i).take (j - i)))) (exIJ i j) σ' → Q .normal σ') : awp Try.prog (.ops r72_11 []) Q σ := by
  obtain ⟨env, h⟩ := σ
  obtain ⟨a, e0, e3, e7, ⟨e8, e9⟩, hs, hb, hX, hp, hi⟩ := hM
  simp only at e0 e3 e7 e8 e9 hs hb hX hp
  have e1 : True := trivial; have e4 : True := trivial; have e5 : True := trivial; have e6 : True := trivial
  have hF : qQ h → qQ h := id
  have hmt : HV Try.prog 102 [.row (l.map opC), i64 i, i64 j] (bl (meetS (opAt l i) (opAt l j) ((l.drop i).take (j - i)))) := by
    have := f102 l i j hij hjl hl (by omega)
    unfold meetL at this; rw [qH hil, qH hjl] at this
    exact this
  have hpr := f94 hil hjl hl ht 0 (meetS (opAt l i) (opAt l j) ((l.drop i).take (j - i))) (fun h => meet_mem h)
  obtain ⟨n1, n2, n3, n4⟩ := pair_lens t (opAt l i) (opAt l j) i j 0 (meetS (opAt l i) (opAt l j) ((l.drop i).take (j - i)))
  have hpl : (pairE t (opAt l i) (opAt l j) i j 0 (meetS (opAt l i) (opAt l j) ((l.drop i).take (j - i)))).length ≤ 4 := by rw [pairE_eq]; simp only [List.length_append]; omega
  generalize pairE t (opAt l i) (opAt l j) i j 0 (meetS (opAt l i) (opAt l j) ((l.drop i).take (j - i))) = pe at *
  have hid := fun x hx => hs.id_le (x := x) hx
  repeat' (first | ((try clear hf); with_reducible refine zO fun env K hE hK hf => ?_; have n : _ ∧ _ ∧ _ ∧ _ ∧ _ ∧ _ ∧ _ ∧ _ ∧ _ := ⟨hE 0, hE 1, hE 3, hE 4, hE 5, hE 6, hE 7, hE 8, hE 9⟩; simp -implicitDefEqProofs only [push_cast, reduceIte, Nat.reduceEqDiff, e0, e1, e3, e4, e5, e6, e7, e8, e9] at n; clear hE e0 e1 e3 e4 e5 e6 e7 e8 e9; obtain ⟨e0, e1, e3, e4, e5, e6, e7, e8, e9⟩ := n) | (with_reducible refine hK _ _ ?_; clear hK K) | (with_reducible first | refine zK ?_ | refine zU ?_ | refine zB ?_ | refine zF ?_ | refine zD ?_ | refine zN ?_ | refine zT ?_ | refine zC ?_ | refine zG ?_ | refine zV ?_ | refine zE ?_ | refine zA (by decide) ?_ | refine zL ?_ | refine zQ ?_ | refine zM ?_ | refine yB ?_ | refine yC ?_ | refine zW (by assumption) ?_ | refine zY (by assumption) ?_) | (refine zH rfl ?_) | (simp -implicitDefEqProofs only [push_cast, sevalprocAttr, eq_self, e0, e1, e3, e4, e5, e6, e7, e8, e9, hb, app_src edC 5 qO]) | (simp -implicitDefEqProofs (disch := omega) only [zR, zZ, zS, zJ, e0, e1, e3, e4, e5, e6, e7, e8, e9, hb, app_src edC 5 qO]) | (with_reducible refine yE ?_ ?_) | (refine zP rfl (fun bb => ?_) (fun bb => ?_) <;> (first | have bp := of_decide_eq_true bb | have bp := of_decide_eq_false bb | skip) <;> simp only [bb]) | (with_reducible refine zX (fun bb => ?_) (fun bb => ?_) <;> (first | have bp := of_decide_eq_true bb | have bp := of_decide_eq_false bb | skip)) | ((with_reducible refine And.intro ?_ ?_); omega) | (refine call_immq hmt ?_) | (refine call_ownq (lends_imm (by simp [imms, imm, qF, tab_imms])) hpr ?_) | (refine goM_appN (fs := pe) (hs.ext (by repeat (first | exact Ext.refl _ | assumption | refine Ext.tick ?_ | refine Ext.push ?_ (by omega) _ | refine Ext.put ?_ (by omega) _ | refine Ext.kill ?_ (by omega) | refine Ext.killA ?_ (by assumption)))) qO (flat_one edC_one pe) (by omega) (fun e => by have := hid _ e; simp at this; omega) (by first | omega | (simp -implicitDefEqProofs only [push_cast, sevalprocAttr, eq_self]; first | done | omega)) ?_; intro g a' hs' ha' hep hfr) | fail)
  obtain ⟨q1, q2⟩ := MO.app (h0 := h0) (Ext.tr hX (by repeat (first | exact Ext.refl _ | assumption | refine Ext.tick ?_ | refine Ext.push ?_ (by omega) _ | refine Ext.put ?_ (by omega) _ | refine Ext.kill ?_ (by omega) | refine Ext.killA ?_ (by assumption)))) (by simp -implicitDefEqProofs only [push_cast, sevalprocAttr, eq_self]; omega) hi (by simp only; omega) hep hfr
  exact hQ _ (MO.mk (g := g) e0 e3 rfl ⟨e8, e9⟩ hs' (by rw [q2]; simp -implicitDefEqProofs (disch := omega) only [zR, zZ, zS, zJ, hb, qN]) q1 (by rw [hep]; exact (by first | omega | (simp -implicitDefEqProofs only [push_cast, sevalprocAttr, eq_self]; first | done | omega))) (fun q hq => by have := ha' q hq; rw [this]; simp only; omega) (by repeat (first | exact Ext.refl _ | assumption | refine Ext.tick ?_ | refine Ext.push ?_ (by omega) _ | refine Ext.put ?_ (by omega) _ | refine Ext.kill ?_ (by omega) | refine Ext.killA ?_ (by assumption))) rfl)

end Go.Proofs.Hx

set_option linter.unusedVariables false
set_option linter.unusedSimpArgs false
namespace Go.Proofs.Hx
open Go Go.Proofs
attribute [local irreducible] yM awp opK goV goM yZ qB qD yQ HV HVF HC
def rOb : ACode := .seq (.seq (.ops r72_9 []) (.cond (.t 30) (.ops r72_10 []) .skip)) (.ops r72_11 [])
theorem rO_eq : l72_0 = .seq (.seq (.ops r72_8 []) (.cond (.t 24) .skip (.exit 2))) (.seq (.block 3 rOb) (.ops r72_12 [])) := rfl
theorem ijE_eq (l : List Opn) (t : Tab) (i j : Nat) : ijE l t i j = (if fromS (lastL l j) (opAt l j) i = true then [⟨i, j, latS t (opAt l i), 0, 0⟩] else []) ++ pairE t (opAt l i) (opAt l j) i j 0 (meetS (opAt l i) (opAt l j) ((l.drop i).take (j - i))) := rfl
attribute [local irreducible] rOb
set_option maxHeartbeats 1000000 in
theorem f72'b {h0 : Hp} {l : List Opn} {t : Tab} {j : Nat} (hj : j < l.length) (hl : ∀ o ∈ l, o.ok) (ht : tabOK t) (hn : l.length ≤ 1024) {σ : St} (hM : MO h0 7 l t (onceE l t j) (exJ j) σ) {Q : AEx → St → Prop} (h9 : σ.env 9 = i64 0)
    (hQ : ∀ σ', MO h0 7 l t (onceE l t (j + 1)) (exJ j) σ' → Q (.exit 2) σ') : awp Try.prog (.loop l72_0) Q σ := by
  have hol := onceE_len l t l.length j (by omega)
  have hmul : 5 * l.length * j ≤ 5 * 1024 * 1024 := Nat.mul_le_mul (by omega) (by omega)
  refine yL (fun nn σ => ∃ i, nn = j - i ∧ i ≤ j ∧ MO h0 7 l t (onceE l t j ++ toE l t j i) (exIJ i j) σ) j ⟨0, by omega, by omega, ?_⟩ ?_
  · obtain ⟨a, e0, e3, eo, e8, r⟩ := hM
    exact ⟨a, e0, e3, eo, ⟨e8, h9⟩, by rw [show toE l t j 0 = [] from rfl, List.append_nil]; exact r⟩
  rintro nn ⟨env, h⟩ ⟨i, rfl, hi, hM⟩
  have hM' := hM
  obtain ⟨a, e0, e3, e7, ⟨e8, e9⟩, hs, hb, hX, hp, hia⟩ := hM
  simp only at e0 e3 e7 e8 e9 hs hb hX hp
  have e1 : True := trivial; have e4 : True := trivial; have e5 : True := trivial; have e6 : True := trivial
  rw [rO_eq]
  have hmx : ∀ env, exIJ i j env → True := fun _ _ => trivial
  by_cases hlt : i < j
  · have hd : decide ((i : Int) < (j : Int)) = true := decide_eq_true (by omega)
    have main : ∀ (Q : AEx → St → Prop) (env' : Nat → AV) (h' : Hp), env' 0 = .row (l.map opC) → env' 3 = .ptr (h0.ep + 1 + 1, 3) 0 → env' 7 = a → env' 8 = i64 j → env' 9 = i64 i → Ext h h' → (∀ σ', MO h0 7 l t (onceE l t j ++ toE l t j (i + 1)) (exIJ i j) σ' → Q .normal σ') → awp Try.prog rOb Q ⟨env', h'⟩ := by
      intro Q env' h' g0 g3 go g8 g9 hx hQ
      have hM2 := MO.mk (h0 := h0) (o := 7) (l := l) (t := t) (ex := exIJ i j) g0 g3 go ⟨g8, g9⟩ hs hb hX hp hia hx rfl
      have hl1 := toE_len l t j i
      unfold rOb
      refine awp_cut _ (f72'1 (by omega) hj hl ht hn (by rw [List.length_append]; omega) hM2) fun σ' hM3 => ?_
      refine f72'2 (by omega) hj hlt hl ht hn (by simp only [List.length_append]; split <;> simp <;> omega) hM3 fun σ' hM4 => hQ σ' ?_
      have hE : onceE l t j ++ toE l t j (i + 1) = (onceE l t j ++ toE l t j i ++ if fromS (lastL l j) (opAt l j) i = true then [⟨i, j, latS t (opAt l i), 0, 0⟩] else []) ++ pairE t (opAt l i) (opAt l j) i j 0 (meetS (opAt l i) (opAt l j) ((l.drop i).take (j - i))) := by
        rw [show toE l t j (i + 1) = toE l t j i ++ ijE l t i j from rfl, ijE_eq]
        simp only [List.append_assoc]
      rw [hE]
      exact hM4
    repeat' (first | ((try clear hf); with_reducible refine zO fun env K hE hK hf => ?_; have n : _ ∧ _ ∧ _ ∧ _ ∧ _ ∧ _ ∧ _ ∧ _ ∧ _ := ⟨hE 0, hE 1, hE 3, hE 4, hE 5, hE 6, hE 7, hE 8, hE 9⟩; simp -implicitDefEqProofs only [push_cast, reduceIte, Nat.reduceEqDiff, e0, e1, e3, e4, e5, e6, e7, e8, e9] at n; clear hE e0 e1 e3 e4 e5 e6 e7 e8 e9; obtain ⟨e0, e1, e3, e4, e5, e6, e7, e8, e9⟩ := n) | (with_reducible refine hK _ _ ?_; clear hK K) | (with_reducible first | refine zK ?_ | refine zU ?_ | refine zB ?_ | refine zF ?_ | refine zD ?_ | refine zN ?_ | refine zT ?_ | refine zC ?_ | refine zG ?_ | refine zV ?_ | refine zE ?_ | refine zA (by decide) ?_ | refine zL ?_ | refine zQ ?_ | refine zM ?_ | refine yB ?_ | refine yC ?_ | refine zW (by assumption) ?_ | refine zY (by assumption) ?_) | (refine zH rfl ?_) | (simp -implicitDefEqProofs only [push_cast, sevalprocAttr, eq_self, e0, e1, e3, e4, e5, e6, e7, e8, e9, hd]) | (simp -implicitDefEqProofs (disch := omega) only [zR, zZ, zS, zJ, e0, e1, e3, e4, e5, e6, e7, e8, e9, hd]) | (with_reducible refine yE ?_ ?_) | (refine zP rfl (fun bb => ?_) (fun bb => ?_) <;> (first | have bp := of_decide_eq_true bb | have bp := of_decide_eq_false bb | skip) <;> simp only [bb]) | (with_reducible refine zX (fun bb => ?_) (fun bb => ?_) <;> (first | have bp := of_decide_eq_true bb | have bp := of_decide_eq_false bb | skip)) | ((with_reducible refine And.intro ?_ ?_); omega) | (refine main _ _ _ e0 e3 e7 e8 e9 (by repeat (first | exact Ext.refl _ | assumption | refine Ext.tick ?_ | refine Ext.push ?_ (by omega) _ | refine Ext.put ?_ (by omega) _ | refine Ext.kill ?_ (by omega) | refine Ext.killA ?_ (by assumption))) ?_) | fail)
    rintro ⟨env, h⟩ hM
    obtain ⟨a, e0, e3, e7, ⟨e8, e9⟩, hs, hb, hX, hp, hia⟩ := hM
    simp only at e0 e3 e7 e8 e9 hs hb hX hp
    have e1 : True := trivial; have e4 : True := trivial; have e5 : True := trivial; have e6 : True := trivial
    repeat' (first | ((try clear hf); with_reducible refine zO fun env K hE hK hf => ?_; have n : _ ∧ _ ∧ _ ∧ _ ∧ _ ∧ _ ∧ _ ∧ _ ∧ _ := ⟨hE 0, hE 1, hE 3, hE 4, hE 5, hE 6, hE 7, hE 8, hE 9⟩; simp -implicitDefEqProofs only [push_cast, reduceIte, Nat.reduceEqDiff, e0, e1, e3, e4, e5, e6, e7, e8, e9] at n; clear hE e0 e1 e3 e4 e5 e6 e7 e8 e9; obtain ⟨e0, e1, e3, e4, e5, e6, e7, e8, e9⟩ := n) | (with_reducible refine hK _ _ ?_; clear hK K) | (with_reducible first | refine zK ?_ | refine zU ?_ | refine zB ?_ | refine zF ?_ | refine zD ?_ | refine zN ?_ | refine zT ?_ | refine zC ?_ | refine zG ?_ | refine zV ?_ | refine zE ?_ | refine zA (by decide) ?_ | refine zL ?_ | refine zQ ?_ | refine zM ?_ | refine yB ?_ | refine yC ?_ | refine zW (by assumption) ?_ | refine zY (by assumption) ?_) | (refine zH rfl ?_) | (simp -implicitDefEqProofs only [push_cast, sevalprocAttr, eq_self, e0, e1, e3, e4, e5, e6, e7, e8, e9]) | (simp -implicitDefEqProofs (disch := omega) only [zR, zZ, zS, zJ, e0, e1, e3, e4, e5, e6, e7, e8, e9]) | (with_reducible refine yE ?_ ?_) | (refine zP rfl (fun bb => ?_) (fun bb => ?_) <;> (first | have bp := of_decide_eq_true bb | have bp := of_decide_eq_false bb | skip) <;> simp only [bb]) | (with_reducible refine zX (fun bb => ?_) (fun bb => ?_) <;> (first | have bp := of_decide_eq_true bb | have bp := of_decide_eq_false bb | skip)) | ((with_reducible refine And.intro ?_ ?_); omega) | fail)
    refine ⟨j - (i + 1), by omega, i + 1, rfl, by omega, MO.mk e0 e3 e7 ⟨e8, ?_⟩ hs hb hX hp hia (by repeat (first | exact Ext.refl _ | assumption | refine Ext.tick ?_ | refine Ext.push ?_ (by omega) _ | refine Ext.put ?_ (by omega) _ | refine Ext.kill ?_ (by omega) | refine Ext.killA ?_ (by assumption))) rfl⟩
    simp -implicitDefEqProofs only [push_cast, sevalprocAttr, eq_self]
  · have hd : decide ((i : Int) < (j : Int)) = false := decide_eq_false (by omega)
    obtain rfl : i = j := by omega
    repeat' (first | ((try clear hf); with_reducible refine zO fun env K hE hK hf => ?_; have n : _ ∧ _ ∧ _ ∧ _ ∧ _ ∧ _ ∧ _ ∧ _ ∧ _ := ⟨hE 0, hE 1, hE 3, hE 4, hE 5, hE 6, hE 7, hE 8, hE 9⟩; simp -implicitDefEqProofs only [push_cast, reduceIte, Nat.reduceEqDiff, e0, e1, e3, e4, e5, e6, e7, e8, e9] at n; clear hE e0 e1 e3 e4 e5 e6 e7 e8 e9; obtain ⟨e0, e1, e3, e4, e5, e6, e7, e8, e9⟩ := n) | (with_reducible refine hK _ _ ?_; clear hK K) | (with_reducible first | refine zK ?_ | refine zU ?_ | refine zB ?_ | refine zF ?_ | refine zD ?_ | refine zN ?_ | refine zT ?_ | refine zC ?_ | refine zG ?_ | refine zV ?_ | refine zE ?_ | refine zA (by decide) ?_ | refine zL ?_ | refine zQ ?_ | refine zM ?_ | refine yB ?_ | refine yC ?_ | refine zW (by assumption) ?_ | refine zY (by assumption) ?_) | (refine zH rfl ?_) | (simp -implicitDefEqProofs only [push_cast, sevalprocAttr, eq_self, e0, e1, e3, e4, e5, e6, e7, e8, e9, hd]) | (simp -implicitDefEqProofs (disch := omega) only [zR, zZ, zS, zJ, e0, e1, e3, e4, e5, e6, e7, e8, e9, hd]) | (with_reducible refine yE ?_ ?_) | (refine zP rfl (fun bb => ?_) (fun bb => ?_) <;> (first | have bp := of_decide_eq_true bb | have bp := of_decide_eq_false bb | skip) <;> simp only [bb]) | (with_reducible refine zX (fun bb => ?_) (fun bb => ?_) <;> (first | have bp := of_decide_eq_true bb | have bp := of_decide_eq_false bb | skip)) | ((with_reducible refine And.intro ?_ ?_); omega) | (refine hQ _ ?_) | fail)
    exact MO.mk e0 e3 e7 e8 hs hb hX hp hia (by repeat (first | exact Ext.refl _ | assumption | refine Ext.tick ?_ | refine Ext.push ?_ (by omega) _ | refine Ext.put ?_ (by omega) _ | refine Ext.kill ?_ (by omega) | refine Ext.killA ?_ (by assumption))) rfl

end Go.Proofs.Hx

set_option linter.unusedVariables false
set_option linter.unusedSimpArgs false
namespace Go.Proofs.Hx
open Go Go.Proofs
attribute [local irreducible] yM awp opK goV goM yZ qB qD yQ HV HVF HC
set_option maxHeartbeats 1000000 in
theorem f72 {h0 : Hp} {l : List Opn} {t : Tab} (hl : ∀ o ∈ l, o.ok) :
    HC Try.prog 72 [.row (l.map opC), .agg (tabC t)] h0 fun r h' => Ext h0 h' ∧ ((errR l t ≠ 0 ∧ r = .tup [.nil, i64 (errR l t)]) ∨ (errR l t = 0 ∧ ∃ out, r = .tup [out, i64 0] ∧ OutR h' out (onceE l t l.length) ∧ ∀ x, idOf out = some x → h0.ep < x.1)) := by
  refine yX yK cf72 (by simp) fun hF => ?_
  unfold ac72 re72
  refine yF fun env hE => ?_; have e0 := hE 0; have e1 := hE 1; have e3 := hE 3; have e4 := hE 4; have e5 := hE 5; have e6 := hE 6; have e7 := hE 7; have e8 := hE 8; have e9 := hE 9; simp -implicitDefEqProofs only [push_cast] at e0 e1 e3 e4 e5 e6 e7 e8 e9; clear hE
  by_cases hR : errR l t = 0
  rotate_left
  · have hd : decide (errR l t ≠ 0) = true := decide_eq_true hR
    repeat' (first | ((try clear hf); with_reducible refine zO fun env K hE hK hf => ?_; have n : _ ∧ _ ∧ _ ∧ _ ∧ _ ∧ _ ∧ _ ∧ _ ∧ _ := ⟨hE 0, hE 1, hE 3, hE 4, hE 5, hE 6, hE 7, hE 8, hE 9⟩; simp -implicitDefEqProofs only [push_cast, reduceIte, Nat.reduceEqDiff, e0, e1, e3, e4, e5, e6, e7, e8, e9] at n; clear hE e0 e1 e3 e4 e5 e6 e7 e8 e9; obtain ⟨e0, e1, e3, e4, e5, e6, e7, e8, e9⟩ := n) | (with_reducible refine hK _ _ ?_; clear hK K) | (with_reducible first | refine zK ?_ | refine zU ?_ | refine zB ?_ | refine zF ?_ | refine zD ?_ | refine zN ?_ | refine zT ?_ | refine zC ?_ | refine zG ?_ | refine zV ?_ | refine zE ?_ | refine zA (by decide) ?_ | refine zL ?_ | refine zQ ?_ | refine zM ?_ | refine yB ?_ | refine yC ?_ | refine zW (by assumption) ?_ | refine zY (by assumption) ?_) | (refine zH rfl ?_) | (simp -implicitDefEqProofs only [push_cast, sevalprocAttr, eq_self, e0, e1, e3, e4, e5, e6, e7, e8, e9, hF.at, hd]) | (simp -implicitDefEqProofs (disch := omega) only [zR, zZ, zS, zJ, e0, e1, e3, e4, e5, e6, e7, e8, e9, hF.at, hd]) | (with_reducible refine yE ?_ ?_) | (refine zP rfl (fun bb => ?_) (fun bb => ?_) <;> (first | have bp := of_decide_eq_true bb | have bp := of_decide_eq_false bb | skip) <;> simp only [bb]) | (with_reducible refine zX (fun bb => ?_) (fun bb => ?_) <;> (first | have bp := of_decide_eq_true bb | have bp := of_decide_eq_false bb | skip)) | ((with_reducible refine And.intro ?_ ?_); omega) | (refine yG (f90 l t hl) ?_) | fail)
    exact ⟨(by repeat (first | exact Ext.refl _ | assumption | refine Ext.tick ?_ | refine Ext.push ?_ (by omega) _ | refine Ext.put ?_ (by omega) _ | refine Ext.kill ?_ (by omega) | refine Ext.killA ?_ (by assumption))), .inl hR⟩
  obtain ⟨ht, hn, _⟩ := errR_ok hR
  have hd0 : decide (errR l t ≠ 0) = false := decide_eq_false (fun h => h hR)
  repeat' (first | ((try clear hf); with_reducible refine zO fun env K hE hK hf => ?_; have n : _ ∧ _ ∧ _ ∧ _ ∧ _ ∧ _ ∧ _ ∧ _ ∧ _ := ⟨hE 0, hE 1, hE 3, hE 4, hE 5, hE 6, hE 7, hE 8, hE 9⟩; simp -implicitDefEqProofs only [push_cast, reduceIte, Nat.reduceEqDiff, e0, e1, e3, e4, e5, e6, e7, e8, e9] at n; clear hE e0 e1 e3 e4 e5 e6 e7 e8 e9; obtain ⟨e0, e1, e3, e4, e5, e6, e7, e8, e9⟩ := n) | (with_reducible refine hK _ _ ?_; clear hK K) | (with_reducible first | refine zK ?_ | refine zU ?_ | refine zB ?_ | refine zF ?_ | refine zD ?_ | refine zN ?_ | refine zT ?_ | refine zC ?_ | refine zG ?_ | refine zV ?_ | refine zE ?_ | refine zA (by decide) ?_ | refine zL ?_ | refine zQ ?_ | refine zM ?_ | refine yB ?_ | refine yC ?_ | refine zW (by assumption) ?_ | refine zY (by assumption) ?_) | (refine zH rfl ?_) | (simp -implicitDefEqProofs only [push_cast, sevalprocAttr, eq_self, e0, e1, e3, e4, e5, e6, e7, e8, e9, hF.at, hd0]) | (simp -implicitDefEqProofs (disch := omega) only [zR, zZ, zS, zJ, e0, e1, e3, e4, e5, e6, e7, e8, e9, hF.at, hd0]) | (with_reducible refine yE ?_ ?_) | (refine zP rfl (fun bb => ?_) (fun bb => ?_) <;> (first | have bp := of_decide_eq_true bb | have bp := of_decide_eq_false bb | skip) <;> simp only [bb]) | (with_reducible refine zX (fun bb => ?_) (fun bb => ?_) <;> (first | have bp := of_decide_eq_true bb | have bp := of_decide_eq_false bb | skip)) | ((with_reducible refine And.intro ?_ ?_); omega) | (refine yG (f90 l t hl) ?_) | fail)
  refine yL (fun nn σ => ∃ j, nn = l.length - j ∧ j ≤ l.length ∧ MO h0 7 l t (onceE l t j) (exJ j) σ) l.length ⟨0, by omega, by omega, MO.mk e0 e3 e7 (by show _ = _; simp -implicitDefEqProofs only [push_cast, sevalprocAttr, eq_self]) (SlO.nil _ _ _) (by simp -implicitDefEqProofs only [push_cast, sevalprocAttr, eq_self]) (by repeat (first | exact Ext.refl _ | assumption | refine Ext.tick ?_ | refine Ext.push ?_ (by omega) _ | refine Ext.put ?_ (by omega) _ | refine Ext.kill ?_ (by omega) | refine Ext.killA ?_ (by assumption))) (by first | omega | (simp -implicitDefEqProofs only [push_cast, sevalprocAttr, eq_self]; first | done | omega)) (fun x hx => by simp [idOf] at hx) (Ext.refl _) rfl⟩ ?_
  rintro nn ⟨env, h⟩ ⟨j, rfl, hj, a, e0, e3, e7, e8, hs, hb, hX, hp, hia⟩
  simp only at e0 e3 e7 e8 hs hb hX hp
  unfold exJ at e8
  have e1 : True := trivial; have e4 : True := trivial; have e5 : True := trivial; have e6 : True := trivial; have e9 : True := trivial
  unfold l72_1
  by_cases hlt : j < l.length
  · have hd : decide ((j : Int) < (l.length : Int)) = true := decide_eq_true (by omega)
    repeat' (first | ((try clear hf); with_reducible refine zO fun env K hE hK hf => ?_; have n : _ ∧ _ ∧ _ ∧ _ ∧ _ ∧ _ ∧ _ ∧ _ ∧ _ := ⟨hE 0, hE 1, hE 3, hE 4, hE 5, hE 6, hE 7, hE 8, hE 9⟩; simp -implicitDefEqProofs only [push_cast, reduceIte, Nat.reduceEqDiff, e0, e1, e3, e4, e5, e6, e7, e8, e9] at n; clear hE e0 e1 e3 e4 e5 e6 e7 e8 e9; obtain ⟨e0, e1, e3, e4, e5, e6, e7, e8, e9⟩ := n) | (with_reducible refine hK _ _ ?_; clear hK K) | (with_reducible first | refine zK ?_ | refine zU ?_ | refine zB ?_ | refine zF ?_ | refine zD ?_ | refine zN ?_ | refine zT ?_ | refine zC ?_ | refine zG ?_ | refine zV ?_ | refine zE ?_ | refine zA (by decide) ?_ | refine zL ?_ | refine zQ ?_ | refine zM ?_ | refine yB ?_ | refine yC ?_ | refine zW (by assumption) ?_ | refine zY (by assumption) ?_) | (refine zH rfl ?_) | (simp -implicitDefEqProofs only [push_cast, sevalprocAttr, eq_self, e0, e1, e3, e4, e5, e6, e7, e8, e9, hd]) | (simp -implicitDefEqProofs (disch := omega) only [zR, zZ, zS, zJ, e0, e1, e3, e4, e5, e6, e7, e8, e9, hd]) | (with_reducible refine yE ?_ ?_) | (refine zP rfl (fun bb => ?_) (fun bb => ?_) <;> (first | have bp := of_decide_eq_true bb | have bp := of_decide_eq_false bb | skip) <;> simp only [bb]) | (with_reducible refine zX (fun bb => ?_) (fun bb => ?_) <;> (first | have bp := of_decide_eq_true bb | have bp := of_decide_eq_false bb | skip)) | ((with_reducible refine And.intro ?_ ?_); omega) | fail)
    refine f72'b (h0 := h0) hlt hl ht hn ?_ ?_ ?_
    · exact MO.mk e0 e3 e7 e8 hs hb hX hp hia (by repeat (first | exact Ext.refl _ | assumption | refine Ext.tick ?_ | refine Ext.push ?_ (by omega) _ | refine Ext.put ?_ (by omega) _ | refine Ext.kill ?_ (by omega) | refine Ext.killA ?_ (by assumption))) rfl
    · rfl
    rintro ⟨env, h⟩ ⟨a, e0, e3, e7, e8, hs, hb, hX, hp, hia⟩
    simp only at e0 e3 e7 e8 hs hb hX hp
    unfold exJ at e8
    have e1 : True := trivial; have e4 : True := trivial; have e5 : True := trivial; have e6 : True := trivial; have e9 : True := trivial
    repeat' (first | ((try clear hf); with_reducible refine zO fun env K hE hK hf => ?_; have n : _ ∧ _ ∧ _ ∧ _ ∧ _ ∧ _ ∧ _ ∧ _ ∧ _ := ⟨hE 0, hE 1, hE 3, hE 4, hE 5, hE 6, hE 7, hE 8, hE 9⟩; simp -implicitDefEqProofs only [push_cast, reduceIte, Nat.reduceEqDiff, e0, e1, e3, e4, e5, e6, e7, e8, e9] at n; clear hE e0 e1 e3 e4 e5 e6 e7 e8 e9; obtain ⟨e0, e1, e3, e4, e5, e6, e7, e8, e9⟩ := n) | (with_reducible refine hK _ _ ?_; clear hK K) | (with_reducible first | refine zK ?_ | refine zU ?_ | refine zB ?_ | refine zF ?_ | refine zD ?_ | refine zN ?_ | refine zT ?_ | refine zC ?_ | refine zG ?_ | refine zV ?_ | refine zE ?_ | refine zA (by decide) ?_ | refine zL ?_ | refine zQ ?_ | refine zM ?_ | refine yB ?_ | refine yC ?_ | refine zW (by assumption) ?_ | refine zY (by assumption) ?_) | (refine zH rfl ?_) | (simp -implicitDefEqProofs only [push_cast, sevalprocAttr, eq_self, e0, e1, e3, e4, e5, e6, e7, e8, e9]) | (simp -implicitDefEqProofs (disch := omega) only [zR, zZ, zS, zJ, e0, e1, e3, e4, e5, e6, e7, e8, e9]) | (with_reducible refine yE ?_ ?_) | (refine zP rfl (fun bb => ?_) (fun bb => ?_) <;> (first | have bp := of_decide_eq_true bb | have bp := of_decide_eq_false bb | skip) <;> simp only [bb]) | (with_reducible refine zX (fun bb => ?_) (fun bb => ?_) <;> (first | have bp := of_decide_eq_true bb | have bp := of_decide_eq_false bb | skip)) | ((with_reducible refine And.intro ?_ ?_); omega) | fail)
    refine ⟨l.length - (j + 1), by omega, j + 1, rfl, by omega, MO.mk e0 e3 e7 (by show _ = _; simp -implicitDefEqProofs only [push_cast, sevalprocAttr, eq_self]) hs hb hX hp hia (by repeat (first | exact Ext.refl _ | assumption | refine Ext.tick ?_ | refine Ext.push ?_ (by omega) _ | refine Ext.put ?_ (by omega) _ | refine Ext.kill ?_ (by omega) | refine Ext.killA ?_ (by assumption))) rfl⟩
  · have hd : decide ((j : Int) < (l.length : Int)) = false := decide_eq_false (by omega)
    obtain rfl : j = l.length := by omega
    repeat' (first | ((try clear hf); with_reducible refine zO fun env K hE hK hf => ?_; have n : _ ∧ _ ∧ _ ∧ _ ∧ _ ∧ _ ∧ _ ∧ _ ∧ _ := ⟨hE 0, hE 1, hE 3, hE 4, hE 5, hE 6, hE 7, hE 8, hE 9⟩; simp -implicitDefEqProofs only [push_cast, reduceIte, Nat.reduceEqDiff, e0, e1, e3, e4, e5, e6, e7, e8, e9] at n; clear hE e0 e1 e3 e4 e5 e6 e7 e8 e9; obtain ⟨e0, e1, e3, e4, e5, e6, e7, e8, e9⟩ := n) | (with_reducible refine hK _ _ ?_; clear hK K) | (with_reducible first | refine zK ?_ | refine zU ?_ | refine zB ?_ | refine zF ?_ | refine zD ?_ | refine zN ?_ | refine zT ?_ | refine zC ?_ | refine zG ?_ | refine zV ?_ | refine zE ?_ | refine zA (by decide) ?_ | refine zL ?_ | refine zQ ?_ | refine zM ?_ | refine yB ?_ | refine yC ?_ | refine zW (by assumption) ?_ | refine zY (by assumption) ?_) | (refine zH rfl ?_) | (simp -implicitDefEqProofs only [push_cast, sevalprocAttr, eq_self, e0, e1, e3, e4, e5, e6, e7, e8, e9, hd]) | (simp -implicitDefEqProofs (disch := omega) only [zR, zZ, zS, zJ, e0, e1, e3, e4, e5, e6, e7, e8, e9, hd]) | (with_reducible refine yE ?_ ?_) | (refine zP rfl (fun bb => ?_) (fun bb => ?_) <;> (first | have bp := of_decide_eq_true bb | have bp := of_decide_eq_false bb | skip) <;> simp only [bb]) | (with_reducible refine zX (fun bb => ?_) (fun bb => ?_) <;> (first | have bp := of_decide_eq_true bb | have bp := of_decide_eq_false bb | skip)) | ((with_reducible refine And.intro ?_ ?_); omega) | fail)
    exact ⟨(by repeat (first | exact Ext.refl _ | assumption | refine Ext.tick ?_ | refine Ext.push ?_ (by omega) _ | refine Ext.put ?_ (by omega) _ | refine Ext.kill ?_ (by omega) | refine Ext.killA ?_ (by assumption))), .inr ⟨hR, a, rfl, (hs.ext (show Ext h _ from (by repeat (first | exact Ext.refl _ | assumption | refine Ext.tick ?_ | refine Ext.push ?_ (by omega) _ | refine Ext.put ?_ (by omega) _ | refine Ext.kill ?_ (by omega) | refine Ext.killA ?_ (by assumption))))).st, fun x hx => by have := hia x hx; omega⟩⟩
end Go.Proofs.Hx

set_option linter.unusedVariables false
set_option linter.unusedSimpArgs false
namespace Go.Proofs.Hx
open Go Go.Proofs
attribute [local irreducible] yM awp opK goV goM yZ qB qD yQ HV HVF HC
/-! ### How high -/
def mx (a b : Int) : Int := if b > a then b else a
def stepV1 (H : List Int) (a : Int) (x : Edg) : Int := mx a (x.l + H.getD x.t.toNat 0)
/-- The longest way from i, by what is behind. -/
def hOne (lat : Int) (E : List Edg) (H : List Int) : Int := E.foldl (stepV1 H) lat
def outE (E : List Edg) (i : Nat) : List Edg := E.filter fun e => decide (e.f = (i : Int))
def hM (l : List Opn) (t : Tab) (E : List Edg) : Nat → List Int
  | 0 => List.replicate l.length 0
  | m + 1 => (hM l t E m).set (l.length - 1 - m) (hOne (latS t (opAt l (l.length - 1 - m))) (outE E (l.length - 1 - m)) (hM l t E m))
def edOK (n : Nat) (e : Edg) : Prop := 0 ≤ e.f ∧ e.f < e.t ∧ e.t < n ∧ 0 ≤ e.l ∧ e.l ≤ 8
theorem onceE_ok {l : List Opn} {t : Tab} (ht : tabOK t) : ∀ j, ∀ e ∈ onceE l t j, edOK j e := by
  have key : ∀ (i j : Nat), i < j → ∀ e ∈ ijE l t i j, edOK (j + 1) e := by
    intro i j hij e he
    have h1 := latS_ok ht (opAt l i)
    have h2 := latS_ok ht (opAt l j)
    have h3 := ht.1 2 (by omega)
    unfold okC at h3
    unfold ijE at he
    rw [List.mem_append] at he
    rcases he with he | he
    · split at he
      · simp only [List.mem_singleton] at he; subst he
        unfold edOK; simp only; omega
      · simp at he
    · unfold pairE at he
      simp only [List.mem_append] at he
      rcases he with ((he | he) | he) | he <;> (split at he <;> (try (simp at he; done)))
      all_goals
        simp only [List.mem_singleton] at he; subst he
        unfold edOK; simp only
        refine ⟨by omega, by omega, by omega, ?_, ?_⟩ <;> (repeat' split) <;> omega
  have key2 : ∀ (j i : Nat), i ≤ j → ∀ e ∈ toE l t j i, edOK (j + 1) e := by
    intro j i
    induction i with
    | zero => intro _ e he; simp [toE] at he
    | succ i ih =>
      intro hi e he
      simp only [toE, List.mem_append] at he
      rcases he with he | he
      · exact ih (by omega) e he
      · exact key i j (by omega) e he
  intro j
  induction j with
  | zero => intro e he; simp [onceE] at he
  | succ j ih =>
    intro e he
    simp only [onceE, List.mem_append] at he
    rcases he with he | he
    · have := ih e he
      unfold edOK at this ⊢
      omega
    · exact key2 j j (Nat.le_refl _) e he
theorem hM_len (l : List Opn) (t : Tab) (E : List Edg) (m : Nat) : (hM l t E m).length = l.length := by
  induction m with
  | zero => simp [hM]
  | succ m ih => simp [hM, ih]
theorem hM_bnd {l : List Opn} {t : Tab} {E : List Edg} (ht : tabOK t) (hE : ∀ e ∈ E, edOK l.length e) (m : Nat) : ∀ k, 0 ≤ (hM l t E m).getD k 0 ∧ (hM l t E m).getD k 0 ≤ 8 * m := by
  induction m with
  | zero => intro k; simp [hM, List.getD_eq_getElem?_getD, List.getElem?_replicate]; split <;> simp
  | succ m ih =>
    have h1 := latS_ok ht (opAt l (l.length - 1 - m))
    have key : ∀ (L : List Edg) (a : Int), (∀ e ∈ L, edOK l.length e) → 0 ≤ a → a ≤ 8 * (m + 1 : Nat) → 0 ≤ L.foldl (stepV1 (hM l t E m)) a ∧ L.foldl (stepV1 (hM l t E m)) a ≤ 8 * (m + 1 : Nat) := by
      intro L
      induction L with
      | nil => intro a _ h0 h1; exact ⟨h0, h1⟩
      | cons x L ihL =>
        intro a hL h0 h1
        have hx := hL x (List.mem_cons_self ..)
        have := ih x.t.toNat
        unfold edOK at hx
        rw [List.foldl_cons]
        refine ihL _ (fun e he => hL e (List.mem_cons_of_mem _ he)) ?_ ?_ <;> (unfold stepV1 mx; split <;> omega)
    have h2 := key (outE E (l.length - 1 - m)) (latS t (opAt l (l.length - 1 - m))) (fun e he => hE e (List.mem_filter.1 he).1) (by omega) (by omega)
    intro k
    simp only [hM, List.getD_eq_getElem?_getD, List.getElem?_set, hM_len]
    split
    · split
      · simpa [hOne] using h2
      · simp; omega
    · have := ih k
      rw [List.getD_eq_getElem?_getD] at this
      omega
theorem outE_len (E : List Edg) (k i : Nat) : (outE (E.take k) i).length ≤ k := by
  have := List.length_filter_le (fun e : Edg => decide (e.f = (i : Int))) (E.take k)
  simp [outE] at this ⊢; omega
theorem outE_next (E : List Edg) (k i : Nat) (x : Edg) (hx : x.f = i) (h : E.take (k + 1) = E.take k ++ [x]) : outE (E.take (k + 1)) = fun j => if j = i then outE (E.take k) i ++ [x] else outE (E.take k) j := by
  funext j
  rw [h]
  simp only [outE, List.filter_append]
  by_cases hj : j = i
  · subst hj; simp [hx]
  · rw [if_neg hj]
    have : ¬ (i : Int) = (j : Int) := by omega
    simp [hx, this]
def heightS (l : List Opn) (t : Tab) : List Int := hM l t (onceE l t l.length) l.length
end Go.Proofs.Hx

set_option linter.unusedVariables false
set_option linter.unusedSimpArgs false
namespace Go.Proofs.Hx
open Go Go.Proofs
attribute [local irreducible] yM awp opK goV goM yZ qB qD yQ HV HVF HC
set_option maxHeartbeats 1000000 in
theorem f36 {h0 : Hp} {l : List Opn} {t : Tab} (hl : ∀ o ∈ l, o.ok) (hR : errR l t = 0) :
    HC Try.prog 36 [.row (l.map opC), .agg (tabC t)] h0 fun r h' => ∃ id, r = .tup [.sl id 0 l.length 1, i64 0] ∧ h'.hp id = some ⟨true, (heightS l t).map iC⟩ ∧ h0.ep < id.1 ∧ id.1 ≤ h'.ep ∧ Ext h0 h' := by
  refine yX yK cf36 (by simp) fun hF => ?_
  unfold ac36 re36
  refine yF fun env hE => ?_; have e0 := hE 0; have e1 := hE 1; have e3 := hE 3; have e4 := hE 4; have e5 := hE 5; have e6 := hE 6; have e7 := hE 7; have e8 := hE 8; have e10 := hE 10; have e11 := hE 11; have e12 := hE 12; have e13 := hE 13; have e16 := hE 16; have e29 := hE 29; have e30 := hE 30; have e31 := hE 31; have e32 := hE 32; have e77 := hE 77; have e78 := hE 78; have e79 := hE 79; have e80 := hE 80; simp -implicitDefEqProofs only [push_cast] at e0 e1 e3 e4 e5 e6 e7 e8 e10 e11 e12 e13 e16 e29 e30 e31 e32 e77 e78 e79 e80; clear hE
  obtain ⟨ht, hn, hop⟩ := errR_ok hR
  have hE := onceE_ok (l := l) ht l.length
  have hEl := onceE_len l t l.length l.length (Nat.le_refl _)
  generalize hEq : onceE l t l.length = E at hE hEl
  have hmul : 5 * l.length * l.length ≤ 5 * 1024 * 1024 := Nat.mul_le_mul (by omega) (by omega)
  repeat' (first | ((try clear hf); with_reducible refine zO fun env K hE hK hf => ?_; have n : _ ∧ _ ∧ _ ∧ _ ∧ _ ∧ _ ∧ _ ∧ _ ∧ _ ∧ _ ∧ _ ∧ _ ∧ _ ∧ _ ∧ _ ∧ _ ∧ _ ∧ _ ∧ _ ∧ _ ∧ _ := ⟨hE 0, hE 1, hE 3, hE 4, hE 5, hE 6, hE 7, hE 8, hE 10, hE 11, hE 12, hE 13, hE 16, hE 29, hE 30, hE 31, hE 32, hE 77, hE 78, hE 79, hE 80⟩; simp -implicitDefEqProofs only [push_cast, reduceIte, Nat.reduceEqDiff, e0, e1, e3, e4, e5, e6, e7, e8, e10, e11, e12, e13, e16, e29, e30, e31, e32, e77, e78, e79, e80] at n; clear hE e0 e1 e3 e4 e5 e6 e7 e8 e10 e11 e12 e13 e16 e29 e30 e31 e32 e77 e78 e79 e80; obtain ⟨e0, e1, e3, e4, e5, e6, e7, e8, e10, e11, e12, e13, e16, e29, e30, e31, e32, e77, e78, e79, e80⟩ := n) | (with_reducible refine hK _ _ ?_; clear hK K) | (with_reducible first | refine zK ?_ | refine zU ?_ | refine zB ?_ | refine zF ?_ | refine zD ?_ | refine zN ?_ | refine zT ?_ | refine zC ?_ | refine zG ?_ | refine zV ?_ | refine zE ?_ | refine zA (by decide) ?_ | refine zL ?_ | refine zQ ?_ | refine zM ?_ | refine yB ?_ | refine yC ?_ | refine zW (by assumption) ?_ | refine zY (by assumption) ?_) | (refine zH rfl ?_) | (simp -implicitDefEqProofs only [push_cast, sevalprocAttr, eq_self, e0, e1, e3, e4, e5, e6, e7, e8, e10, e11, e12, e13, e16, e29, e30, e31, e32, e77, e78, e79, e80, hF.at, qS, rep1]) | (simp -implicitDefEqProofs (disch := omega) only [zR, zZ, zS, zJ, e0, e1, e3, e4, e5, e6, e7, e8, e10, e11, e12, e13, e16, e29, e30, e31, e32, e77, e78, e79, e80, hF.at, qS, rep1]) | (with_reducible refine yE ?_ ?_) | (refine zP rfl (fun bb => ?_) (fun bb => ?_) <;> simp only [bb]) | (with_reducible refine zX (fun bb => ?_) (fun bb => ?_)) | ((with_reducible refine And.intro ?_ ?_); omega) | (refine yT (HC.mono (of_all hl) ?_); rintro r h1 ⟨hx, hr⟩ hF; rcases hr with ⟨hr, _⟩ | ⟨_, out, hr, hO⟩; exact absurd hR hr; subst hr; rw [hEq] at hO; have hOl := hO.slo.len) | fail)
  have hlt : h0.ep + 1 + 1 ≤ h1.ep := by have := hx.1; rw [yN, push_ep, yN, yN] at this; omega
  have hbT : h1.hp (h0.ep + 1 + 1, 3) = some ⟨true, tabC t⟩ := by
    have := hx.2 (h0.ep + 1 + 1, 3) (by rw [yN, push_ep, yN, yN]; simp)
    rw [this, qN, qP]
  repeat' (first | ((try clear hf); with_reducible refine zO fun env K hE hK hf => ?_; have n : _ ∧ _ ∧ _ ∧ _ ∧ _ ∧ _ ∧ _ ∧ _ ∧ _ ∧ _ ∧ _ ∧ _ ∧ _ ∧ _ ∧ _ ∧ _ ∧ _ ∧ _ ∧ _ ∧ _ ∧ _ := ⟨hE 0, hE 1, hE 3, hE 4, hE 5, hE 6, hE 7, hE 8, hE 10, hE 11, hE 12, hE 13, hE 16, hE 29, hE 30, hE 31, hE 32, hE 77, hE 78, hE 79, hE 80⟩; simp -implicitDefEqProofs only [push_cast, reduceIte, Nat.reduceEqDiff, e0, e1, e3, e4, e5, e6, e7, e8, e10, e11, e12, e13, e16, e29, e30, e31, e32, e77, e78, e79, e80] at n; clear hE e0 e1 e3 e4 e5 e6 e7 e8 e10 e11 e12 e13 e16 e29 e30 e31 e32 e77 e78 e79 e80; obtain ⟨e0, e1, e3, e4, e5, e6, e7, e8, e10, e11, e12, e13, e16, e29, e30, e31, e32, e77, e78, e79, e80⟩ := n) | (with_reducible refine hK _ _ ?_; clear hK K) | (with_reducible first | refine zK ?_ | refine zU ?_ | refine zB ?_ | refine zF ?_ | refine zD ?_ | refine zN ?_ | refine zT ?_ | refine zC ?_ | refine zG ?_ | refine zV ?_ | refine zE ?_ | refine zA (by decide) ?_ | refine zL ?_ | refine zQ ?_ | refine zM ?_ | refine yB ?_ | refine yC ?_ | refine zW (by assumption) ?_ | refine zY (by assumption) ?_) | (refine zH rfl ?_) | (simp -implicitDefEqProofs only [push_cast, sevalprocAttr, eq_self, e0, e1, e3, e4, e5, e6, e7, e8, e10, e11, e12, e13, e16, e29, e30, e31, e32, e77, e78, e79, e80, hOl]) | (simp -implicitDefEqProofs (disch := omega) only [zR, zZ, zS, zJ, e0, e1, e3, e4, e5, e6, e7, e8, e10, e11, e12, e13, e16, e29, e30, e31, e32, e77, e78, e79, e80, hOl]) | (with_reducible refine yE ?_ ?_) | (refine zP rfl (fun bb => ?_) (fun bb => ?_) <;> simp only [bb]) | (with_reducible refine zX (fun bb => ?_) (fun bb => ?_)) | ((with_reducible refine And.intro ?_ ?_); omega) | fail)
  generalize hH8 : (h1.ep + 1 + 1 + 1, 28) = H8 at *
  obtain ⟨H8e, H8s⟩ := H8
  have h8e : H8e = h1.ep + 1 + 1 + 1 := by cases hH8; rfl
  refine yF fun env hE => ?_; have n : _ ∧ _ ∧ _ ∧ _ ∧ _ ∧ _ ∧ _ ∧ _ ∧ _ ∧ _ ∧ _ ∧ _ ∧ _ ∧ _ ∧ _ ∧ _ ∧ _ ∧ _ ∧ _ ∧ _ ∧ _ := ⟨hE 0, hE 1, hE 3, hE 4, hE 5, hE 6, hE 7, hE 8, hE 10, hE 11, hE 12, hE 13, hE 16, hE 29, hE 30, hE 31, hE 32, hE 77, hE 78, hE 79, hE 80⟩; simp -implicitDefEqProofs only [push_cast, reduceIte, Nat.reduceEqDiff, e0, e1, e3, e4, e5, e6, e7, e8, e10, e11, e12, e13, e16, e29, e30, e31, e32, e77, e78, e79, e80] at n; clear hE e0 e1 e3 e4 e5 e6 e7 e8 e10 e11 e12 e13 e16 e29 e30 e31 e32 e77 e78 e79 e80; obtain ⟨e0, e1, e3, e4, e5, e6, e7, e8, e10, e11, e12, e13, e16, e29, e30, e31, e32, e77, e78, e79, e80⟩ := n; have E36_0_0 := e0; have E36_0_1 := e1; have E36_0_3 := e3; have E36_0_4 := e4; have E36_0_5 := e5; have E36_0_6 := e6; have E36_0_7 := e7; have E36_0_8 := e8; have E36_0_29 := e29; have E36_0_30 := e30
  refine yL (fun nn σ => ∃ (k : Nat) (c : List AV), nn = E.length - k ∧ σ.env 0 = env 0 ∧ σ.env 1 = env 1 ∧ σ.env 3 = env 3 ∧ σ.env 4 = env 4 ∧ σ.env 5 = env 5 ∧ σ.env 6 = env 6 ∧ σ.env 7 = env 7 ∧ σ.env 8 = env 8 ∧ σ.env 29 = env 29 ∧ σ.env 30 = env 30 ∧ σ.env 31 = i64 k ∧ (k ≤ E.length ∧ σ.h.hp (H8e, H8s) = some ⟨true, c⟩ ∧ c.length = l.length ∧ RowsO edC 5 σ.h H8e c (outE (E.take k)) ∧ Ext h1 σ.h ∧ H8e ≤ σ.h.ep)) _ ⟨0, List.replicate l.length AV.nil, rfl, rfl, rfl, rfl, rfl, rfl, rfl, rfl, rfl, rfl, rfl, by refine e31.trans ?_; first | rfl | exact yD (by omega) | (simp -implicitDefEqProofs (disch := omega) only [zJ]; first | rfl | exact yD (by omega)), ?_⟩ ?_
  · refine ⟨by omega, by simp -implicitDefEqProofs only [push_cast, sevalprocAttr, eq_self], by simp, ⟨fun i a hi => ?_, fun i j a b x hi hj hij hx => ?_⟩, (by repeat (first | exact Ext.refl _ | assumption | refine Ext.tick ?_ | refine Ext.push ?_ (by omega) _ | refine Ext.put ?_ (by omega) _ | refine Ext.kill ?_ (by omega) | refine Ext.killA ?_ (by assumption))), by simp -implicitDefEqProofs only [push_cast, sevalprocAttr, eq_self]; omega⟩
    · rw [List.getElem?_replicate] at hi
      split at hi
      · cases hi; exact ⟨SlO.nil _ _ _, fun x hx => by simp [idOf] at hx⟩
      · cases hi
    · rw [List.getElem?_replicate] at hi
      split at hi
      · cases hi; simp [idOf] at hx
      · cases hi
  clear e0 e1 e3 e4 e5 e6 e7 e8 e10 e11 e12 e13 e16 e29 e30 e31 e32 e77 e78 e79 e80; rintro nn ⟨env, h2⟩ ⟨k, c, rfl, q0, q1, q3, q4, q5, q6, q7, q8, q29, q30, e31, hI⟩; simp only at q0 q1 q3 q4 q5 q6 q7 q8 q29 q30 e31 hI; (first | have e0 := q0.trans E36_0_0 | have e0 := True.intro); (first | have e1 := q1.trans E36_0_1 | have e1 := True.intro); (first | have e3 := q3.trans E36_0_3 | have e3 := True.intro); (first | have e4 := q4.trans E36_0_4 | have e4 := True.intro); (first | have e5 := q5.trans E36_0_5 | have e5 := True.intro); (first | have e6 := q6.trans E36_0_6 | have e6 := True.intro); (first | have e7 := q7.trans E36_0_7 | have e7 := True.intro); (first | have e8 := q8.trans E36_0_8 | have e8 := True.intro); (first | have e29 := q29.trans E36_0_29 | have e29 := True.intro); (first | have e30 := q30.trans E36_0_30 | have e30 := True.intro); clear q0 q1 q3 q4 q5 q6 q7 q8 q29 q30; have e10 := True.intro; have e11 := True.intro; have e12 := True.intro; have e13 := True.intro; have e16 := True.intro; have e32 := True.intro; have e77 := True.intro; have e78 := True.intro; have e79 := True.intro; have e80 := True.intro
  obtain ⟨hk, hb8, hcl, hrw, hx8, he8⟩ := hI
  unfold l36_0
  (first | refine yI fun hF => ?_ | refine yS fun hF => ?_ | refine yR fun hF => ?_)
  by_cases hlt : k < E.length
  · have hd : decide ((k : Int) < (E.length : Int)) = true := by simp; omega
    obtain ⟨oe, os, hoe, hob, hol⟩ := hO.slo.blk (by omega)
    subst hoe
    replace hob := (hx8.2 _ hol).trans hob
    have hle8 := hx8.1
    have hfl := flat_len qO E
    have hft := flat_take qO E hlt
    have hle : k * 5 + 5 ≤ (E.flatMap edC).length := by rw [hfl]; omega
    have hxo := hE _ (List.getElem_mem hlt)
    have htk : E.take (k + 1) = E.take k ++ [E[k]] := by rw [List.take_succ_eq_append_getElem hlt]
    generalize E[k] = x at *
    obtain ⟨x1, x2, x3, x4, x5⟩ := hxo
    obtain ⟨i, hi⟩ : ∃ i : Nat, x.f = i := ⟨x.f.toNat, by omega⟩
    have hca : c[i]? = some (c.getD i .nil) := by rw [List.getD_eq_getElem?_getD, List.getElem?_eq_getElem (by omega)]; rfl
    generalize c.getD i .nil = a at hca
    obtain ⟨hra, hrx⟩ := hrw.get i a hca
    have hb40 : ((outE (E.take k) i).length + 1 + ((outE (E.take k) i).length + 1) / 4 + 512) * 40 ≤ 281474976710656 := by have := outE_len E k i; omega
    have hk8 : ∀ g, (killA g a).hp (H8e, H8s) = g.hp (H8e, H8s) := fun g => killA_ne _ _ (fun e => by have := hrx _ e; simp at this)
    have hset : ∀ v, c.take i ++ [v] ++ c.drop (i + 1) = c.set i v := fun v => set_cell c (by omega : i < c.length) v
    have hsp : sepV (.ptr (h2.ep + 1 + 1, 10) 0) a = True := sepV_old (E := h2.ep) (fun x hx => hra.id_le hx) (by show h2.ep < h2.ep + 1 + 1; omega)
    repeat' (first | ((try clear hf); with_reducible refine zO fun env K hE hK hf => ?_; have n : _ ∧ _ ∧ _ ∧ _ ∧ _ ∧ _ ∧ _ ∧ _ ∧ _ ∧ _ ∧ _ ∧ _ ∧ _ ∧ _ ∧ _ ∧ _ ∧ _ ∧ _ ∧ _ ∧ _ ∧ _ := ⟨hE 0, hE 1, hE 3, hE 4, hE 5, hE 6, hE 7, hE 8, hE 10, hE 11, hE 12, hE 13, hE 16, hE 29, hE 30, hE 31, hE 32, hE 77, hE 78, hE 79, hE 80⟩; simp -implicitDefEqProofs only [push_cast, reduceIte, Nat.reduceEqDiff, e0, e1, e3, e4, e5, e6, e7, e8, e10, e11, e12, e13, e16, e29, e30, e31, e32, e77, e78, e79, e80] at n; clear hE e0 e1 e3 e4 e5 e6 e7 e8 e10 e11 e12 e13 e16 e29 e30 e31 e32 e77 e78 e79 e80; obtain ⟨e0, e1, e3, e4, e5, e6, e7, e8, e10, e11, e12, e13, e16, e29, e30, e31, e32, e77, e78, e79, e80⟩ := n) | (with_reducible refine hK _ _ ?_; clear hK K) | (with_reducible first | refine zK ?_ | refine zU ?_ | refine zB ?_ | refine zF ?_ | refine zD ?_ | refine zN ?_ | refine zT ?_ | refine zC ?_ | refine zG ?_ | refine zV ?_ | refine zE ?_ | refine zA (by decide) ?_ | refine zL ?_ | refine zQ ?_ | refine zM ?_ | refine yB ?_ | refine yC ?_ | refine zW (by assumption) ?_ | refine zY (by assumption) ?_) | (refine zH rfl ?_) | (simp -implicitDefEqProofs only [push_cast, sevalprocAttr, eq_self, e0, e1, e3, e4, e5, e6, e7, e8, e10, e11, e12, e13, e16, e29, e30, e31, e32, e77, e78, e79, e80, hd, hF.at, yP, hob, hft, hb8, hca, hi, hk8, hset, one_sl, hsp]) | (simp -implicitDefEqProofs (disch := omega) only [zR, zZ, zS, zJ, e0, e1, e3, e4, e5, e6, e7, e8, e10, e11, e12, e13, e16, e29, e30, e31, e32, e77, e78, e79, e80, hd, hF.at, yP, hob, hft, hb8, hca, hi, hk8, hset, one_sl, hsp]) | (with_reducible refine yE ?_ ?_) | (refine zP rfl (fun bb => ?_) (fun bb => ?_) <;> simp only [bb]) | (with_reducible refine zX (fun bb => ?_) (fun bb => ?_)) | ((with_reducible refine And.intro ?_ ?_); omega) | (refine goM_of _ _ ((hra.ext (by repeat (first | exact Ext.refl _ | assumption | refine Ext.tick ?_ | refine Ext.push ?_ (by omega) _ | refine Ext.put ?_ (by omega) _ | refine Ext.kill ?_ (by omega) | refine Ext.killA ?_ (by assumption)))).app qO _ (by decide) (edC_one _) hb40) ?_) | fail)
    have hgrow : ∀ x, idOf a = some x → h1.ep < x.1 := fun x hx => by have := hrx x hx; omega
    refine ⟨_, ?_, k + 1, c.set i (.sl (h2.ep + 1 + 1 + 1, 45) 0 ((outE (E.take k) i).length + 1) 5), rfl, E36_0_0.symm, E36_0_1.symm, E36_0_3.symm, E36_0_4.symm, E36_0_5.symm, E36_0_6.symm, E36_0_7.symm, E36_0_8.symm, E36_0_29.symm, E36_0_30.symm, by first | rfl | exact yD (by omega) | (simp -implicitDefEqProofs (disch := omega) only [zJ]; first | rfl | exact yD (by omega)), ?_⟩
    · omega
    · refine ⟨by omega, rfl, by simpa using hcl, ?_, (by repeat (first | exact Ext.refl _ | assumption | refine Ext.tick ?_ | refine Ext.push ?_ (by omega) _ | refine Ext.put ?_ (by omega) _ | refine Ext.kill ?_ (by omega) | refine Ext.killA ?_ (by assumption))), (by first | omega | (simp -implicitDefEqProofs only [push_cast, sevalprocAttr, eq_self]; first | done | omega))⟩
      rw [outE_next E k i x hi htk]
      refine hrw.app hca (by show h2.ep < h2.ep + 1 + 1 + 1; omega) (by omega) x ?_ ?_ ?_ ?_
      · simp -implicitDefEqProofs (disch := omega) only [zR, zZ, zS, zJ, qN, qP]
      · exact (by first | omega | (simp -implicitDefEqProofs only [push_cast, sevalprocAttr, eq_self]; first | done | omega))
      · exact (by first | omega | (simp -implicitDefEqProofs only [push_cast, sevalprocAttr, eq_self]; first | done | omega))
      · rintro ⟨xe, xs⟩ hx1 hx2 hx3
        simp only at hx1 hx2
        have hk9 : ∀ g, (killA g a).hp (xe, xs) = g.hp (xe, xs) := fun g => killA_ne _ _ hx3
        simp -implicitDefEqProofs (disch := omega) only [zR, zZ, zS, zJ, qN, hk9]
  · have hd : decide ((k : Int) < (E.length : Int)) = false := by simp; omega
    obtain rfl : k = E.length := by omega
    rw [List.take_length] at hrw
    have hle8 := hx8.1
    repeat' (first | ((try clear hf); with_reducible refine zO fun env K hE hK hf => ?_; have n : _ ∧ _ ∧ _ ∧ _ ∧ _ ∧ _ ∧ _ ∧ _ ∧ _ ∧ _ ∧ _ ∧ _ ∧ _ ∧ _ ∧ _ ∧ _ ∧ _ ∧ _ ∧ _ ∧ _ ∧ _ := ⟨hE 0, hE 1, hE 3, hE 4, hE 5, hE 6, hE 7, hE 8, hE 10, hE 11, hE 12, hE 13, hE 16, hE 29, hE 30, hE 31, hE 32, hE 77, hE 78, hE 79, hE 80⟩; simp -implicitDefEqProofs only [push_cast, reduceIte, Nat.reduceEqDiff, e0, e1, e3, e4, e5, e6, e7, e8, e10, e11, e12, e13, e16, e29, e30, e31, e32, e77, e78, e79, e80] at n; clear hE e0 e1 e3 e4 e5 e6 e7 e8 e10 e11 e12 e13 e16 e29 e30 e31 e32 e77 e78 e79 e80; obtain ⟨e0, e1, e3, e4, e5, e6, e7, e8, e10, e11, e12, e13, e16, e29, e30, e31, e32, e77, e78, e79, e80⟩ := n) | (with_reducible refine hK _ _ ?_; clear hK K) | (with_reducible first | refine zK ?_ | refine zU ?_ | refine zB ?_ | refine zF ?_ | refine zD ?_ | refine zN ?_ | refine zT ?_ | refine zC ?_ | refine zG ?_ | refine zV ?_ | refine zE ?_ | refine zA (by decide) ?_ | refine zL ?_ | refine zQ ?_ | refine zM ?_ | refine yB ?_ | refine yC ?_ | refine zW (by assumption) ?_ | refine zY (by assumption) ?_) | (refine zH rfl ?_) | (simp -implicitDefEqProofs only [push_cast, sevalprocAttr, eq_self, e0, e1, e3, e4, e5, e6, e7, e8, e10, e11, e12, e13, e16, e29, e30, e31, e32, e77, e78, e79, e80, hd, hF.at, qS, rep1, rep_map]) | (simp -implicitDefEqProofs (disch := omega) only [zR, zZ, zS, zJ, e0, e1, e3, e4, e5, e6, e7, e8, e10, e11, e12, e13, e16, e29, e30, e31, e32, e77, e78, e79, e80, hd, hF.at, qS, rep1, rep_map]) | (with_reducible refine yE ?_ ?_) | (refine zP rfl (fun bb => ?_) (fun bb => ?_) <;> simp only [bb]) | (with_reducible refine zX (fun bb => ?_) (fun bb => ?_)) | ((with_reducible refine And.intro ?_ ?_); omega) | fail)
    generalize hH11 : (h2.ep + 1 + 1, 50) = H11 at *
    obtain ⟨H11e, H11s⟩ := H11
    have h11e : H11e = h2.ep + 1 + 1 := by cases hH11; rfl
    refine yF fun env hE => ?_; have n : _ ∧ _ ∧ _ ∧ _ ∧ _ ∧ _ ∧ _ ∧ _ ∧ _ ∧ _ ∧ _ ∧ _ ∧ _ ∧ _ ∧ _ ∧ _ ∧ _ ∧ _ ∧ _ ∧ _ ∧ _ := ⟨hE 0, hE 1, hE 3, hE 4, hE 5, hE 6, hE 7, hE 8, hE 10, hE 11, hE 12, hE 13, hE 16, hE 29, hE 30, hE 31, hE 32, hE 77, hE 78, hE 79, hE 80⟩; simp -implicitDefEqProofs only [push_cast, reduceIte, Nat.reduceEqDiff, e0, e1, e3, e4, e5, e6, e7, e8, e10, e11, e12, e13, e16, e29, e30, e31, e32, e77, e78, e79, e80] at n; clear hE e0 e1 e3 e4 e5 e6 e7 e8 e10 e11 e12 e13 e16 e29 e30 e31 e32 e77 e78 e79 e80; obtain ⟨e0, e1, e3, e4, e5, e6, e7, e8, e10, e11, e12, e13, e16, e29, e30, e31, e32, e77, e78, e79, e80⟩ := n; have E36_2_0 := e0; have E36_2_1 := e1; have E36_2_3 := e3; have E36_2_4 := e4; have E36_2_5 := e5; have E36_2_6 := e6; have E36_2_7 := e7; have E36_2_8 := e8; have E36_2_10 := e10; have E36_2_11 := e11; have E36_2_29 := e29; have E36_2_30 := e30; have E36_2_31 := e31; have E36_2_32 := e32
    refine yL (fun nn σ => ∃ (m : Nat), nn = l.length - m ∧ σ.env 0 = env 0 ∧ σ.env 1 = env 1 ∧ σ.env 3 = env 3 ∧ σ.env 4 = env 4 ∧ σ.env 5 = env 5 ∧ σ.env 6 = env 6 ∧ σ.env 7 = env 7 ∧ σ.env 8 = env 8 ∧ σ.env 10 = env 10 ∧ σ.env 11 = env 11 ∧ σ.env 29 = env 29 ∧ σ.env 30 = env 30 ∧ σ.env 31 = env 31 ∧ σ.env 32 = env 32 ∧ σ.env 12 = i64 ((l.length : Int) - 1 - m) ∧ (m ≤ l.length ∧ σ.h.hp (H11e, H11s) = some ⟨true, (hM l t E m).map iC⟩ ∧ Ext h2 σ.h ∧ H11e ≤ σ.h.ep)) _ ⟨0, rfl, rfl, rfl, rfl, rfl, rfl, rfl, rfl, rfl, rfl, rfl, rfl, rfl, rfl, rfl, by refine e12.trans ?_; first | rfl | exact yD (by omega) | (simp -implicitDefEqProofs (disch := omega) only [zJ]; first | rfl | exact yD (by omega)), ?_⟩ ?_
    · refine ⟨by omega, by simp -implicitDefEqProofs only [push_cast, sevalprocAttr, eq_self]; rfl, (by repeat (first | exact Ext.refl _ | assumption | refine Ext.tick ?_ | refine Ext.push ?_ (by omega) _ | refine Ext.put ?_ (by omega) _ | refine Ext.kill ?_ (by omega) | refine Ext.killA ?_ (by assumption))), (by first | omega | (simp -implicitDefEqProofs only [push_cast, sevalprocAttr, eq_self]; first | done | omega))⟩
    clear e0 e1 e3 e4 e5 e6 e7 e8 e10 e11 e12 e13 e16 e29 e30 e31 e32 e77 e78 e79 e80; rintro nn ⟨env, h⟩ ⟨m, rfl, q0, q1, q3, q4, q5, q6, q7, q8, q10, q11, q29, q30, q31, q32, e12, hI⟩; simp only at q0 q1 q3 q4 q5 q6 q7 q8 q10 q11 q29 q30 q31 q32 e12 hI; (first | have e0 := q0.trans E36_2_0 | have e0 := True.intro); (first | have e1 := q1.trans E36_2_1 | have e1 := True.intro); (first | have e3 := q3.trans E36_2_3 | have e3 := True.intro); (first | have e4 := q4.trans E36_2_4 | have e4 := True.intro); (first | have e5 := q5.trans E36_2_5 | have e5 := True.intro); (first | have e6 := q6.trans E36_2_6 | have e6 := True.intro); (first | have e7 := q7.trans E36_2_7 | have e7 := True.intro); (first | have e8 := q8.trans E36_2_8 | have e8 := True.intro); (first | have e10 := q10.trans E36_2_10 | have e10 := True.intro); (first | have e11 := q11.trans E36_2_11 | have e11 := True.intro); (first | have e29 := q29.trans E36_2_29 | have e29 := True.intro); (first | have e30 := q30.trans E36_2_30 | have e30 := True.intro); (first | have e31 := q31.trans E36_2_31 | have e31 := True.intro); (first | have e32 := q32.trans E36_2_32 | have e32 := True.intro); clear q0 q1 q3 q4 q5 q6 q7 q8 q10 q11 q29 q30 q31 q32; have e13 := True.intro; have e16 := True.intro; have e77 := True.intro; have e78 := True.intro; have e79 := True.intro; have e80 := True.intro
    obtain ⟨hm, hb11, hx11, he11⟩ := hI
    unfold l36_2
    (first | refine yI fun hF => ?_ | refine yS fun hF => ?_ | refine yR fun hF => ?_)
    by_cases hlt : m < l.length
    · have hd : decide ((0 : Int) ≤ (l.length : Int) - 1 - m) = true := by simp; omega
      obtain ⟨i, hi⟩ : ∃ i : Nat, (l.length : Int) - 1 - m = i := ⟨l.length - 1 - m, by omega⟩
      rw [hi] at hd e12
      have hil : i < l.length := by omega
      have hr := qK hil .i64
      have hc := clsN_eq l[i]
      have hc4 := clsN_lt l[i]
      have hq := tab_l t hc4
      have hml := hM_len l t E m
      have hmb := hM_bnd (t := t) (E := E) ht hE m
      have hM1 : hM l t E (m + 1) = (hM l t E m).set i (hOne (latS t l[i]) (outE E i) (hM l t E m)) := by
        rw [qH hil, show i = l.length - 1 - m by omega]; rfl
      generalize hM l t E m = Hm at *
      have hset : ∀ v, (Hm.map iC).take i ++ [AV.lit (.int .i64 v)] ++ (Hm.map iC).drop (i + 1) = (Hm.set i v).map iC := fun v => set_at iC Hm (by omega) v
      have hcl1 : (Hm.map iC).length = l.length := by simp [hml]
      have hca : c[i]? = some (c.getD i .nil) := by rw [List.getD_eq_getElem?_getD, List.getElem?_eq_getElem (by omega)]; rfl
      generalize c.getD i .nil = a at hca
      have hbT2 := (hx11.2 _ (by simp only; omega)).trans ((hx8.2 _ (by simp only; omega)).trans hbT)
      have hb82 := (hx11.2 _ he8).trans hb8
      have hrw2 := hrw.ext hx11
      obtain ⟨hra, hrx⟩ := hrw2.get i a hca
      have hla := hra.len
      have hra2 := (hrw.get i a hca).1
      have hLE : ∀ e ∈ outE E i, e.f = i ∧ edOK l.length e := fun e he => by
        simp only [outE, List.mem_filter, decide_eq_true_eq] at he
        exact ⟨he.2, hE e he.1⟩
      have hLl0 : (outE E i).length ≤ E.length := by simpa [outE] using List.length_filter_le (fun e : Edg => decide (e.f = (i : Int))) E
      generalize outE E i = L at *
      have hLl : L.length ≤ 10000000 := by omega
      repeat' (first | ((try clear hf); with_reducible refine zO fun env K hE hK hf => ?_; have n : _ ∧ _ ∧ _ ∧ _ ∧ _ ∧ _ ∧ _ ∧ _ ∧ _ ∧ _ ∧ _ ∧ _ ∧ _ ∧ _ ∧ _ ∧ _ ∧ _ ∧ _ ∧ _ ∧ _ ∧ _ := ⟨hE 0, hE 1, hE 3, hE 4, hE 5, hE 6, hE 7, hE 8, hE 10, hE 11, hE 12, hE 13, hE 16, hE 29, hE 30, hE 31, hE 32, hE 77, hE 78, hE 79, hE 80⟩; simp -implicitDefEqProofs only [push_cast, reduceIte, Nat.reduceEqDiff, e0, e1, e3, e4, e5, e6, e7, e8, e10, e11, e12, e13, e16, e29, e30, e31, e32, e77, e78, e79, e80] at n; clear hE e0 e1 e3 e4 e5 e6 e7 e8 e10 e11 e12 e13 e16 e29 e30 e31 e32 e77 e78 e79 e80; obtain ⟨e0, e1, e3, e4, e5, e6, e7, e8, e10, e11, e12, e13, e16, e29, e30, e31, e32, e77, e78, e79, e80⟩ := n) | (with_reducible refine hK _ _ ?_; clear hK K) | (with_reducible first | refine zK ?_ | refine zU ?_ | refine zB ?_ | refine zF ?_ | refine zD ?_ | refine zN ?_ | refine zT ?_ | refine zC ?_ | refine zG ?_ | refine zV ?_ | refine zE ?_ | refine zA (by decide) ?_ | refine zL ?_ | refine zQ ?_ | refine zM ?_ | refine yB ?_ | refine yC ?_ | refine zW (by assumption) ?_ | refine zY (by assumption) ?_) | (refine zH rfl ?_) | (simp -implicitDefEqProofs only [push_cast, sevalprocAttr, eq_self, e0, e1, e3, e4, e5, e6, e7, e8, e10, e11, e12, e13, e16, e29, e30, e31, e32, e77, e78, e79, e80, hd, hF.at, hr, op_0, hbT2, hb11, hc, hq, hset, hcl1, yP, hb82, hca, hla]) | (simp -implicitDefEqProofs (disch := omega) only [zR, zZ, zS, zJ, e0, e1, e3, e4, e5, e6, e7, e8, e10, e11, e12, e13, e16, e29, e30, e31, e32, e77, e78, e79, e80, hd, hF.at, hr, op_0, hbT2, hb11, hc, hq, hset, hcl1, yP, hb82, hca, hla]) | (with_reducible refine yE ?_ ?_) | (refine zP rfl (fun bb => ?_) (fun bb => ?_) <;> simp only [bb]) | (with_reducible refine zX (fun bb => ?_) (fun bb => ?_)) | ((with_reducible refine And.intro ?_ ?_); omega) | (refine yG (f41 _) ?_) | fail)
      refine yF fun env hE => ?_; have n : _ ∧ _ ∧ _ ∧ _ ∧ _ ∧ _ ∧ _ ∧ _ ∧ _ ∧ _ ∧ _ ∧ _ ∧ _ ∧ _ ∧ _ ∧ _ ∧ _ ∧ _ ∧ _ ∧ _ ∧ _ := ⟨hE 0, hE 1, hE 3, hE 4, hE 5, hE 6, hE 7, hE 8, hE 10, hE 11, hE 12, hE 13, hE 16, hE 29, hE 30, hE 31, hE 32, hE 77, hE 78, hE 79, hE 80⟩; simp -implicitDefEqProofs only [push_cast, reduceIte, Nat.reduceEqDiff, e0, e1, e3, e4, e5, e6, e7, e8, e10, e11, e12, e13, e16, e29, e30, e31, e32, e77, e78, e79, e80] at n; clear hE e0 e1 e3 e4 e5 e6 e7 e8 e10 e11 e12 e13 e16 e29 e30 e31 e32 e77 e78 e79 e80; obtain ⟨e0, e1, e3, e4, e5, e6, e7, e8, e10, e11, e12, e13, e16, e29, e30, e31, e32, e77, e78, e79, e80⟩ := n; have E36_1_0 := e0; have E36_1_1 := e1; have E36_1_3 := e3; have E36_1_4 := e4; have E36_1_5 := e5; have E36_1_6 := e6; have E36_1_7 := e7; have E36_1_8 := e8; have E36_1_10 := e10; have E36_1_11 := e11; have E36_1_12 := e12; have E36_1_13 := e13; have E36_1_29 := e29; have E36_1_30 := e30; have E36_1_31 := e31; have E36_1_32 := e32; have E36_1_77 := e77; have E36_1_78 := e78
      refine yL (fun nn σ => ∃ (k : Nat), nn = L.length - k ∧ σ.env 0 = env 0 ∧ σ.env 1 = env 1 ∧ σ.env 3 = env 3 ∧ σ.env 4 = env 4 ∧ σ.env 5 = env 5 ∧ σ.env 6 = env 6 ∧ σ.env 7 = env 7 ∧ σ.env 8 = env 8 ∧ σ.env 10 = env 10 ∧ σ.env 11 = env 11 ∧ σ.env 12 = env 12 ∧ σ.env 13 = env 13 ∧ σ.env 29 = env 29 ∧ σ.env 30 = env 30 ∧ σ.env 31 = env 31 ∧ σ.env 32 = env 32 ∧ σ.env 77 = env 77 ∧ σ.env 78 = env 78 ∧ σ.env 79 = i64 k ∧ (k ≤ L.length ∧ σ.h.hp (H11e, H11s) = some ⟨true, (Hm.set i ((L.take k).foldl (stepV1 Hm) (latS t l[i]))).map iC⟩ ∧ Ext h2 σ.h ∧ H11e ≤ σ.h.ep)) _ ⟨0, rfl, rfl, rfl, rfl, rfl, rfl, rfl, rfl, rfl, rfl, rfl, rfl, rfl, rfl, rfl, rfl, rfl, rfl, rfl, by refine e79.trans ?_; first | rfl | exact yD (by omega) | (simp -implicitDefEqProofs (disch := omega) only [zJ]; first | rfl | exact yD (by omega)), ?_⟩ ?_
      · refine ⟨by omega, by simp -implicitDefEqProofs only [push_cast, sevalprocAttr, eq_self]; rfl, (by repeat (first | exact Ext.refl _ | assumption | refine Ext.tick ?_ | refine Ext.push ?_ (by omega) _ | refine Ext.put ?_ (by omega) _ | refine Ext.kill ?_ (by omega) | refine Ext.killA ?_ (by assumption))), (by first | omega | (simp -implicitDefEqProofs only [push_cast, sevalprocAttr, eq_self]; first | done | omega))⟩
      clear e0 e1 e3 e4 e5 e6 e7 e8 e10 e11 e12 e13 e16 e29 e30 e31 e32 e77 e78 e79 e80; rintro nn ⟨env, h⟩ ⟨k, rfl, q0, q1, q3, q4, q5, q6, q7, q8, q10, q11, q12, q13, q29, q30, q31, q32, q77, q78, e79, hI⟩; simp only at q0 q1 q3 q4 q5 q6 q7 q8 q10 q11 q12 q13 q29 q30 q31 q32 q77 q78 e79 hI; (first | have e0 := q0.trans E36_1_0 | have e0 := True.intro); (first | have e1 := q1.trans E36_1_1 | have e1 := True.intro); (first | have e3 := q3.trans E36_1_3 | have e3 := True.intro); (first | have e4 := q4.trans E36_1_4 | have e4 := True.intro); (first | have e5 := q5.trans E36_1_5 | have e5 := True.intro); (first | have e6 := q6.trans E36_1_6 | have e6 := True.intro); (first | have e7 := q7.trans E36_1_7 | have e7 := True.intro); (first | have e8 := q8.trans E36_1_8 | have e8 := True.intro); (first | have e10 := q10.trans E36_1_10 | have e10 := True.intro); (first | have e11 := q11.trans E36_1_11 | have e11 := True.intro); (first | have e12 := q12.trans E36_1_12 | have e12 := True.intro); (first | have e13 := q13.trans E36_1_13 | have e13 := True.intro); (first | have e29 := q29.trans E36_1_29 | have e29 := True.intro); (first | have e30 := q30.trans E36_1_30 | have e30 := True.intro); (first | have e31 := q31.trans E36_1_31 | have e31 := True.intro); (first | have e32 := q32.trans E36_1_32 | have e32 := True.intro); (first | have e77 := q77.trans E36_1_77 | have e77 := True.intro); (first | have e78 := q78.trans E36_1_78 | have e78 := True.intro); clear q0 q1 q3 q4 q5 q6 q7 q8 q10 q11 q12 q13 q29 q30 q31 q32 q77 q78; have e16 := True.intro; have e80 := True.intro
      obtain ⟨hk, hbk, hxk, hek⟩ := hI
      unfold l36_1
      (first | refine yI fun hF => ?_ | refine yS fun hF => ?_ | refine yR fun hF => ?_)
      by_cases hlt : k < L.length
      · have hd : decide ((k : Int) < (L.length : Int)) = true := by simp; omega
        obtain ⟨oe, os, hoe, hob, hol⟩ := hra2.blk (by omega)
        subst hoe
        replace hob := (hxk.2 _ hol).trans hob
        have hle2 := hxk.1
        have hfl := flat_len qO L
        have hft := flat_take qO L hlt
        have hle : k * 5 + 5 ≤ (L.flatMap edC).length := by rw [hfl]; omega
        have hxo := hLE _ (List.getElem_mem hlt)
        have hfo : (L.take (k + 1)).foldl (stepV1 Hm) (latS t l[i]) = stepV1 Hm ((L.take k).foldl (stepV1 Hm) (latS t l[i])) L[k] := by
          rw [List.take_succ_eq_append_getElem hlt, List.foldl_append]; rfl
        generalize L[k] = x at *
        obtain ⟨hxf, x1, x2, x3, x4, x5⟩ := hxo
        obtain ⟨j, hj⟩ : ∃ j : Nat, x.t = j := ⟨x.t.toNat, by omega⟩
        have hvb := hmb j
        have hst : ∀ v, stepV1 Hm v x = if x.l + Hm.getD j 0 > v then x.l + Hm.getD j 0 else v := fun v => by unfold stepV1 mx; rw [hj]; rfl
        rw [hst] at hfo
        have hGi : ∀ v, ((Hm.set i v).map iC)[i]? = some (i64 v) := fun v => by rw [List.getElem?_map, List.getElem?_set_self (by omega)]; rfl
        have hGj : ∀ v, ((Hm.set i v).map iC)[j]? = some (i64 (Hm.getD j 0)) := fun v => by
          rw [List.getElem?_map, List.getElem?_set_ne (by omega), List.getD_eq_getElem?_getD, List.getElem?_eq_getElem (by omega)]; rfl
        have hGl : ∀ v, ((Hm.set i v).map iC).length = l.length := fun v => by simp [hml]
        have hGs : ∀ v w, ((Hm.set i v).map iC).take i ++ [AV.lit (.int .i64 w)] ++ ((Hm.set i v).map iC).drop (i + 1) = (Hm.set i w).map iC := fun v w => by
          rw [← List.set_set v (b := w)]; exact set_at iC (Hm.set i v) (by simp; omega) w
        repeat' (first | ((try clear hf); with_reducible refine zO fun env K hE hK hf => ?_; have n : _ ∧ _ ∧ _ ∧ _ ∧ _ ∧ _ ∧ _ ∧ _ ∧ _ ∧ _ ∧ _ ∧ _ ∧ _ ∧ _ ∧ _ ∧ _ ∧ _ ∧ _ ∧ _ ∧ _ ∧ _ := ⟨hE 0, hE 1, hE 3, hE 4, hE 5, hE 6, hE 7, hE 8, hE 10, hE 11, hE 12, hE 13, hE 16, hE 29, hE 30, hE 31, hE 32, hE 77, hE 78, hE 79, hE 80⟩; simp -implicitDefEqProofs only [push_cast, reduceIte, Nat.reduceEqDiff, e0, e1, e3, e4, e5, e6, e7, e8, e10, e11, e12, e13, e16, e29, e30, e31, e32, e77, e78, e79, e80] at n; clear hE e0 e1 e3 e4 e5 e6 e7 e8 e10 e11 e12 e13 e16 e29 e30 e31 e32 e77 e78 e79 e80; obtain ⟨e0, e1, e3, e4, e5, e6, e7, e8, e10, e11, e12, e13, e16, e29, e30, e31, e32, e77, e78, e79, e80⟩ := n) | (with_reducible refine hK _ _ ?_; clear hK K) | (with_reducible first | refine zK ?_ | refine zU ?_ | refine zB ?_ | refine zF ?_ | refine zD ?_ | refine zN ?_ | refine zT ?_ | refine zC ?_ | refine zG ?_ | refine zV ?_ | refine zE ?_ | refine zA (by decide) ?_ | refine zL ?_ | refine zQ ?_ | refine zM ?_ | refine yB ?_ | refine yC ?_ | refine zW (by assumption) ?_ | refine zY (by assumption) ?_) | (refine zH rfl ?_) | (simp -implicitDefEqProofs only [push_cast, sevalprocAttr, eq_self, e0, e1, e3, e4, e5, e6, e7, e8, e10, e11, e12, e13, e16, e29, e30, e31, e32, e77, e78, e79, e80, hd, hF.at, yP, hob, hft, hbk, hj, hGi, hGj, hGl, hGs, maxV_two]) | (simp -implicitDefEqProofs (disch := omega) only [zR, zZ, zS, zJ, e0, e1, e3, e4, e5, e6, e7, e8, e10, e11, e12, e13, e16, e29, e30, e31, e32, e77, e78, e79, e80, hd, hF.at, yP, hob, hft, hbk, hj, hGi, hGj, hGl, hGs, maxV_two]) | (with_reducible refine yE ?_ ?_) | (refine zP rfl (fun bb => ?_) (fun bb => ?_) <;> simp only [bb]) | (with_reducible refine zX (fun bb => ?_) (fun bb => ?_)) | ((with_reducible refine And.intro ?_ ?_); omega) | fail)
        refine ⟨_, ?_, k + 1, rfl, E36_1_0.symm, E36_1_1.symm, E36_1_3.symm, E36_1_4.symm, E36_1_5.symm, E36_1_6.symm, E36_1_7.symm, E36_1_8.symm, E36_1_10.symm, E36_1_11.symm, E36_1_12.symm, E36_1_13.symm, E36_1_29.symm, E36_1_30.symm, E36_1_31.symm, E36_1_32.symm, E36_1_77.symm, E36_1_78.symm, by first | rfl | exact yD (by omega) | (simp -implicitDefEqProofs (disch := omega) only [zJ]; first | rfl | exact yD (by omega)), ?_⟩
        · omega
        · refine ⟨by omega, ?_, (by repeat (first | exact Ext.refl _ | assumption | refine Ext.tick ?_ | refine Ext.push ?_ (by omega) _ | refine Ext.put ?_ (by omega) _ | refine Ext.kill ?_ (by omega) | refine Ext.killA ?_ (by assumption))), (by first | omega | (simp -implicitDefEqProofs only [push_cast, sevalprocAttr, eq_self]; first | done | omega))⟩
          rw [hfo]
      · have hd : decide ((k : Int) < (L.length : Int)) = false := by simp; omega
        obtain rfl : k = L.length := by omega
        rw [List.take_length] at hbk
        repeat' (first | ((try clear hf); with_reducible refine zO fun env K hE hK hf => ?_; have n : _ ∧ _ ∧ _ ∧ _ ∧ _ ∧ _ ∧ _ ∧ _ ∧ _ ∧ _ ∧ _ ∧ _ ∧ _ ∧ _ ∧ _ ∧ _ ∧ _ ∧ _ ∧ _ ∧ _ ∧ _ := ⟨hE 0, hE 1, hE 3, hE 4, hE 5, hE 6, hE 7, hE 8, hE 10, hE 11, hE 12, hE 13, hE 16, hE 29, hE 30, hE 31, hE 32, hE 77, hE 78, hE 79, hE 80⟩; simp -implicitDefEqProofs only [push_cast, reduceIte, Nat.reduceEqDiff, e0, e1, e3, e4, e5, e6, e7, e8, e10, e11, e12, e13, e16, e29, e30, e31, e32, e77, e78, e79, e80] at n; clear hE e0 e1 e3 e4 e5 e6 e7 e8 e10 e11 e12 e13 e16 e29 e30 e31 e32 e77 e78 e79 e80; obtain ⟨e0, e1, e3, e4, e5, e6, e7, e8, e10, e11, e12, e13, e16, e29, e30, e31, e32, e77, e78, e79, e80⟩ := n) | (with_reducible refine hK _ _ ?_; clear hK K) | (with_reducible first | refine zK ?_ | refine zU ?_ | refine zB ?_ | refine zF ?_ | refine zD ?_ | refine zN ?_ | refine zT ?_ | refine zC ?_ | refine zG ?_ | refine zV ?_ | refine zE ?_ | refine zA (by decide) ?_ | refine zL ?_ | refine zQ ?_ | refine zM ?_ | refine yB ?_ | refine yC ?_ | refine zW (by assumption) ?_ | refine zY (by assumption) ?_) | (refine zH rfl ?_) | (simp -implicitDefEqProofs only [push_cast, sevalprocAttr, eq_self, e0, e1, e3, e4, e5, e6, e7, e8, e10, e11, e12, e13, e16, e29, e30, e31, e32, e77, e78, e79, e80, hd]) | (simp -implicitDefEqProofs (disch := omega) only [zR, zZ, zS, zJ, e0, e1, e3, e4, e5, e6, e7, e8, e10, e11, e12, e13, e16, e29, e30, e31, e32, e77, e78, e79, e80, hd]) | (with_reducible refine yE ?_ ?_) | (refine zP rfl (fun bb => ?_) (fun bb => ?_) <;> simp only [bb]) | (with_reducible refine zX (fun bb => ?_) (fun bb => ?_)) | ((with_reducible refine And.intro ?_ ?_); omega) | fail)
        refine ⟨_, ?_, m + 1, rfl, E36_2_0.symm, E36_2_1.symm, E36_2_3.symm, E36_2_4.symm, E36_2_5.symm, E36_2_6.symm, E36_2_7.symm, E36_2_8.symm, E36_2_10.symm, E36_2_11.symm, E36_2_29.symm, E36_2_30.symm, E36_2_31.symm, E36_2_32.symm, by first | rfl | exact yD (by omega) | (simp -implicitDefEqProofs (disch := omega) only [zJ]; first | rfl | exact yD (by omega)), ?_⟩
        · omega
        · refine ⟨by omega, ?_, (by repeat (first | exact Ext.refl _ | assumption | refine Ext.tick ?_ | refine Ext.push ?_ (by omega) _ | refine Ext.put ?_ (by omega) _ | refine Ext.kill ?_ (by omega) | refine Ext.killA ?_ (by assumption))), (by first | omega | (simp -implicitDefEqProofs only [push_cast, sevalprocAttr, eq_self]; first | done | omega))⟩
          simp -implicitDefEqProofs only [push_cast, sevalprocAttr, eq_self, hbk]
          rw [hM1]
          rfl
    · have hd : decide ((0 : Int) ≤ (l.length : Int) - 1 - m) = false := by simp; omega
      obtain rfl : m = l.length := by omega
      repeat' (first | ((try clear hf); with_reducible refine zO fun env K hE hK hf => ?_; have n : _ ∧ _ ∧ _ ∧ _ ∧ _ ∧ _ ∧ _ ∧ _ ∧ _ ∧ _ ∧ _ ∧ _ ∧ _ ∧ _ ∧ _ ∧ _ ∧ _ ∧ _ ∧ _ ∧ _ ∧ _ := ⟨hE 0, hE 1, hE 3, hE 4, hE 5, hE 6, hE 7, hE 8, hE 10, hE 11, hE 12, hE 13, hE 16, hE 29, hE 30, hE 31, hE 32, hE 77, hE 78, hE 79, hE 80⟩; simp -implicitDefEqProofs only [push_cast, reduceIte, Nat.reduceEqDiff, e0, e1, e3, e4, e5, e6, e7, e8, e10, e11, e12, e13, e16, e29, e30, e31, e32, e77, e78, e79, e80] at n; clear hE e0 e1 e3 e4 e5 e6 e7 e8 e10 e11 e12 e13 e16 e29 e30 e31 e32 e77 e78 e79 e80; obtain ⟨e0, e1, e3, e4, e5, e6, e7, e8, e10, e11, e12, e13, e16, e29, e30, e31, e32, e77, e78, e79, e80⟩ := n) | (with_reducible refine hK _ _ ?_; clear hK K) | (with_reducible first | refine zK ?_ | refine zU ?_ | refine zB ?_ | refine zF ?_ | refine zD ?_ | refine zN ?_ | refine zT ?_ | refine zC ?_ | refine zG ?_ | refine zV ?_ | refine zE ?_ | refine zA (by decide) ?_ | refine zL ?_ | refine zQ ?_ | refine zM ?_ | refine yB ?_ | refine yC ?_ | refine zW (by assumption) ?_ | refine zY (by assumption) ?_) | (refine zH rfl ?_) | (simp -implicitDefEqProofs only [push_cast, sevalprocAttr, eq_self, e0, e1, e3, e4, e5, e6, e7, e8, e10, e11, e12, e13, e16, e29, e30, e31, e32, e77, e78, e79, e80, hd]) | (simp -implicitDefEqProofs (disch := omega) only [zR, zZ, zS, zJ, e0, e1, e3, e4, e5, e6, e7, e8, e10, e11, e12, e13, e16, e29, e30, e31, e32, e77, e78, e79, e80, hd]) | (with_reducible refine yE ?_ ?_) | (refine zP rfl (fun bb => ?_) (fun bb => ?_) <;> simp only [bb]) | (with_reducible refine zX (fun bb => ?_) (fun bb => ?_)) | ((with_reducible refine And.intro ?_ ?_); omega) | fail)
      refine ⟨_, rfl, ?_, ?_, ?_, ?_⟩
      · simp -implicitDefEqProofs only [push_cast, sevalprocAttr, eq_self, hb11]
        unfold heightS
        rw [hEq]
      · show h0.ep < H11e
        have := hx8.1
        omega
      · exact (by first | omega | (simp -implicitDefEqProofs only [push_cast, sevalprocAttr, eq_self]; first | done | omega))
      · have hX01 : Ext h0 h1 := Ext.tr (by repeat (first | exact Ext.refl _ | assumption | refine Ext.tick ?_ | refine Ext.push ?_ (by omega) _ | refine Ext.put ?_ (by omega) _ | refine Ext.kill ?_ (by omega) | refine Ext.killA ?_ (by assumption))) hx
        have hX : Ext h0 h := Ext.tr (Ext.tr hX01 hx8) hx11
        exact (by repeat (first | exact Ext.refl _ | assumption | refine Ext.tick ?_ | refine Ext.push ?_ (by omega) _ | refine Ext.put ?_ (by omega) _ | refine Ext.kill ?_ (by omega) | refine Ext.killA ?_ (by assumption)))
end Go.Proofs.Hx

set_option linter.unusedVariables false
set_option linter.unusedSimpArgs false
namespace Go.Proofs.Hx
open Go Go.Proofs
attribute [local irreducible] yM awp opK goV goM yZ qB qD yQ HV HVF HC
theorem f36'e {h0 : Hp} {l : List Opn} {t : Tab} (hl : ∀ o ∈ l, o.ok) (hR : errR l t ≠ 0) :
    HC Try.prog 36 [.row (l.map opC), .agg (tabC t)] h0 fun r h' => r = .tup [.nil, i64 (errR l t)] ∧ Ext h0 h' := by
  refine yX yK cf36 (by simp) fun hF => ?_
  unfold ac36 re36
  refine yF fun env hE => ?_; have e0 := hE 0; have e1 := hE 1; have e3 := hE 3; have e4 := hE 4; have e5 := hE 5; have e6 := hE 6; have e7 := hE 7; have e8 := hE 8; have e10 := hE 10; have e11 := hE 11; have e12 := hE 12; have e13 := hE 13; have e16 := hE 16; have e29 := hE 29; have e30 := hE 30; have e31 := hE 31; have e32 := hE 32; have e77 := hE 77; have e78 := hE 78; have e79 := hE 79; have e80 := hE 80; simp -implicitDefEqProofs only [push_cast] at e0 e1 e3 e4 e5 e6 e7 e8 e10 e11 e12 e13 e16 e29 e30 e31 e32 e77 e78 e79 e80; clear hE
  have hb2 : decide (errR l t ≠ 0) = true := by simpa using hR
  repeat' (first | ((try clear hf); with_reducible refine zO fun env K hE hK hf => ?_; have n : _ ∧ _ ∧ _ ∧ _ ∧ _ ∧ _ ∧ _ ∧ _ ∧ _ ∧ _ ∧ _ ∧ _ ∧ _ ∧ _ ∧ _ ∧ _ ∧ _ ∧ _ ∧ _ ∧ _ ∧ _ := ⟨hE 0, hE 1, hE 3, hE 4, hE 5, hE 6, hE 7, hE 8, hE 10, hE 11, hE 12, hE 13, hE 16, hE 29, hE 30, hE 31, hE 32, hE 77, hE 78, hE 79, hE 80⟩; simp -implicitDefEqProofs only [push_cast, reduceIte, Nat.reduceEqDiff, e0, e1, e3, e4, e5, e6, e7, e8, e10, e11, e12, e13, e16, e29, e30, e31, e32, e77, e78, e79, e80] at n; clear hE e0 e1 e3 e4 e5 e6 e7 e8 e10 e11 e12 e13 e16 e29 e30 e31 e32 e77 e78 e79 e80; obtain ⟨e0, e1, e3, e4, e5, e6, e7, e8, e10, e11, e12, e13, e16, e29, e30, e31, e32, e77, e78, e79, e80⟩ := n) | (with_reducible refine hK _ _ ?_; clear hK K) | (with_reducible first | refine zK ?_ | refine zU ?_ | refine zB ?_ | refine zF ?_ | refine zD ?_ | refine zN ?_ | refine zT ?_ | refine zC ?_ | refine zG ?_ | refine zV ?_ | refine zE ?_ | refine zA (by decide) ?_ | refine zL ?_ | refine zQ ?_ | refine zM ?_ | refine yB ?_ | refine yC ?_ | refine zW (by assumption) ?_ | refine zY (by assumption) ?_) | (refine zH rfl ?_) | (simp -implicitDefEqProofs only [push_cast, sevalprocAttr, eq_self, e0, e1, e3, e4, e5, e6, e7, e8, e10, e11, e12, e13, e16, e29, e30, e31, e32, e77, e78, e79, e80, hF.at, qS, rep1, hb2]) | (simp -implicitDefEqProofs (disch := omega) only [zR, zZ, zS, zJ, e0, e1, e3, e4, e5, e6, e7, e8, e10, e11, e12, e13, e16, e29, e30, e31, e32, e77, e78, e79, e80, hF.at, qS, rep1, hb2]) | (with_reducible refine yE ?_ ?_) | (refine zP rfl (fun bb => ?_) (fun bb => ?_) <;> simp only [bb]) | (with_reducible refine zX (fun bb => ?_) (fun bb => ?_)) | ((with_reducible refine And.intro ?_ ?_); omega) | (refine yT (HC.mono (of_all hl) ?_); rintro r h1 ⟨hx, hr⟩ hF; rcases hr with ⟨_, hr⟩ | ⟨hr, _⟩; rotate_left; exact absurd hr hR; subst hr) | fail)
  have hX01 : Ext h0 h1 := Ext.tr (by repeat (first | exact Ext.refl _ | assumption | refine Ext.tick ?_ | refine Ext.push ?_ (by omega) _ | refine Ext.put ?_ (by omega) _ | refine Ext.kill ?_ (by omega) | refine Ext.killA ?_ (by assumption))) hx
  exact (by repeat (first | exact Ext.refl _ | assumption | refine Ext.tick ?_ | refine Ext.push ?_ (by omega) _ | refine Ext.put ?_ (by omega) _ | refine Ext.kill ?_ (by omega) | refine Ext.killA ?_ (by assumption)))
/-- height.Of, whatever the list. -/
theorem height_all {h0 : Hp} {l : List Opn} {t : Tab} (hl : ∀ o ∈ l, o.ok) :
    HC Try.prog 36 [.row (l.map opC), .agg (tabC t)] h0 fun r h' => Ext h0 h' ∧ ((errR l t ≠ 0 ∧ r = .tup [.nil, i64 (errR l t)]) ∨ (errR l t = 0 ∧ ∃ id, r = .tup [.sl id 0 l.length 1, i64 0] ∧ h'.hp id = some ⟨true, (heightS l t).map iC⟩ ∧ h0.ep < id.1 ∧ id.1 ≤ h'.ep)) := by
  by_cases hR : errR l t = 0
  · exact HC.mono (f36 hl hR) fun r h' ⟨id, h1, h2, h3, h4, h5⟩ => ⟨h5, .inr ⟨hR, id, h1, h2, h3, h4⟩⟩
  · exact HC.mono (f36'e hl hR) fun r h' ⟨h1, h2⟩ => ⟨h2, .inl ⟨hR, h1⟩⟩
/-! ### The plain law: no schedule is over ahead of the longest way -/
end Go.Proofs.Hx

set_option linter.unusedVariables false
set_option linter.unusedSimpArgs false
namespace Go.Proofs.Hx
open Go Go.Proofs
attribute [local irreducible] yM awp opK goV goM yZ qB qD yQ HV HVF HC
/-! ### Numbers in memory, as a function of their places -/
def fset (d : Nat → Int) (k : Nat) (v : Int) : Nat → Int := fun j => if j = k then v else d j
def arrC (n : Nat) (d : Nat → Int) : List AV := (List.range n).map fun k => i64 (d k)
theorem arrC_len (n : Nat) (d : Nat → Int) : (arrC n d).length = n := by simp [arrC]
theorem arrC_at {n : Nat} (d : Nat → Int) {k : Nat} (hk : k < n) : (arrC n d)[k]? = some (i64 (d k)) := by simp [arrC, hk]
theorem arrC_put {n : Nat} (d : Nat → Int) {k : Nat} (hk : k < n) (v : Int) : (arrC n d).take k ++ [AV.lit (.int .i64 v)] ++ (arrC n d).drop (k + 1) = arrC n (fset d k v) := by
  apply List.ext_getElem?
  intro r
  by_cases hr : r < n
  · rw [arrC_at _ hr]
    by_cases h1 : r < k
    · rw [List.append_assoc, List.getElem?_append_left (by simp [arrC_len]; omega), List.getElem?_take, if_pos h1, arrC_at _ hr, fset, if_neg (by omega)]
    · rw [List.append_assoc, List.getElem?_append_right (by simp [arrC_len]; omega)]
      by_cases h2 : r = k
      · subst h2; simp [arrC_len, fset, Nat.min_eq_left (Nat.le_of_lt hk)]
      · rw [fset, if_neg h2, List.getElem?_append_right (by simp [arrC_len]; omega), List.getElem?_drop]
        simp only [List.length_take, arrC_len, List.length_cons, List.length_nil]
        rw [show k + 1 + (r - min k n - (0 + 1)) = r from by omega, arrC_at _ hr]
  · rw [List.getElem?_eq_none (by simp [arrC_len]; omega), List.getElem?_eq_none (by simp [arrC_len]; omega)]
theorem arrC_map (l : List Int) : l.map iC = arrC l.length fun k => l.getD k 0 := by
  apply List.ext_getElem?
  intro r
  by_cases hr : r < l.length
  · rw [arrC_at _ hr, List.getElem?_map, List.getElem?_eq_getElem hr, List.getD_eq_getElem?_getD, List.getElem?_eq_getElem hr]; rfl
  · rw [List.getElem?_eq_none (by simp; omega), List.getElem?_eq_none (by simp [arrC_len]; omega)]
theorem arrC_congr {n : Nat} {d d' : Nat → Int} (h : ∀ k, k < n → d k = d' k) : arrC n d = arrC n d' := by
  unfold arrC
  apply List.map_congr_left
  intro k hk
  rw [h k (by simpa using hk)]
attribute [push_cast] arrC_len
/-- All blocks but one stay as they were. -/
structure Fr1 (x : Id) (h g : Hp) : Prop where
  ep : h.ep ≤ g.ep
  hp : ∀ y : Id, y.1 ≤ h.ep → y ≠ x → g.hp y = h.hp y
theorem Fr1.refl (x : Id) (h : Hp) : Fr1 x h h := ⟨Nat.le_refl _, fun _ _ _ => rfl⟩
theorem Fr1.trans {x : Id} {a b c : Hp} (h : Fr1 x a b) (k : Fr1 x b c) : Fr1 x a c := ⟨Nat.le_trans h.ep k.ep, fun y hy hn => (k.hp y (Nat.le_trans hy h.ep) hn).trans (h.hp y hy hn)⟩
theorem Fr1.tick {x : Id} {a b : Hp} (h : Fr1 x a b) : Fr1 x a b.tick := ⟨Nat.le_succ_of_le h.ep, h.hp⟩
theorem Fr1.put {x : Id} {a b : Hp} (h : Fr1 x a b) (c : List AV) : Fr1 x a (b.put x c) := ⟨h.ep, fun y hy hn => (put_ne _ _ _ _ hn).trans (h.hp y hy hn)⟩
theorem Fr1.push {x : Id} {a b : Hp} (h : Fr1 x a b) {e s : Nat} (he : a.ep < e) (c : List AV) : Fr1 x a (b.push (e, s) c) := ⟨h.ep, fun y hy hn => (push_ne _ _ _ _ (fun e' => by rw [e'] at hy; simp at hy; omega)).trans (h.hp y hy hn)⟩
/-! ### Two ranges change places -/
def swapS (d : Nat → Int) (a b m : Nat) : Nat → Int := fun k => if a ≤ k ∧ k < a + m then d (k - a + b) else if b ≤ k ∧ k < b + m then d (k - b + a) else d k
theorem swapS_zero (d : Nat → Int) (a b : Nat) : swapS d a b 0 = d := by
  funext k; unfold swapS; rw [if_neg (by omega), if_neg (by omega)]
theorem swapS_succ (d : Nat → Int) {a b m k : Nat} (h : a + m ≤ b) (hk : k < m) : fset (fset (swapS d a b k) (a + k) (swapS d a b k (b + k))) (b + k) (swapS d a b k (a + k)) = swapS d a b (k + 1) := by
  have h1 : swapS d a b k (b + k) = d (b + k) := by unfold swapS; rw [if_neg (by omega), if_neg (by omega)]
  have h2 : swapS d a b k (a + k) = d (a + k) := by unfold swapS; rw [if_neg (by omega), if_neg (by omega)]
  rw [h1, h2]
  funext j
  simp only [swapS, fset]
  (repeat' split) <;> first | rfl | (exfalso; omega) | (congr 1; omega)
/-- What a step of sorting leaves. -/
def SortQ (h0 : Hp) (id : Id) (n : Nat) (d' : (Nat → Int) → Prop) (r : AV) (h' : Hp) : Prop := r = .tup [] ∧ Fr1 id h0 h' ∧ ∃ d, h'.hp id = some ⟨true, arrC n d⟩ ∧ d' d
set_option maxHeartbeats 1000000 in
theorem f129 {h0 : Hp} {id : Id} {n : Nat} {d : Nat → Int} {f : AV} (hb : h0.hp id = some ⟨true, arrC n d⟩) (hi : id.1 ≤ h0.ep) (hn : n ≤ 1000000) {a b m : Nat} (h1 : a + m ≤ b) (h2 : b + m ≤ n) :
    HC Try.prog 129 [.sl id 0 n 1, i64 a, i64 b, i64 m, f] h0 (SortQ h0 id n fun d' => d' = swapS d a b m) := by
  refine yX yK cf129 (by simp) fun hF => ?_
  unfold ac129 re129
  refine yF fun env hE => ?_; have e0 := hE 0; have e1 := hE 1; have e2 := hE 2; have e3 := hE 3; have e10 := hE 10; simp -implicitDefEqProofs only [push_cast] at e0 e1 e2 e3 e10; clear hE
  obtain ⟨ie, is⟩ := id
  simp only at hi
  repeat' (first | ((try clear hf); with_reducible refine zO fun env K hE hK hf => ?_; have n : _ ∧ _ ∧ _ ∧ _ ∧ _ := ⟨hE 0, hE 1, hE 2, hE 3, hE 10⟩; simp -implicitDefEqProofs only [push_cast, reduceIte, Nat.reduceEqDiff, e0, e1, e2, e3, e10] at n; clear hE e0 e1 e2 e3 e10; obtain ⟨e0, e1, e2, e3, e10⟩ := n) | (with_reducible refine hK _ _ ?_; clear hK K) | (with_reducible first | refine zK ?_ | refine zU ?_ | refine zB ?_ | refine zF ?_ | refine zD ?_ | refine zN ?_ | refine zT ?_ | refine zC ?_ | refine zG ?_ | refine zV ?_ | refine zE ?_ | refine zA (by decide) ?_ | refine zL ?_ | refine zQ ?_ | refine zM ?_ | refine yB ?_ | refine yC ?_ | refine zW (by assumption) ?_ | refine zY (by assumption) ?_) | (refine zH rfl ?_) | (simp -implicitDefEqProofs only [push_cast, sevalprocAttr, eq_self, e0, e1, e2, e3, e10]) | (simp -implicitDefEqProofs (disch := omega) only [zR, zZ, zS, zJ, e0, e1, e2, e3, e10]) | (with_reducible refine yE ?_ ?_) | (refine zP rfl (fun bb => ?_) (fun bb => ?_) <;> (first | have bp := of_decide_eq_true bb | have bp := of_decide_eq_false bb | skip) <;> simp only [bb]) | (with_reducible refine zX (fun bb => ?_) (fun bb => ?_) <;> (first | have bp := of_decide_eq_true bb | have bp := of_decide_eq_false bb | skip)) | ((with_reducible refine And.intro ?_ ?_); omega) | fail)
  refine yF fun env hE => ?_; have n : _ ∧ _ ∧ _ ∧ _ ∧ _ := ⟨hE 0, hE 1, hE 2, hE 3, hE 10⟩; simp -implicitDefEqProofs only [push_cast, reduceIte, Nat.reduceEqDiff, e0, e1, e2, e3, e10] at n; clear hE e0 e1 e2 e3 e10; obtain ⟨e0, e1, e2, e3, e10⟩ := n; have E129_0_0 := e0; have E129_0_1 := e1; have E129_0_2 := e2; have E129_0_3 := e3
  refine yL (fun nn σ => ∃ (k : Nat), nn = m - k ∧ σ.env 0 = env 0 ∧ σ.env 1 = env 1 ∧ σ.env 2 = env 2 ∧ σ.env 3 = env 3 ∧ σ.env 10 = i64 k ∧ (k ≤ m ∧ σ.h.hp (ie, is) = some ⟨true, arrC n (swapS d a b k)⟩ ∧ Fr1 (ie, is) h0 σ.h)) _ ⟨0, rfl, rfl, rfl, rfl, rfl, by refine e10.trans ?_; first | rfl | exact yD (by omega) | (simp -implicitDefEqProofs (disch := omega) only [zJ]; first | rfl | exact yD (by omega)), ?_⟩ ?_
  · exact ⟨by omega, by simp -implicitDefEqProofs only [push_cast, sevalprocAttr, eq_self, swapS_zero, hb], (Fr1.refl _ _).tick.tick⟩
  clear e0 e1 e2 e3 e10; rintro nn ⟨env, h⟩ ⟨k, rfl, q0, q1, q2, q3, e10, hI⟩; simp only at q0 q1 q2 q3 e10 hI; (first | have e0 := q0.trans E129_0_0 | have e0 := True.intro); (first | have e1 := q1.trans E129_0_1 | have e1 := True.intro); (first | have e2 := q2.trans E129_0_2 | have e2 := True.intro); (first | have e3 := q3.trans E129_0_3 | have e3 := True.intro); clear q0 q1 q2 q3
  obtain ⟨hk, hbk, hx⟩ := hI
  unfold l129_0
  (first | refine yI fun hF => ?_ | refine yS fun hF => ?_ | refine yR fun hF => ?_)
  have hle := hx.ep
  by_cases hlt : k < m
  · have hd : decide ((k : Int) < (m : Int)) = true := decide_eq_true (by omega)
    have ht1 : ((a : Int) + (k : Int)).toNat = a + k := by omega
    have ht2 : ((b : Int) + (k : Int)).toNat = b + k := by omega
    have ha1 := fun D => arrC_at (n := n) D (k := a + k) (by omega)
    have ha2 := fun D => arrC_at (n := n) D (k := b + k) (by omega)
    have hp1 := fun D => arrC_put (n := n) D (k := a + k) (by omega)
    have hp2 := fun D => arrC_put (n := n) D (k := b + k) (by omega)
    repeat' (first | ((try clear hf); with_reducible refine zO fun env K hE hK hf => ?_; have n : _ ∧ _ ∧ _ ∧ _ ∧ _ := ⟨hE 0, hE 1, hE 2, hE 3, hE 10⟩; simp -implicitDefEqProofs only [push_cast, reduceIte, Nat.reduceEqDiff, e0, e1, e2, e3, e10] at n; clear hE e0 e1 e2 e3 e10; obtain ⟨e0, e1, e2, e3, e10⟩ := n) | (with_reducible refine hK _ _ ?_; clear hK K) | (with_reducible first | refine zK ?_ | refine zU ?_ | refine zB ?_ | refine zF ?_ | refine zD ?_ | refine zN ?_ | refine zT ?_ | refine zC ?_ | refine zG ?_ | refine zV ?_ | refine zE ?_ | refine zA (by decide) ?_ | refine zL ?_ | refine zQ ?_ | refine zM ?_ | refine yB ?_ | refine yC ?_ | refine zW (by assumption) ?_ | refine zY (by assumption) ?_) | (refine zH rfl ?_) | (simp -implicitDefEqProofs only [push_cast, sevalprocAttr, eq_self, e0, e1, e2, e3, e10, hd, hbk, ht1, ht2, ha1, ha2, hp1, hp2]) | (simp -implicitDefEqProofs (disch := omega) only [zR, zZ, zS, zJ, e0, e1, e2, e3, e10, hd, hbk, ht1, ht2, ha1, ha2, hp1, hp2]) | (with_reducible refine yE ?_ ?_) | (refine zP rfl (fun bb => ?_) (fun bb => ?_) <;> (first | have bp := of_decide_eq_true bb | have bp := of_decide_eq_false bb | skip) <;> simp only [bb]) | (with_reducible refine zX (fun bb => ?_) (fun bb => ?_) <;> (first | have bp := of_decide_eq_true bb | have bp := of_decide_eq_false bb | skip)) | ((with_reducible refine And.intro ?_ ?_); omega) | fail)
    refine ⟨_, ?_, k + 1, rfl, E129_0_0.symm, E129_0_1.symm, E129_0_2.symm, E129_0_3.symm, by first | rfl | exact yD (by omega) | (simp -implicitDefEqProofs (disch := omega) only [zJ]; first | rfl | exact yD (by omega)), ?_⟩
    · omega
    · refine ⟨by omega, ?_, ?_⟩
      · rw [← swapS_succ d h1 hlt]
      · exact ((hx.tick.tick.put _).put _).tick
  · have hd : decide ((k : Int) < (m : Int)) = false := decide_eq_false (by omega)
    obtain rfl : k = m := by omega
    repeat' (first | ((try clear hf); with_reducible refine zO fun env K hE hK hf => ?_; have n : _ ∧ _ ∧ _ ∧ _ ∧ _ := ⟨hE 0, hE 1, hE 2, hE 3, hE 10⟩; simp -implicitDefEqProofs only [push_cast, reduceIte, Nat.reduceEqDiff, e0, e1, e2, e3, e10] at n; clear hE e0 e1 e2 e3 e10; obtain ⟨e0, e1, e2, e3, e10⟩ := n) | (with_reducible refine hK _ _ ?_; clear hK K) | (with_reducible first | refine zK ?_ | refine zU ?_ | refine zB ?_ | refine zF ?_ | refine zD ?_ | refine zN ?_ | refine zT ?_ | refine zC ?_ | refine zG ?_ | refine zV ?_ | refine zE ?_ | refine zA (by decide) ?_ | refine zL ?_ | refine zQ ?_ | refine zM ?_ | refine yB ?_ | refine yC ?_ | refine zW (by assumption) ?_ | refine zY (by assumption) ?_) | (refine zH rfl ?_) | (simp -implicitDefEqProofs only [push_cast, sevalprocAttr, eq_self, e0, e1, e2, e3, e10, hd, hbk]) | (simp -implicitDefEqProofs (disch := omega) only [zR, zZ, zS, zJ, e0, e1, e2, e3, e10, hd, hbk]) | (with_reducible refine yE ?_ ?_) | (refine zP rfl (fun bb => ?_) (fun bb => ?_) <;> (first | have bp := of_decide_eq_true bb | have bp := of_decide_eq_false bb | skip) <;> simp only [bb]) | (with_reducible refine zX (fun bb => ?_) (fun bb => ?_) <;> (first | have bp := of_decide_eq_true bb | have bp := of_decide_eq_false bb | skip)) | ((with_reducible refine And.intro ?_ ?_); omega) | fail)
    exact ⟨rfl, hx.tick, _, hbk, rfl⟩
end Go.Proofs.Hx

set_option linter.unusedVariables false
set_option linter.unusedSimpArgs false
namespace Go.Proofs.Hx
open Go Go.Proofs
attribute [local irreducible] yM awp opK goV goM yZ qB qD yQ HV HVF HC
/-! ### A range is turned -/
def rotS (d : Nat → Int) (a m b : Nat) : Nat → Int := fun k => if a ≤ k ∧ k < a + (b - m) then d (k - a + m) else if a + (b - m) ≤ k ∧ k < b then d (k - (a + (b - m)) + a) else d k
theorem rot_gt (d : Nat → Int) {m i j : Nat} (h1 : j < i) (h2 : i ≤ m) (h3 : 0 < j) : rotS (swapS d (m - i) m j) (m - (i - j)) m (m + j) = rotS d (m - i) m (m + j) := by
  funext k
  simp only [rotS, swapS]
  (repeat' split) <;> first | rfl | (exfalso; omega) | (congr 1; omega)
theorem rot_lt (d : Nat → Int) {m i j : Nat} (h1 : i < j) (h2 : i ≤ m) (h3 : 0 < i) : rotS (swapS d (m - i) (m + j - i) i) (m - i) m (m + (j - i)) = rotS d (m - i) m (m + j) := by
  funext k
  simp only [rotS, swapS]
  (repeat' split) <;> first | rfl | (exfalso; omega) | (congr 1; omega)
theorem rot_eq (d : Nat → Int) {m i : Nat} (h2 : i ≤ m) : swapS d (m - i) m i = rotS d (m - i) m (m + i) := by
  funext k
  simp only [rotS, swapS]
  (repeat' split) <;> first | rfl | (exfalso; omega) | (congr 1; omega)
set_option maxHeartbeats 1000000 in
theorem f128 {h0 : Hp} {id : Id} {n : Nat} {d : Nat → Int} {f : AV} (hb : h0.hp id = some ⟨true, arrC n d⟩) (hi : id.1 ≤ h0.ep) (hn : n ≤ 1000000) {a m b : Nat} (h1 : a < m) (h2 : m < b) (h3 : b ≤ n) :
    HC Try.prog 128 [.sl id 0 n 1, i64 a, i64 m, i64 b, f] h0 (SortQ h0 id n fun d' => d' = rotS d a m b) := by
  refine yX yK cf128 (by simp) fun hF => ?_
  unfold ac128 re128
  refine yF fun env hE => ?_; have e0 := hE 0; have e1 := hE 1; have e2 := hE 2; have e3 := hE 3; have e4 := hE 4; have e10 := hE 10; have e11 := hE 11; simp -implicitDefEqProofs only [push_cast] at e0 e1 e2 e3 e4 e10 e11; clear hE
  repeat' (first | ((try clear hf); with_reducible refine zO fun env K hE hK hf => ?_; have n : _ ∧ _ ∧ _ ∧ _ ∧ _ ∧ _ ∧ _ := ⟨hE 0, hE 1, hE 2, hE 3, hE 4, hE 10, hE 11⟩; simp -implicitDefEqProofs only [push_cast, reduceIte, Nat.reduceEqDiff, e0, e1, e2, e3, e4, e10, e11] at n; clear hE e0 e1 e2 e3 e4 e10 e11; obtain ⟨e0, e1, e2, e3, e4, e10, e11⟩ := n) | (with_reducible refine hK _ _ ?_; clear hK K) | (with_reducible first | refine zK ?_ | refine zU ?_ | refine zB ?_ | refine zF ?_ | refine zD ?_ | refine zN ?_ | refine zT ?_ | refine zC ?_ | refine zG ?_ | refine zV ?_ | refine zE ?_ | refine zA (by decide) ?_ | refine zL ?_ | refine zQ ?_ | refine zM ?_ | refine yB ?_ | refine yC ?_ | refine zW (by assumption) ?_ | refine zY (by assumption) ?_) | (refine zH rfl ?_) | (simp -implicitDefEqProofs only [push_cast, sevalprocAttr, eq_self, e0, e1, e2, e3, e4, e10, e11]) | (simp -implicitDefEqProofs (disch := omega) only [zR, zZ, zS, zJ, e0, e1, e2, e3, e4, e10, e11]) | (with_reducible refine yE ?_ ?_) | (refine zP rfl (fun bb => ?_) (fun bb => ?_) <;> (first | have bp := of_decide_eq_true bb | have bp := of_decide_eq_false bb | skip) <;> simp only [bb]) | (with_reducible refine zX (fun bb => ?_) (fun bb => ?_) <;> (first | have bp := of_decide_eq_true bb | have bp := of_decide_eq_false bb | skip)) | ((with_reducible refine And.intro ?_ ?_); omega) | fail)
  refine yF fun env hE => ?_; have n : _ ∧ _ ∧ _ ∧ _ ∧ _ ∧ _ ∧ _ := ⟨hE 0, hE 1, hE 2, hE 3, hE 4, hE 10, hE 11⟩; simp -implicitDefEqProofs only [push_cast, reduceIte, Nat.reduceEqDiff, e0, e1, e2, e3, e4, e10, e11] at n; clear hE e0 e1 e2 e3 e4 e10 e11; obtain ⟨e0, e1, e2, e3, e4, e10, e11⟩ := n; have E128_0_0 := e0; have E128_0_1 := e1; have E128_0_2 := e2; have E128_0_3 := e3; have E128_0_4 := e4
  refine yL (fun nn σ => ∃ (i j : Nat) (D : Nat → Int), nn = i + j ∧ σ.env 0 = env 0 ∧ σ.env 1 = env 1 ∧ σ.env 2 = env 2 ∧ σ.env 3 = env 3 ∧ σ.env 4 = env 4 ∧ σ.env 10 = i64 i ∧ σ.env 11 = i64 j ∧ (0 < i ∧ 0 < j ∧ i ≤ m ∧ m + j ≤ n ∧ σ.h.hp id = some ⟨true, arrC n D⟩ ∧ rotS D (m - i) m (m + j) = rotS d a m b ∧ Fr1 id h0 σ.h)) _ ⟨m - a, b - m, d, rfl, rfl, rfl, rfl, rfl, rfl, by refine e10.trans ?_; first | rfl | exact yD (by omega) | (simp -implicitDefEqProofs (disch := omega) only [zJ]; first | rfl | exact yD (by omega)), by refine e11.trans ?_; first | rfl | exact yD (by omega) | (simp -implicitDefEqProofs (disch := omega) only [zJ]; first | rfl | exact yD (by omega)), ?_⟩ ?_
  · refine ⟨by omega, by omega, by omega, by omega, by simp -implicitDefEqProofs only [push_cast, sevalprocAttr, eq_self, hb], ?_, (Fr1.refl _ _).tick.tick.tick⟩
    rw [show m - (m - a) = a by omega, show m + (b - m) = b by omega]
  clear e0 e1 e2 e3 e4 e10 e11; rintro nn ⟨env, h⟩ ⟨i, j, D, rfl, q0, q1, q2, q3, q4, e10, e11, hI⟩; simp only at q0 q1 q2 q3 q4 e10 e11 hI; (first | have e0 := q0.trans E128_0_0 | have e0 := True.intro); (first | have e1 := q1.trans E128_0_1 | have e1 := True.intro); (first | have e2 := q2.trans E128_0_2 | have e2 := True.intro); (first | have e3 := q3.trans E128_0_3 | have e3 := True.intro); (first | have e4 := q4.trans E128_0_4 | have e4 := True.intro); clear q0 q1 q2 q3 q4
  obtain ⟨hi0, hj0, him, hjn, hbk, hD, hx⟩ := hI
  unfold l128_0
  (first | refine yI fun hF => ?_ | refine yS fun hF => ?_ | refine yR fun hF => ?_)
  have hle := hx.ep
  by_cases hne : i = j
  · subst hne
    have hd : decide ((i : Int) ≠ (i : Int)) = false := by simp
    have hci : ((m : Int) - (i : Int)) = ((m - i : Nat) : Int) := by omega
    repeat' (first | ((try clear hf); with_reducible refine zO fun env K hE hK hf => ?_; have n : _ ∧ _ ∧ _ ∧ _ ∧ _ ∧ _ ∧ _ := ⟨hE 0, hE 1, hE 2, hE 3, hE 4, hE 10, hE 11⟩; simp -implicitDefEqProofs only [push_cast, reduceIte, Nat.reduceEqDiff, e0, e1, e2, e3, e4, e10, e11] at n; clear hE e0 e1 e2 e3 e4 e10 e11; obtain ⟨e0, e1, e2, e3, e4, e10, e11⟩ := n) | (with_reducible refine hK _ _ ?_; clear hK K) | (with_reducible first | refine zK ?_ | refine zU ?_ | refine zB ?_ | refine zF ?_ | refine zD ?_ | refine zN ?_ | refine zT ?_ | refine zC ?_ | refine zG ?_ | refine zV ?_ | refine zE ?_ | refine zA (by decide) ?_ | refine zL ?_ | refine zQ ?_ | refine zM ?_ | refine yB ?_ | refine yC ?_ | refine zW (by assumption) ?_ | refine zY (by assumption) ?_) | (refine zH rfl ?_) | (simp -implicitDefEqProofs only [push_cast, sevalprocAttr, eq_self, e0, e1, e2, e3, e4, e10, e11, hd, hci]) | (simp -implicitDefEqProofs (disch := omega) only [zR, zZ, zS, zJ, e0, e1, e2, e3, e4, e10, e11, hd, hci]) | (with_reducible refine yE ?_ ?_) | (refine zP rfl (fun bb => ?_) (fun bb => ?_) <;> (first | have bp := of_decide_eq_true bb | have bp := of_decide_eq_false bb | skip) <;> simp only [bb]) | (with_reducible refine zX (fun bb => ?_) (fun bb => ?_) <;> (first | have bp := of_decide_eq_true bb | have bp := of_decide_eq_false bb | skip)) | ((with_reducible refine And.intro ?_ ?_); omega) | (refine yT (HC.mono (f129 (id := id) (n := n) (d := D) (a := m - i) (b := m) (m := i) (by simp -implicitDefEqProofs only [push_cast, sevalprocAttr, eq_self, hbk]) (by simp -implicitDefEqProofs only [push_cast, sevalprocAttr, eq_self]; omega) hn (by omega) (by omega)) ?_); rintro r g ⟨rfl, hg, D', hb', rfl⟩ hF') | fail)
    exact ⟨rfl, (hx.tick.tick.trans hg).tick, _, hb', by rw [rot_eq D him, hD]⟩
  · have hd : decide ((i : Int) ≠ (j : Int)) = true := decide_eq_true (by omega)
    by_cases hgt : j < i
    · have hd2 : decide ((j : Int) < (i : Int)) = true := decide_eq_true (by omega)
      have hci : ((m : Int) - (i : Int)) = ((m - i : Nat) : Int) := by omega
      repeat' (first | ((try clear hf); with_reducible refine zO fun env K hE hK hf => ?_; have n : _ ∧ _ ∧ _ ∧ _ ∧ _ ∧ _ ∧ _ := ⟨hE 0, hE 1, hE 2, hE 3, hE 4, hE 10, hE 11⟩; simp -implicitDefEqProofs only [push_cast, reduceIte, Nat.reduceEqDiff, e0, e1, e2, e3, e4, e10, e11] at n; clear hE e0 e1 e2 e3 e4 e10 e11; obtain ⟨e0, e1, e2, e3, e4, e10, e11⟩ := n) | (with_reducible refine hK _ _ ?_; clear hK K) | (with_reducible first | refine zK ?_ | refine zU ?_ | refine zB ?_ | refine zF ?_ | refine zD ?_ | refine zN ?_ | refine zT ?_ | refine zC ?_ | refine zG ?_ | refine zV ?_ | refine zE ?_ | refine zA (by decide) ?_ | refine zL ?_ | refine zQ ?_ | refine zM ?_ | refine yB ?_ | refine yC ?_ | refine zW (by assumption) ?_ | refine zY (by assumption) ?_) | (refine zH rfl ?_) | (simp -implicitDefEqProofs only [push_cast, sevalprocAttr, eq_self, e0, e1, e2, e3, e4, e10, e11, hd, hd2, hci]) | (simp -implicitDefEqProofs (disch := omega) only [zR, zZ, zS, zJ, e0, e1, e2, e3, e4, e10, e11, hd, hd2, hci]) | (with_reducible refine yE ?_ ?_) | (refine zP rfl (fun bb => ?_) (fun bb => ?_) <;> (first | have bp := of_decide_eq_true bb | have bp := of_decide_eq_false bb | skip) <;> simp only [bb]) | (with_reducible refine zX (fun bb => ?_) (fun bb => ?_) <;> (first | have bp := of_decide_eq_true bb | have bp := of_decide_eq_false bb | skip)) | ((with_reducible refine And.intro ?_ ?_); omega) | (refine yT (HC.mono (f129 (id := id) (n := n) (d := D) (a := m - i) (b := m) (m := j) (by simp -implicitDefEqProofs only [push_cast, sevalprocAttr, eq_self, hbk]) (by simp -implicitDefEqProofs only [push_cast, sevalprocAttr, eq_self]; omega) hn (by omega) (by omega)) ?_); rintro r g ⟨rfl, hg, D', hb', rfl⟩ hF') | fail)
      refine ⟨_, ?_, i - j, j, swapS D (m - i) m j, rfl, E128_0_0.symm, E128_0_1.symm, E128_0_2.symm, E128_0_3.symm, E128_0_4.symm, by first | rfl | exact yD (by omega) | (simp -implicitDefEqProofs (disch := omega) only [zJ]; first | rfl | exact yD (by omega)), by first | rfl | exact yD (by omega) | (simp -implicitDefEqProofs (disch := omega) only [zJ]; first | rfl | exact yD (by omega)), ?_⟩
      · omega
      · exact ⟨by omega, by omega, by omega, by omega, hb', by rw [rot_gt D hgt him hj0, hD], (hx.tick.tick.tick.trans hg).tick.tick⟩
    · have hd2 : decide ((j : Int) < (i : Int)) = false := decide_eq_false (by omega)
      have hci : ((m : Int) - (i : Int)) = ((m - i : Nat) : Int) := by omega
      have hcj2 : ((m : Int) + (j : Int) - (i : Int)) = ((m + j - i : Nat) : Int) := by omega
      repeat' (first | ((try clear hf); with_reducible refine zO fun env K hE hK hf => ?_; have n : _ ∧ _ ∧ _ ∧ _ ∧ _ ∧ _ ∧ _ := ⟨hE 0, hE 1, hE 2, hE 3, hE 4, hE 10, hE 11⟩; simp -implicitDefEqProofs only [push_cast, reduceIte, Nat.reduceEqDiff, e0, e1, e2, e3, e4, e10, e11] at n; clear hE e0 e1 e2 e3 e4 e10 e11; obtain ⟨e0, e1, e2, e3, e4, e10, e11⟩ := n) | (with_reducible refine hK _ _ ?_; clear hK K) | (with_reducible first | refine zK ?_ | refine zU ?_ | refine zB ?_ | refine zF ?_ | refine zD ?_ | refine zN ?_ | refine zT ?_ | refine zC ?_ | refine zG ?_ | refine zV ?_ | refine zE ?_ | refine zA (by decide) ?_ | refine zL ?_ | refine zQ ?_ | refine zM ?_ | refine yB ?_ | refine yC ?_ | refine zW (by assumption) ?_ | refine zY (by assumption) ?_) | (refine zH rfl ?_) | (simp -implicitDefEqProofs only [push_cast, sevalprocAttr, eq_self, e0, e1, e2, e3, e4, e10, e11, hd, hd2, hci, hcj2]) | (simp -implicitDefEqProofs (disch := omega) only [zR, zZ, zS, zJ, e0, e1, e2, e3, e4, e10, e11, hd, hd2, hci, hcj2]) | (with_reducible refine yE ?_ ?_) | (refine zP rfl (fun bb => ?_) (fun bb => ?_) <;> (first | have bp := of_decide_eq_true bb | have bp := of_decide_eq_false bb | skip) <;> simp only [bb]) | (with_reducible refine zX (fun bb => ?_) (fun bb => ?_) <;> (first | have bp := of_decide_eq_true bb | have bp := of_decide_eq_false bb | skip)) | ((with_reducible refine And.intro ?_ ?_); omega) | (refine yT (HC.mono (f129 (id := id) (n := n) (d := D) (a := m - i) (b := m + j - i) (m := i) (by simp -implicitDefEqProofs only [push_cast, sevalprocAttr, eq_self, hbk]) (by simp -implicitDefEqProofs only [push_cast, sevalprocAttr, eq_self]; omega) hn (by omega) (by omega)) ?_); rintro r g ⟨rfl, hg, D', hb', rfl⟩ hF') | fail)
      refine ⟨_, ?_, i, j - i, swapS D (m - i) (m + j - i) i, rfl, E128_0_0.symm, E128_0_1.symm, E128_0_2.symm, E128_0_3.symm, E128_0_4.symm, by first | rfl | exact yD (by omega) | (simp -implicitDefEqProofs (disch := omega) only [zJ]; first | rfl | exact yD (by omega)), by first | rfl | exact yD (by omega) | (simp -implicitDefEqProofs (disch := omega) only [zJ]; first | rfl | exact yD (by omega)), ?_⟩
      · omega
      · exact ⟨by omega, by omega, by omega, by omega, hb', by rw [rot_lt D (by omega) him hi0, hD], (hx.tick.tick.tick.trans hg).tick.tick⟩
end Go.Proofs.Hx
