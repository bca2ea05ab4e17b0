import Derived.Test.YtcdibfkebojefaaG6
import Derived.Test.YtcdibfkebojefaaG5
set_option linter.unusedVariables false
set_option linter.unusedSimpArgs false
namespace Go.Proofs.Hx
open Go Go.Proofs
attribute [local irreducible] yS awp opK goV goM qB yZ qH yW HV HVF HC
theorem sepV_new {a : AV} {i : Id} {o : Nat} {E : Nat} (ha : ∀ x, idOf a = some x → E < x.1) (hi : i.1 ≤ E) : sepV (.ptr i o) a = True := by
  simp only [sepV, eq_iff_iff, iff_true]
  split
  · rename_i x y h1 h2
    intro e
    have := ha y h2
    simp [idOf] at h1
    rw [h1, e] at hi
    omega
  · trivial
def jobD (l : List Opn) (t : Tab) (E : Nat) (x : AV) : List AV := .row (l.map opC) :: (tabC t ++ [.sl (E, 15) 0 l.length 1, .sl (E, 18) 0 l.length 1, x])
theorem jobD_14 (l : List Opn) (t : Tab) (E : Nat) (x : AV) : (jobD l t E x)[14]? = some (.sl (E, 15) 0 l.length 1) := rfl
theorem jobD_15 (l : List Opn) (t : Tab) (E : Nat) (x : AV) : (jobD l t E x)[15]? = some (.sl (E, 18) 0 l.length 1) := rfl
theorem jobD_len (l : List Opn) (t : Tab) (E : Nat) (x : AV) : (jobD l t E x).length = 17 := rfl
theorem jobD_one (l : List Opn) (t : Tab) (E : Nat) (x : AV) (hx : one x = true) : (jobD l t E x).all one = true := by
  show (true && (true && (true && (true && (true && (true && (true && (true && (true && (true && (true && (true && (true && (true && (true && (true && (one x && true)))))))))))))))))  = true
  rw [hx]; rfl
theorem jobD_set (l : List Opn) (t : Tab) (E : Nat) (x : AV) (y : AV) : (jobD l t E x).take 16 ++ [y] ++ (jobD l t E x).drop 17 = jobD l t E y := rfl
theorem inE_next (E : List Edg) (k : Nat) (x : Edg) {i : Nat} (hi : x.t = i) (htk : E.take (k + 1) = E.take k ++ [x]) : inE (E.take (k + 1)) = fun j => if j = i then inE (E.take k) i ++ [x] else inE (E.take k) j := by
  funext j
  rw [htk]
  unfold inE
  rw [List.filter_append]
  by_cases e : j = i
  · subst e
    simp [hi]
  · rw [if_neg e]
    have : ¬ (x.t = (j : Int)) := by omega
    simp [this]
set_option maxHeartbeats 1000000 in
theorem f78 {h0 : Hp} {l : List Opn} {t : Tab} (hl : ∀ o ∈ l, o.ok) (hR : errR l t = 0) :
    HC Try.prog 78 [.row (l.map opC), .agg (tabC t)] h0 fun r h' => ∃ E c R B, r = .ptr (E, 20) 0 ∧ h0.ep < E ∧ JobH h' E c R B l t (onceE l t l.length) (List.replicate l.length (-1)) [] ∧ Ext h0 h' := by
  refine YD yX cf78 (by simp) fun hF => ?_
  unfold ac78 re78
  refine yQ fun env hE => ?_; obtain ⟨e0, e1, e3, e4, e5, e6, e9, e10, e27, e28, e29, e30, e56, e57, e58⟩ := cj15 hE 0 1 3 4 5 6 9 10 27 28 29 30 56 57 58; simp -implicitDefEqProofs only [push_cast] at e0 e1 e3 e4 e5 e6 e9 e10 e27 e28 e29 e30 e56 e57 e58; clear hE
  obtain ⟨ht, hn, hop⟩ := errR_ok hR
  have hE := onceE_ok (l := l) ht l.length
  have hEl := onceE_len l t l.length l.length (Nat.le_refl _)
  generalize hEq : onceE l t l.length = E at hE hEl
  have hmul : 5 * l.length * l.length ≤ 5 * 1024 * 1024 := Nat.mul_le_mul (by omega) (by omega)
  repeat' (first | ((try clear hf); with_reducible refine yE fun env K hE hK hf => ?_; have n := cj15 hE 0 1 3 4 5 6 9 10 27 28 29 30 56 57 58; simp -implicitDefEqProofs only [push_cast, reduceIte, Nat.reduceEqDiff, e0, e1, e3, e4, e5, e6, e9, e10, e27, e28, e29, e30, e56, e57, e58] at n; clear hE e0 e1 e3 e4 e5 e6 e9 e10 e27 e28 e29 e30 e56 e57 e58; obtain ⟨e0, e1, e3, e4, e5, e6, e9, e10, e27, e28, e29, e30, e56, e57, e58⟩ := n) | (with_reducible refine hK _ _ ?_; clear hK K) | (with_reducible first | (refine Zi ?_; constructor) | refine yC (by decide) ?_ | refine yJ (by assumption) ?_ | refine yL (by assumption) ?_) | (refine yD rfl ?_) | (simp -implicitDefEqProofs only [push_cast, sevalprocAttr, eq_self, e0, e1, e3, e4, e5, e6, e9, e10, e27, e28, e29, e30, e56, e57, e58, hF.at, yU, rep1]) | (simp -implicitDefEqProofs (disch := omega) only [yH, yM, yI, yG, e0, e1, e3, e4, e5, e6, e9, e10, e27, e28, e29, e30, e56, e57, e58, hF.at, yU, rep1]) | (with_reducible refine yO ?_ ?_) | (refine yF rfl (fun bb => ?_) (fun bb => ?_) <;> (first | have bp := oT bb | have bp := oF bb | skip) <;> simp only [bb]) | (with_reducible refine yK (fun bb => ?_) (fun bb => ?_) <;> (first | have bp := oT bb | have bp := oF bb | skip)) | ((with_reducible refine And.intro ?_ ?_); omega) | fail)
  refine Eq.mpr (goV_congr (r' := some (.agg (jobD l t (h0.ep + 1 + 1 + 1) (.lit (.pointer none))))) (by rfl)) ?_
  repeat' (first | ((try clear hf); with_reducible refine yE fun env K hE hK hf => ?_; have n := cj15 hE 0 1 3 4 5 6 9 10 27 28 29 30 56 57 58; simp -implicitDefEqProofs only [push_cast, reduceIte, Nat.reduceEqDiff, e0, e1, e3, e4, e5, e6, e9, e10, e27, e28, e29, e30, e56, e57, e58] at n; clear hE e0 e1 e3 e4 e5 e6 e9 e10 e27 e28 e29 e30 e56 e57 e58; obtain ⟨e0, e1, e3, e4, e5, e6, e9, e10, e27, e28, e29, e30, e56, e57, e58⟩ := n) | (with_reducible refine hK _ _ ?_; clear hK K) | (with_reducible first | (refine Zi ?_; constructor) | refine yC (by decide) ?_ | refine yJ (by assumption) ?_ | refine yL (by assumption) ?_) | (refine yD rfl ?_) | (simp -implicitDefEqProofs only [push_cast, sevalprocAttr, eq_self, e0, e1, e3, e4, e5, e6, e9, e10, e27, e28, e29, e30, e56, e57, e58, hF.at, yU, rep1, jobD_len, jobD_one]) | (simp -implicitDefEqProofs (disch := omega) only [yH, yM, yI, yG, e0, e1, e3, e4, e5, e6, e9, e10, e27, e28, e29, e30, e56, e57, e58, hF.at, yU, rep1, jobD_len, jobD_one]) | (with_reducible refine yO ?_ ?_) | (refine yF rfl (fun bb => ?_) (fun bb => ?_) <;> (first | have bp := oT bb | have bp := oF bb | skip) <;> simp only [bb]) | (with_reducible refine yK (fun bb => ?_) (fun bb => ?_) <;> (first | have bp := oT bb | have bp := oF bb | skip)) | ((with_reducible refine And.intro ?_ ?_); omega) | (refine YB (HC.mono (of_all hl) ?_); rintro r h1 ⟨hx, hr⟩ hF1; rcases hr with ⟨hr, _⟩ | ⟨_, out, hr, hO⟩; exact absurd hR hr; subst hr; rw [hEq] at hO; have hOl := hO.slo.len) | fail)
  generalize hH : h0.ep + 1 + 1 + 1 = H at *
  have hx1 := hx.1
  simp only [YE, push_ep, hH] at hx1
  have hbT : h1.hp (h0.ep + 1 + 1, 3) = some ⟨true, tabC t⟩ := by
    rw [hx.2 _ (by simp only [YE, push_ep]; omega)]
    simp -implicitDefEqProofs only [push_cast, sevalprocAttr, eq_self]
  have hb15 : h1.hp (H, 15) = some ⟨true, List.replicate l.length AV.nil⟩ := by
    rw [hx.2 _ (by simp only [YE, push_ep]; omega)]
    simp -implicitDefEqProofs only [push_cast, sevalprocAttr, eq_self]
  have hb18 : h1.hp (H, 18) = some ⟨true, List.replicate l.length (i64 0)⟩ := by
    rw [hx.2 _ (by simp only [YE, push_ep]; omega)]
    simp -implicitDefEqProofs only [push_cast, sevalprocAttr, eq_self]
  have hb20 : h1.hp (H, 20) = some ⟨true, jobD l t H (.lit (.pointer none))⟩ := by
    rw [hx.2 _ (by simp only [YE, push_ep]; omega)]
    simp -implicitDefEqProofs only [push_cast, sevalprocAttr, eq_self]
  have hx0 : Ext h0 h1 := Ext.tr (by repeat (first | exact Ext.refl _ | refine Ext.tick ?_ | refine Ext.push ?_ (by omega) _)) hx
  repeat' (first | ((try clear hf); with_reducible refine yE fun env K hE hK hf => ?_; have n := cj15 hE 0 1 3 4 5 6 9 10 27 28 29 30 56 57 58; simp -implicitDefEqProofs only [push_cast, reduceIte, Nat.reduceEqDiff, e0, e1, e3, e4, e5, e6, e9, e10, e27, e28, e29, e30, e56, e57, e58] at n; clear hE e0 e1 e3 e4 e5 e6 e9 e10 e27 e28 e29 e30 e56 e57 e58; obtain ⟨e0, e1, e3, e4, e5, e6, e9, e10, e27, e28, e29, e30, e56, e57, e58⟩ := n) | (with_reducible refine hK _ _ ?_; clear hK K) | (with_reducible first | (refine Zi ?_; constructor) | refine yC (by decide) ?_ | refine yJ (by assumption) ?_ | refine yL (by assumption) ?_) | (refine yD rfl ?_) | (simp -implicitDefEqProofs only [push_cast, sevalprocAttr, eq_self, e0, e1, e3, e4, e5, e6, e9, e10, e27, e28, e29, e30, e56, e57, e58, hOl]) | (simp -implicitDefEqProofs (disch := omega) only [yH, yM, yI, yG, e0, e1, e3, e4, e5, e6, e9, e10, e27, e28, e29, e30, e56, e57, e58, hOl]) | (with_reducible refine yO ?_ ?_) | (refine yF rfl (fun bb => ?_) (fun bb => ?_) <;> (first | have bp := oT bb | have bp := oF bb | skip) <;> simp only [bb]) | (with_reducible refine yK (fun bb => ?_) (fun bb => ?_) <;> (first | have bp := oT bb | have bp := oF bb | skip)) | ((with_reducible refine And.intro ?_ ?_); omega) | fail)
  refine yQ fun env hE => ?_; have n := cj15 hE 0 1 3 4 5 6 9 10 27 28 29 30 56 57 58; simp -implicitDefEqProofs only [push_cast, reduceIte, Nat.reduceEqDiff, e0, e1, e3, e4, e5, e6, e9, e10, e27, e28, e29, e30, e56, e57, e58] at n; clear hE e0 e1 e3 e4 e5 e6 e9 e10 e27 e28 e29 e30 e56 e57 e58; obtain ⟨e0, e1, e3, e4, e5, e6, e9, e10, e27, e28, e29, e30, e56, e57, e58⟩ := n; have E78_0_0 := e0; have E78_0_1 := e1; have E78_0_3 := e3; have E78_0_4 := e4; have E78_0_5 := e5; have E78_0_6 := e6; have E78_0_27 := e27; have E78_0_28 := e28
  refine qE (fun nn σ => ∃ (k : Nat) (c : List AV), nn = E.length - k ∧ σ.env 0 = env 0 ∧ σ.env 1 = env 1 ∧ σ.env 3 = env 3 ∧ σ.env 4 = env 4 ∧ σ.env 5 = env 5 ∧ σ.env 6 = env 6 ∧ σ.env 27 = env 27 ∧ σ.env 28 = env 28 ∧ σ.env 29 = i64 k ∧ (k ≤ E.length ∧ σ.h.hp (H, 15) = some ⟨true, c⟩ ∧ c.length = l.length ∧ RowsO edC 5 σ.h h1.ep c (inE (E.take k)) ∧ Fr1 (H, 15) h1 σ.h)) _ ⟨0, List.replicate l.length AV.nil, rfl, rfl, rfl, rfl, rfl, rfl, rfl, rfl, rfl, by refine e29.trans ?_; first | rfl | exact yP (by omega) | (simp -implicitDefEqProofs (disch := omega) only [yG]; first | rfl | exact yP (by omega)), ?_⟩ ?_
  · refine ⟨by omega, hb15, by simp, ⟨fun i a hi => ?_, fun i j a b x hi hj hij hx => ?_⟩, (by repeat (first | assumption | exact Fr1.refl _ _ | refine Fr1.tick ?_ | refine Fr1.put ?_ _ | refine Fr1.push ?_ (by omega) _))⟩
    · rw [List.getElem?_replicate] at hi
      split at hi
      · cases hi; exact ⟨SlO.nil _ _ _, fun x hx => by simp [idOf] at hx⟩
      · cases hi
    · rw [List.getElem?_replicate] at hi
      split at hi
      · cases hi; simp [idOf] at hx
      · cases hi
  have hone : ∀ e, idOf out = some e → 0 < E.length → e ≠ (H, 15) := fun e he hp e2 => by
    obtain ⟨oe, os, hoe, hob, hol⟩ := hO.slo.blk hp
    rw [hoe] at he
    simp only [idOf, Option.some.injEq] at he
    rw [he, e2, hb15] at hob
    have h1 : List.replicate l.length AV.nil = E.flatMap edC := by injection (Option.some.inj hob)
    cases E with
    | nil => simp at hp
    | cons x E' =>
      have : i64 x.f ∈ List.replicate l.length AV.nil := by rw [h1]; simp [edC]
      rw [List.mem_replicate] at this
      exact AV.noConfusion this.2
  clear e0 e1 e3 e4 e5 e6 e9 e10 e27 e28 e29 e30 e56 e57 e58; rintro nn ⟨env, h2⟩ ⟨k, c, rfl, q0, q1, q3, q4, q5, q6, q27, q28, e29, hI⟩; simp only at q0 q1 q3 q4 q5 q6 q27 q28 e29 hI; (first | have e0 := q0.trans E78_0_0 | have e0 := True.intro); (first | have e1 := q1.trans E78_0_1 | have e1 := True.intro); (first | have e3 := q3.trans E78_0_3 | have e3 := True.intro); (first | have e4 := q4.trans E78_0_4 | have e4 := True.intro); (first | have e5 := q5.trans E78_0_5 | have e5 := True.intro); (first | have e6 := q6.trans E78_0_6 | have e6 := True.intro); (first | have e27 := q27.trans E78_0_27 | have e27 := True.intro); (first | have e28 := q28.trans E78_0_28 | have e28 := True.intro); clear q0 q1 q3 q4 q5 q6 q27 q28; have e9 := True.intro; have e10 := True.intro; have e30 := True.intro; have e56 := True.intro; have e57 := True.intro; have e58 := True.intro
  obtain ⟨hk, hb, hcl, hrw, hfr⟩ := hI
  unfold l78_0
  (first | refine yV fun hF => ?_ | refine qM fun hF => ?_ | refine qL fun hF => ?_)
  have hxe := hfr.ep
  have h14 := jobD_14 l t H (.lit (.pointer none))
  have h15 := jobD_15 l t H (.lit (.pointer none))
  by_cases hlt : k < E.length
  · have hd : decide ((k : Int) < (E.length : Int)) = true := by simp; omega
    obtain ⟨oe, os, hoe, hob, hol⟩ := hO.slo.blk (by omega)
    subst hoe
    have hon := hone (oe, os) rfl (by omega)
    replace hob := (hfr.hp _ hol hon).trans hob
    replace hb20 := (hfr.hp (H, 20) (by simp only; omega) (by simp)).trans hb20
    have hfl := flat_len YF E
    have hft := flat_take YF E hlt
    have hle : k * 5 + 5 ≤ (E.flatMap edC).length := by rw [hfl]; omega
    have hxo := hE _ (List.getElem_mem hlt)
    have htk : E.take (k + 1) = E.take k ++ [E[k]] := by rw [List.take_succ_eq_append_getElem hlt]
    generalize E[k] = x at *
    obtain ⟨x1, x2, x3, x4, x5⟩ := hxo
    obtain ⟨i, hi⟩ : ∃ i : Nat, x.t = i := ⟨x.t.toNat, by omega⟩
    have hca : c[i]? = some (c.getD i .nil) := by rw [List.getD_eq_getElem?_getD, List.getElem?_eq_getElem (by omega)]; rfl
    generalize c.getD i .nil = a at hca
    obtain ⟨hra, hrx⟩ := hrw.get i a hca
    have hb40 : ((inE (E.take k) i).length + 1 + ((inE (E.take k) i).length + 1) / 4 + 512) * 40 ≤ 281474976710656 := by
      have h1 : (inE (E.take k) i).length ≤ (E.take k).length := by simpa [inE] using List.length_filter_le (fun e : Edg => decide (e.t = (i : Int))) (E.take k)
      have h2 := List.length_take_le k E
      omega
    have hk8 : ∀ (g : Hp) (s : Nat), (killA g a).hp (H, s) = g.hp (H, s) := fun g s => killA_ne _ _ (fun e => by have := hrx _ e; simp at this; omega)
    have hsp : sepV (.ptr (h2.ep + 1 + 1, 9) 1) a = True := sepV_old (E := h2.ep) (fun x hx => hra.id_le hx) (by show h2.ep < h2.ep + 1 + 1; omega)
    have hsq : sepV (.ptr (H, 20) 14) a = True := sepV_new hrx (by show H ≤ h1.ep; omega)
    have hset : ∀ v, c.take i ++ [v] ++ c.drop (i + 1) = c.set i v := fun v => set_cell c (by omega : i < c.length) v
    repeat' (first | ((try clear hf); with_reducible refine yE fun env K hE hK hf => ?_; have n := cj15 hE 0 1 3 4 5 6 9 10 27 28 29 30 56 57 58; simp -implicitDefEqProofs only [push_cast, reduceIte, Nat.reduceEqDiff, e0, e1, e3, e4, e5, e6, e9, e10, e27, e28, e29, e30, e56, e57, e58] at n; clear hE e0 e1 e3 e4 e5 e6 e9 e10 e27 e28 e29 e30 e56 e57 e58; obtain ⟨e0, e1, e3, e4, e5, e6, e9, e10, e27, e28, e29, e30, e56, e57, e58⟩ := n) | (with_reducible refine hK _ _ ?_; clear hK K) | (with_reducible first | (refine Zi ?_; constructor) | refine yC (by decide) ?_ | refine yJ (by assumption) ?_ | refine yL (by assumption) ?_) | (refine yD rfl ?_) | (simp -implicitDefEqProofs only [push_cast, sevalprocAttr, eq_self, e0, e1, e3, e4, e5, e6, e9, e10, e27, e28, e29, e30, e56, e57, e58, hd, hF.at, qC, hob, hft, hb20, h14, hb, hca, hi, hk8, hset, one_sl, hsp, hsq]) | (simp -implicitDefEqProofs (disch := omega) only [yH, yM, yI, yG, e0, e1, e3, e4, e5, e6, e9, e10, e27, e28, e29, e30, e56, e57, e58, hd, hF.at, qC, hob, hft, hb20, h14, hb, hca, hi, hk8, hset, one_sl, hsp, hsq]) | (with_reducible refine yO ?_ ?_) | (refine yF rfl (fun bb => ?_) (fun bb => ?_) <;> simp only [bb]) | (with_reducible refine yK (fun bb => ?_) (fun bb => ?_)) | ((with_reducible refine And.intro ?_ ?_); omega) | (refine goM_of _ _ ((hra.ext (by repeat (first | exact Ext.refl _ | assumption | refine Ext.tick ?_ | refine Ext.push ?_ (by omega) _ | refine Ext.put ?_ (by omega) _ | refine Ext.kill ?_ (by omega) | refine Ext.killA ?_ (by assumption) | refine Ext.setm ?_ _ _))).app YF _ (by decide) (edC_one _) hb40) ?_) | fail)
    refine ⟨_, ?_, k + 1, c.set i (.sl (h2.ep + 1 + 1 + 1, 49) 0 ((inE (E.take k) i).length + 1) 5), rfl, E78_0_0.symm, E78_0_1.symm, E78_0_3.symm, E78_0_4.symm, E78_0_5.symm, E78_0_6.symm, E78_0_27.symm, E78_0_28.symm, by first | rfl | exact yP (by omega) | (simp -implicitDefEqProofs (disch := omega) only [yG]; first | rfl | exact yP (by omega)), ?_⟩
    · omega
    · have hold : ∀ (p q : List AV) (y : Id), y.1 ≤ h2.ep → y ≠ (H, 15) → idOf a ≠ some y → ((((killA (((h2.tick.tick.push (h2.ep + 1 + 1, 9) p).put (h2.ep + 1 + 1, 9) (edC x)).tick.push (h2.ep + 1 + 1 + 1, 48) (edC x)) a).push (h2.ep + 1 + 1 + 1, 49) (List.flatMap edC (inE (List.take k E) i) ++ edC x)).put (H, 15) q).tick).hp y = h2.hp y := fun p q y hy hn ha => by
        rw [YA, put_ne _ _ _ _ hn, push_ne _ _ _ _ (fun e => by rw [e] at hy; simp only at hy; omega), killA_ne _ _ ha, push_ne _ _ _ _ (fun e => by rw [e] at hy; simp only at hy; omega), YA, put_ne _ _ _ _ (fun e => by rw [e] at hy; simp only at hy; omega), push_ne _ _ _ _ (fun e => by rw [e] at hy; simp only at hy; omega)]
        rfl
      refine ⟨by omega, rfl, by simpa using hcl, ?_, (by first | omega | (simp -implicitDefEqProofs only [push_cast, sevalprocAttr, eq_self]; first | done | omega)), fun y hy hn => (hold _ _ y (by omega) hn fun e => by have := hrx _ e; omega).trans (hfr.hp y hy hn)⟩
      rw [inE_next E k x hi htk]
      refine hrw.app hca (by show h2.ep < h2.ep + 1 + 1 + 1; omega) (by omega) x ?_ ?_ ?_ ?_
      · rw [YA, put_ne _ _ _ _ (by simp), push_self]
      · exact (by first | omega | (simp -implicitDefEqProofs only [push_cast, sevalprocAttr, eq_self]; first | done | omega))
      · exact (by first | omega | (simp -implicitDefEqProofs only [push_cast, sevalprocAttr, eq_self]; first | done | omega))
      · rintro ⟨xe, xs⟩ hx1' hx2' hx3'
        simp only at hx1' hx2'
        exact hold _ _ (xe, xs) hx2' (fun e => by cases e; omega) hx3'
  · have hd : decide ((k : Int) < (E.length : Int)) = false := by simp; omega
    obtain rfl : k = E.length := by omega
    rw [List.take_length] at hrw
    have hb18 := (hfr.hp (H, 18) (by simp only; omega) (by simp)).trans hb18
    have hb20 := (hfr.hp (H, 20) (by simp only; omega) (by simp)).trans hb20
    have hbT := (hfr.hp (h0.ep + 1 + 1, 3) (by simp only; omega) (by simp)).trans hbT
    have hl18 := lenV_sl (H, 18) 0 l.length 1
    repeat' (first | ((try clear hf); with_reducible refine yE fun env K hE hK hf => ?_; have n := cj15 hE 0 1 3 4 5 6 9 10 27 28 29 30 56 57 58; simp -implicitDefEqProofs only [push_cast, reduceIte, Nat.reduceEqDiff, e0, e1, e3, e4, e5, e6, e9, e10, e27, e28, e29, e30, e56, e57, e58] at n; clear hE e0 e1 e3 e4 e5 e6 e9 e10 e27 e28 e29 e30 e56 e57 e58; obtain ⟨e0, e1, e3, e4, e5, e6, e9, e10, e27, e28, e29, e30, e56, e57, e58⟩ := n) | (with_reducible refine hK _ _ ?_; clear hK K) | (with_reducible first | (refine Zi ?_; constructor) | refine yC (by decide) ?_ | refine yJ (by assumption) ?_ | refine yL (by assumption) ?_) | (refine yD rfl ?_) | (simp -implicitDefEqProofs only [push_cast, sevalprocAttr, eq_self, e0, e1, e3, e4, e5, e6, e9, e10, e27, e28, e29, e30, e56, e57, e58, hd, hF.at, hb20, h15, hl18]) | (simp -implicitDefEqProofs (disch := omega) only [yH, yM, yI, yG, e0, e1, e3, e4, e5, e6, e9, e10, e27, e28, e29, e30, e56, e57, e58, hd, hF.at, hb20, h15, hl18]) | (with_reducible refine yO ?_ ?_) | (refine yF rfl (fun bb => ?_) (fun bb => ?_) <;> (first | have bp := oT bb | have bp := oF bb | skip) <;> simp only [bb]) | (with_reducible refine yK (fun bb => ?_) (fun bb => ?_) <;> (first | have bp := oT bb | have bp := oF bb | skip)) | ((with_reducible refine And.intro ?_ ?_); omega) | fail)
    refine yQ fun env hE => ?_; have n := cj15 hE 0 1 3 4 5 6 9 10 27 28 29 30 56 57 58; simp -implicitDefEqProofs only [push_cast, reduceIte, Nat.reduceEqDiff, e0, e1, e3, e4, e5, e6, e9, e10, e27, e28, e29, e30, e56, e57, e58] at n; clear hE e0 e1 e3 e4 e5 e6 e9 e10 e27 e28 e29 e30 e56 e57 e58; obtain ⟨e0, e1, e3, e4, e5, e6, e9, e10, e27, e28, e29, e30, e56, e57, e58⟩ := n; have E78_1_0 := e0; have E78_1_1 := e1; have E78_1_3 := e3; have E78_1_4 := e4; have E78_1_5 := e5; have E78_1_6 := e6; have E78_1_9 := e9; have E78_1_27 := e27; have E78_1_28 := e28; have E78_1_29 := e29; have E78_1_30 := e30; have E78_1_56 := e56
    refine qE (fun nn σ => ∃ (k : Nat), nn = l.length - k ∧ σ.env 0 = env 0 ∧ σ.env 1 = env 1 ∧ σ.env 3 = env 3 ∧ σ.env 4 = env 4 ∧ σ.env 5 = env 5 ∧ σ.env 6 = env 6 ∧ σ.env 9 = env 9 ∧ σ.env 27 = env 27 ∧ σ.env 28 = env 28 ∧ σ.env 29 = env 29 ∧ σ.env 30 = env 30 ∧ σ.env 56 = env 56 ∧ σ.env 57 = i64 k ∧ (k ≤ l.length ∧ σ.h.hp (H, 18) = some ⟨true, (List.replicate k (-1) ++ List.replicate (l.length - k) 0).map iC⟩ ∧ Fr1 (H, 18) h2 σ.h)) _ ⟨0, rfl, rfl, rfl, rfl, rfl, rfl, rfl, rfl, rfl, rfl, rfl, rfl, rfl, by refine e57.trans ?_; first | rfl | exact yP (by omega) | (simp -implicitDefEqProofs (disch := omega) only [yG]; first | rfl | exact yP (by omega)), ?_⟩ ?_
    · refine ⟨by omega, ?_, (by repeat (first | assumption | exact Fr1.refl _ _ | refine Fr1.tick ?_ | refine Fr1.put ?_ _ | refine Fr1.push ?_ (by omega) _))⟩
      rw [List.replicate_zero, List.nil_append, ← rep_map]
      exact hb18
    clear e0 e1 e3 e4 e5 e6 e9 e10 e27 e28 e29 e30 e56 e57 e58; rintro nn ⟨env, h3⟩ ⟨k, rfl, q0, q1, q3, q4, q5, q6, q9, q27, q28, q29, q30, q56, e57, hI⟩; simp only at q0 q1 q3 q4 q5 q6 q9 q27 q28 q29 q30 q56 e57 hI; (first | have e0 := q0.trans E78_1_0 | have e0 := True.intro); (first | have e1 := q1.trans E78_1_1 | have e1 := True.intro); (first | have e3 := q3.trans E78_1_3 | have e3 := True.intro); (first | have e4 := q4.trans E78_1_4 | have e4 := True.intro); (first | have e5 := q5.trans E78_1_5 | have e5 := True.intro); (first | have e6 := q6.trans E78_1_6 | have e6 := True.intro); (first | have e9 := q9.trans E78_1_9 | have e9 := True.intro); (first | have e27 := q27.trans E78_1_27 | have e27 := True.intro); (first | have e28 := q28.trans E78_1_28 | have e28 := True.intro); (first | have e29 := q29.trans E78_1_29 | have e29 := True.intro); (first | have e30 := q30.trans E78_1_30 | have e30 := True.intro); (first | have e56 := q56.trans E78_1_56 | have e56 := True.intro); clear q0 q1 q3 q4 q5 q6 q9 q27 q28 q29 q30 q56; have e10 := True.intro; have e58 := True.intro
    obtain ⟨hk, hb3, hfr3⟩ := hI
    unfold l78_1
    (first | refine yV fun hF => ?_ | refine qM fun hF => ?_ | refine qL fun hF => ?_)
    have hxe3 := hfr3.ep
    have hb20 := (hfr3.hp (H, 20) (by simp only; omega) (by simp)).trans hb20
    have hbT := (hfr3.hp (h0.ep + 1 + 1, 3) (by simp only; omega) (by simp)).trans hbT
    by_cases hlt : k < l.length
    · have hd : decide ((k : Int) < (l.length : Int)) = true := by simp; omega
      have hset : ∀ v, ((List.replicate k (-1) ++ List.replicate (l.length - k) 0).map iC).take k ++ [AV.lit (.int .i64 v)] ++ ((List.replicate k (-1) ++ List.replicate (l.length - k) 0).map iC).drop (k + 1) = ((List.replicate k (-1) ++ List.replicate (l.length - k) 0).set k v).map iC := fun v => set_at iC _ (by simp; omega) v
      have hlen : ((List.replicate k (-1 : Int) ++ List.replicate (l.length - k) 0).map iC).length = l.length := by simp; omega
      repeat' (first | ((try clear hf); with_reducible refine yE fun env K hE hK hf => ?_; have n := cj15 hE 0 1 3 4 5 6 9 10 27 28 29 30 56 57 58; simp -implicitDefEqProofs only [push_cast, reduceIte, Nat.reduceEqDiff, e0, e1, e3, e4, e5, e6, e9, e10, e27, e28, e29, e30, e56, e57, e58] at n; clear hE e0 e1 e3 e4 e5 e6 e9 e10 e27 e28 e29 e30 e56 e57 e58; obtain ⟨e0, e1, e3, e4, e5, e6, e9, e10, e27, e28, e29, e30, e56, e57, e58⟩ := n) | (with_reducible refine hK _ _ ?_; clear hK K) | (with_reducible first | (refine Zi ?_; constructor) | refine yC (by decide) ?_ | refine yJ (by assumption) ?_ | refine yL (by assumption) ?_) | (refine yD rfl ?_) | (simp -implicitDefEqProofs only [push_cast, sevalprocAttr, eq_self, e0, e1, e3, e4, e5, e6, e9, e10, e27, e28, e29, e30, e56, e57, e58, hd, hF.at, hb20, h15, hb3, hset, hlen]) | (simp -implicitDefEqProofs (disch := omega) only [yH, yM, yI, yG, e0, e1, e3, e4, e5, e6, e9, e10, e27, e28, e29, e30, e56, e57, e58, hd, hF.at, hb20, h15, hb3, hset, hlen]) | (with_reducible refine yO ?_ ?_) | (refine yF rfl (fun bb => ?_) (fun bb => ?_) <;> (first | have bp := oT bb | have bp := oF bb | skip) <;> simp only [bb]) | (with_reducible refine yK (fun bb => ?_) (fun bb => ?_) <;> (first | have bp := oT bb | have bp := oF bb | skip)) | ((with_reducible refine And.intro ?_ ?_); omega) | fail)
      refine ⟨_, ?_, k + 1, rfl, E78_1_0.symm, E78_1_1.symm, E78_1_3.symm, E78_1_4.symm, E78_1_5.symm, E78_1_6.symm, E78_1_9.symm, E78_1_27.symm, E78_1_28.symm, E78_1_29.symm, E78_1_30.symm, E78_1_56.symm, by first | rfl | exact yP (by omega) | (simp -implicitDefEqProofs (disch := omega) only [yG]; first | rfl | exact yP (by omega)), ?_⟩
      · omega
      · have hsetk : (List.replicate k (-1 : Int) ++ List.replicate (l.length - k) 0).set k (-1) = List.replicate (k + 1) (-1) ++ List.replicate (l.length - (k + 1)) 0 := by
          rw [List.set_append_right _ _ (by simp), List.length_replicate, Nat.sub_self, List.replicate_succ', List.append_assoc]
          congr 1
          rw [show l.length - k = (l.length - (k + 1)) + 1 by omega, List.replicate_succ]
          rfl
        exact ⟨by omega, by rw [hsetk], (((hfr3.tick.tick.tick).put _).tick)⟩
    · have hd : decide ((k : Int) < (l.length : Int)) = false := by simp; omega
      obtain rfl : k = l.length := by omega
      repeat' (first | ((try clear hf); with_reducible refine yE fun env K hE hK hf => ?_; have n := cj15 hE 0 1 3 4 5 6 9 10 27 28 29 30 56 57 58; simp -implicitDefEqProofs only [push_cast, reduceIte, Nat.reduceEqDiff, e0, e1, e3, e4, e5, e6, e9, e10, e27, e28, e29, e30, e56, e57, e58] at n; clear hE e0 e1 e3 e4 e5 e6 e9 e10 e27 e28 e29 e30 e56 e57 e58; obtain ⟨e0, e1, e3, e4, e5, e6, e9, e10, e27, e28, e29, e30, e56, e57, e58⟩ := n) | (with_reducible refine hK _ _ ?_; clear hK K) | (with_reducible first | (refine Zi ?_; constructor) | refine yC (by decide) ?_ | refine yJ (by assumption) ?_ | refine yL (by assumption) ?_) | (refine yD rfl ?_) | (simp -implicitDefEqProofs only [push_cast, sevalprocAttr, eq_self, e0, e1, e3, e4, e5, e6, e9, e10, e27, e28, e29, e30, e56, e57, e58, hd, hF.at, hb20, hbT]) | (simp -implicitDefEqProofs (disch := omega) only [yH, yM, yI, yG, e0, e1, e3, e4, e5, e6, e9, e10, e27, e28, e29, e30, e56, e57, e58, hd, hF.at, hb20, hbT]) | (with_reducible refine yO ?_ ?_) | (refine yF rfl (fun bb => ?_) (fun bb => ?_) <;> (first | have bp := oT bb | have bp := oF bb | skip) <;> simp only [bb]) | (with_reducible refine yK (fun bb => ?_) (fun bb => ?_) <;> (first | have bp := oT bb | have bp := oF bb | skip)) | ((with_reducible refine And.intro ?_ ?_); omega) | (refine YB (HC.mono (f106 t ht) ?_); rintro r h4 ⟨R, B, rfl, hrs, hRl, hBl, hx4⟩ hF4) | fail)
      have hx4' : Ext h3 h4 := ⟨by have := hx4.1; simp only [YE] at this; omega, fun y hy => hx4.2 y (by simp only [YE]; omega)⟩
      have hb20' := (hx4'.2 (H, 20) (by simp only; omega)).trans hb20
      have hle : ∀ x, (jobD l t H x).length = 17 := jobD_len l t H
      repeat' (first | ((try clear hf); with_reducible refine yE fun env K hE hK hf => ?_; have n := cj15 hE 0 1 3 4 5 6 9 10 27 28 29 30 56 57 58; simp -implicitDefEqProofs only [push_cast, reduceIte, Nat.reduceEqDiff, e0, e1, e3, e4, e5, e6, e9, e10, e27, e28, e29, e30, e56, e57, e58] at n; clear hE e0 e1 e3 e4 e5 e6 e9 e10 e27 e28 e29 e30 e56 e57 e58; obtain ⟨e0, e1, e3, e4, e5, e6, e9, e10, e27, e28, e29, e30, e56, e57, e58⟩ := n) | (with_reducible refine hK _ _ ?_; clear hK K) | (with_reducible first | (refine Zi ?_; constructor) | refine yC (by decide) ?_ | refine yJ (by assumption) ?_ | refine yL (by assumption) ?_) | (refine yD rfl ?_) | (simp -implicitDefEqProofs only [push_cast, sevalprocAttr, eq_self, e0, e1, e3, e4, e5, e6, e9, e10, e27, e28, e29, e30, e56, e57, e58, hb20', jobD_set, hle]) | (simp -implicitDefEqProofs (disch := omega) only [yH, yM, yI, yG, e0, e1, e3, e4, e5, e6, e9, e10, e27, e28, e29, e30, e56, e57, e58, hb20', jobD_set, hle]) | (with_reducible refine yO ?_ ?_) | (refine yF rfl (fun bb => ?_) (fun bb => ?_) <;> (first | have bp := oT bb | have bp := oF bb | skip) <;> simp only [bb]) | (with_reducible refine yK (fun bb => ?_) (fun bb => ?_) <;> (first | have bp := oT bb | have bp := oF bb | skip)) | ((with_reducible refine And.intro ?_ ?_); omega) | fail)
      have hall : ∀ y : Id, y.1 ≤ h1.ep → y ≠ (H, 15) → y ≠ (H, 18) → y ≠ (H, 20) → h4.hp y = h1.hp y := fun y h1' h2' h3' h4'' => by
        rw [hx4'.2 y (by omega), hfr3.hp y (by omega) h3', hfr.hp y h1' h2']
      have h4e : h3.ep ≤ h4.ep := hx4'.1
      have hRl' : h3.ep < R.1 := by simp only [YE] at hRl; omega
      have hBl' : h3.ep < B.1 := by simp only [YE] at hBl; omega
      have hn20 : ∀ y : Id, y ≠ (H, 20) → ((h4.tick.put (H, 20) (jobD l t H (.ptr R 0))).tick).hp y = h4.hp y := fun y hy => by rw [YA, put_ne _ _ _ _ hy, YA]
      have hge : ((h4.tick.put (H, 20) (jobD l t H (.ptr R 0))).tick).ep = h4.ep + 1 + 1 := rfl
      refine ⟨H, c, R, B, rfl, by omega, ⟨by rw [YA, put_self]; rfl, ?_, ?_, hcl, by simp, ?_, ?_, by omega, by omega⟩, ⟨by omega, fun y hy => ?_⟩⟩
      · rw [hn20 _ (by simp), hx4'.2 (H, 15) (by simp only; omega), hfr3.hp (H, 15) (by simp only; omega) (by simp)]
        exact hb
      · rw [hn20 _ (by simp), hx4'.2 (H, 18) (by simp only; omega), hb3]
        simp
      · have := hrw.keep (g := (h4.tick.put (H, 20) (jobD l t H (.ptr R 0))).tick) (fun x hx1 hx2 => by
          rw [hn20 _ (fun e => by rw [e] at hx1; simp only at hx1; omega), hx4'.2 x (by omega), hfr3.hp x hx2 (fun e => by rw [e] at hx1; simp only at hx1; omega)]) (by omega)
        exact ⟨fun i a hi => ⟨(this.get i a hi).1, fun x hx => by have := (this.get i a hi).2 x hx; omega⟩, this.sep⟩
      · exact hrs.keep (hn20 _ (fun e => by rw [e] at hRl'; simp only at hRl'; omega)) rfl (by omega)
      · rw [hn20 _ (fun e => by rw [e] at hy; simp only at hy; omega), hall y (by omega) (fun e => by rw [e] at hy; simp only at hy; omega) (fun e => by rw [e] at hy; simp only at hy; omega) (fun e => by rw [e] at hy; simp only at hy; omega)]
        exact hx0.2 y hy
end Go.Proofs.Hx

set_option linter.unusedVariables false
set_option linter.unusedSimpArgs false
namespace Go.Proofs.Hx
open Go Go.Proofs
attribute [local irreducible] yS awp opK goV goM qB yZ qH yW HV HVF HC
/-! ### list.Check -/
/-- How many units of the class c the first k operations use in the cycle y. -/
def useN (l : List Opn) (t : Tab) (cs : List Int) : Nat → Int → Int → Int
  | 0, _, _ => 0
  | k + 1, c, y => useN l t cs k c y + if c = (clsN (opAt l k) : Int) ∧ cs.getD k 0 ≤ y ∧ y < cs.getD k 0 + t.b (clsN (opAt l k)) then 1 else 0
theorem useN_bnd (l : List Opn) (t : Tab) (cs : List Int) : ∀ (k : Nat) (c y : Int), 0 ≤ useN l t cs k c y ∧ useN l t cs k c y ≤ k
  | 0, c, y => by simp [useN]
  | k + 1, c, y => by
    have := useN_bnd l t cs k c y
    simp only [useN]
    split <;> omega
/-- There is room for the k-th, when those ahead of it have been put. -/
def roomK (l : List Opn) (t : Tab) (cs : List Int) (k : Nat) : Prop := ∀ j : Nat, (j : Int) < t.b (clsN (opAt l k)) → useN l t cs k (clsN (opAt l k)) (cs.getD k 0 + j) + 1 ≤ t.u (clsN (opAt l k))
/-- A schedule keeps everything. -/
def checkP (l : List Opn) (t : Tab) (cs : List Int) : Prop := errR l t = 0 ∧ lackB l t = false ∧ cs.length = l.length ∧ (∀ x ∈ cs, 0 ≤ x ∧ x ≤ 65536) ∧ ∀ k < l.length, thereB (inE (onceE l t l.length) k) cs (cs.getD k 0) = true ∧ roomK l t cs k
open Classical in
noncomputable def checkB (l : List Opn) (t : Tab) (cs : List Int) : Bool := decide (checkP l t cs)
open Classical in
theorem checkB_t {l : List Opn} {t : Tab} {cs : List Int} (h : checkP l t cs) : checkB l t cs = true := by unfold checkB; exact dT h
open Classical in
theorem checkB_f {l : List Opn} {t : Tab} {cs : List Int} (h : ¬ checkP l t cs) : checkB l t cs = false := by unfold checkB; exact dF h
theorem JobH.setc {h g : Hp} {E : Nat} {c : List AV} {R B : Id} {l : List Opn} {t : Tab} {ES : List Edg} {cs cs' : List Int} {m : List ((Int × Int) × Int)} (j : JobH h E c R B l t ES cs m) (hg : g.hp (E, 18) = some ⟨true, cs'.map iC⟩) (hl : cs'.length = cs.length)
    (hx : ∀ y : Id, y.1 ≤ h.ep → y ≠ (E, 18) → g.hp y = h.hp y) (hm : g.mp B = h.mp B) (he : h.ep ≤ g.ep) : JobH g E c R B l t ES cs' m :=
  ⟨(hx _ j.lE (by simp)).trans j.hj, (hx _ j.lE (by simp)).trans j.hr, hg, j.lc, hl.trans j.ls, j.rw.keep (fun x h1 h2 => hx x h2 (fun e => by rw [e] at h1; simp only at h1; omega)) he,
    j.rs.keep (hx _ j.rs.le (fun e => by have := j.lR; rw [e] at this; simp only at this; omega)) hm he, j.lR, Nat.le_trans j.lE he⟩
/-- The units change, the rest stays. -/
theorem JobH.took {h g : Hp} {E : Nat} {c : List AV} {R B : Id} {l : List Opn} {t : Tab} {ES : List Edg} {cs : List Int} {m m' : List ((Int × Int) × Int)} (j : JobH h E c R B l t ES cs m) (he : Ext h g) (hr : RsvH g R B t m') : JobH g E c R B l t ES cs m' :=
  ⟨(he.2 _ j.lE).trans j.hj, (he.2 _ j.lE).trans j.hr, (he.2 _ j.lE).trans j.hc, j.lc, j.ls, j.rw.ext he, hr, j.lR, Nat.le_trans j.lE he.1⟩
/-- Cycles as a value: a row, or nil. -/
def CycA (a : AV) (cs : List Int) : Prop := a = .row (cs.map intC) ∨ (a = .nil ∧ cs = [])
theorem CycA.row (cs : List Int) : CycA (.row (cs.map intC)) cs := .inl rfl
theorem CycA.imm {a : AV} {cs : List Int} (h : CycA a cs) : imm a = true := by
  rcases h with rfl | ⟨rfl, rfl⟩
  · simp [Hx.imm, ints_imms]
  · rfl
theorem CycA.len {a : AV} {cs : List Int} (h : CycA a cs) : lenV a = some (.lit (.int .i64 (cs.length : Int))) := by
  rcases h with rfl | ⟨rfl, rfl⟩
  · exact yU _ _
  · exact lenV_nil
theorem CycA.at {a : AV} {cs : List Int} (h : CycA a cs) {k : Nat} (hk : k < cs.length) : YJ none 1 a (i64 k) = some (.ip [i64 (cs.getD k 0)]) := by
  rcases h with rfl | ⟨rfl, rfl⟩
  · exact int_at hk .i64
  · simp at hk
theorem chk_T (t : Tab) {h1 : Hp} (hx : Ext (emp.tick.tick.push (2, 4) (tabC t)).tick h1) : h1.hp (2, 4) = some ⟨true, tabC t⟩ := by
  rw [hx.2 (2, 4) (Nat.le_succ 2), YA, push_self]
set_option maxHeartbeats 1000000 in
theorem f46 (l : List Opn) (t : Tab) (cs : List Int) (hl : ∀ o ∈ l, o.ok) (hcn : cs.length ≤ 100000000000000) {ca : AV} (hca : CycA ca cs) :
    HV Try.prog 46 [.row (l.map opC), .agg (tabC t), ca] (bl (checkB l t cs)) := by
  refine yT yX cf46 (by simp) (by simp [imms, imm, tab_imms, qK, hca.imm]) ?_ rfl
  have hcl := hca.len
  unfold ac46 re46
  refine yQ fun env hE => ?_; obtain ⟨e0, e1, e2, e4, e6, e8, e9, e10, e11, e12, e13, e37, e38, e39, e40, e58, e59, e60, e61⟩ := cj19 hE 0 1 2 4 6 8 9 10 11 12 13 37 38 39 40 58 59 60 61; simp -implicitDefEqProofs only [push_cast] at e0 e1 e2 e4 e6 e8 e9 e10 e11 e12 e13 e37 e38 e39 e40 e58 e59 e60 e61; clear hE
  by_cases hR : errR l t = 0
  · obtain ⟨ht, hn, hop⟩ := errR_ok hR
    have hbT := hR
    by_cases hlk : lackB l t = false
    · by_cases hln : cs.length = l.length
      · have hE := onceE_ok (l := l) ht l.length
        have hEl := onceE_len l t l.length l.length (Nat.le_refl _)
        have hdn : decide (¬ (cs.length : Int) = (l.length : Int)) = false := dF (by omega)
        repeat' (first | ((try clear hf); with_reducible refine yE fun env K hE hK hf => ?_; have n := cj19 hE 0 1 2 4 6 8 9 10 11 12 13 37 38 39 40 58 59 60 61; simp -implicitDefEqProofs only [push_cast, reduceIte, Nat.reduceEqDiff, e0, e1, e2, e4, e6, e8, e9, e10, e11, e12, e13, e37, e38, e39, e40, e58, e59, e60, e61] at n; clear hE e0 e1 e2 e4 e6 e8 e9 e10 e11 e12 e13 e37 e38 e39 e40 e58 e59 e60 e61; obtain ⟨e0, e1, e2, e4, e6, e8, e9, e10, e11, e12, e13, e37, e38, e39, e40, e58, e59, e60, e61⟩ := n) | (with_reducible refine hK _ _ ?_; clear hK K) | (with_reducible first | (refine Zi ?_; constructor) | refine yC (by decide) ?_ | refine yJ (by assumption) ?_ | refine yL (by assumption) ?_) | (refine yD rfl ?_) | (simp -implicitDefEqProofs only [push_cast, sevalprocAttr, eq_self, e0, e1, e2, e4, e6, e8, e9, e10, e11, e12, e13, e37, e38, e39, e40, e58, e59, e60, e61, yU, hcl, hbT, hlk, hdn]) | (simp -implicitDefEqProofs (disch := omega) only [yH, yM, yI, yG, e0, e1, e2, e4, e6, e8, e9, e10, e11, e12, e13, e37, e38, e39, e40, e58, e59, e60, e61, yU, hcl, hbT, hlk, hdn]) | (with_reducible refine yO ?_ ?_) | (refine yF rfl (fun bb => ?_) (fun bb => ?_) <;> (first | have bp := oT bb | have bp := oF bb | skip) <;> simp only [bb]) | (with_reducible refine yK (fun bb => ?_) (fun bb => ?_) <;> (first | have bp := oT bb | have bp := oF bb | skip)) | ((with_reducible refine And.intro ?_ ?_); omega) | (refine YB (HC.mono (of_all hl) ?_); rintro r h1 ⟨hx, hr⟩ hF1; obtain ⟨_, out, hr, hO⟩ := hr.resolve_left (fun h => h.1 hR); subst hr; have hbT := chk_T t hx) | (refine yN (f77 l t hn) ?_) | (refine YB (HC.mono (f78 hl hR) ?_); rintro r h2 ⟨E, c, R, B, rfl, hEp, j, hx2⟩ hF2) | fail)
        generalize hES : onceE l t l.length = ES at *
        refine yQ fun env hE => ?_; have n := cj19 hE 0 1 2 4 6 8 9 10 11 12 13 37 38 39 40 58 59 60 61; simp -implicitDefEqProofs only [push_cast, reduceIte, Nat.reduceEqDiff, e0, e1, e2, e4, e6, e8, e9, e10, e11, e12, e13, e37, e38, e39, e40, e58, e59, e60, e61] at n; clear hE e0 e1 e2 e4 e6 e8 e9 e10 e11 e12 e13 e37 e38 e39 e40 e58 e59 e60 e61; obtain ⟨e0, e1, e2, e4, e6, e8, e9, e10, e11, e12, e13, e37, e38, e39, e40, e58, e59, e60, e61⟩ := n; have E46_0_0 := e0; have E46_0_1 := e1; have E46_0_2 := e2; have E46_0_4 := e4; have E46_0_8 := e8; have E46_0_9 := e9; have E46_0_37 := e37; have E46_0_38 := e38
        refine qE (fun nn σ => ∃ (k : Nat), nn = cs.length - k ∧ σ.env 0 = env 0 ∧ σ.env 1 = env 1 ∧ σ.env 2 = env 2 ∧ σ.env 4 = env 4 ∧ σ.env 8 = env 8 ∧ σ.env 9 = env 9 ∧ σ.env 37 = env 37 ∧ σ.env 38 = env 38 ∧ σ.env 39 = i64 k ∧ (k ≤ cs.length ∧ (∀ x ∈ cs.take k, 0 ≤ x ∧ x ≤ 65536) ∧ JobH σ.h E c R B l t ES (cs.take k ++ List.replicate (l.length - k) (-1)) [])) _ ⟨0, rfl, rfl, rfl, rfl, rfl, rfl, rfl, rfl, rfl, by refine e39.trans ?_; first | rfl | exact yP (by omega) | (simp -implicitDefEqProofs (disch := omega) only [yG]; first | rfl | exact yP (by omega)), ?_⟩ ?_
        · refine ⟨by omega, by simp, ?_⟩
          rw [List.take_zero, List.nil_append, Nat.sub_zero]
          exact j.ext (by repeat (first | exact Ext.refl _ | assumption | refine Ext.tick ?_ | refine Ext.push ?_ (by omega) _ | refine Ext.put ?_ (by omega) _ | refine Ext.kill ?_ (by omega) | refine Ext.killA ?_ (by assumption) | refine Ext.setm ?_ _ _)) rfl
        clear hF1 hF2 hx2 hx
        clear j
        clear e0 e1 e2 e4 e6 e8 e9 e10 e11 e12 e13 e37 e38 e39 e40 e58 e59 e60 e61; rintro nn ⟨env, h3⟩ ⟨k, rfl, q0, q1, q2, q4, q8, q9, q37, q38, e39, hI⟩; simp only at q0 q1 q2 q4 q8 q9 q37 q38 e39 hI; (first | have e0 := q0.trans E46_0_0 | have e0 := True.intro); (first | have e1 := q1.trans E46_0_1 | have e1 := True.intro); (first | have e2 := q2.trans E46_0_2 | have e2 := True.intro); (first | have e4 := q4.trans E46_0_4 | have e4 := True.intro); (first | have e8 := q8.trans E46_0_8 | have e8 := True.intro); (first | have e9 := q9.trans E46_0_9 | have e9 := True.intro); (first | have e37 := q37.trans E46_0_37 | have e37 := True.intro); (first | have e38 := q38.trans E46_0_38 | have e38 := True.intro); clear q0 q1 q2 q4 q8 q9 q37 q38; have e6 := True.intro; have e10 := True.intro; have e11 := True.intro; have e12 := True.intro; have e13 := True.intro; have e40 := True.intro; have e58 := True.intro; have e59 := True.intro; have e60 := True.intro; have e61 := True.intro
        obtain ⟨hk, hin, j⟩ := hI
        unfold l46_0
        (first | refine yV fun hF => ?_ | refine qM fun hF => ?_ | refine qL fun hF => ?_)
        by_cases hlt : k < cs.length
        · have hd : decide ((k : Int) < (cs.length : Int)) = true := dT (by omega)
          have hr := hca.at hlt
          have htk : cs.take (k + 1) = cs.take k ++ [cs.getD k 0] := by rw [List.take_succ_eq_append_getElem hlt, List.getD_eq_getElem?_getD, List.getElem?_eq_getElem hlt]; rfl
          have hmem : cs.getD k 0 ∈ cs := by rw [List.getD_eq_getElem?_getD, List.getElem?_eq_getElem hlt]; exact List.getElem_mem hlt
          generalize hv : cs.getD k 0 = v at *
          by_cases hok : 0 ≤ v ∧ v ≤ 65536
          · have d1 : decide (v < 0) = false := dF (by omega)
            have d2 : decide (65536 < v) = false := dF (by omega)
            have hj := j.hj
            have hc := j.hc
            have h15 := jobC_15 l t E R
            have hset : ∀ v, ((cs.take k ++ List.replicate (l.length - k) (-1)).map iC).take k ++ [AV.lit (.int .i64 v)] ++ ((cs.take k ++ List.replicate (l.length - k) (-1)).map iC).drop (k + 1) = ((cs.take k ++ List.replicate (l.length - k) (-1)).set k v).map iC := fun v => set_at iC _ (by simp; omega) v
            have hlen : ((cs.take k ++ List.replicate (l.length - k) (-1)).map iC).length = l.length := by simp; omega
            have hkl : (k : Int) < (l.length : Int) := by omega
            repeat' (first | ((try clear hf); with_reducible refine yE fun env K hE hK hf => ?_; have n := cj19 hE 0 1 2 4 6 8 9 10 11 12 13 37 38 39 40 58 59 60 61; simp -implicitDefEqProofs only [push_cast, reduceIte, Nat.reduceEqDiff, e0, e1, e2, e4, e6, e8, e9, e10, e11, e12, e13, e37, e38, e39, e40, e58, e59, e60, e61] at n; clear hE e0 e1 e2 e4 e6 e8 e9 e10 e11 e12 e13 e37 e38 e39 e40 e58 e59 e60 e61; obtain ⟨e0, e1, e2, e4, e6, e8, e9, e10, e11, e12, e13, e37, e38, e39, e40, e58, e59, e60, e61⟩ := n) | (with_reducible refine hK _ _ ?_; clear hK K) | (with_reducible first | (refine Zi ?_; constructor) | refine yC (by decide) ?_ | refine yJ (by assumption) ?_ | refine yL (by assumption) ?_) | (refine yD rfl ?_) | (simp -implicitDefEqProofs only [push_cast, sevalprocAttr, eq_self, e0, e1, e2, e4, e6, e8, e9, e10, e11, e12, e13, e37, e38, e39, e40, e58, e59, e60, e61, hd, hF.at, hr, d1, d2, hj, h15, hc, hset, hlen]) | (simp -implicitDefEqProofs (disch := omega) only [yH, yM, yI, yG, e0, e1, e2, e4, e6, e8, e9, e10, e11, e12, e13, e37, e38, e39, e40, e58, e59, e60, e61, hd, hF.at, hr, d1, d2, hj, h15, hc, hset, hlen]) | (with_reducible refine yO ?_ ?_) | (refine yF rfl (fun bb => ?_) (fun bb => ?_) <;> (first | have bp := oT bb | have bp := oF bb | skip) <;> simp only [bb]) | (with_reducible refine yK (fun bb => ?_) (fun bb => ?_) <;> (first | have bp := oT bb | have bp := oF bb | skip)) | ((with_reducible refine And.intro ?_ ?_); omega) | fail)
            refine ⟨_, ?_, k + 1, rfl, E46_0_0.symm, E46_0_1.symm, E46_0_2.symm, E46_0_4.symm, E46_0_8.symm, E46_0_9.symm, E46_0_37.symm, E46_0_38.symm, by first | rfl | exact yP (by omega) | (simp -implicitDefEqProofs (disch := omega) only [yG]; first | rfl | exact yP (by omega)), ?_⟩
            · omega
            · have hsetk : (cs.take k ++ List.replicate (l.length - k) (-1)).set k v = cs.take (k + 1) ++ List.replicate (l.length - (k + 1)) (-1) := by
                rw [List.set_append_right _ _ (by simp; omega), htk, List.append_assoc, List.length_take, show k - min k cs.length = 0 by omega]
                congr 1
                rw [show l.length - k = (l.length - (k + 1)) + 1 by omega, List.replicate_succ]
                rfl
              refine ⟨by omega, ?_, ?_⟩
              · rw [htk]
                intro x hx
                simp only [List.mem_append, List.mem_singleton] at hx
                rcases hx with hx | hx
                · exact hin x hx
                · subst hx; exact hok
              · rw [← hsetk]
                refine j.setc ?_ (by simp) (fun y hy hn => ?_) rfl (by first | omega | (simp -implicitDefEqProofs only [push_cast, sevalprocAttr, eq_self]; first | done | omega))
                · rw [YA, put_self]
                · rw [YA, put_ne _ _ _ _ hn]
                  rfl
          · have hE : checkB l t cs = false := checkB_f fun h => hok (h.2.2.2.1 v hmem)
            by_cases hv0 : v < 0
            · have d1 : decide (v < 0) = true := dT hv0
              repeat' (first | ((try clear hf); with_reducible refine yE fun env K hE hK hf => ?_; have n := cj19 hE 0 1 2 4 6 8 9 10 11 12 13 37 38 39 40 58 59 60 61; simp -implicitDefEqProofs only [push_cast, reduceIte, Nat.reduceEqDiff, e0, e1, e2, e4, e6, e8, e9, e10, e11, e12, e13, e37, e38, e39, e40, e58, e59, e60, e61] at n; clear hE e0 e1 e2 e4 e6 e8 e9 e10 e11 e12 e13 e37 e38 e39 e40 e58 e59 e60 e61; obtain ⟨e0, e1, e2, e4, e6, e8, e9, e10, e11, e12, e13, e37, e38, e39, e40, e58, e59, e60, e61⟩ := n) | (with_reducible refine hK _ _ ?_; clear hK K) | (with_reducible first | (refine Zi ?_; constructor) | refine yC (by decide) ?_ | refine yJ (by assumption) ?_ | refine yL (by assumption) ?_) | (refine yD rfl ?_) | (simp -implicitDefEqProofs only [push_cast, sevalprocAttr, eq_self, e0, e1, e2, e4, e6, e8, e9, e10, e11, e12, e13, e37, e38, e39, e40, e58, e59, e60, e61, hd, hF.at, hr, d1, hE]) | (simp -implicitDefEqProofs (disch := omega) only [yH, yM, yI, yG, e0, e1, e2, e4, e6, e8, e9, e10, e11, e12, e13, e37, e38, e39, e40, e58, e59, e60, e61, hd, hF.at, hr, d1, hE]) | (with_reducible refine yO ?_ ?_) | (refine yF rfl (fun bb => ?_) (fun bb => ?_) <;> (first | have bp := oT bb | have bp := oF bb | skip) <;> simp only [bb]) | (with_reducible refine yK (fun bb => ?_) (fun bb => ?_) <;> (first | have bp := oT bb | have bp := oF bb | skip)) | ((with_reducible refine And.intro ?_ ?_); omega) | fail)
            · have d1 : decide (v < 0) = false := dF hv0
              have d2 : decide (65536 < v) = true := dT (by omega)
              repeat' (first | ((try clear hf); with_reducible refine yE fun env K hE hK hf => ?_; have n := cj19 hE 0 1 2 4 6 8 9 10 11 12 13 37 38 39 40 58 59 60 61; simp -implicitDefEqProofs only [push_cast, reduceIte, Nat.reduceEqDiff, e0, e1, e2, e4, e6, e8, e9, e10, e11, e12, e13, e37, e38, e39, e40, e58, e59, e60, e61] at n; clear hE e0 e1 e2 e4 e6 e8 e9 e10 e11 e12 e13 e37 e38 e39 e40 e58 e59 e60 e61; obtain ⟨e0, e1, e2, e4, e6, e8, e9, e10, e11, e12, e13, e37, e38, e39, e40, e58, e59, e60, e61⟩ := n) | (with_reducible refine hK _ _ ?_; clear hK K) | (with_reducible first | (refine Zi ?_; constructor) | refine yC (by decide) ?_ | refine yJ (by assumption) ?_ | refine yL (by assumption) ?_) | (refine yD rfl ?_) | (simp -implicitDefEqProofs only [push_cast, sevalprocAttr, eq_self, e0, e1, e2, e4, e6, e8, e9, e10, e11, e12, e13, e37, e38, e39, e40, e58, e59, e60, e61, hd, hF.at, hr, d1, d2, hE]) | (simp -implicitDefEqProofs (disch := omega) only [yH, yM, yI, yG, e0, e1, e2, e4, e6, e8, e9, e10, e11, e12, e13, e37, e38, e39, e40, e58, e59, e60, e61, hd, hF.at, hr, d1, d2, hE]) | (with_reducible refine yO ?_ ?_) | (refine yF rfl (fun bb => ?_) (fun bb => ?_) <;> (first | have bp := oT bb | have bp := oF bb | skip) <;> simp only [bb]) | (with_reducible refine yK (fun bb => ?_) (fun bb => ?_) <;> (first | have bp := oT bb | have bp := oF bb | skip)) | ((with_reducible refine And.intro ?_ ?_); omega) | fail)
        · have hd : decide ((k : Int) < (cs.length : Int)) = false := dF (by omega)
          obtain rfl : k = cs.length := by omega
          rw [List.take_length] at hin
          rw [List.take_length, hln, Nat.sub_self, List.replicate_zero, List.append_nil] at j
          have hu := useN_bnd l t cs
          repeat' (first | ((try clear hf); with_reducible refine yE fun env K hE hK hf => ?_; have n := cj19 hE 0 1 2 4 6 8 9 10 11 12 13 37 38 39 40 58 59 60 61; simp -implicitDefEqProofs only [push_cast, reduceIte, Nat.reduceEqDiff, e0, e1, e2, e4, e6, e8, e9, e10, e11, e12, e13, e37, e38, e39, e40, e58, e59, e60, e61] at n; clear hE e0 e1 e2 e4 e6 e8 e9 e10 e11 e12 e13 e37 e38 e39 e40 e58 e59 e60 e61; obtain ⟨e0, e1, e2, e4, e6, e8, e9, e10, e11, e12, e13, e37, e38, e39, e40, e58, e59, e60, e61⟩ := n) | (with_reducible refine hK _ _ ?_; clear hK K) | (with_reducible first | (refine Zi ?_; constructor) | refine yC (by decide) ?_ | refine yJ (by assumption) ?_ | refine yL (by assumption) ?_) | (refine yD rfl ?_) | (simp -implicitDefEqProofs only [push_cast, sevalprocAttr, eq_self, e0, e1, e2, e4, e6, e8, e9, e10, e11, e12, e13, e37, e38, e39, e40, e58, e59, e60, e61, hd, hF.at, yU, hcl]) | (simp -implicitDefEqProofs (disch := omega) only [yH, yM, yI, yG, e0, e1, e2, e4, e6, e8, e9, e10, e11, e12, e13, e37, e38, e39, e40, e58, e59, e60, e61, hd, hF.at, yU, hcl]) | (with_reducible refine yO ?_ ?_) | (refine yF rfl (fun bb => ?_) (fun bb => ?_) <;> (first | have bp := oT bb | have bp := oF bb | skip) <;> simp only [bb]) | (with_reducible refine yK (fun bb => ?_) (fun bb => ?_) <;> (first | have bp := oT bb | have bp := oF bb | skip)) | ((with_reducible refine And.intro ?_ ?_); omega) | fail)
          refine yQ fun env hE => ?_; have n := cj19 hE 0 1 2 4 6 8 9 10 11 12 13 37 38 39 40 58 59 60 61; simp -implicitDefEqProofs only [push_cast, reduceIte, Nat.reduceEqDiff, e0, e1, e2, e4, e6, e8, e9, e10, e11, e12, e13, e37, e38, e39, e40, e58, e59, e60, e61] at n; clear hE e0 e1 e2 e4 e6 e8 e9 e10 e11 e12 e13 e37 e38 e39 e40 e58 e59 e60 e61; obtain ⟨e0, e1, e2, e4, e6, e8, e9, e10, e11, e12, e13, e37, e38, e39, e40, e58, e59, e60, e61⟩ := n; have E46_1_0 := e0; have E46_1_1 := e1; have E46_1_2 := e2; have E46_1_4 := e4; have E46_1_8 := e8; have E46_1_9 := e9; have E46_1_10 := e10; have E46_1_11 := e11; have E46_1_37 := e37; have E46_1_38 := e38; have E46_1_39 := e39; have E46_1_40 := e40; have E46_1_58 := e58; have E46_1_59 := e59
          refine qE (fun nn σ => ∃ (k : Nat) (m : List ((Int × Int) × Int)), nn = l.length - k ∧ σ.env 0 = env 0 ∧ σ.env 1 = env 1 ∧ σ.env 2 = env 2 ∧ σ.env 4 = env 4 ∧ σ.env 8 = env 8 ∧ σ.env 9 = env 9 ∧ σ.env 10 = env 10 ∧ σ.env 11 = env 11 ∧ σ.env 37 = env 37 ∧ σ.env 38 = env 38 ∧ σ.env 39 = env 39 ∧ σ.env 40 = env 40 ∧ σ.env 58 = env 58 ∧ σ.env 59 = env 59 ∧ σ.env 60 = i64 k ∧ (k ≤ l.length ∧ (∀ i < k, thereB (inE ES i) cs (cs.getD i 0) = true ∧ roomK l t cs i) ∧ (∀ c y, cntM m c y = useN l t cs k c y) ∧ JobH σ.h E c R B l t ES cs m)) _ ⟨0, [], rfl, rfl, rfl, rfl, rfl, rfl, rfl, rfl, rfl, rfl, rfl, rfl, rfl, rfl, rfl, by refine e60.trans ?_; first | rfl | exact yP (by omega) | (simp -implicitDefEqProofs (disch := omega) only [yG]; first | rfl | exact yP (by omega)), ?_⟩ ?_
          · exact ⟨by omega, fun i hi => by omega, fun _ _ => rfl, j.ext (by repeat (first | exact Ext.refl _ | assumption | refine Ext.tick ?_ | refine Ext.push ?_ (by omega) _ | refine Ext.put ?_ (by omega) _ | refine Ext.kill ?_ (by omega) | refine Ext.killA ?_ (by assumption) | refine Ext.setm ?_ _ _)) rfl⟩
          clear j
          clear e0 e1 e2 e4 e6 e8 e9 e10 e11 e12 e13 e37 e38 e39 e40 e58 e59 e60 e61; rintro nn ⟨env, h4⟩ ⟨k, m, rfl, q0, q1, q2, q4, q8, q9, q10, q11, q37, q38, q39, q40, q58, q59, e60, hI⟩; simp only at q0 q1 q2 q4 q8 q9 q10 q11 q37 q38 q39 q40 q58 q59 e60 hI; (first | have e0 := q0.trans E46_1_0 | have e0 := True.intro); (first | have e1 := q1.trans E46_1_1 | have e1 := True.intro); (first | have e2 := q2.trans E46_1_2 | have e2 := True.intro); (first | have e4 := q4.trans E46_1_4 | have e4 := True.intro); (first | have e8 := q8.trans E46_1_8 | have e8 := True.intro); (first | have e9 := q9.trans E46_1_9 | have e9 := True.intro); (first | have e10 := q10.trans E46_1_10 | have e10 := True.intro); (first | have e11 := q11.trans E46_1_11 | have e11 := True.intro); (first | have e37 := q37.trans E46_1_37 | have e37 := True.intro); (first | have e38 := q38.trans E46_1_38 | have e38 := True.intro); (first | have e39 := q39.trans E46_1_39 | have e39 := True.intro); (first | have e40 := q40.trans E46_1_40 | have e40 := True.intro); (first | have e58 := q58.trans E46_1_58 | have e58 := True.intro); (first | have e59 := q59.trans E46_1_59 | have e59 := True.intro); clear q0 q1 q2 q4 q8 q9 q10 q11 q37 q38 q39 q40 q58 q59; have e6 := True.intro; have e12 := True.intro; have e13 := True.intro; have e61 := True.intro
          obtain ⟨hk, hall, hcnt, j⟩ := hI
          unfold l46_1
          (first | refine yV fun hF => ?_ | refine qM fun hF => ?_ | refine qL fun hF => ?_)
          by_cases hlt : k < l.length
          · have hd : decide ((k : Int) < (cs.length : Int)) = true := dT (by omega)
            have hr := hca.at (k := k) (by omega)
            have hro := qU hlt .i64
            have hc4 := clsN_lt l[k]
            have hop := qR hlt
            have hmul : 5 * l.length * l.length ≤ 5 * 1024 * 1024 := Nat.mul_le_mul (by omega) (by omega)
            have hj := j.hj
            have h16 := jobC_16 l t E R
            have hmem : cs.getD k 0 ∈ cs := by rw [List.getD_eq_getElem?_getD, List.getElem?_eq_getElem (by omega)]; exact List.getElem_mem _
            have hroom : roomP t m (clsN l[k]) (cs.getD k 0) ↔ roomK l t cs k := by
              have := hin _ hmem
              unfold roomP roomK
              rw [hop]
              simp only [hcnt]
              exact ⟨fun h => h.2.2, fun h => ⟨this.1, this.2, h⟩⟩
            by_cases hth : thereB (inE ES k) cs (cs.getD k 0) = true
            · by_cases hrm : roomP t m (clsN l[k]) (cs.getD k 0)
              · have hrb := roomB_t hrm
                repeat' (first | ((try clear hf); with_reducible refine yE fun env K hE hK hf => ?_; have n := cj19 hE 0 1 2 4 6 8 9 10 11 12 13 37 38 39 40 58 59 60 61; simp -implicitDefEqProofs only [push_cast, reduceIte, Nat.reduceEqDiff, e0, e1, e2, e4, e6, e8, e9, e10, e11, e12, e13, e37, e38, e39, e40, e58, e59, e60, e61] at n; clear hE e0 e1 e2 e4 e6 e8 e9 e10 e11 e12 e13 e37 e38 e39 e40 e58 e59 e60 e61; obtain ⟨e0, e1, e2, e4, e6, e8, e9, e10, e11, e12, e13, e37, e38, e39, e40, e58, e59, e60, e61⟩ := n) | (with_reducible refine hK _ _ ?_; clear hK K) | (with_reducible first | (refine Zi ?_; constructor) | refine yC (by decide) ?_ | refine yJ (by assumption) ?_ | refine yL (by assumption) ?_) | (refine yD rfl ?_) | (simp -implicitDefEqProofs only [push_cast, sevalprocAttr, eq_self, e0, e1, e2, e4, e6, e8, e9, e10, e11, e12, e13, e37, e38, e39, e40, e58, e59, e60, e61, hd, hF.at, hr, hro, hj, h16, hth, hrb]) | (simp -implicitDefEqProofs (disch := omega) only [yH, yM, yI, yG, e0, e1, e2, e4, e6, e8, e9, e10, e11, e12, e13, e37, e38, e39, e40, e58, e59, e60, e61, hd, hF.at, hr, hro, hj, h16, hth, hrb]) | (with_reducible refine yO ?_ ?_) | (refine yF rfl (fun bb => ?_) (fun bb => ?_) <;> (first | have bp := oT bb | have bp := oF bb | skip) <;> simp only [bb]) | (with_reducible refine yK (fun bb => ?_) (fun bb => ?_) <;> (first | have bp := oT bb | have bp := oF bb | skip)) | ((with_reducible refine And.intro ?_ ?_); omega) | (refine YB (HC.mono (f79 (R := R) (B := B) (c := c) (ES := ES) (cs := cs) (m := m) (i := k) (y := cs.getD k 0) (by exact j.ext (by repeat (first | exact Ext.refl _ | assumption | refine Ext.tick ?_ | refine Ext.push ?_ (by omega) _ | refine Ext.put ?_ (by omega) _ | refine Ext.kill ?_ (by omega) | refine Ext.killA ?_ (by assumption) | refine Ext.setm ?_ _ _)) rfl) hlt hE (fun x hx => by have := hin x hx; omega) (by omega)) ?_); rintro r g ⟨rfl, j2, hx2⟩ hF2; have hj := j2.hj) | (refine call_immq (f81 _) ?_) | (refine YB (HC.mono (f80 (R := R) (B := B) (t := t) (m := m) (c := clsN l[k]) (y := cs.getD k 0) (by exact j2.rs.ext (by repeat (first | exact Ext.refl _ | assumption | refine Ext.tick ?_ | refine Ext.push ?_ (by omega) _ | refine Ext.put ?_ (by omega) _ | refine Ext.kill ?_ (by omega) | refine Ext.killA ?_ (by assumption) | refine Ext.setm ?_ _ _)) rfl) ht hc4 (fun c y => by rw [hcnt]; have := hu k c y; omega)) ?_); rintro r g2 ⟨rfl, ⟨m', hr2, hm1, hm2⟩, hx3⟩ hF3) | fail)
                refine ⟨_, ?_, k + 1, m', rfl, E46_1_0.symm, E46_1_1.symm, E46_1_2.symm, E46_1_4.symm, E46_1_8.symm, E46_1_9.symm, E46_1_10.symm, E46_1_11.symm, E46_1_37.symm, E46_1_38.symm, E46_1_39.symm, E46_1_40.symm, E46_1_58.symm, E46_1_59.symm, by first | rfl | exact yP (by omega) | (simp -implicitDefEqProofs (disch := omega) only [yG]; first | rfl | exact yP (by omega)), ?_⟩
                · omega
                · have hx4 : Ext g g2 := ⟨by have := hx3.1; simp only [YE] at this; omega, fun y hy => hx3.2 y (by simp only [YE]; omega)⟩
                  refine ⟨by omega, fun i hi => ?_, fun c' y' => ?_, (j2.took hx4 hr2).ext (by repeat (first | exact Ext.refl _ | assumption | refine Ext.tick ?_ | refine Ext.push ?_ (by omega) _ | refine Ext.put ?_ (by omega) _ | refine Ext.kill ?_ (by omega) | refine Ext.killA ?_ (by assumption) | refine Ext.setm ?_ _ _)) rfl⟩
                  · by_cases e : i = k
                    · subst e; exact ⟨hth, hroom.1 hrm⟩
                    · exact hall i (by omega)
                  · rw [hm1 hrm c' y', hcnt, useN, hop]
              · have hrb := roomB_f hrm
                have hEc : checkB l t cs = false := checkB_f fun h => hrm (hroom.2 (h.2.2.2.2 k hlt).2)
                repeat' (first | ((try clear hf); with_reducible refine yE fun env K hE hK hf => ?_; have n := cj19 hE 0 1 2 4 6 8 9 10 11 12 13 37 38 39 40 58 59 60 61; simp -implicitDefEqProofs only [push_cast, reduceIte, Nat.reduceEqDiff, e0, e1, e2, e4, e6, e8, e9, e10, e11, e12, e13, e37, e38, e39, e40, e58, e59, e60, e61] at n; clear hE e0 e1 e2 e4 e6 e8 e9 e10 e11 e12 e13 e37 e38 e39 e40 e58 e59 e60 e61; obtain ⟨e0, e1, e2, e4, e6, e8, e9, e10, e11, e12, e13, e37, e38, e39, e40, e58, e59, e60, e61⟩ := n) | (with_reducible refine hK _ _ ?_; clear hK K) | (with_reducible first | (refine Zi ?_; constructor) | refine yC (by decide) ?_ | refine yJ (by assumption) ?_ | refine yL (by assumption) ?_) | (refine yD rfl ?_) | (simp -implicitDefEqProofs only [push_cast, sevalprocAttr, eq_self, e0, e1, e2, e4, e6, e8, e9, e10, e11, e12, e13, e37, e38, e39, e40, e58, e59, e60, e61, hd, hF.at, hr, hro, hj, h16, hth, hrb, hEc]) | (simp -implicitDefEqProofs (disch := omega) only [yH, yM, yI, yG, e0, e1, e2, e4, e6, e8, e9, e10, e11, e12, e13, e37, e38, e39, e40, e58, e59, e60, e61, hd, hF.at, hr, hro, hj, h16, hth, hrb, hEc]) | (with_reducible refine yO ?_ ?_) | (refine yF rfl (fun bb => ?_) (fun bb => ?_) <;> (first | have bp := oT bb | have bp := oF bb | skip) <;> simp only [bb]) | (with_reducible refine yK (fun bb => ?_) (fun bb => ?_) <;> (first | have bp := oT bb | have bp := oF bb | skip)) | ((with_reducible refine And.intro ?_ ?_); omega) | (refine YB (HC.mono (f79 (R := R) (B := B) (c := c) (ES := ES) (cs := cs) (m := m) (i := k) (y := cs.getD k 0) (by exact j.ext (by repeat (first | exact Ext.refl _ | assumption | refine Ext.tick ?_ | refine Ext.push ?_ (by omega) _ | refine Ext.put ?_ (by omega) _ | refine Ext.kill ?_ (by omega) | refine Ext.killA ?_ (by assumption) | refine Ext.setm ?_ _ _)) rfl) hlt hE (fun x hx => by have := hin x hx; omega) (by omega)) ?_); rintro r g ⟨rfl, j2, hx2⟩ hF2; have hj := j2.hj) | (refine call_immq (f81 _) ?_) | (refine YB (HC.mono (f80 (R := R) (B := B) (t := t) (m := m) (c := clsN l[k]) (y := cs.getD k 0) (by exact j2.rs.ext (by repeat (first | exact Ext.refl _ | assumption | refine Ext.tick ?_ | refine Ext.push ?_ (by omega) _ | refine Ext.put ?_ (by omega) _ | refine Ext.kill ?_ (by omega) | refine Ext.killA ?_ (by assumption) | refine Ext.setm ?_ _ _)) rfl) ht hc4 (fun c y => by rw [hcnt]; have := hu k c y; omega)) ?_); rintro r g2 ⟨rfl, ⟨m', hr2, hm1, hm2⟩, hx3⟩ hF3) | fail)
            · have hthf : thereB (inE ES k) cs (cs.getD k 0) = false := by simpa using hth
              have hEc : checkB l t cs = false := checkB_f fun h => hth (by have := (h.2.2.2.2 k hlt).1; rw [hES] at this; exact this)
              repeat' (first | ((try clear hf); with_reducible refine yE fun env K hE hK hf => ?_; have n := cj19 hE 0 1 2 4 6 8 9 10 11 12 13 37 38 39 40 58 59 60 61; simp -implicitDefEqProofs only [push_cast, reduceIte, Nat.reduceEqDiff, e0, e1, e2, e4, e6, e8, e9, e10, e11, e12, e13, e37, e38, e39, e40, e58, e59, e60, e61] at n; clear hE e0 e1 e2 e4 e6 e8 e9 e10 e11 e12 e13 e37 e38 e39 e40 e58 e59 e60 e61; obtain ⟨e0, e1, e2, e4, e6, e8, e9, e10, e11, e12, e13, e37, e38, e39, e40, e58, e59, e60, e61⟩ := n) | (with_reducible refine hK _ _ ?_; clear hK K) | (with_reducible first | (refine Zi ?_; constructor) | refine yC (by decide) ?_ | refine yJ (by assumption) ?_ | refine yL (by assumption) ?_) | (refine yD rfl ?_) | (simp -implicitDefEqProofs only [push_cast, sevalprocAttr, eq_self, e0, e1, e2, e4, e6, e8, e9, e10, e11, e12, e13, e37, e38, e39, e40, e58, e59, e60, e61, hd, hF.at, hr, hro, hj, h16, hthf, hEc]) | (simp -implicitDefEqProofs (disch := omega) only [yH, yM, yI, yG, e0, e1, e2, e4, e6, e8, e9, e10, e11, e12, e13, e37, e38, e39, e40, e58, e59, e60, e61, hd, hF.at, hr, hro, hj, h16, hthf, hEc]) | (with_reducible refine yO ?_ ?_) | (refine yF rfl (fun bb => ?_) (fun bb => ?_) <;> (first | have bp := oT bb | have bp := oF bb | skip) <;> simp only [bb]) | (with_reducible refine yK (fun bb => ?_) (fun bb => ?_) <;> (first | have bp := oT bb | have bp := oF bb | skip)) | ((with_reducible refine And.intro ?_ ?_); omega) | (refine YB (HC.mono (f79 (R := R) (B := B) (c := c) (ES := ES) (cs := cs) (m := m) (i := k) (y := cs.getD k 0) (by exact j.ext (by repeat (first | exact Ext.refl _ | assumption | refine Ext.tick ?_ | refine Ext.push ?_ (by omega) _ | refine Ext.put ?_ (by omega) _ | refine Ext.kill ?_ (by omega) | refine Ext.killA ?_ (by assumption) | refine Ext.setm ?_ _ _)) rfl) hlt hE (fun x hx => by have := hin x hx; omega) (by omega)) ?_); rintro r g ⟨rfl, j2, hx2⟩ hF2; have hj := j2.hj) | fail)
          · have hd : decide ((k : Int) < (cs.length : Int)) = false := dF (by omega)
            have hE : checkB l t cs = true := checkB_t ⟨hR, hlk, hln, hin, fun i hi => by rw [hES]; exact hall i (by omega)⟩
            repeat' (first | ((try clear hf); with_reducible refine yE fun env K hE hK hf => ?_; have n := cj19 hE 0 1 2 4 6 8 9 10 11 12 13 37 38 39 40 58 59 60 61; simp -implicitDefEqProofs only [push_cast, reduceIte, Nat.reduceEqDiff, e0, e1, e2, e4, e6, e8, e9, e10, e11, e12, e13, e37, e38, e39, e40, e58, e59, e60, e61] at n; clear hE e0 e1 e2 e4 e6 e8 e9 e10 e11 e12 e13 e37 e38 e39 e40 e58 e59 e60 e61; obtain ⟨e0, e1, e2, e4, e6, e8, e9, e10, e11, e12, e13, e37, e38, e39, e40, e58, e59, e60, e61⟩ := n) | (with_reducible refine hK _ _ ?_; clear hK K) | (with_reducible first | (refine Zi ?_; constructor) | refine yC (by decide) ?_ | refine yJ (by assumption) ?_ | refine yL (by assumption) ?_) | (refine yD rfl ?_) | (simp -implicitDefEqProofs only [push_cast, sevalprocAttr, eq_self, e0, e1, e2, e4, e6, e8, e9, e10, e11, e12, e13, e37, e38, e39, e40, e58, e59, e60, e61, hd, hE]) | (simp -implicitDefEqProofs (disch := omega) only [yH, yM, yI, yG, e0, e1, e2, e4, e6, e8, e9, e10, e11, e12, e13, e37, e38, e39, e40, e58, e59, e60, e61, hd, hE]) | (with_reducible refine yO ?_ ?_) | (refine yF rfl (fun bb => ?_) (fun bb => ?_) <;> (first | have bp := oT bb | have bp := oF bb | skip) <;> simp only [bb]) | (with_reducible refine yK (fun bb => ?_) (fun bb => ?_) <;> (first | have bp := oT bb | have bp := oF bb | skip)) | ((with_reducible refine And.intro ?_ ?_); omega) | fail)
      · have hdn : decide (¬ (cs.length : Int) = (l.length : Int)) = true := dT (by omega)
        have hE : checkB l t cs = false := checkB_f fun h => hln h.2.2.1
        repeat' (first | ((try clear hf); with_reducible refine yE fun env K hE hK hf => ?_; have n := cj19 hE 0 1 2 4 6 8 9 10 11 12 13 37 38 39 40 58 59 60 61; simp -implicitDefEqProofs only [push_cast, reduceIte, Nat.reduceEqDiff, e0, e1, e2, e4, e6, e8, e9, e10, e11, e12, e13, e37, e38, e39, e40, e58, e59, e60, e61] at n; clear hE e0 e1 e2 e4 e6 e8 e9 e10 e11 e12 e13 e37 e38 e39 e40 e58 e59 e60 e61; obtain ⟨e0, e1, e2, e4, e6, e8, e9, e10, e11, e12, e13, e37, e38, e39, e40, e58, e59, e60, e61⟩ := n) | (with_reducible refine hK _ _ ?_; clear hK K) | (with_reducible first | (refine Zi ?_; constructor) | refine yC (by decide) ?_ | refine yJ (by assumption) ?_ | refine yL (by assumption) ?_) | (refine yD rfl ?_) | (simp -implicitDefEqProofs only [push_cast, sevalprocAttr, eq_self, e0, e1, e2, e4, e6, e8, e9, e10, e11, e12, e13, e37, e38, e39, e40, e58, e59, e60, e61, yU, hcl, hbT, hlk, hdn, hE]) | (simp -implicitDefEqProofs (disch := omega) only [yH, yM, yI, yG, e0, e1, e2, e4, e6, e8, e9, e10, e11, e12, e13, e37, e38, e39, e40, e58, e59, e60, e61, yU, hcl, hbT, hlk, hdn, hE]) | (with_reducible refine yO ?_ ?_) | (refine yF rfl (fun bb => ?_) (fun bb => ?_) <;> (first | have bp := oT bb | have bp := oF bb | skip) <;> simp only [bb]) | (with_reducible refine yK (fun bb => ?_) (fun bb => ?_) <;> (first | have bp := oT bb | have bp := oF bb | skip)) | ((with_reducible refine And.intro ?_ ?_); omega) | (refine YB (HC.mono (of_all hl) ?_); rintro r h1 ⟨hx, hr⟩ hF1; obtain ⟨_, out, hr, hO⟩ := hr.resolve_left (fun h => h.1 hR); subst hr; have hbT := chk_T t hx) | (refine yN (f77 l t hn) ?_) | fail)
    · have hlk : lackB l t = true := by simpa using hlk
      have hE : checkB l t cs = false := checkB_f fun h => by have := h.2.1; rw [hlk] at this; exact absurd this (by decide)
      repeat' (first | ((try clear hf); with_reducible refine yE fun env K hE hK hf => ?_; have n := cj19 hE 0 1 2 4 6 8 9 10 11 12 13 37 38 39 40 58 59 60 61; simp -implicitDefEqProofs only [push_cast, reduceIte, Nat.reduceEqDiff, e0, e1, e2, e4, e6, e8, e9, e10, e11, e12, e13, e37, e38, e39, e40, e58, e59, e60, e61] at n; clear hE e0 e1 e2 e4 e6 e8 e9 e10 e11 e12 e13 e37 e38 e39 e40 e58 e59 e60 e61; obtain ⟨e0, e1, e2, e4, e6, e8, e9, e10, e11, e12, e13, e37, e38, e39, e40, e58, e59, e60, e61⟩ := n) | (with_reducible refine hK _ _ ?_; clear hK K) | (with_reducible first | (refine Zi ?_; constructor) | refine yC (by decide) ?_ | refine yJ (by assumption) ?_ | refine yL (by assumption) ?_) | (refine yD rfl ?_) | (simp -implicitDefEqProofs only [push_cast, sevalprocAttr, eq_self, e0, e1, e2, e4, e6, e8, e9, e10, e11, e12, e13, e37, e38, e39, e40, e58, e59, e60, e61, yU, hcl, hbT, hlk, hE]) | (simp -implicitDefEqProofs (disch := omega) only [yH, yM, yI, yG, e0, e1, e2, e4, e6, e8, e9, e10, e11, e12, e13, e37, e38, e39, e40, e58, e59, e60, e61, yU, hcl, hbT, hlk, hE]) | (with_reducible refine yO ?_ ?_) | (refine yF rfl (fun bb => ?_) (fun bb => ?_) <;> (first | have bp := oT bb | have bp := oF bb | skip) <;> simp only [bb]) | (with_reducible refine yK (fun bb => ?_) (fun bb => ?_) <;> (first | have bp := oT bb | have bp := oF bb | skip)) | ((with_reducible refine And.intro ?_ ?_); omega) | (refine YB (HC.mono (of_all hl) ?_); rintro r h1 ⟨hx, hr⟩ hF1; obtain ⟨_, out, hr, hO⟩ := hr.resolve_left (fun h => h.1 hR); subst hr; have hbT := chk_T t hx) | (refine yN (f77 l t hn) ?_) | fail)
  · have hE : checkB l t cs = false := checkB_f fun h => hR h.1
    have hd : decide (¬ errR l t = 0) = true := dT hR
    repeat' (first | ((try clear hf); with_reducible refine yE fun env K hE hK hf => ?_; have n := cj19 hE 0 1 2 4 6 8 9 10 11 12 13 37 38 39 40 58 59 60 61; simp -implicitDefEqProofs only [push_cast, reduceIte, Nat.reduceEqDiff, e0, e1, e2, e4, e6, e8, e9, e10, e11, e12, e13, e37, e38, e39, e40, e58, e59, e60, e61] at n; clear hE e0 e1 e2 e4 e6 e8 e9 e10 e11 e12 e13 e37 e38 e39 e40 e58 e59 e60 e61; obtain ⟨e0, e1, e2, e4, e6, e8, e9, e10, e11, e12, e13, e37, e38, e39, e40, e58, e59, e60, e61⟩ := n) | (with_reducible refine hK _ _ ?_; clear hK K) | (with_reducible first | (refine Zi ?_; constructor) | refine yC (by decide) ?_ | refine yJ (by assumption) ?_ | refine yL (by assumption) ?_) | (refine yD rfl ?_) | (simp -implicitDefEqProofs only [push_cast, sevalprocAttr, eq_self, e0, e1, e2, e4, e6, e8, e9, e10, e11, e12, e13, e37, e38, e39, e40, e58, e59, e60, e61, yU, hcl, hd, hE]) | (simp -implicitDefEqProofs (disch := omega) only [yH, yM, yI, yG, e0, e1, e2, e4, e6, e8, e9, e10, e11, e12, e13, e37, e38, e39, e40, e58, e59, e60, e61, yU, hcl, hd, hE]) | (with_reducible refine yO ?_ ?_) | (refine yF rfl (fun bb => ?_) (fun bb => ?_) <;> (first | have bp := oT bb | have bp := oF bb | skip) <;> simp only [bb]) | (with_reducible refine yK (fun bb => ?_) (fun bb => ?_) <;> (first | have bp := oT bb | have bp := oF bb | skip)) | ((with_reducible refine And.intro ?_ ?_); omega) | (refine YB (HC.mono (of_all hl) ?_); rintro r h1 ⟨hx, hr⟩ hF1; replace hr := (hr.resolve_right (fun h => hR h.1)).2; subst hr) | fail)
end Go.Proofs.Hx

set_option linter.unusedVariables false
set_option linter.unusedSimpArgs false
namespace Go.Proofs.Hx
open Go Go.Proofs
attribute [local irreducible] yS awp opK goV goM qB yZ qH yW HV HVF HC
theorem op_d0 (o : Opn) : ((opC o).drop 0)[0]? = some (.lit (.int .i8 o.k)) := rfl
theorem op_d1 (o : Opn) : ((opC o).drop 1)[0]? = some (u8 o.d) := rfl
theorem op_d2 (o : Opn) : ((opC o).drop 2)[0]? = some (u8 o.a) := rfl
theorem op_d3 (o : Opn) : ((opC o).drop 3)[0]? = some (u8 o.b) := rfl
theorem op_d4 (o : Opn) : ((opC o).drop 4)[0]? = some (i64 o.im) := rfl
attribute [push_cast] op_d0 op_d1 op_d2 op_d3 op_d4 op_1 op_2 op_3 op_4 opC_take opC_len opC_one
theorem tmod_zero (z : Int) : z.tmod 256 = 0 ↔ z % 256 = 0 := by
  constructor
  · intro h; exact Int.emod_eq_zero_of_dvd (Int.dvd_of_tmod_eq_zero h)
  · intro h; exact Int.tmod_eq_zero_of_dvd (Int.dvd_of_emod_eq_zero h)
theorem im_eq (x y : Int) : decide ((IntKind.i64.wrap (x - y)).tmod 256 = 0) = decide (IntKind.wrap .u8 x = IntKind.wrap .u8 y) := by
  apply decide_eq_decide.2
  rw [tmod_zero]
  simp only [IntKind.wrap, IntKind.bits, IntKind.signed, Bool.true_and, Bool.false_and, decide_eq_true_eq, ge_iff_le, Bool.false_eq_true, if_false]
  split <;> omega
def twoS (a b : Opn) : Bool := memS a && memS b && (decide (a.k = 16) || decide (b.k = 16))
theorem f115 (l : List Opn) (i j : Nat) (hi : i < l.length) (hj : j < l.length) (hl : ∀ o ∈ l, o.ok) : HV Try.prog 115 [.row (l.map opC), i64 i, i64 j] (bl (twoS l[i] l[j])) := by
  refine yT yX cf115 (by simp) (by simp [imms, imm, qK]) ?_ rfl
  unfold ac115 re115
  refine yQ fun env hE => ?_; obtain ⟨e0, e1, e2, e6, e7, e8, e9⟩ := cj7 hE 0 1 2 6 7 8 9; simp -implicitDefEqProofs only [push_cast] at e0 e1 e2 e6 e7 e8 e9; clear hE
  have hr := qU hi .i64
  have hq := qU hj .i64
  have ho := hl _ (List.getElem_mem hi)
  have hp := hl _ (List.getElem_mem hj)
  generalize l[i] = a at *
  generalize l[j] = b at *
  have d1 : decide ((i : Int) < 0) = false := dF (by omega)
  have d2 : decide ((j : Int) < 0) = false := dF (by omega)
  have d3 : decide ((l.length : Int) ≤ (i : Int)) = false := dF (by omega)
  have d4 : decide ((l.length : Int) ≤ (j : Int)) = false := dF (by omega)
  repeat' (first | ((try clear hf); with_reducible refine yE fun env K hE hK hf => ?_; have n := cj7 hE 0 1 2 6 7 8 9; simp -implicitDefEqProofs only [push_cast, reduceIte, Nat.reduceEqDiff, e0, e1, e2, e6, e7, e8, e9] at n; clear hE e0 e1 e2 e6 e7 e8 e9; obtain ⟨e0, e1, e2, e6, e7, e8, e9⟩ := n) | (with_reducible refine hK _ _ ?_; clear hK K) | (with_reducible first | (refine Zi ?_; constructor) | refine yC (by decide) ?_ | refine yJ (by assumption) ?_ | refine yL (by assumption) ?_) | (refine yD rfl ?_) | (simp -implicitDefEqProofs only [push_cast, sevalprocAttr, eq_self, e0, e1, e2, e6, e7, e8, e9, hr, hq, d1, d2, d3, d4, opC_take, opC_len, opC_one]) | (simp -implicitDefEqProofs (disch := omega) only [yH, yM, yI, yG, e0, e1, e2, e6, e7, e8, e9, hr, hq, d1, d2, d3, d4, opC_take, opC_len, opC_one]) | (with_reducible refine yO ?_ ?_) | (refine yF rfl (fun bb => ?_) (fun bb => ?_) <;> (first | have bp := oT bb | have bp := oF bb | skip) <;> simp only [bb]) | (with_reducible refine yK (fun bb => ?_) (fun bb => ?_) <;> (first | have bp := oT bb | have bp := oF bb | skip)) | ((with_reducible refine And.intro ?_ ?_); omega) | (refine yN (f111 a ho) ?_) | (refine yN (f111 b hp) ?_) | fail)
  all_goals ((try clear hf); (try clear e0 e1 e2 e6 e7 e8 e9); clear hr hq ho hp hl; simp only [twoS, memS]; simp_all)
theorem written_iff {l : List Opn} {f t : Nat} {r : Int} (ht : t ≤ l.length) : writtenS ((l.drop f).take (t - f)) r = true ↔ ∃ q, f ≤ q ∧ q < t ∧ ((wrS (opAt l q)).2 && decide ((wrS (opAt l q)).1 = r)) = true := by
  unfold writtenS
  rw [List.any_eq_true]
  constructor
  · rintro ⟨x, hx, h⟩
    obtain ⟨q, hq, rfl⟩ := List.getElem_of_mem hx
    simp only [List.length_take, List.length_drop] at hq
    refine ⟨f + q, by omega, by omega, ?_⟩
    rw [← qR (by omega)]
    simpa using h
  · rintro ⟨q, h1, h2, h⟩
    rw [← qR (by omega)] at h
    refine ⟨l[q]'(by omega), ?_, h⟩
    have : ((l.drop f).take (t - f))[q - f]? = some (l[q]'(by omega)) := by
      rw [List.getElem?_take_of_lt (by omega), List.getElem?_drop, show f + (q - f) = q by omega, List.getElem?_eq_getElem]
    exact List.mem_of_getElem? this
def apS (a b : Opn) (s : List Opn) : Bool := !(decide (a.a ≠ b.a) || decide (IntKind.wrap .u8 a.im = IntKind.wrap .u8 b.im)) && !(writtenS s a.a)
set_option maxHeartbeats 1000000 in
theorem f116 (l : List Opn) (i j f t : Nat) (hi : i < l.length) (hj : j < l.length) (hl : ∀ o ∈ l, o.ok) (h1 : f ≤ t) (h2 : t ≤ l.length) (hn : l.length ≤ 1000000) :
    HV Try.prog 116 [.row (l.map opC), i64 i, i64 j, i64 f, i64 t] (bl (apS l[i] l[j] ((l.drop f).take (t - f)))) := by
  refine yT yX cf116 (by simp) (by simp [imms, imm, qK]) ?_ rfl
  unfold ac116 re116
  refine yQ fun env hE => ?_; obtain ⟨e0, e1, e2, e3, e4, e10, e11, e12, e13⟩ := cj9 hE 0 1 2 3 4 10 11 12 13; simp -implicitDefEqProofs only [push_cast] at e0 e1 e2 e3 e4 e10 e11 e12 e13; clear hE
  have hr := qU hi .i64
  have hq := qU hj .i64
  have hwi := written_iff (l := l) (f := f) (t := t) (r := l[i].a) h2
  generalize hai : l[i] = a at *
  generalize l[j] = b at *
  by_cases hc : (decide (a.a ≠ b.a) || decide (IntKind.wrap .u8 a.im = IntKind.wrap .u8 b.im)) = true
  · have hs : apS a b ((l.drop f).take (t - f)) = false := by unfold apS; rw [hc]; rfl
    rw [hs]
    by_cases h3 : a.a = b.a
    · have d1 : decide (a.a ≠ b.a) = false := dF (fun h => h h3)
      have d2 : decide (IntKind.wrap .u8 a.im = IntKind.wrap .u8 b.im) = true := by rw [d1, Bool.false_or] at hc; exact hc
      repeat' (first | ((try clear hf); with_reducible refine yE fun env K hE hK hf => ?_; have n := cj9 hE 0 1 2 3 4 10 11 12 13; simp -implicitDefEqProofs only [push_cast, reduceIte, Nat.reduceEqDiff, e0, e1, e2, e3, e4, e10, e11, e12, e13] at n; clear hE e0 e1 e2 e3 e4 e10 e11 e12 e13; obtain ⟨e0, e1, e2, e3, e4, e10, e11, e12, e13⟩ := n) | (with_reducible refine hK _ _ ?_; clear hK K) | (with_reducible first | (refine Zi ?_; constructor) | refine yC (by decide) ?_ | refine yJ (by assumption) ?_ | refine yL (by assumption) ?_) | (refine yD rfl ?_) | (simp -implicitDefEqProofs only [push_cast, sevalprocAttr, eq_self, e0, e1, e2, e3, e4, e10, e11, e12, e13, hr, hq, d1, d2, op_2, op_4, im_eq]) | (simp -implicitDefEqProofs (disch := omega) only [yH, yM, yI, yG, e0, e1, e2, e3, e4, e10, e11, e12, e13, hr, hq, d1, d2, op_2, op_4, im_eq]) | (with_reducible refine yO ?_ ?_) | (refine yF rfl (fun bb => ?_) (fun bb => ?_) <;> (first | have bp := oT bb | have bp := oF bb | skip) <;> simp only [bb]) | (with_reducible refine yK (fun bb => ?_) (fun bb => ?_) <;> (first | have bp := oT bb | have bp := oF bb | skip)) | ((with_reducible refine And.intro ?_ ?_); omega) | fail)
    · have d1 : decide (a.a ≠ b.a) = true := dT h3
      repeat' (first | ((try clear hf); with_reducible refine yE fun env K hE hK hf => ?_; have n := cj9 hE 0 1 2 3 4 10 11 12 13; simp -implicitDefEqProofs only [push_cast, reduceIte, Nat.reduceEqDiff, e0, e1, e2, e3, e4, e10, e11, e12, e13] at n; clear hE e0 e1 e2 e3 e4 e10 e11 e12 e13; obtain ⟨e0, e1, e2, e3, e4, e10, e11, e12, e13⟩ := n) | (with_reducible refine hK _ _ ?_; clear hK K) | (with_reducible first | (refine Zi ?_; constructor) | refine yC (by decide) ?_ | refine yJ (by assumption) ?_ | refine yL (by assumption) ?_) | (refine yD rfl ?_) | (simp -implicitDefEqProofs only [push_cast, sevalprocAttr, eq_self, e0, e1, e2, e3, e4, e10, e11, e12, e13, hr, hq, d1, op_2, op_4, im_eq]) | (simp -implicitDefEqProofs (disch := omega) only [yH, yM, yI, yG, e0, e1, e2, e3, e4, e10, e11, e12, e13, hr, hq, d1, op_2, op_4, im_eq]) | (with_reducible refine yO ?_ ?_) | (refine yF rfl (fun bb => ?_) (fun bb => ?_) <;> (first | have bp := oT bb | have bp := oF bb | skip) <;> simp only [bb]) | (with_reducible refine yK (fun bb => ?_) (fun bb => ?_) <;> (first | have bp := oT bb | have bp := oF bb | skip)) | ((with_reducible refine And.intro ?_ ?_); omega) | fail)
  · rw [Bool.not_eq_true, Bool.or_eq_false_iff] at hc
    obtain ⟨d1, d2⟩ := hc
    have hs : apS a b ((l.drop f).take (t - f)) = !(writtenS ((l.drop f).take (t - f)) a.a) := by unfold apS; rw [d1, d2]; rfl
    repeat' (first | ((try clear hf); with_reducible refine yE fun env K hE hK hf => ?_; have n := cj9 hE 0 1 2 3 4 10 11 12 13; simp -implicitDefEqProofs only [push_cast, reduceIte, Nat.reduceEqDiff, e0, e1, e2, e3, e4, e10, e11, e12, e13] at n; clear hE e0 e1 e2 e3 e4 e10 e11 e12 e13; obtain ⟨e0, e1, e2, e3, e4, e10, e11, e12, e13⟩ := n) | (with_reducible refine hK _ _ ?_; clear hK K) | (with_reducible first | (refine Zi ?_; constructor) | refine yC (by decide) ?_ | refine yJ (by assumption) ?_ | refine yL (by assumption) ?_) | (refine yD rfl ?_) | (simp -implicitDefEqProofs only [push_cast, sevalprocAttr, eq_self, e0, e1, e2, e3, e4, e10, e11, e12, e13, hr, hq, d1, d2, op_2, op_4, im_eq]) | (simp -implicitDefEqProofs (disch := omega) only [yH, yM, yI, yG, e0, e1, e2, e3, e4, e10, e11, e12, e13, hr, hq, d1, d2, op_2, op_4, im_eq]) | (with_reducible refine yO ?_ ?_) | (refine yF rfl (fun bb => ?_) (fun bb => ?_) <;> (first | have bp := oT bb | have bp := oF bb | skip) <;> simp only [bb]) | (with_reducible refine yK (fun bb => ?_) (fun bb => ?_) <;> (first | have bp := oT bb | have bp := oF bb | skip)) | ((with_reducible refine And.intro ?_ ?_); omega) | fail)
    refine yQ fun env hE => ?_; have n := cj9 hE 0 1 2 3 4 10 11 12 13; simp -implicitDefEqProofs only [push_cast, reduceIte, Nat.reduceEqDiff, e0, e1, e2, e3, e4, e10, e11, e12, e13] at n; clear hE e0 e1 e2 e3 e4 e10 e11 e12 e13; obtain ⟨e0, e1, e2, e3, e4, e10, e11, e12, e13⟩ := n; have E116_0_0 := e0; have E116_0_1 := e1; have E116_0_2 := e2; have E116_0_3 := e3; have E116_0_4 := e4
    refine qE (fun nn σ => ∃ (k : Nat), nn = t - k ∧ σ.env 0 = env 0 ∧ σ.env 1 = env 1 ∧ σ.env 2 = env 2 ∧ σ.env 3 = env 3 ∧ σ.env 4 = env 4 ∧ σ.env 11 = i64 k ∧ (f ≤ k ∧ k ≤ t ∧ (∀ q, f ≤ q → q < k → ((wrS (opAt l q)).2 && decide ((wrS (opAt l q)).1 = a.a)) = false))) _ ⟨f, rfl, rfl, rfl, rfl, rfl, rfl, by refine e11.trans ?_; first | rfl | exact yP (by omega) | (simp -implicitDefEqProofs (disch := omega) only [yG]; first | rfl | exact yP (by omega)), ?_⟩ ?_
    · exact ⟨by omega, by omega, fun q h1 h2 => by omega⟩
    clear e0 e1 e2 e3 e4 e10 e11 e12 e13; rintro nn ⟨env, h⟩ ⟨k, rfl, q0, q1, q2, q3, q4, e11, hI⟩; simp only at q0 q1 q2 q3 q4 e11 hI; (first | have e0 := q0.trans E116_0_0 | have e0 := True.intro); (first | have e1 := q1.trans E116_0_1 | have e1 := True.intro); (first | have e2 := q2.trans E116_0_2 | have e2 := True.intro); (first | have e3 := q3.trans E116_0_3 | have e3 := True.intro); (first | have e4 := q4.trans E116_0_4 | have e4 := True.intro); clear q0 q1 q2 q3 q4; have e10 := True.intro; have e12 := True.intro; have e13 := True.intro
    obtain ⟨k1, k2, hall⟩ := hI
    unfold l116_0
    by_cases hlt : k < t
    · have hd : decide ((k : Int) < (t : Int)) = true := dT (by omega)
      have hr2 := qU (l := l) (k := k) (by omega) .i64
      have ho := hl _ (List.getElem_mem (show k < l.length by omega))
      have hoe := qR (l := l) (j := k) (by omega)
      generalize l[k] = o at *
      by_cases hw : ((wrS o).2 && decide ((wrS o).1 = a.a)) = true
      · have w := hw
        rw [Bool.and_eq_true] at hw
        obtain ⟨w1, w2⟩ := hw
        repeat' (first | ((try clear hf); with_reducible refine yE fun env K hE hK hf => ?_; have n := cj9 hE 0 1 2 3 4 10 11 12 13; simp -implicitDefEqProofs only [push_cast, reduceIte, Nat.reduceEqDiff, e0, e1, e2, e3, e4, e10, e11, e12, e13] at n; clear hE e0 e1 e2 e3 e4 e10 e11 e12 e13; obtain ⟨e0, e1, e2, e3, e4, e10, e11, e12, e13⟩ := n) | (with_reducible refine hK _ _ ?_; clear hK K) | (with_reducible first | (refine Zi ?_; constructor) | refine yC (by decide) ?_ | refine yJ (by assumption) ?_ | refine yL (by assumption) ?_) | (refine yD rfl ?_) | (simp -implicitDefEqProofs only [push_cast, sevalprocAttr, eq_self, e0, e1, e2, e3, e4, e10, e11, e12, e13, hd, hr, hr2, w1, w2]) | (simp -implicitDefEqProofs (disch := omega) only [yH, yM, yI, yG, e0, e1, e2, e3, e4, e10, e11, e12, e13, hd, hr, hr2, w1, w2]) | (with_reducible refine yO ?_ ?_) | (refine yF rfl (fun bb => ?_) (fun bb => ?_) <;> (first | have bp := oT bb | have bp := oF bb | skip) <;> simp only [bb]) | (with_reducible refine yK (fun bb => ?_) (fun bb => ?_) <;> (first | have bp := oT bb | have bp := oF bb | skip)) | ((with_reducible refine And.intro ?_ ?_); omega) | (refine yN (f88 o ho) ?_) | fail)
        rw [hs, hwi.2 ⟨k, k1, hlt, by rw [← hoe]; exact w⟩]
        rfl
      · rw [Bool.not_eq_true] at hw
        have w := hw
        rw [Bool.and_eq_false_iff] at hw
        rcases hw with w1 | w1
        · repeat' (first | ((try clear hf); with_reducible refine yE fun env K hE hK hf => ?_; have n := cj9 hE 0 1 2 3 4 10 11 12 13; simp -implicitDefEqProofs only [push_cast, reduceIte, Nat.reduceEqDiff, e0, e1, e2, e3, e4, e10, e11, e12, e13] at n; clear hE e0 e1 e2 e3 e4 e10 e11 e12 e13; obtain ⟨e0, e1, e2, e3, e4, e10, e11, e12, e13⟩ := n) | (with_reducible refine hK _ _ ?_; clear hK K) | (with_reducible first | (refine Zi ?_; constructor) | refine yC (by decide) ?_ | refine yJ (by assumption) ?_ | refine yL (by assumption) ?_) | (refine yD rfl ?_) | (simp -implicitDefEqProofs only [push_cast, sevalprocAttr, eq_self, e0, e1, e2, e3, e4, e10, e11, e12, e13, hd, hr, hr2, w1]) | (simp -implicitDefEqProofs (disch := omega) only [yH, yM, yI, yG, e0, e1, e2, e3, e4, e10, e11, e12, e13, hd, hr, hr2, w1]) | (with_reducible refine yO ?_ ?_) | (refine yF rfl (fun bb => ?_) (fun bb => ?_) <;> (first | have bp := oT bb | have bp := oF bb | skip) <;> simp only [bb]) | (with_reducible refine yK (fun bb => ?_) (fun bb => ?_) <;> (first | have bp := oT bb | have bp := oF bb | skip)) | ((with_reducible refine And.intro ?_ ?_); omega) | (refine yN (f88 o ho) ?_) | fail)
          refine ⟨_, ?_, k + 1, rfl, E116_0_0.symm, E116_0_1.symm, E116_0_2.symm, E116_0_3.symm, E116_0_4.symm, by first | rfl | exact yP (by omega) | (simp -implicitDefEqProofs (disch := omega) only [yG]; first | rfl | exact yP (by omega)), ?_⟩
          · omega
          · refine ⟨by omega, by omega, fun q h1 h2 => ?_⟩
            by_cases e : q < k
            · exact hall q h1 e
            · obtain rfl : q = k := by omega
              rw [← hoe]; exact w
        · repeat' (first | ((try clear hf); with_reducible refine yE fun env K hE hK hf => ?_; have n := cj9 hE 0 1 2 3 4 10 11 12 13; simp -implicitDefEqProofs only [push_cast, reduceIte, Nat.reduceEqDiff, e0, e1, e2, e3, e4, e10, e11, e12, e13] at n; clear hE e0 e1 e2 e3 e4 e10 e11 e12 e13; obtain ⟨e0, e1, e2, e3, e4, e10, e11, e12, e13⟩ := n) | (with_reducible refine hK _ _ ?_; clear hK K) | (with_reducible first | (refine Zi ?_; constructor) | refine yC (by decide) ?_ | refine yJ (by assumption) ?_ | refine yL (by assumption) ?_) | (refine yD rfl ?_) | (simp -implicitDefEqProofs only [push_cast, sevalprocAttr, eq_self, e0, e1, e2, e3, e4, e10, e11, e12, e13, hd, hr, hr2, w1]) | (simp -implicitDefEqProofs (disch := omega) only [yH, yM, yI, yG, e0, e1, e2, e3, e4, e10, e11, e12, e13, hd, hr, hr2, w1]) | (with_reducible refine yO ?_ ?_) | (refine yF rfl (fun bb => ?_) (fun bb => ?_) <;> (first | have bp := oT bb | have bp := oF bb | skip) <;> simp only [bb]) | (with_reducible refine yK (fun bb => ?_) (fun bb => ?_) <;> (first | have bp := oT bb | have bp := oF bb | skip)) | ((with_reducible refine And.intro ?_ ?_); omega) | (refine yN (f88 o ho) ?_) | fail)
          all_goals
            refine ⟨_, ?_, k + 1, rfl, E116_0_0.symm, E116_0_1.symm, E116_0_2.symm, E116_0_3.symm, E116_0_4.symm, by first | rfl | exact yP (by omega) | (simp -implicitDefEqProofs (disch := omega) only [yG]; first | rfl | exact yP (by omega)), ?_⟩
            · omega
            · refine ⟨by omega, by omega, fun q h1 h2 => ?_⟩
              by_cases e : q < k
              · exact hall q h1 e
              · obtain rfl : q = k := by omega
                rw [← hoe]; exact w
    · have hd : decide ((k : Int) < (t : Int)) = false := dF (by omega)
      repeat' (first | ((try clear hf); with_reducible refine yE fun env K hE hK hf => ?_; have n := cj9 hE 0 1 2 3 4 10 11 12 13; simp -implicitDefEqProofs only [push_cast, reduceIte, Nat.reduceEqDiff, e0, e1, e2, e3, e4, e10, e11, e12, e13] at n; clear hE e0 e1 e2 e3 e4 e10 e11 e12 e13; obtain ⟨e0, e1, e2, e3, e4, e10, e11, e12, e13⟩ := n) | (with_reducible refine hK _ _ ?_; clear hK K) | (with_reducible first | (refine Zi ?_; constructor) | refine yC (by decide) ?_ | refine yJ (by assumption) ?_ | refine yL (by assumption) ?_) | (refine yD rfl ?_) | (simp -implicitDefEqProofs only [push_cast, sevalprocAttr, eq_self, e0, e1, e2, e3, e4, e10, e11, e12, e13, hd]) | (simp -implicitDefEqProofs (disch := omega) only [yH, yM, yI, yG, e0, e1, e2, e3, e4, e10, e11, e12, e13, hd]) | (with_reducible refine yO ?_ ?_) | (refine yF rfl (fun bb => ?_) (fun bb => ?_) <;> (first | have bp := oT bb | have bp := oF bb | skip) <;> simp only [bb]) | (with_reducible refine yK (fun bb => ?_) (fun bb => ?_) <;> (first | have bp := oT bb | have bp := oF bb | skip)) | ((with_reducible refine And.intro ?_ ?_); omega) | fail)
      have : writtenS ((l.drop f).take (t - f)) a.a = false := by
        rw [← Bool.not_eq_true]
        intro h
        obtain ⟨q, h1, h2, h3⟩ := hwi.1 h
        rw [hall q h1 (by omega)] at h3
        cases h3
      rw [hs, this]
      rfl
theorem meet_ref (a b : Opn) (s : List Opn) : (twoS a b && !(apS a b s)) = meetS a b s := by
  unfold twoS apS meetS memS
  by_cases h1 : a.k = 15 <;> by_cases h2 : a.k = 16 <;> by_cases h3 : b.k = 15 <;> by_cases h4 : b.k = 16 <;> simp [h1, h2, h3, h4] <;> (try omega)
theorem f102 (l : List Opn) (i j : Nat) (hij : i < j) (hj : j < l.length) (hl : ∀ o ∈ l, o.ok) (hn : l.length ≤ 1000000) :
    HV Try.prog 102 [.row (l.map opC), i64 i, i64 j] (bl (meetL l i j (by omega) hj)) := by
  refine yT yX cf102 (by simp) (by simp [imms, imm, qK]) ?_ rfl
  unfold ac102 re102
  refine yQ fun env hE => ?_; obtain ⟨e0, e1, e2, e6⟩ := cj4 hE 0 1 2 6; simp -implicitDefEqProofs only [push_cast] at e0 e1 e2 e6; clear hE
  have d1 : decide ((i : Int) < (j : Int)) = true := dT (by omega)
  have hm := meet_ref (l[i]'(by omega)) l[j] ((l.drop i).take (j - i))
  unfold meetL
  rw [← hm]
  have h1 := f115 l i j (by omega) hj hl
  have h2 := f116 l i j i j (by omega) hj hl (by omega) (by omega) hn
  generalize twoS (l[i]'(by omega)) l[j] = b1 at *
  generalize apS (l[i]'(by omega)) l[j] ((l.drop i).take (j - i)) = b2 at *
  repeat' (first | ((try clear hf); with_reducible refine yE fun env K hE hK hf => ?_; have n := cj4 hE 0 1 2 6; simp -implicitDefEqProofs only [push_cast, reduceIte, Nat.reduceEqDiff, e0, e1, e2, e6] at n; clear hE e0 e1 e2 e6; obtain ⟨e0, e1, e2, e6⟩ := n) | (with_reducible refine hK _ _ ?_; clear hK K) | (with_reducible first | (refine Zi ?_; constructor) | refine yC (by decide) ?_ | refine yJ (by assumption) ?_ | refine yL (by assumption) ?_) | (refine yD rfl ?_) | (simp -implicitDefEqProofs only [push_cast, sevalprocAttr, eq_self, e0, e1, e2, e6, d1]) | (simp -implicitDefEqProofs (disch := omega) only [yH, yM, yI, yG, e0, e1, e2, e6, d1]) | (with_reducible refine yO ?_ ?_) | (refine yF rfl (fun bb => ?_) (fun bb => ?_) <;> (first | have bp := oT bb | have bp := oF bb | skip) <;> simp only [bb]) | (with_reducible refine yK (fun bb => ?_) (fun bb => ?_) <;> (first | have bp := oT bb | have bp := oF bb | skip)) | ((with_reducible refine And.intro ?_ ?_); omega) | (refine yN h1 ?_) | (refine yN h2 ?_) | fail)
  all_goals ((try clear hf); (try clear e0 e1 e2 e6); simp_all)
end Go.Proofs.Hx

set_option linter.unusedVariables false
set_option linter.unusedSimpArgs false
namespace Go.Proofs.Hx
open Go Go.Proofs
attribute [local irreducible] yS awp opK goV goM qB yZ qH yW HV HVF HC
/-! ### Appends, whatever they find -/
theorem goM_app1 {α : Type} {f : α → List AV} {sz : Nat} {d : Option Nat} {K : St → Prop} {env : Nat → AV} {h : Hp} {a : AV} {es : List α} (s : SlO f sz h a es) (hf : ∀ a, (f a).length = sz) {bytes : Nat} {id : Id} {e : α} (ho : (f e).all one = true)
    (hb : (es.length + 1 + (es.length + 1) / 4 + 512) * bytes ≤ 281474976710656) (hid : idOf a ≠ some id) (hle : id.1 ≤ h.ep)
    (k : ∀ h' a', SlO f sz h' a' (es ++ [e]) → (∀ x, idOf a' = some x → x = id) → h'.ep = h.ep → (∀ x, x ≠ id → idOf a ≠ some x → h'.hp x = h.hp x) → K ⟨putA env d a', h'⟩) : goM d K env (appV h id sz bytes 1 (f e) a) := by
  refine goM_of _ _ (s.app hf id (by decide) ho hb) (k _ _ ⟨.inr ⟨id, by simp, ?_, by rw [push_ep, killA_ep]; exact hle⟩⟩ (fun x hx => by simp [idOf] at hx; exact hx.symm) (by rw [push_ep, killA_ep]) fun x h1 h2 => ?_)
  · rw [push_self]; simp
  · rw [push_ne _ _ _ _ h1, killA_ne _ _ h2]
theorem goM_appN {α : Type} {f : α → List AV} {sz : Nat} {d : Option Nat} {K : St → Prop} {env : Nat → AV} {h : Hp} {a : AV} {es : List α} (s : SlO f sz h a es) (hf : ∀ a, (f a).length = sz) {bytes : Nat} {id : Id} {fs : List α} (ho : (fs.flatMap f).all one = true)
    (hb : (es.length + fs.length + (es.length + fs.length) / 4 + 512) * bytes ≤ 281474976710656) (hid : idOf a ≠ some id) (hle : id.1 ≤ h.ep)
    (k : ∀ h' a', SlO f sz h' a' (es ++ fs) → (∀ x, idOf a' = some x → x = id) → h'.ep = h.ep → (∀ x, x ≠ id → idOf a ≠ some x → h'.hp x = h.hp x) → K ⟨putA env d a', h'⟩) : goM d K env (appV h id sz bytes fs.length (fs.flatMap f) a) := by
  rcases (show fs = [] ∨ fs.length ≠ 0 from by cases fs <;> simp) with h0 | h0
  · subst h0
    rcases s.st with ⟨rfl, rfl⟩ | ⟨t, rfl, h2, h3⟩
    · exact goM_of _ _ (appV_nil0 _ _ _ _ _) (k _ _ (SlO.nil _ _ _) (fun x hx => by simp [idOf] at hx) rfl fun x _ _ => rfl)
    · refine goM_of (.sl id 0 (es.length + 0) sz) ((h.kill t).push id ((es.flatMap f).take (es.length * sz) ++ [])) ?_ (k _ _ ⟨.inr ⟨id, by simp, ?_, hle⟩⟩ (fun x hx => by simp [idOf] at hx; exact hx.symm) rfl fun x h1 h2 => ?_)
      · rw [appV_sl_eq, h2]
        simp only [Option.bind_some]
        simp only [List.length_nil, Nat.add_zero] at hb ⊢
        rw [if_pos ⟨trivial, trivial, rfl, hb⟩, List.drop_zero]
        rfl
      · rw [push_self, ← flat_len hf, List.take_length]; simp
      · rw [push_ne _ _ _ _ h1, kill_ne _ _ _ (fun e => h2 (by rw [e]; rfl))]
  · refine goM_of _ _ (s.app hf id h0 ho hb) (k _ _ ⟨.inr ⟨id, by simp, ?_, by rw [push_ep, killA_ep]; exact hle⟩⟩ (fun x hx => by simp [idOf] at hx; exact hx.symm) (by rw [push_ep, killA_ep]) fun x h1 h2 => ?_)
    · rw [push_self]; simp
    · rw [push_ne _ _ _ _ h1, killA_ne _ _ h2]
theorem app_src {α : Type} (f : α → List AV) (sz : Nat) (hf : ∀ a, (f a).length = sz) (h : Hp) (es : List α) : appSrc h sz (.row (es.map f)) = some (es.length, es.flatMap f) := by
  rw [appSrc_row h (fun x hx => by simp at hx; obtain ⟨a, _, rfl⟩ := hx; exact hf a), List.length_map]
  rfl
theorem flat_one {α : Type} {f : α → List AV} (ho : ∀ a, (f a).all one = true) (es : List α) : (es.flatMap f).all one = true := by
  induction es with
  | nil => rfl
  | cons a es ih => rw [List.flatMap_cons, List.all_append, ho, ih]; rfl
theorem SlO.lendF {α : Type} {f : α → List AV} {sz : Nat} {h : Hp} {a : AV} {es : List α} (s : SlO f sz h a es) (hf : ∀ a, (f a).length = sz) (hat : ∀ a, ∀ x ∈ f a, atom x = true) (d : Nat) : Hx.lendF (d + 1) h a = some (.row (es.map f)) := by
  rcases s.st with ⟨rfl, rfl⟩ | ⟨t, rfl, h2, h3⟩
  · exact lendF_nil d h
  · rw [lendF_sl h2 (by rw [flat_len hf]; omega) (fun x hx => ?_), List.drop_zero, ← flat_len hf, List.take_length, chunks_map f sz hf]
    have := List.mem_of_mem_drop (List.mem_of_mem_take hx)
    rw [List.mem_flatMap] at this
    obtain ⟨e, _, he⟩ := this
    exact hat e x he
theorem edC_atom (e : Edg) : ∀ x ∈ edC e, atom x = true := by
  intro x hx
  simp only [edC, List.mem_cons, List.not_mem_nil, or_false] at hx
  rcases hx with rfl | rfl | rfl | rfl | rfl <;> rfl
/-! ### The reference's dependences -/
theorem f90 (l : List Opn) (t : Tab) (hl : ∀ o ∈ l, o.ok) : HV Try.prog 90 [.row (l.map opC), .agg (tabC t)] (i64 (errR l t)) := by
  refine yT yX cf90 (by simp) (by simp [imms, imm, qK, tab_imms]) ?_ rfl
  unfold ac90 re90
  refine yQ fun env hE => ?_; obtain ⟨e0, e1, e3, e4, e5, e6⟩ := cj6 hE 0 1 3 4 5 6; simp -implicitDefEqProofs only [push_cast] at e0 e1 e3 e4 e5 e6; clear hE
  by_cases h1 : YP t
  rotate_left
  · have hE : errR l t = 20 := by simp [errR, tabE_bad h1]
    have ht := tabE_bad h1
    rw [hE]
    have d0 : decide ((20 : Int) ≠ 0) = true := rfl
    repeat' (first | ((try clear hf); with_reducible refine yE fun env K hE hK hf => ?_; have n := cj6 hE 0 1 3 4 5 6; simp -implicitDefEqProofs only [push_cast, reduceIte, Nat.reduceEqDiff, e0, e1, e3, e4, e5, e6] at n; clear hE e0 e1 e3 e4 e5 e6; obtain ⟨e0, e1, e3, e4, e5, e6⟩ := n) | (with_reducible refine hK _ _ ?_; clear hK K) | (with_reducible first | (refine Zi ?_; constructor) | refine yC (by decide) ?_ | refine yJ (by assumption) ?_ | refine yL (by assumption) ?_) | (refine yD rfl ?_) | (simp -implicitDefEqProofs only [push_cast, sevalprocAttr, eq_self, e0, e1, e3, e4, e5, e6, ht, d0]) | (simp -implicitDefEqProofs (disch := omega) only [yH, yM, yI, yG, e0, e1, e3, e4, e5, e6, ht, d0]) | (with_reducible refine yO ?_ ?_) | (refine yF rfl (fun bb => ?_) (fun bb => ?_) <;> (first | have bp := oT bb | have bp := oF bb | skip) <;> simp only [bb]) | (with_reducible refine yK (fun bb => ?_) (fun bb => ?_) <;> (first | have bp := oT bb | have bp := oF bb | skip)) | ((with_reducible refine And.intro ?_ ?_); omega) | (refine yN (f69 t) ?_) | fail)
  have ht := tabE_ok h1
  by_cases h2 : 1024 < l.length
  · have hE : errR l t = 3 := by simp [errR, ht, h2]
    have d1 : decide (1024 < (l.length : Int)) = true := dT (by omega)
    rw [hE]
    repeat' (first | ((try clear hf); with_reducible refine yE fun env K hE hK hf => ?_; have n := cj6 hE 0 1 3 4 5 6; simp -implicitDefEqProofs only [push_cast, reduceIte, Nat.reduceEqDiff, e0, e1, e3, e4, e5, e6] at n; clear hE e0 e1 e3 e4 e5 e6; obtain ⟨e0, e1, e3, e4, e5, e6⟩ := n) | (with_reducible refine hK _ _ ?_; clear hK K) | (with_reducible first | (refine Zi ?_; constructor) | refine yC (by decide) ?_ | refine yJ (by assumption) ?_ | refine yL (by assumption) ?_) | (refine yD rfl ?_) | (simp -implicitDefEqProofs only [push_cast, sevalprocAttr, eq_self, e0, e1, e3, e4, e5, e6, ht, d1]) | (simp -implicitDefEqProofs (disch := omega) only [yH, yM, yI, yG, e0, e1, e3, e4, e5, e6, ht, d1]) | (with_reducible refine yO ?_ ?_) | (refine yF rfl (fun bb => ?_) (fun bb => ?_) <;> (first | have bp := oT bb | have bp := oF bb | skip) <;> simp only [bb]) | (with_reducible refine yK (fun bb => ?_) (fun bb => ?_) <;> (first | have bp := oT bb | have bp := oF bb | skip)) | ((with_reducible refine And.intro ?_ ?_); omega) | (refine yN (f69 t) ?_) | fail)
  have d1 : decide (1024 < (l.length : Int)) = false := dF (by omega)
  repeat' (first | ((try clear hf); with_reducible refine yE fun env K hE hK hf => ?_; have n := cj6 hE 0 1 3 4 5 6; simp -implicitDefEqProofs only [push_cast, reduceIte, Nat.reduceEqDiff, e0, e1, e3, e4, e5, e6] at n; clear hE e0 e1 e3 e4 e5 e6; obtain ⟨e0, e1, e3, e4, e5, e6⟩ := n) | (with_reducible refine hK _ _ ?_; clear hK K) | (with_reducible first | (refine Zi ?_; constructor) | refine yC (by decide) ?_ | refine yJ (by assumption) ?_ | refine yL (by assumption) ?_) | (refine yD rfl ?_) | (simp -implicitDefEqProofs only [push_cast, sevalprocAttr, eq_self, e0, e1, e3, e4, e5, e6, ht, d1]) | (simp -implicitDefEqProofs (disch := omega) only [yH, yM, yI, yG, e0, e1, e3, e4, e5, e6, ht, d1]) | (with_reducible refine yO ?_ ?_) | (refine yF rfl (fun bb => ?_) (fun bb => ?_) <;> (first | have bp := oT bb | have bp := oF bb | skip) <;> simp only [bb]) | (with_reducible refine yK (fun bb => ?_) (fun bb => ?_) <;> (first | have bp := oT bb | have bp := oF bb | skip)) | ((with_reducible refine And.intro ?_ ?_); omega) | (refine yN (f69 t) ?_) | fail)
  refine yQ fun env hE => ?_; have n := cj6 hE 0 1 3 4 5 6; simp -implicitDefEqProofs only [push_cast, reduceIte, Nat.reduceEqDiff, e0, e1, e3, e4, e5, e6] at n; clear hE e0 e1 e3 e4 e5 e6; obtain ⟨e0, e1, e3, e4, e5, e6⟩ := n; have E90_0_0 := e0; have E90_0_1 := e1; have E90_0_3 := e3; have E90_0_5 := e5
  refine qE (fun nn σ => ∃ (k : Nat), nn = l.length - k ∧ σ.env 0 = env 0 ∧ σ.env 1 = env 1 ∧ σ.env 3 = env 3 ∧ σ.env 5 = env 5 ∧ σ.env 6 = i64 k ∧ (k ≤ l.length ∧ ∀ j (hj : j < k) (h : j < l.length), opOK l[j])) _ ⟨0, rfl, rfl, rfl, rfl, rfl, by refine e6.trans ?_; first | rfl | exact yP (by omega) | (simp -implicitDefEqProofs (disch := omega) only [yG]; first | rfl | exact yP (by omega)), ?_⟩ ?_
  · exact ⟨by omega, fun j hj => by omega⟩
  clear e0 e1 e3 e4 e5 e6; rintro nn ⟨env, h⟩ ⟨k, rfl, q0, q1, q3, q5, e6, hI⟩; simp only at q0 q1 q3 q5 e6 hI; (first | have e0 := q0.trans E90_0_0 | have e0 := True.intro); (first | have e1 := q1.trans E90_0_1 | have e1 := True.intro); (first | have e3 := q3.trans E90_0_3 | have e3 := True.intro); (first | have e5 := q5.trans E90_0_5 | have e5 := True.intro); clear q0 q1 q3 q5; have e4 := True.intro
  obtain ⟨hk, hall⟩ := hI
  unfold l90_0
  by_cases hlt : k < l.length
  · have hd : decide ((k : Int) < (l.length : Int)) = true := dT (by omega)
    have hr := qU hlt .i64
    have ho := hl _ (List.getElem_mem hlt)
    by_cases hok : opOK l[k]
    · have h3 : decide (l[k].k < 1) = false := dF (by have := hok.1; omega)
      have h4 : decide (17 < l[k].k) = false := dF (by have := hok.2.1; omega)
      have h5 := hok.2.2
      repeat' (first | ((try clear hf); with_reducible refine yE fun env K hE hK hf => ?_; have n := cj6 hE 0 1 3 4 5 6; simp -implicitDefEqProofs only [push_cast, reduceIte, Nat.reduceEqDiff, e0, e1, e3, e4, e5, e6] at n; clear hE e0 e1 e3 e4 e5 e6; obtain ⟨e0, e1, e3, e4, e5, e6⟩ := n) | (with_reducible refine hK _ _ ?_; clear hK K) | (with_reducible first | (refine Zi ?_; constructor) | refine yC (by decide) ?_ | refine yJ (by assumption) ?_ | refine yL (by assumption) ?_) | (refine yD rfl ?_) | (simp -implicitDefEqProofs only [push_cast, sevalprocAttr, eq_self, e0, e1, e3, e4, e5, e6, hd, hr, h3, h4, h5]) | (simp -implicitDefEqProofs (disch := omega) only [yH, yM, yI, yG, e0, e1, e3, e4, e5, e6, hd, hr, h3, h4, h5]) | (with_reducible refine yO ?_ ?_) | (refine yF rfl (fun bb => ?_) (fun bb => ?_) <;> (first | have bp := oT bb | have bp := oF bb | skip) <;> simp only [bb]) | (with_reducible refine yK (fun bb => ?_) (fun bb => ?_) <;> (first | have bp := oT bb | have bp := oF bb | skip)) | ((with_reducible refine And.intro ?_ ?_); omega) | (refine yN (f111 _ ho) ?_) | fail)
      refine ⟨_, ?_, k + 1, rfl, E90_0_0.symm, E90_0_1.symm, E90_0_3.symm, E90_0_5.symm, by first | rfl | exact yP (by omega) | (simp -implicitDefEqProofs (disch := omega) only [yG]; first | rfl | exact yP (by omega)), ?_⟩
      · omega
      · refine ⟨by omega, fun j hj h => ?_⟩
        by_cases e : j < k
        · exact hall j e h
        · obtain rfl : j = k := by omega
          exact hok
    · have hE : errR l t = 30 := by
        unfold errR
        rw [if_neg (by omega), if_neg h2, if_neg (fun h => hok (h _ (List.getElem_mem hlt)))]
      rw [hE]
      have hn : ¬ (1 ≤ l[k].k ∧ l[k].k ≤ 17 ∧ chkE l[k] = 0) := hok
      repeat' (first | ((try clear hf); with_reducible refine yE fun env K hE hK hf => ?_; have n := cj6 hE 0 1 3 4 5 6; simp -implicitDefEqProofs only [push_cast, reduceIte, Nat.reduceEqDiff, e0, e1, e3, e4, e5, e6] at n; clear hE e0 e1 e3 e4 e5 e6; obtain ⟨e0, e1, e3, e4, e5, e6⟩ := n) | (with_reducible refine hK _ _ ?_; clear hK K) | (with_reducible first | (refine Zi ?_; constructor) | refine yC (by decide) ?_ | refine yJ (by assumption) ?_ | refine yL (by assumption) ?_) | (refine yD rfl ?_) | (simp -implicitDefEqProofs only [push_cast, sevalprocAttr, eq_self, e0, e1, e3, e4, e5, e6, hd, hr]) | (simp -implicitDefEqProofs (disch := omega) only [yH, yM, yI, yG, e0, e1, e3, e4, e5, e6, hd, hr]) | (with_reducible refine yO ?_ ?_) | (refine yF rfl (fun bb => ?_) (fun bb => ?_) <;> (first | have bp := oT bb | have bp := oF bb | skip) <;> simp only [bb]) | (with_reducible refine yK (fun bb => ?_) (fun bb => ?_) <;> (first | have bp := oT bb | have bp := oF bb | skip)) | ((with_reducible refine And.intro ?_ ?_); omega) | (refine yN (f111 _ ho) ?_) | fail)
      all_goals first
        | rfl
        | (exfalso; omega)
  · have hd : decide ((k : Int) < (l.length : Int)) = false := dF (by omega)
    have hE : errR l t = 0 := by
      unfold errR
      rw [if_neg (by omega), if_neg h2, if_pos (fun o ho => by obtain ⟨j, hj, rfl⟩ := List.getElem_of_mem ho; exact hall j (by omega) hj)]
    rw [hE]
    repeat' (first | ((try clear hf); with_reducible refine yE fun env K hE hK hf => ?_; have n := cj6 hE 0 1 3 4 5 6; simp -implicitDefEqProofs only [push_cast, reduceIte, Nat.reduceEqDiff, e0, e1, e3, e4, e5, e6] at n; clear hE e0 e1 e3 e4 e5 e6; obtain ⟨e0, e1, e3, e4, e5, e6⟩ := n) | (with_reducible refine hK _ _ ?_; clear hK K) | (with_reducible first | (refine Zi ?_; constructor) | refine yC (by decide) ?_ | refine yJ (by assumption) ?_ | refine yL (by assumption) ?_) | (refine yD rfl ?_) | (simp -implicitDefEqProofs only [push_cast, sevalprocAttr, eq_self, e0, e1, e3, e4, e5, e6, hd]) | (simp -implicitDefEqProofs (disch := omega) only [yH, yM, yI, yG, e0, e1, e3, e4, e5, e6, hd]) | (with_reducible refine yO ?_ ?_) | (refine yF rfl (fun bb => ?_) (fun bb => ?_) <;> (first | have bp := oT bb | have bp := oF bb | skip) <;> simp only [bb]) | (with_reducible refine yK (fun bb => ?_) (fun bb => ?_) <;> (first | have bp := oT bb | have bp := oF bb | skip)) | ((with_reducible refine And.intro ?_ ?_); omega) | fail)
theorem f93 (o : Opn) (t : Tab) : HV Try.prog 93 [.agg (opC o), .agg (tabC t)] (i64 (latS t o)) := by
  refine yT yX cf93 (by simp) rfl ?_ rfl
  unfold ac93 re93
  refine yQ fun env hE => ?_; obtain ⟨e0, e1, e2, e3, e4, e5⟩ := cj6 hE 0 1 2 3 4 5; simp -implicitDefEqProofs only [push_cast] at e0 e1 e2 e3 e4 e5; clear hE
  have hc := clsN_eq o
  have hc4 := clsN_lt o
  have hq := tab_l t hc4
  repeat' (first | ((try clear hf); with_reducible refine yE fun env K hE hK hf => ?_; have n := cj6 hE 0 1 2 3 4 5; simp -implicitDefEqProofs only [push_cast, reduceIte, Nat.reduceEqDiff, e0, e1, e2, e3, e4, e5] at n; clear hE e0 e1 e2 e3 e4 e5; obtain ⟨e0, e1, e2, e3, e4, e5⟩ := n) | (with_reducible refine hK _ _ ?_; clear hK K) | (with_reducible first | (refine Zi ?_; constructor) | refine yC (by decide) ?_ | refine yJ (by assumption) ?_ | refine yL (by assumption) ?_) | (refine yD rfl ?_) | (simp -implicitDefEqProofs only [push_cast, sevalprocAttr, eq_self, e0, e1, e2, e3, e4, e5, hc, hq]) | (simp -implicitDefEqProofs (disch := omega) only [yH, yM, yI, yG, e0, e1, e2, e3, e4, e5, hc, hq]) | (with_reducible refine yO ?_ ?_) | (refine yF rfl (fun bb => ?_) (fun bb => ?_) <;> (first | have bp := oT bb | have bp := oF bb | skip) <;> simp only [bb]) | (with_reducible refine yK (fun bb => ?_) (fun bb => ?_) <;> (first | have bp := oT bb | have bp := oF bb | skip)) | ((with_reducible refine And.intro ?_ ?_); omega) | (refine yN (f51 _) ?_) | fail)
  rfl
theorem f113 (o : Opn) (ho : o.ok) (r : Int) : HV Try.prog 113 [.agg (opC o), u8 r] (bl ((wrS o).2 && decide ((wrS o).1 = r))) := by
  refine yT yX cf113 (by simp) rfl ?_ rfl
  unfold ac113 re113
  refine yQ fun env hE => ?_; obtain ⟨e0, e1, e2, e4, e5, e6⟩ := cj6 hE 0 1 2 4 5 6; simp -implicitDefEqProofs only [push_cast] at e0 e1 e2 e4 e5 e6; clear hE
  repeat' (first | ((try clear hf); with_reducible refine yE fun env K hE hK hf => ?_; have n := cj6 hE 0 1 2 4 5 6; simp -implicitDefEqProofs only [push_cast, reduceIte, Nat.reduceEqDiff, e0, e1, e2, e4, e5, e6] at n; clear hE e0 e1 e2 e4 e5 e6; obtain ⟨e0, e1, e2, e4, e5, e6⟩ := n) | (with_reducible refine hK _ _ ?_; clear hK K) | (with_reducible first | (refine Zi ?_; constructor) | refine yC (by decide) ?_ | refine yJ (by assumption) ?_ | refine yL (by assumption) ?_) | (refine yD rfl ?_) | (simp -implicitDefEqProofs only [push_cast, sevalprocAttr, eq_self, e0, e1, e2, e4, e5, e6]) | (simp -implicitDefEqProofs (disch := omega) only [yH, yM, yI, yG, e0, e1, e2, e4, e5, e6]) | (with_reducible refine yO ?_ ?_) | (refine yF rfl (fun bb => ?_) (fun bb => ?_) <;> (first | have bp := oT bb | have bp := oF bb | skip) <;> simp only [bb]) | (with_reducible refine yK (fun bb => ?_) (fun bb => ?_) <;> (first | have bp := oT bb | have bp := oF bb | skip)) | ((with_reducible refine And.intro ?_ ?_); omega) | (refine yN (f88 o ho) ?_) | fail)
  all_goals ((try clear hf); (try clear e0 e1 e2 e4 e5 e6); simp_all)
theorem f114 (o : Opn) : HV Try.prog 114 [.agg (opC o)] (bl (effS o)) := by
  refine yT yX cf114 (by simp) rfl ?_ rfl
  unfold ac114 re114
  refine yQ fun env hE => ?_; obtain ⟨e0, e1, e2⟩ := cj3 hE 0 1 2; simp -implicitDefEqProofs only [push_cast] at e0 e1 e2; clear hE
  repeat' (first | ((try clear hf); with_reducible refine yE fun env K hE hK hf => ?_; have n := cj3 hE 0 1 2; simp -implicitDefEqProofs only [push_cast, reduceIte, Nat.reduceEqDiff, e0, e1, e2] at n; clear hE e0 e1 e2; obtain ⟨e0, e1, e2⟩ := n) | (with_reducible refine hK _ _ ?_; clear hK K) | (with_reducible first | (refine Zi ?_; constructor) | refine yC (by decide) ?_ | refine yJ (by assumption) ?_ | refine yL (by assumption) ?_) | (refine yD rfl ?_) | (simp -implicitDefEqProofs only [push_cast, sevalprocAttr, eq_self, e0, e1, e2]) | (simp -implicitDefEqProofs (disch := omega) only [yH, yM, yI, yG, e0, e1, e2]) | (with_reducible refine yO ?_ ?_) | (refine yF rfl (fun bb => ?_) (fun bb => ?_) <;> (first | have bp := oT bb | have bp := oF bb | skip) <;> simp only [bb]) | (with_reducible refine yK (fun bb => ?_) (fun bb => ?_) <;> (first | have bp := oT bb | have bp := oF bb | skip)) | ((with_reducible refine And.intro ?_ ?_); omega) | fail)
  all_goals ((try clear hf); (try clear e0 e1 e2); unfold effS; simp_all)
theorem wr_dS {o : Opn} (ho : o.ok) {r : Int} (hr : 0 ≤ r) : ((wrS o).2 && decide ((wrS o).1 = r)) = true ↔ 0 ≤ dS o ∧ r.toNat = (dS o).toNat := by
  have h1 : 0 ≤ (wrS o).1 := by
    unfold Opn.ok at ho
    unfold wrS; split <;> simp; omega
  unfold dS
  cases h : (wrS o).2
  · simp
  · simp; omega
set_option maxHeartbeats 1000000 in
theorem f112 (l : List Opn) (n : Nat) (r : Int) (hr : 0 ≤ r) (hn : n ≤ l.length) (hl : ∀ o ∈ l, o.ok) (hb : l.length ≤ 1000000) : HV Try.prog 112 [.row (l.map opC), i64 n, u8 r] (i64 (YM l n r.toNat - 1)) := by
  refine yT yX cf112 (by simp) (by simp [imms, imm, qK]) ?_ rfl
  unfold ac112 re112
  refine yQ fun env hE => ?_; obtain ⟨e0, e1, e2, e6, e7⟩ := cj5 hE 0 1 2 6 7; simp -implicitDefEqProofs only [push_cast] at e0 e1 e2 e6 e7; clear hE
  repeat' (first | ((try clear hf); with_reducible refine yE fun env K hE hK hf => ?_; have n := cj5 hE 0 1 2 6 7; simp -implicitDefEqProofs only [push_cast, reduceIte, Nat.reduceEqDiff, e0, e1, e2, e6, e7] at n; clear hE e0 e1 e2 e6 e7; obtain ⟨e0, e1, e2, e6, e7⟩ := n) | (with_reducible refine hK _ _ ?_; clear hK K) | (with_reducible first | (refine Zi ?_; constructor) | refine yC (by decide) ?_ | refine yJ (by assumption) ?_ | refine yL (by assumption) ?_) | (refine yD rfl ?_) | (simp -implicitDefEqProofs only [push_cast, sevalprocAttr, eq_self, e0, e1, e2, e6, e7]) | (simp -implicitDefEqProofs (disch := omega) only [yH, yM, yI, yG, e0, e1, e2, e6, e7]) | (with_reducible refine yO ?_ ?_) | (refine yF rfl (fun bb => ?_) (fun bb => ?_) <;> (first | have bp := oT bb | have bp := oF bb | skip) <;> simp only [bb]) | (with_reducible refine yK (fun bb => ?_) (fun bb => ?_) <;> (first | have bp := oT bb | have bp := oF bb | skip)) | ((with_reducible refine And.intro ?_ ?_); omega) | fail)
  refine yQ fun env hE => ?_; have n := cj5 hE 0 1 2 6 7; simp -implicitDefEqProofs only [push_cast, reduceIte, Nat.reduceEqDiff, e0, e1, e2, e6, e7] at n; clear hE e0 e1 e2 e6 e7; obtain ⟨e0, e1, e2, e6, e7⟩ := n; have E112_0_0 := e0; have E112_0_1 := e1; have E112_0_2 := e2
  refine qE (fun nn σ => ∃ (m : Nat), nn = m + m ∧ σ.env 0 = env 0 ∧ σ.env 1 = env 1 ∧ σ.env 2 = env 2 ∧ σ.env 7 = i64 ((m : Int) - 1) ∧ (m ≤ n ∧ YM l n r.toNat = YM l m r.toNat)) _ ⟨n, rfl, rfl, rfl, rfl, by refine e7.trans ?_; first | rfl | exact yP (by omega) | (simp -implicitDefEqProofs (disch := omega) only [yG]; first | rfl | exact yP (by omega)), ?_⟩ ?_
  · exact ⟨by omega, rfl⟩
  clear e0 e1 e2 e6 e7; rintro nn ⟨env, h⟩ ⟨m, rfl, q0, q1, q2, e7, hI⟩; simp only at q0 q1 q2 e7 hI; (first | have e0 := q0.trans E112_0_0 | have e0 := True.intro); (first | have e1 := q1.trans E112_0_1 | have e1 := True.intro); (first | have e2 := q2.trans E112_0_2 | have e2 := True.intro); clear q0 q1 q2; have e6 := True.intro
  obtain ⟨hm, hlast⟩ := hI
  unfold l112_0
  by_cases hlt : 0 < m
  · have hd : decide ((0 : Int) ≤ (m : Int) - 1) = true := dT (by omega)
    obtain ⟨k, hk⟩ : ∃ k, m = k + 1 := ⟨m - 1, by omega⟩
    have hmk : (m : Int) - 1 = (k : Int) := by omega
    rw [hmk] at hd e7
    have hkl : k < l.length := by omega
    have hr2 := qU hkl .i64
    have ho := hl _ (List.getElem_mem hkl)
    have hw := wr_dS ho hr
    have hoe := qR hkl
    have hLs : YM l (k + 1) r.toNat = if 0 ≤ dS l[k] ∧ r.toNat = (dS l[k]).toNat then (k : Int) + 1 else YM l k r.toNat := by rw [hoe]; rfl
    by_cases hc : ((wrS l[k]).2 && decide ((wrS l[k]).1 = r)) = true
    · repeat' (first | ((try clear hf); with_reducible refine yE fun env K hE hK hf => ?_; have n := cj5 hE 0 1 2 6 7; simp -implicitDefEqProofs only [push_cast, reduceIte, Nat.reduceEqDiff, e0, e1, e2, e6, e7] at n; clear hE e0 e1 e2 e6 e7; obtain ⟨e0, e1, e2, e6, e7⟩ := n) | (with_reducible refine hK _ _ ?_; clear hK K) | (with_reducible first | (refine Zi ?_; constructor) | refine yC (by decide) ?_ | refine yJ (by assumption) ?_ | refine yL (by assumption) ?_) | (refine yD rfl ?_) | (simp -implicitDefEqProofs only [push_cast, sevalprocAttr, eq_self, e0, e1, e2, e6, e7, hd, hr2, hc]) | (simp -implicitDefEqProofs (disch := omega) only [yH, yM, yI, yG, e0, e1, e2, e6, e7, hd, hr2, hc]) | (with_reducible refine yO ?_ ?_) | (refine yF rfl (fun bb => ?_) (fun bb => ?_) <;> (first | have bp := oT bb | have bp := oF bb | skip) <;> simp only [bb]) | (with_reducible refine yK (fun bb => ?_) (fun bb => ?_) <;> (first | have bp := oT bb | have bp := oF bb | skip)) | ((with_reducible refine And.intro ?_ ?_); omega) | (refine yN (f113 _ ho r) ?_) | fail)
      rw [hlast, hk, hLs, if_pos (hw.1 hc)]
      exact congrArg some (yP (by omega))
    · have hc2 := hc
      rw [Bool.not_eq_true] at hc
      repeat' (first | ((try clear hf); with_reducible refine yE fun env K hE hK hf => ?_; have n := cj5 hE 0 1 2 6 7; simp -implicitDefEqProofs only [push_cast, reduceIte, Nat.reduceEqDiff, e0, e1, e2, e6, e7] at n; clear hE e0 e1 e2 e6 e7; obtain ⟨e0, e1, e2, e6, e7⟩ := n) | (with_reducible refine hK _ _ ?_; clear hK K) | (with_reducible first | (refine Zi ?_; constructor) | refine yC (by decide) ?_ | refine yJ (by assumption) ?_ | refine yL (by assumption) ?_) | (refine yD rfl ?_) | (simp -implicitDefEqProofs only [push_cast, sevalprocAttr, eq_self, e0, e1, e2, e6, e7, hd, hr2, hc]) | (simp -implicitDefEqProofs (disch := omega) only [yH, yM, yI, yG, e0, e1, e2, e6, e7, hd, hr2, hc]) | (with_reducible refine yO ?_ ?_) | (refine yF rfl (fun bb => ?_) (fun bb => ?_) <;> (first | have bp := oT bb | have bp := oF bb | skip) <;> simp only [bb]) | (with_reducible refine yK (fun bb => ?_) (fun bb => ?_) <;> (first | have bp := oT bb | have bp := oF bb | skip)) | ((with_reducible refine And.intro ?_ ?_); omega) | (refine yN (f113 _ ho r) ?_) | fail)
      refine ⟨_, ?_, k, rfl, E112_0_0.symm, E112_0_1.symm, E112_0_2.symm, by first | rfl | exact yP (by omega) | (simp -implicitDefEqProofs (disch := omega) only [yG]; first | rfl | exact yP (by omega)), ?_⟩
      · omega
      · refine ⟨by omega, ?_⟩
        rw [hlast, hk, hLs, if_neg (fun h => hc2 (hw.2 h))]
  · have hd : decide ((0 : Int) ≤ (m : Int) - 1) = false := dF (by omega)
    repeat' (first | ((try clear hf); with_reducible refine yE fun env K hE hK hf => ?_; have n := cj5 hE 0 1 2 6 7; simp -implicitDefEqProofs only [push_cast, reduceIte, Nat.reduceEqDiff, e0, e1, e2, e6, e7] at n; clear hE e0 e1 e2 e6 e7; obtain ⟨e0, e1, e2, e6, e7⟩ := n) | (with_reducible refine hK _ _ ?_; clear hK K) | (with_reducible first | (refine Zi ?_; constructor) | refine yC (by decide) ?_ | refine yJ (by assumption) ?_ | refine yL (by assumption) ?_) | (refine yD rfl ?_) | (simp -implicitDefEqProofs only [push_cast, sevalprocAttr, eq_self, e0, e1, e2, e6, e7, hd]) | (simp -implicitDefEqProofs (disch := omega) only [yH, yM, yI, yG, e0, e1, e2, e6, e7, hd]) | (with_reducible refine yO ?_ ?_) | (refine yF rfl (fun bb => ?_) (fun bb => ?_) <;> (first | have bp := oT bb | have bp := oF bb | skip) <;> simp only [bb]) | (with_reducible refine yK (fun bb => ?_) (fun bb => ?_) <;> (first | have bp := oT bb | have bp := oF bb | skip)) | ((with_reducible refine And.intro ?_ ?_); omega) | fail)
    obtain rfl : m = 0 := by omega
    rw [hlast]
    rfl
end Go.Proofs.Hx

set_option linter.unusedVariables false
set_option linter.unusedSimpArgs false
namespace Go.Proofs.Hx
open Go Go.Proofs
attribute [local irreducible] yS awp opK goV goM qB yZ qH yW HV HVF HC
theorem lastL_rng (l : List Opn) (n r : Nat) : 0 ≤ YM l n r ∧ YM l n r ≤ n := by
  induction n with
  | zero => simp [YM]
  | succ n ih => simp only [YM]; split <;> omega
theorem any_of {L : Nat → Int} {o : Opn} {i k : Nat} (hk : k < (rdS o).length) (h : L ((rdS o)[k]).toNat = (i : Int) + 1) : fromS L o i = true := by
  unfold fromS
  rw [List.any_eq_true]
  exact ⟨_, List.getElem_mem hk, dT h⟩
theorem any_no {L : Nat → Int} {o : Opn} {i : Nat} (h : ∀ (q : Nat) (hq : q < (rdS o).length), L ((rdS o)[q]).toNat ≠ (i : Int) + 1) : fromS L o i = false := by
  unfold fromS
  rw [List.any_eq_false]
  intro x hx
  obtain ⟨j, hj, rfl⟩ := List.getElem_of_mem hx
  simpa using h j hj
set_option maxHeartbeats 1000000 in
theorem f92'n (l : List Opn) (i j : Nat) (hi : i ≤ 1000000) (hj : j < l.length) (hl : ∀ o ∈ l, o.ok) (hb : l.length ≤ 1000000) : HV Try.prog 92 [.row (l.map opC), i64 i, i64 j, bl false] (bl (fromS (YM l j) l[j] i)) := by
  refine yT yX cf92 (by simp) (by simp [imms, imm, qK]) ?_ rfl
  unfold ac92 re92
  refine yQ fun env hE => ?_; obtain ⟨e0, e1, e2, e3, e8, e9, e10, e11⟩ := cj8 hE 0 1 2 3 8 9 10 11; simp -implicitDefEqProofs only [push_cast] at e0 e1 e2 e3 e8 e9 e10 e11; clear hE
  have hr := qU hj .i64
  have ho := hl _ (List.getElem_mem hj)
  generalize l[j] = o at *
  repeat' (first | ((try clear hf); with_reducible refine yE fun env K hE hK hf => ?_; have n := cj8 hE 0 1 2 3 8 9 10 11; simp -implicitDefEqProofs only [push_cast, reduceIte, Nat.reduceEqDiff, e0, e1, e2, e3, e8, e9, e10, e11] at n; clear hE e0 e1 e2 e3 e8 e9 e10 e11; obtain ⟨e0, e1, e2, e3, e8, e9, e10, e11⟩ := n) | (with_reducible refine hK _ _ ?_; clear hK K) | (with_reducible first | (refine Zi ?_; constructor) | refine yC (by decide) ?_ | refine yJ (by assumption) ?_ | refine yL (by assumption) ?_) | (refine yD rfl ?_) | (simp -implicitDefEqProofs only [push_cast, sevalprocAttr, eq_self, e0, e1, e2, e3, e8, e9, e10, e11, hr]) | (simp -implicitDefEqProofs (disch := omega) only [yH, yM, yI, yG, e0, e1, e2, e3, e8, e9, e10, e11, hr]) | (with_reducible refine yO ?_ ?_) | (refine yF rfl (fun bb => ?_) (fun bb => ?_) <;> (first | have bp := oT bb | have bp := oF bb | skip) <;> simp only [bb]) | (with_reducible refine yK (fun bb => ?_) (fun bb => ?_) <;> (first | have bp := oT bb | have bp := oF bb | skip)) | ((with_reducible refine And.intro ?_ ?_); omega) | (refine call_own (YK rfl) (f89 o ho) ?_) | fail)
  refine yQ fun env hE => ?_; have n := cj8 hE 0 1 2 3 8 9 10 11; simp -implicitDefEqProofs only [push_cast, reduceIte, Nat.reduceEqDiff, e0, e1, e2, e3, e8, e9, e10, e11] at n; clear hE e0 e1 e2 e3 e8 e9 e10 e11; obtain ⟨e0, e1, e2, e3, e8, e9, e10, e11⟩ := n; have E92_0_0 := e0; have E92_0_1 := e1; have E92_0_2 := e2; have E92_0_3 := e3; have E92_0_9 := e9
  refine qE (fun nn σ => ∃ (k : Nat), nn = (rdS o).length - k ∧ σ.env 0 = env 0 ∧ σ.env 1 = env 1 ∧ σ.env 2 = env 2 ∧ σ.env 3 = env 3 ∧ σ.env 9 = env 9 ∧ σ.env 10 = i64 k ∧ (k ≤ (rdS o).length ∧ ∀ (q : Nat) (hq : q < k) (h : q < (rdS o).length), YM l j ((rdS o)[q]).toNat ≠ (i : Int) + 1)) _ ⟨0, rfl, rfl, rfl, rfl, rfl, rfl, by refine e10.trans ?_; first | rfl | exact yP (by omega) | (simp -implicitDefEqProofs (disch := omega) only [yG]; first | rfl | exact yP (by omega)), ?_⟩ ?_
  · exact ⟨by omega, fun j hj => by omega⟩
  clear e0 e1 e2 e3 e8 e9 e10 e11; rintro nn ⟨env, h⟩ ⟨k, rfl, q0, q1, q2, q3, q9, e10, hI⟩; simp only at q0 q1 q2 q3 q9 e10 hI; (first | have e0 := q0.trans E92_0_0 | have e0 := True.intro); (first | have e1 := q1.trans E92_0_1 | have e1 := True.intro); (first | have e2 := q2.trans E92_0_2 | have e2 := True.intro); (first | have e3 := q3.trans E92_0_3 | have e3 := True.intro); (first | have e9 := q9.trans E92_0_9 | have e9 := True.intro); clear q0 q1 q2 q3 q9; have e8 := True.intro; have e11 := True.intro
  obtain ⟨hk, hall⟩ := hI
  unfold l92_0
  have hrl := rdS_len o
  by_cases hlt : k < (rdS o).length
  · have hd : decide ((k : Int) < ((rdS o).length : Int)) = true := dT (by omega)
    have hr := regs_at hlt .i64
    have hm := rdS_mem ho (List.getElem_mem hlt)
    have hcall := f112 l j (rdS o)[k] hm.1 (by omega) hl hb
    have hrng := lastL_rng l j ((rdS o)[k]).toNat
    have hno := fun h => any_of (L := YM l j) (i := i) hlt h
    generalize hx : (rdS o)[k] = x at *
    by_cases hc : YM l j x.toNat = (i : Int) + 1
    · have d1 : decide (YM l j x.toNat - 1 = (i : Int)) = true := dT (by omega)
      repeat' (first | ((try clear hf); with_reducible refine yE fun env K hE hK hf => ?_; have n := cj8 hE 0 1 2 3 8 9 10 11; simp -implicitDefEqProofs only [push_cast, reduceIte, Nat.reduceEqDiff, e0, e1, e2, e3, e8, e9, e10, e11] at n; clear hE e0 e1 e2 e3 e8 e9 e10 e11; obtain ⟨e0, e1, e2, e3, e8, e9, e10, e11⟩ := n) | (with_reducible refine hK _ _ ?_; clear hK K) | (with_reducible first | (refine Zi ?_; constructor) | refine yC (by decide) ?_ | refine yJ (by assumption) ?_ | refine yL (by assumption) ?_) | (refine yD rfl ?_) | (simp -implicitDefEqProofs only [push_cast, sevalprocAttr, eq_self, e0, e1, e2, e3, e8, e9, e10, e11, hd, hr, YR, d1]) | (simp -implicitDefEqProofs (disch := omega) only [yH, yM, yI, yG, e0, e1, e2, e3, e8, e9, e10, e11, hd, hr, YR, d1]) | (with_reducible refine yO ?_ ?_) | (refine yF rfl (fun bb => ?_) (fun bb => ?_) <;> (first | have bp := oT bb | have bp := oF bb | skip) <;> simp only [bb]) | (with_reducible refine yK (fun bb => ?_) (fun bb => ?_) <;> (first | have bp := oT bb | have bp := oF bb | skip)) | ((with_reducible refine And.intro ?_ ?_); omega) | (refine yN hcall ?_) | fail)
      rw [hno hc]
    · have d1 : decide (YM l j x.toNat - 1 = (i : Int)) = false := dF (by omega)
      repeat' (first | ((try clear hf); with_reducible refine yE fun env K hE hK hf => ?_; have n := cj8 hE 0 1 2 3 8 9 10 11; simp -implicitDefEqProofs only [push_cast, reduceIte, Nat.reduceEqDiff, e0, e1, e2, e3, e8, e9, e10, e11] at n; clear hE e0 e1 e2 e3 e8 e9 e10 e11; obtain ⟨e0, e1, e2, e3, e8, e9, e10, e11⟩ := n) | (with_reducible refine hK _ _ ?_; clear hK K) | (with_reducible first | (refine Zi ?_; constructor) | refine yC (by decide) ?_ | refine yJ (by assumption) ?_ | refine yL (by assumption) ?_) | (refine yD rfl ?_) | (simp -implicitDefEqProofs only [push_cast, sevalprocAttr, eq_self, e0, e1, e2, e3, e8, e9, e10, e11, hd, hr, YR, d1]) | (simp -implicitDefEqProofs (disch := omega) only [yH, yM, yI, yG, e0, e1, e2, e3, e8, e9, e10, e11, hd, hr, YR, d1]) | (with_reducible refine yO ?_ ?_) | (refine yF rfl (fun bb => ?_) (fun bb => ?_) <;> (first | have bp := oT bb | have bp := oF bb | skip) <;> simp only [bb]) | (with_reducible refine yK (fun bb => ?_) (fun bb => ?_) <;> (first | have bp := oT bb | have bp := oF bb | skip)) | ((with_reducible refine And.intro ?_ ?_); omega) | (refine yN hcall ?_) | fail)
      refine ⟨_, ?_, k + 1, rfl, E92_0_0.symm, E92_0_1.symm, E92_0_2.symm, E92_0_3.symm, E92_0_9.symm, by first | rfl | exact yP (by omega) | (simp -implicitDefEqProofs (disch := omega) only [yG]; first | rfl | exact yP (by omega)), ?_⟩
      · omega
      · refine ⟨by omega, fun q hq h => ?_⟩
        by_cases e : q < k
        · exact hall q e h
        · obtain rfl : q = k := by omega
          rw [hx]; exact hc
  · have hd : decide ((k : Int) < ((rdS o).length : Int)) = false := dF (by omega)
    repeat' (first | ((try clear hf); with_reducible refine yE fun env K hE hK hf => ?_; have n := cj8 hE 0 1 2 3 8 9 10 11; simp -implicitDefEqProofs only [push_cast, reduceIte, Nat.reduceEqDiff, e0, e1, e2, e3, e8, e9, e10, e11] at n; clear hE e0 e1 e2 e3 e8 e9 e10 e11; obtain ⟨e0, e1, e2, e3, e8, e9, e10, e11⟩ := n) | (with_reducible refine hK _ _ ?_; clear hK K) | (with_reducible first | (refine Zi ?_; constructor) | refine yC (by decide) ?_ | refine yJ (by assumption) ?_ | refine yL (by assumption) ?_) | (refine yD rfl ?_) | (simp -implicitDefEqProofs only [push_cast, sevalprocAttr, eq_self, e0, e1, e2, e3, e8, e9, e10, e11, hd, YR]) | (simp -implicitDefEqProofs (disch := omega) only [yH, yM, yI, yG, e0, e1, e2, e3, e8, e9, e10, e11, hd, YR]) | (with_reducible refine yO ?_ ?_) | (refine yF rfl (fun bb => ?_) (fun bb => ?_) <;> (first | have bp := oT bb | have bp := oF bb | skip) <;> simp only [bb]) | (with_reducible refine yK (fun bb => ?_) (fun bb => ?_) <;> (first | have bp := oT bb | have bp := oF bb | skip)) | ((with_reducible refine And.intro ?_ ?_); omega) | fail)
    rw [any_no fun q hq => hall q (by omega) hq]
end Go.Proofs.Hx
