import Derived.Test.YtcdibfkebojefaaG6
import Derived.Test.YtcdibfkebojefaaG5
set_option linter.unusedVariables false
set_option linter.unusedSimpArgs false
namespace Go.Proofs.Hx
open Go Go.Proofs
attribute [local irreducible] yM awp opK goV goM yV yZ qF yQ HV HVF HC
/-- around over no operation. -/
theorem f67'n {h0 : Hp} {F : Id} {t : Tab} {a b : AV} (hb : h0.hp F = some ⟨true, finW [] t a b⟩) (hFe : F.1 ≤ h0.ep) :
    HC Try.prog 67 [.ptr F 0] h0 fun r h' => r = .tup [] ∧ Ext h0 h' := by
  refine HC_of_awp yL cf67 (by simp) fun hF => ?_
  unfold ac67 re67
  refine yF fun env hE => ?_; have e0 := hE 0; have e2 := hE 2; have e3 := hE 3; have e4 := hE 4; have e5 := hE 5; have e6 := hE 6; have e11 := hE 11; have e12 := hE 12; have e13 := hE 13; have e39 := hE 39; have e40 := hE 40; have e41 := hE 41; have e47 := hE 47; have e48 := hE 48; have e49 := hE 49; simp -implicitDefEqProofs only [push_cast] at e0 e2 e3 e4 e5 e6 e11 e12 e13 e39 e40 e41 e47 e48 e49; clear hE
  obtain ⟨Fe, Fs⟩ := F
  simp only at hFe
  have h00 : (finW [] t a b)[0]? = some (.row []) := rfl
  have h01 : lenV (.row []) = some (.lit (.int .i64 0)) := rfl
  have d1 : decide ((0 : Int) < 0) = false := rfl
  repeat' (first | ((try clear hf); with_reducible refine zM fun env K hE hK hf => ?_; have n : _ ∧ _ ∧ _ ∧ _ ∧ _ ∧ _ ∧ _ ∧ _ ∧ _ ∧ _ ∧ _ ∧ _ ∧ _ ∧ _ ∧ _ := ⟨hE 0, hE 2, hE 3, hE 4, hE 5, hE 6, hE 11, hE 12, hE 13, hE 39, hE 40, hE 41, hE 47, hE 48, hE 49⟩; simp -implicitDefEqProofs only [push_cast, reduceIte, Nat.reduceEqDiff, e0, e2, e3, e4, e5, e6, e11, e12, e13, e39, e40, e41, e47, e48, e49] at n; clear hE e0 e2 e3 e4 e5 e6 e11 e12 e13 e39 e40 e41 e47 e48 e49; obtain ⟨e0, e2, e3, e4, e5, e6, e11, e12, e13, e39, e40, e41, e47, e48, e49⟩ := n) | (with_reducible refine hK _ _ ?_; clear hK K) | (with_reducible first | refine zJ ?_ | refine zU ?_ | refine zB ?_ | refine zG ?_ | refine zE ?_ | refine zL ?_ | refine zT ?_ | refine zD ?_ | refine zH ?_ | refine zV ?_ | refine zF ?_ | refine zA (by decide) ?_ | refine zP ?_ | refine zO ?_ | refine zK ?_ | refine yB ?_ | refine yC ?_ | refine zW (by assumption) ?_ | refine zY (by assumption) ?_) | (refine zI rfl ?_) | (simp -implicitDefEqProofs only [push_cast, sevalprocAttr, eq_self, e0, e2, e3, e4, e5, e6, e11, e12, e13, e39, e40, e41, e47, e48, e49, hb, hF.at, h00, h01]) | (simp -implicitDefEqProofs (disch := omega) only [zR, zZ, zS, zQ, e0, e2, e3, e4, e5, e6, e11, e12, e13, e39, e40, e41, e47, e48, e49, hb, hF.at, h00, h01]) | (with_reducible refine yE ?_ ?_) | (refine zN rfl (fun bb => ?_) (fun bb => ?_) <;> (first | have bp := of_decide_eq_true bb | have bp := of_decide_eq_false bb | skip) <;> simp only [bb]) | (with_reducible refine zX (fun bb => ?_) (fun bb => ?_) <;> (first | have bp := of_decide_eq_true bb | have bp := of_decide_eq_false bb | skip)) | ((with_reducible refine And.intro ?_ ?_); omega) | fail)
  generalize hL0 : (h0.ep + 1 + 1, 2) = L
  rw [hL0] at e2
  refine yF fun env hE => ?_; have n : _ ∧ _ ∧ _ ∧ _ ∧ _ ∧ _ ∧ _ ∧ _ ∧ _ ∧ _ ∧ _ ∧ _ ∧ _ ∧ _ ∧ _ := ⟨hE 0, hE 2, hE 3, hE 4, hE 5, hE 6, hE 11, hE 12, hE 13, hE 39, hE 40, hE 41, hE 47, hE 48, hE 49⟩; simp -implicitDefEqProofs only [push_cast, reduceIte, Nat.reduceEqDiff, e0, e2, e3, e4, e5, e6, e11, e12, e13, e39, e40, e41, e47, e48, e49] at n; clear hE e0 e2 e3 e4 e5 e6 e11 e12 e13 e39 e40 e41 e47 e48 e49; obtain ⟨e0, e2, e3, e4, e5, e6, e11, e12, e13, e39, e40, e41, e47, e48, e49⟩ := n; have E67_0_0 := e0; have E67_0_2 := e2; have E67_0_11 := e11
  refine yN (fun nn σ => ∃ (k : Nat), nn = 0 ∧ σ.env 0 = env 0 ∧ σ.env 2 = env 2 ∧ σ.env 11 = env 11 ∧ σ.env 12 = i64 k ∧ (k = 0 ∧ Ext h0 σ.h ∧ σ.h.hp L = some ⟨true, qN fun _ => 0⟩ ∧ L.1 ≤ σ.h.ep)) _ ⟨0, rfl, rfl, rfl, rfl, by refine e12.trans ?_; first | rfl | exact yG (by omega) | (simp -implicitDefEqProofs (disch := omega) only [zQ]; first | rfl | exact yG (by omega)), ?_⟩ ?_
  · refine ⟨rfl, ?_, ?_, ?_⟩
    · rw [← hL0]; exact (by repeat (first | exact Ext.refl _ | assumption | refine Ext.tick ?_ | refine Ext.push ?_ (by omega) _ | refine Ext.put ?_ (by omega) _ | refine Ext.kill ?_ (by omega) | refine Ext.killA ?_ (by assumption)))
    · rw [← hL0]; simp -implicitDefEqProofs only [push_cast, sevalprocAttr, eq_self]; rfl
    · rw [← hL0]; simp -implicitDefEqProofs only [push_cast, sevalprocAttr, eq_self]; omega
  clear hF
  clear e0 e2 e3 e4 e5 e6 e11 e12 e13 e39 e40 e41 e47 e48 e49; rintro nn ⟨env, h⟩ ⟨k, rfl, q0, q2, q11, e12, hI⟩; simp only at q0 q2 q11 e12 hI; (first | have e0 := q0.trans E67_0_0 | have e0 := True.intro); (first | have e2 := q2.trans E67_0_2 | have e2 := True.intro); (first | have e11 := q11.trans E67_0_11 | have e11 := True.intro); clear q0 q2 q11; have e3 := True.intro; have e4 := True.intro; have e5 := True.intro; have e6 := True.intro; have e13 := True.intro; have e39 := True.intro; have e40 := True.intro; have e41 := True.intro; have e47 := True.intro; have e48 := True.intro; have e49 := True.intro
  obtain ⟨rfl, hx, hL, eL⟩ := hI
  unfold l67_0
  (first | refine yI fun hF => ?_ | refine yX fun hF => ?_ | refine yW fun hF => ?_)
  have hb2 := (hx.2 (Fe, Fs) hFe).trans hb
  have hle := hx.1
  have hFe2 : Fe ≤ h.ep := by omega
  repeat' (first | ((try clear hf); with_reducible refine zM fun env K hE hK hf => ?_; have n : _ ∧ _ ∧ _ ∧ _ ∧ _ ∧ _ ∧ _ ∧ _ ∧ _ ∧ _ ∧ _ ∧ _ ∧ _ ∧ _ ∧ _ := ⟨hE 0, hE 2, hE 3, hE 4, hE 5, hE 6, hE 11, hE 12, hE 13, hE 39, hE 40, hE 41, hE 47, hE 48, hE 49⟩; simp -implicitDefEqProofs only [push_cast, reduceIte, Nat.reduceEqDiff, e0, e2, e3, e4, e5, e6, e11, e12, e13, e39, e40, e41, e47, e48, e49] at n; clear hE e0 e2 e3 e4 e5 e6 e11 e12 e13 e39 e40 e41 e47 e48 e49; obtain ⟨e0, e2, e3, e4, e5, e6, e11, e12, e13, e39, e40, e41, e47, e48, e49⟩ := n) | (with_reducible refine hK _ _ ?_; clear hK K) | (with_reducible first | refine zJ ?_ | refine zU ?_ | refine zB ?_ | refine zG ?_ | refine zE ?_ | refine zL ?_ | refine zT ?_ | refine zD ?_ | refine zH ?_ | refine zV ?_ | refine zF ?_ | refine zA (by decide) ?_ | refine zP ?_ | refine zO ?_ | refine zK ?_ | refine yB ?_ | refine yC ?_ | refine zW (by assumption) ?_ | refine zY (by assumption) ?_) | (refine zI rfl ?_) | (simp -implicitDefEqProofs only [push_cast, sevalprocAttr, eq_self, e0, e2, e3, e4, e5, e6, e11, e12, e13, e39, e40, e41, e47, e48, e49, Int.natCast_zero, d1, hF.at, hb2, hL, h00, h01, lastC_len, lastC_take, lastC_one]) | (simp -implicitDefEqProofs (disch := omega) only [zR, zZ, zS, zQ, e0, e2, e3, e4, e5, e6, e11, e12, e13, e39, e40, e41, e47, e48, e49, Int.natCast_zero, d1, hF.at, hb2, hL, h00, h01, lastC_len, lastC_take, lastC_one]) | (with_reducible refine yE ?_ ?_) | (refine zN rfl (fun bb => ?_) (fun bb => ?_) <;> (first | have bp := of_decide_eq_true bb | have bp := of_decide_eq_false bb | skip) <;> simp only [bb]) | (with_reducible refine zX (fun bb => ?_) (fun bb => ?_) <;> (first | have bp := of_decide_eq_true bb | have bp := of_decide_eq_false bb | skip)) | ((with_reducible refine And.intro ?_ ?_); omega) | fail)
  refine yF fun env hE => ?_; have n : _ ∧ _ ∧ _ ∧ _ ∧ _ ∧ _ ∧ _ ∧ _ ∧ _ ∧ _ ∧ _ ∧ _ ∧ _ ∧ _ ∧ _ := ⟨hE 0, hE 2, hE 3, hE 4, hE 5, hE 6, hE 11, hE 12, hE 13, hE 39, hE 40, hE 41, hE 47, hE 48, hE 49⟩; simp -implicitDefEqProofs only [push_cast, reduceIte, Nat.reduceEqDiff, e0, e2, e3, e4, e5, e6, e11, e12, e13, e39, e40, e41, e47, e48, e49] at n; clear hE e0 e2 e3 e4 e5 e6 e11 e12 e13 e39 e40 e41 e47 e48 e49; obtain ⟨e0, e2, e3, e4, e5, e6, e11, e12, e13, e39, e40, e41, e47, e48, e49⟩ := n; have E67_2_0 := e0; have E67_2_2 := e2; have E67_2_3 := e3; have E67_2_4 := e4; have E67_2_11 := e11; have E67_2_12 := e12; have E67_2_13 := e13; have E67_2_39 := e39
  refine yN (fun nn σ => ∃ (k : Nat), nn = 0 ∧ σ.env 0 = env 0 ∧ σ.env 2 = env 2 ∧ σ.env 3 = env 3 ∧ σ.env 4 = env 4 ∧ σ.env 11 = env 11 ∧ σ.env 12 = env 12 ∧ σ.env 13 = env 13 ∧ σ.env 39 = env 39 ∧ σ.env 40 = i64 k ∧ (k = 0 ∧ Ext h0 σ.h)) _ ⟨0, rfl, rfl, rfl, rfl, rfl, rfl, rfl, rfl, rfl, by refine e40.trans ?_; first | rfl | exact yG (by omega) | (simp -implicitDefEqProofs (disch := omega) only [zQ]; first | rfl | exact yG (by omega)), ?_⟩ ?_
  · exact ⟨rfl, (by repeat (first | exact Ext.refl _ | assumption | refine Ext.tick ?_ | refine Ext.push ?_ (by omega) _ | refine Ext.put ?_ (by omega) _ | refine Ext.kill ?_ (by omega) | refine Ext.killA ?_ (by assumption)))⟩
  clear hx hF hL
  clear e0 e2 e3 e4 e5 e6 e11 e12 e13 e39 e40 e41 e47 e48 e49; rintro nn ⟨env, h⟩ ⟨k, rfl, q0, q2, q3, q4, q11, q12, q13, q39, e40, hI⟩; simp only at q0 q2 q3 q4 q11 q12 q13 q39 e40 hI; (first | have e0 := q0.trans E67_2_0 | have e0 := True.intro); (first | have e2 := q2.trans E67_2_2 | have e2 := True.intro); (first | have e3 := q3.trans E67_2_3 | have e3 := True.intro); (first | have e4 := q4.trans E67_2_4 | have e4 := True.intro); (first | have e11 := q11.trans E67_2_11 | have e11 := True.intro); (first | have e12 := q12.trans E67_2_12 | have e12 := True.intro); (first | have e13 := q13.trans E67_2_13 | have e13 := True.intro); (first | have e39 := q39.trans E67_2_39 | have e39 := True.intro); clear q0 q2 q3 q4 q11 q12 q13 q39; have e5 := True.intro; have e6 := True.intro; have e41 := True.intro; have e47 := True.intro; have e48 := True.intro; have e49 := True.intro
  obtain ⟨rfl, hx⟩ := hI
  unfold l67_2
  (first | refine yI fun hF => ?_ | refine yX fun hF => ?_ | refine yW fun hF => ?_)
  repeat' (first | ((try clear hf); with_reducible refine zM fun env K hE hK hf => ?_; have n : _ ∧ _ ∧ _ ∧ _ ∧ _ ∧ _ ∧ _ ∧ _ ∧ _ ∧ _ ∧ _ ∧ _ ∧ _ ∧ _ ∧ _ := ⟨hE 0, hE 2, hE 3, hE 4, hE 5, hE 6, hE 11, hE 12, hE 13, hE 39, hE 40, hE 41, hE 47, hE 48, hE 49⟩; simp -implicitDefEqProofs only [push_cast, reduceIte, Nat.reduceEqDiff, e0, e2, e3, e4, e5, e6, e11, e12, e13, e39, e40, e41, e47, e48, e49] at n; clear hE e0 e2 e3 e4 e5 e6 e11 e12 e13 e39 e40 e41 e47 e48 e49; obtain ⟨e0, e2, e3, e4, e5, e6, e11, e12, e13, e39, e40, e41, e47, e48, e49⟩ := n) | (with_reducible refine hK _ _ ?_; clear hK K) | (with_reducible first | refine zJ ?_ | refine zU ?_ | refine zB ?_ | refine zG ?_ | refine zE ?_ | refine zL ?_ | refine zT ?_ | refine zD ?_ | refine zH ?_ | refine zV ?_ | refine zF ?_ | refine zA (by decide) ?_ | refine zP ?_ | refine zO ?_ | refine zK ?_ | refine yB ?_ | refine yC ?_ | refine zW (by assumption) ?_ | refine zY (by assumption) ?_) | (refine zI rfl ?_) | (simp -implicitDefEqProofs only [push_cast, sevalprocAttr, eq_self, e0, e2, e3, e4, e5, e6, e11, e12, e13, e39, e40, e41, e47, e48, e49, Int.natCast_zero, d1]) | (simp -implicitDefEqProofs (disch := omega) only [zR, zZ, zS, zQ, e0, e2, e3, e4, e5, e6, e11, e12, e13, e39, e40, e41, e47, e48, e49, Int.natCast_zero, d1]) | (with_reducible refine yE ?_ ?_) | (refine zN rfl (fun bb => ?_) (fun bb => ?_) <;> (first | have bp := of_decide_eq_true bb | have bp := of_decide_eq_false bb | skip) <;> simp only [bb]) | (with_reducible refine zX (fun bb => ?_) (fun bb => ?_) <;> (first | have bp := of_decide_eq_true bb | have bp := of_decide_eq_false bb | skip)) | ((with_reducible refine And.intro ?_ ?_); omega) | fail)
  exact (show Ext h0 _ from (by repeat (first | exact Ext.refl _ | assumption | refine Ext.tick ?_ | refine Ext.push ?_ (by omega) _ | refine Ext.put ?_ (by omega) _ | refine Ext.kill ?_ (by omega) | refine Ext.killA ?_ (by assumption))))
theorem f27'n {h0 : Hp} {t : Tab} (hR : errR [] t = 0) :
    HC Try.prog 27 [.row [], .agg (tabC t)] h0 fun r h' => r = .tup [.nil, i64 0] ∧ Ext h0 h' := by
  refine HC_of_awp yL cf27 (by simp) fun hF => ?_
  unfold ac27 re27
  refine yF fun env hE => ?_; have e0 := hE 0; have e1 := hE 1; have e3 := hE 3; have e4 := hE 4; have e5 := hE 5; have e6 := hE 6; have e7 := hE 7; simp -implicitDefEqProofs only [push_cast] at e0 e1 e3 e4 e5 e6 e7; clear hE
  have hr := f64 [] t (by simp)
  rw [hR] at hr
  have hb := hR
  have h16 : ∀ t a b, (finW [] t a b)[16]? = some .nil := fun _ _ _ => rfl
  repeat' (first | ((try clear hf); with_reducible refine zM fun env K hE hK hf => ?_; have n : _ ∧ _ ∧ _ ∧ _ ∧ _ ∧ _ ∧ _ := ⟨hE 0, hE 1, hE 3, hE 4, hE 5, hE 6, hE 7⟩; simp -implicitDefEqProofs only [push_cast, reduceIte, Nat.reduceEqDiff, e0, e1, e3, e4, e5, e6, e7] at n; clear hE e0 e1 e3 e4 e5 e6 e7; obtain ⟨e0, e1, e3, e4, e5, e6, e7⟩ := n) | (with_reducible refine hK _ _ ?_; clear hK K) | (with_reducible first | refine zJ ?_ | refine zU ?_ | refine zB ?_ | refine zG ?_ | refine zE ?_ | refine zL ?_ | refine zT ?_ | refine zD ?_ | refine zH ?_ | refine zV ?_ | refine zF ?_ | refine zA (by decide) ?_ | refine zP ?_ | refine zO ?_ | refine zK ?_ | refine yB ?_ | refine yC ?_ | refine zW (by assumption) ?_ | refine zY (by assumption) ?_) | (refine zI rfl ?_) | (simp -implicitDefEqProofs only [push_cast, sevalprocAttr, eq_self, e0, e1, e3, e4, e5, e6, e7, hF.at, hb, h16]) | (simp -implicitDefEqProofs (disch := omega) only [zR, zZ, zS, zQ, e0, e1, e3, e4, e5, e6, e7, hF.at, hb, h16]) | (with_reducible refine yE ?_ ?_) | (refine zN rfl (fun bb => ?_) (fun bb => ?_) <;> simp only [bb]) | (with_reducible refine zX (fun bb => ?_) (fun bb => ?_)) | ((with_reducible refine And.intro ?_ ?_); omega) | (refine yD hr ?_) | (refine call_nf (l := []) (by simp) (by simp) ?_; intro h F a b w hF; have hx0 : Ext h0 h := Ext.tr (by repeat (first | exact Ext.refl _ | assumption | refine Ext.tick ?_ | refine Ext.push ?_ (by omega) _ | refine Ext.put ?_ (by omega) _)) w.ex; have hb := w.fin) | (refine call_hc (HC.mono (f66'n (F := F) (t := t) (a := a) (b := b) hb (Nat.le_trans w.eF (by simp only [qO]; omega))) fun r h' ⟨hr, hE⟩ hf => ?_); have hE1 := hE; have hb := (hE.2 F (Nat.le_trans w.eF (by simp only [qO]; omega))).trans hb; rw [hr]) | (refine call_hc (HC.mono (f67'n (F := F) (t := t) (a := a) (b := b) hb (Nat.le_trans w.eF (by have := hE1.1; simp only [qO] at this ⊢; omega))) fun r h2 ⟨hr, hE⟩ hf => ?_); have hb := (hE.2 F (Nat.le_trans w.eF (by have := hE1.1; simp only [qO] at this ⊢; omega))).trans hb; rw [hr]) | fail)
  have hE2 : Ext h0 h' := Ext.tr (Ext.tick (Ext.tick hx0)) hE1
  have hE3 : Ext h0 h2 := Ext.tr (Ext.tick (Ext.tick hE2)) hE
  exact (show Ext h0 _ from (by repeat (first | exact Ext.refl _ | assumption | refine Ext.tick ?_)))
/-- deps.Loop, whatever the list. -/
theorem loop_all {h0 : Hp} {l : List Opn} {t : Tab} (hl : ∀ o ∈ l, o.ok) :
    HC Try.prog 27 [.row (l.map opC), .agg (tabC t)] h0 fun r h' => Ext h0 h' ∧ ((errR l t ≠ 0 ∧ r = .tup [.nil, i64 (errR l t)]) ∨ (errR l t = 0 ∧ ∃ out, r = .tup [out, i64 0] ∧ OutR h' out (loopE l t))) := by
  by_cases hR : errR l t = 0
  · obtain ⟨ht, hn, _⟩ := errR_ok hR
    by_cases hp : 0 < l.length
    · exact HC.mono (f27 hl ht hn hp hR) fun r h' ⟨out, h1, h2, h3⟩ => ⟨h3, .inr ⟨hR, out, h1, h2⟩⟩
    · obtain rfl : l = [] := List.length_eq_zero_iff.1 (by omega)
      exact HC.mono (f27'n hR) fun r h' ⟨h1, h2⟩ => ⟨h2, .inr ⟨hR, .nil, h1, .inl ⟨rfl, rfl⟩⟩⟩
  · exact HC.mono (f27'e hl hR) fun r h' ⟨h1, h2⟩ => ⟨h2, .inl ⟨hR, h1⟩⟩
end Go.Proofs.Hx

set_option linter.unusedVariables false
set_option linter.unusedSimpArgs false
namespace Go.Proofs.Hx
open Go Go.Proofs
attribute [local irreducible] yM awp opK goV goM yV yZ qF yQ HV HVF HC
/-- A test over one number that a function value answers, whatever has grown since. -/
def PrAt (P : Program) (f : AV) (p : Int → Bool) (dom : Int → Prop) (h0 : Hp) : Prop := ∀ g, Ext h0 g → ∀ (d : Option Nat) (K : St → Prop) (env : Nat → AV) (x : Int), dom x → K ⟨putA env d (bl (p x)), g.tick⟩ → yV P d K env g false f [i64 x]
theorem call_pr {P : Program} {f : AV} {p : Int → Bool} {dom : Int → Prop} {h0 g : Hp} {d : Option Nat} {K : St → Prop} {env : Nat → AV} {x : Int} (hc : PrAt P f p dom h0) (hg : Ext h0 g) (hx : dom x) (k : K ⟨putA env d (bl (p x)), g.tick⟩) : yV P d K env g false f [i64 x] := hc g hg d K env x hx k
theorem f59 {h0 : Hp} {f : AV} {p : Int → Bool} {a b : Nat} (hc : PrAt Try.prog f p (fun x => (a : Int) ≤ x ∧ x < b) h0) (hab : a ≤ b) (hb : b ≤ 1000000) :
    HC Try.prog 59 [i64 a, i64 b, f] h0 fun r h' => Ext h0 h' ∧ ∃ c : Nat, r = i64 c ∧ a ≤ c ∧ c ≤ b ∧ (c = a ∨ p ((c : Int) - 1) = false) ∧ (c = b ∨ p c = true) := by
  refine HC_of_awp yL cf59 (by simp) fun hF => ?_
  unfold ac59 re59
  refine yF fun env hE => ?_; have e0 := hE 0; have e1 := hE 1; have e2 := hE 2; have e6 := hE 6; have e7 := hE 7; simp -implicitDefEqProofs only [push_cast] at e0 e1 e2 e6 e7; clear hE
  repeat' (first | ((try clear hf); with_reducible refine zM fun env K hE hK hf => ?_; have n : _ ∧ _ ∧ _ ∧ _ ∧ _ := ⟨hE 0, hE 1, hE 2, hE 6, hE 7⟩; simp -implicitDefEqProofs only [push_cast, reduceIte, Nat.reduceEqDiff, e0, e1, e2, e6, e7] at n; clear hE e0 e1 e2 e6 e7; obtain ⟨e0, e1, e2, e6, e7⟩ := n) | (with_reducible refine hK _ _ ?_; clear hK K) | (with_reducible first | refine zJ ?_ | refine zU ?_ | refine zB ?_ | refine zG ?_ | refine zE ?_ | refine zL ?_ | refine zT ?_ | refine zD ?_ | refine zH ?_ | refine zV ?_ | refine zF ?_ | refine zA (by decide) ?_ | refine zP ?_ | refine zO ?_ | refine zK ?_ | refine yB ?_ | refine yC ?_ | refine zW (by assumption) ?_ | refine zY (by assumption) ?_) | (refine zI rfl ?_) | (simp -implicitDefEqProofs only [push_cast, sevalprocAttr, eq_self, e0, e1, e2, e6, e7]) | (simp -implicitDefEqProofs (disch := omega) only [zR, zZ, zS, zQ, e0, e1, e2, e6, e7]) | (with_reducible refine yE ?_ ?_) | (refine zN rfl (fun bb => ?_) (fun bb => ?_) <;> (first | have bp := of_decide_eq_true bb | have bp := of_decide_eq_false bb | skip) <;> simp only [bb]) | (with_reducible refine zX (fun bb => ?_) (fun bb => ?_) <;> (first | have bp := of_decide_eq_true bb | have bp := of_decide_eq_false bb | skip)) | ((with_reducible refine And.intro ?_ ?_); omega) | fail)
  refine yF fun env hE => ?_; have n : _ ∧ _ ∧ _ ∧ _ ∧ _ := ⟨hE 0, hE 1, hE 2, hE 6, hE 7⟩; simp -implicitDefEqProofs only [push_cast, reduceIte, Nat.reduceEqDiff, e0, e1, e2, e6, e7] at n; clear hE e0 e1 e2 e6 e7; obtain ⟨e0, e1, e2, e6, e7⟩ := n; have E59_0_2 := e2; have E59_0_6 := e6
  refine yN (fun nn σ => ∃ (x : Nat) (y : Nat), nn = y - x ∧ σ.env 2 = env 2 ∧ σ.env 6 = env 6 ∧ σ.env 0 = i64 x ∧ σ.env 1 = i64 y ∧ (a ≤ x ∧ x ≤ y ∧ y ≤ b ∧ (x = a ∨ p ((x : Int) - 1) = false) ∧ (y = b ∨ p y = true) ∧ Ext h0 σ.h)) _ ⟨a, b, rfl, rfl, rfl, by refine e0.trans ?_; first | rfl | exact yG (by omega) | (simp -implicitDefEqProofs (disch := omega) only [zQ]; first | rfl | exact yG (by omega)), by refine e1.trans ?_; first | rfl | exact yG (by omega) | (simp -implicitDefEqProofs (disch := omega) only [zQ]; first | rfl | exact yG (by omega)), ?_⟩ ?_
  · exact ⟨by omega, hab, by omega, .inl rfl, .inl rfl, (by repeat (first | exact Ext.refl _ | assumption | refine Ext.tick ?_ | refine Ext.push ?_ (by omega) _ | refine Ext.put ?_ (by omega) _ | refine Ext.kill ?_ (by omega) | refine Ext.killA ?_ (by assumption)))⟩
  clear e0 e1 e2 e6 e7; rintro nn ⟨env, h⟩ ⟨x, y, rfl, q2, q6, e0, e1, hI⟩; simp only at q2 q6 e0 e1 hI; (first | have e2 := q2.trans E59_0_2 | have e2 := True.intro); (first | have e6 := q6.trans E59_0_6 | have e6 := True.intro); clear q2 q6; have e7 := True.intro
  obtain ⟨h1, h2, h3, h4, h5, hx⟩ := hI
  unfold l59_0
  (first | refine yI fun hF => ?_ | refine yX fun hF => ?_ | refine yW fun hF => ?_)
  by_cases hlt : x < y
  · have hd : decide ((x : Int) < (y : Int)) = true := decide_eq_true (by omega)
    obtain ⟨m, hm⟩ : ∃ m : Nat, m = (y - x) / 2 := ⟨_, rfl⟩
    have hq : Int.tdiv ((y : Int) - x) 2 = (m : Int) := by
      rw [Int.tdiv_eq_ediv_of_nonneg (by omega)]; omega
    cases hp : p ((x : Int) + m)
    · repeat' (first | ((try clear hf); with_reducible refine zM fun env K hE hK hf => ?_; have n : _ ∧ _ ∧ _ ∧ _ ∧ _ := ⟨hE 0, hE 1, hE 2, hE 6, hE 7⟩; simp -implicitDefEqProofs only [push_cast, reduceIte, Nat.reduceEqDiff, e0, e1, e2, e6, e7] at n; clear hE e0 e1 e2 e6 e7; obtain ⟨e0, e1, e2, e6, e7⟩ := n) | (with_reducible refine hK _ _ ?_; clear hK K) | (with_reducible first | refine zJ ?_ | refine zU ?_ | refine zB ?_ | refine zG ?_ | refine zE ?_ | refine zL ?_ | refine zT ?_ | refine zD ?_ | refine zH ?_ | refine zV ?_ | refine zF ?_ | refine zA (by decide) ?_ | refine zP ?_ | refine zO ?_ | refine zK ?_ | refine yB ?_ | refine yC ?_ | refine zW (by assumption) ?_ | refine zY (by assumption) ?_) | (refine zI rfl ?_) | (simp -implicitDefEqProofs only [push_cast, sevalprocAttr, eq_self, e0, e1, e2, e6, e7, hd, hq, hp]) | (simp -implicitDefEqProofs (disch := omega) only [zR, zZ, zS, zQ, e0, e1, e2, e6, e7, hd, hq, hp]) | (with_reducible refine yE ?_ ?_) | (refine zN rfl (fun bb => ?_) (fun bb => ?_) <;> (first | have bp := of_decide_eq_true bb | have bp := of_decide_eq_false bb | skip) <;> simp only [bb]) | (with_reducible refine zX (fun bb => ?_) (fun bb => ?_) <;> (first | have bp := of_decide_eq_true bb | have bp := of_decide_eq_false bb | skip)) | ((with_reducible refine And.intro ?_ ?_); omega) | (refine call_pr hc (by repeat (first | exact Ext.refl _ | assumption | refine Ext.tick ?_ | refine Ext.push ?_ (by omega) _ | refine Ext.put ?_ (by omega) _ | refine Ext.kill ?_ (by omega) | refine Ext.killA ?_ (by assumption))) ⟨by omega, by omega⟩ ?_) | fail)
      refine ⟨_, ?_, x + m + 1, y, rfl, E59_0_2.symm, E59_0_6.symm, by first | rfl | exact yG (by omega) | (simp -implicitDefEqProofs (disch := omega) only [zQ]; first | rfl | exact yG (by omega)), by first | rfl | exact yG (by omega) | (simp -implicitDefEqProofs (disch := omega) only [zQ]; first | rfl | exact yG (by omega)), ?_⟩
      · omega
      · exact ⟨by omega, by omega, h3, .inr (by rw [← hp]; congr 1; omega), h5, (by repeat (first | exact Ext.refl _ | assumption | refine Ext.tick ?_ | refine Ext.push ?_ (by omega) _ | refine Ext.put ?_ (by omega) _ | refine Ext.kill ?_ (by omega) | refine Ext.killA ?_ (by assumption)))⟩
    · repeat' (first | ((try clear hf); with_reducible refine zM fun env K hE hK hf => ?_; have n : _ ∧ _ ∧ _ ∧ _ ∧ _ := ⟨hE 0, hE 1, hE 2, hE 6, hE 7⟩; simp -implicitDefEqProofs only [push_cast, reduceIte, Nat.reduceEqDiff, e0, e1, e2, e6, e7] at n; clear hE e0 e1 e2 e6 e7; obtain ⟨e0, e1, e2, e6, e7⟩ := n) | (with_reducible refine hK _ _ ?_; clear hK K) | (with_reducible first | refine zJ ?_ | refine zU ?_ | refine zB ?_ | refine zG ?_ | refine zE ?_ | refine zL ?_ | refine zT ?_ | refine zD ?_ | refine zH ?_ | refine zV ?_ | refine zF ?_ | refine zA (by decide) ?_ | refine zP ?_ | refine zO ?_ | refine zK ?_ | refine yB ?_ | refine yC ?_ | refine zW (by assumption) ?_ | refine zY (by assumption) ?_) | (refine zI rfl ?_) | (simp -implicitDefEqProofs only [push_cast, sevalprocAttr, eq_self, e0, e1, e2, e6, e7, hd, hq, hp]) | (simp -implicitDefEqProofs (disch := omega) only [zR, zZ, zS, zQ, e0, e1, e2, e6, e7, hd, hq, hp]) | (with_reducible refine yE ?_ ?_) | (refine zN rfl (fun bb => ?_) (fun bb => ?_) <;> (first | have bp := of_decide_eq_true bb | have bp := of_decide_eq_false bb | skip) <;> simp only [bb]) | (with_reducible refine zX (fun bb => ?_) (fun bb => ?_) <;> (first | have bp := of_decide_eq_true bb | have bp := of_decide_eq_false bb | skip)) | ((with_reducible refine And.intro ?_ ?_); omega) | (refine call_pr hc (by repeat (first | exact Ext.refl _ | assumption | refine Ext.tick ?_ | refine Ext.push ?_ (by omega) _ | refine Ext.put ?_ (by omega) _ | refine Ext.kill ?_ (by omega) | refine Ext.killA ?_ (by assumption))) ⟨by omega, by omega⟩ ?_) | fail)
      refine ⟨_, ?_, x, x + m, rfl, E59_0_2.symm, E59_0_6.symm, by first | rfl | exact yG (by omega) | (simp -implicitDefEqProofs (disch := omega) only [zQ]; first | rfl | exact yG (by omega)), by first | rfl | exact yG (by omega) | (simp -implicitDefEqProofs (disch := omega) only [zQ]; first | rfl | exact yG (by omega)), ?_⟩
      · omega
      · exact ⟨h1, by omega, by omega, h4, .inr (by rw [← hp]; congr 1), (by repeat (first | exact Ext.refl _ | assumption | refine Ext.tick ?_ | refine Ext.push ?_ (by omega) _ | refine Ext.put ?_ (by omega) _ | refine Ext.kill ?_ (by omega) | refine Ext.killA ?_ (by assumption)))⟩
  · have hd : decide ((x : Int) < (y : Int)) = false := decide_eq_false (by omega)
    obtain rfl : x = y := by omega
    repeat' (first | ((try clear hf); with_reducible refine zM fun env K hE hK hf => ?_; have n : _ ∧ _ ∧ _ ∧ _ ∧ _ := ⟨hE 0, hE 1, hE 2, hE 6, hE 7⟩; simp -implicitDefEqProofs only [push_cast, reduceIte, Nat.reduceEqDiff, e0, e1, e2, e6, e7] at n; clear hE e0 e1 e2 e6 e7; obtain ⟨e0, e1, e2, e6, e7⟩ := n) | (with_reducible refine hK _ _ ?_; clear hK K) | (with_reducible first | refine zJ ?_ | refine zU ?_ | refine zB ?_ | refine zG ?_ | refine zE ?_ | refine zL ?_ | refine zT ?_ | refine zD ?_ | refine zH ?_ | refine zV ?_ | refine zF ?_ | refine zA (by decide) ?_ | refine zP ?_ | refine zO ?_ | refine zK ?_ | refine yB ?_ | refine yC ?_ | refine zW (by assumption) ?_ | refine zY (by assumption) ?_) | (refine zI rfl ?_) | (simp -implicitDefEqProofs only [push_cast, sevalprocAttr, eq_self, e0, e1, e2, e6, e7, hd]) | (simp -implicitDefEqProofs (disch := omega) only [zR, zZ, zS, zQ, e0, e1, e2, e6, e7, hd]) | (with_reducible refine yE ?_ ?_) | (refine zN rfl (fun bb => ?_) (fun bb => ?_) <;> (first | have bp := of_decide_eq_true bb | have bp := of_decide_eq_false bb | skip) <;> simp only [bb]) | (with_reducible refine zX (fun bb => ?_) (fun bb => ?_) <;> (first | have bp := of_decide_eq_true bb | have bp := of_decide_eq_false bb | skip)) | ((with_reducible refine And.intro ?_ ?_); omega) | fail)
    exact ⟨Ext.tr hx (by repeat (first | exact Ext.refl _ | assumption | refine Ext.tick ?_ | refine Ext.push ?_ (by omega) _ | refine Ext.put ?_ (by omega) _ | refine Ext.kill ?_ (by omega) | refine Ext.killA ?_ (by assumption))), x, rfl, h1, h3, h4, h5⟩
end Go.Proofs.Hx

set_option linter.unusedVariables false
set_option linter.unusedSimpArgs false
namespace Go.Proofs.Hx
open Go Go.Proofs
attribute [local irreducible] yM awp opK goV goM yV yZ qF yQ HV HVF HC
/-! ### How high -/
def mx (a b : Int) : Int := if b > a then b else a
def stepV1 (H : List Int) (a : Int) (x : Edg) : Int := mx a (x.l + H.getD x.t.toNat 0)
/-- The longest way from i, by what is behind. -/
def hOne (lat : Int) (E : List Edg) (H : List Int) : Int := E.foldl (stepV1 H) lat
def outE (E : List Edg) (i : Nat) : List Edg := E.filter fun e => decide (e.f = (i : Int))
def hM (l : List Opn) (t : Tab) (E : List Edg) : Nat → List Int
  | 0 => List.replicate l.length 0
  | m + 1 => (hM l t E m).set (l.length - 1 - m) (hOne (latS t (opAt l (l.length - 1 - m))) (outE E (l.length - 1 - m)) (hM l t E m))
end Go.Proofs.Hx

set_option linter.unusedVariables false
set_option linter.unusedSimpArgs false
namespace Go.Proofs.Hx
open Go Go.Proofs
attribute [local irreducible] yM awp opK goV goM yV yZ qF yQ HV HVF HC
end Go.Proofs.Hx

set_option linter.unusedVariables false
set_option linter.unusedSimpArgs false
namespace Go.Proofs.Hx
open Go Go.Proofs
attribute [local irreducible] yM awp opK goV goM yV yZ qF yQ HV HVF HC
/-! ### The plain law: no schedule is over ahead of the longest way -/
end Go.Proofs.Hx

set_option linter.unusedVariables false
set_option linter.unusedSimpArgs false
namespace Go.Proofs.Hx
open Go Go.Proofs
attribute [local irreducible] yM awp opK goV goM yV yZ qF yQ HV HVF HC
/-! ### Numbers in memory, as a function of their places -/
def fset (d : Nat → Int) (k : Nat) (v : Int) : Nat → Int := fun j => if j = k then v else d j
def arrC (n : Nat) (d : Nat → Int) : List AV := (List.range n).map fun k => i64 (d k)
theorem arrC_len (n : Nat) (d : Nat → Int) : (arrC n d).length = n := by simp [arrC]
theorem arrC_at {n : Nat} (d : Nat → Int) {k : Nat} (hk : k < n) : (arrC n d)[k]? = some (i64 (d k)) := by simp [arrC, hk]
theorem arrC_put {n : Nat} (d : Nat → Int) {k : Nat} (hk : k < n) (v : Int) : (arrC n d).take k ++ [AV.lit (.int .i64 v)] ++ (arrC n d).drop (k + 1) = arrC n (fset d k v) := by
  apply List.ext_getElem?
  intro r
  by_cases hr : r < n
  · rw [arrC_at _ hr]
    by_cases h1 : r < k
    · rw [List.append_assoc, List.getElem?_append_left (by simp [arrC_len]; omega), List.getElem?_take, if_pos h1, arrC_at _ hr, fset, if_neg (by omega)]
    · rw [List.append_assoc, List.getElem?_append_right (by simp [arrC_len]; omega)]
      by_cases h2 : r = k
      · subst h2; simp [arrC_len, fset, Nat.min_eq_left (Nat.le_of_lt hk)]
      · rw [fset, if_neg h2, List.getElem?_append_right (by simp [arrC_len]; omega), List.getElem?_drop]
        simp only [List.length_take, arrC_len, List.length_cons, List.length_nil]
        rw [show k + 1 + (r - min k n - (0 + 1)) = r from by omega, arrC_at _ hr]
  · rw [List.getElem?_eq_none (by simp [arrC_len]; omega), List.getElem?_eq_none (by simp [arrC_len]; omega)]
attribute [push_cast] arrC_len
/-- All blocks but one stay as they were. -/
structure Fr1 (x : Id) (h g : Hp) : Prop where
  ep : h.ep ≤ g.ep
  hp : ∀ y : Id, y.1 ≤ h.ep → y ≠ x → g.hp y = h.hp y
theorem Fr1.refl (x : Id) (h : Hp) : Fr1 x h h := ⟨Nat.le_refl _, fun _ _ _ => rfl⟩
theorem Fr1.trans {x : Id} {a b c : Hp} (h : Fr1 x a b) (k : Fr1 x b c) : Fr1 x a c := ⟨Nat.le_trans h.ep k.ep, fun y hy hn => (k.hp y (Nat.le_trans hy h.ep) hn).trans (h.hp y hy hn)⟩
theorem Fr1.tick {x : Id} {a b : Hp} (h : Fr1 x a b) : Fr1 x a b.tick := ⟨Nat.le_succ_of_le h.ep, h.hp⟩
theorem Fr1.put {x : Id} {a b : Hp} (h : Fr1 x a b) (c : List AV) : Fr1 x a (b.put x c) := ⟨h.ep, fun y hy hn => (put_ne _ _ _ _ hn).trans (h.hp y hy hn)⟩
theorem Fr1.push {x : Id} {a b : Hp} (h : Fr1 x a b) {e s : Nat} (he : a.ep < e) (c : List AV) : Fr1 x a (b.push (e, s) c) := ⟨h.ep, fun y hy hn => (push_ne _ _ _ _ (fun e' => by rw [e'] at hy; simp at hy; omega)).trans (h.hp y hy hn)⟩
/-! ### Two ranges change places -/
end Go.Proofs.Hx

set_option linter.unusedVariables false
set_option linter.unusedSimpArgs false
namespace Go.Proofs.Hx
open Go Go.Proofs
attribute [local irreducible] yM awp opK goV goM yV yZ qF yQ HV HVF HC
/-- The row i of the square. -/
theorem f91 {h0 : Hp} {A B : Id} {i s : Nat} {D : Nat → Int} (hA : h0.hp A = some ⟨true, arrC 4096 D⟩) (hB : h0.hp B = some ⟨true, [i64 s]⟩) (hi : i < s) (hs : s ≤ 64) :
    HC Try.prog 91 [i64 i, .ptr A 0, .ptr B 0] h0 fun r h' => r = .sl A (i * s) s 1 ∧ Ext h0 h' := by
  refine HC_of_awp yL cf91 (by simp) fun hF => ?_
  unfold ac91 re91
  refine yF fun env hE => ?_; have e0 := hE 0; have e1 := hE 1; have e2 := hE 2; have e4 := hE 4; simp -implicitDefEqProofs only [push_cast] at e0 e1 e2 e4; clear hE
  have m1 : i * s ≤ 64 * 64 := Nat.mul_le_mul (by omega) (by omega)
  have m2 : (i + 1) * s ≤ 64 * 64 := Nat.mul_le_mul (by omega) (by omega)
  have hw1 : IntKind.i64.wrap ((i : Int) * s) = ((i * s : Nat) : Int) := by rw [← Int.natCast_mul]; exact wrap64 (by omega) (by omega)
  have hw2 : IntKind.i64.wrap (((i : Int) + 1) * s) = (((i + 1) * s : Nat) : Int) := by
    rw [show ((i : Int) + 1) * s = (((i + 1) * s : Nat) : Int) from by rw [Int.natCast_mul]; rfl]; exact wrap64 (by omega) (by omega)
  have hw3 : IntKind.i64.wrap ((i : Int) + 1) = (i : Int) + 1 := wrap64 (by omega) (by omega)
  have hrs : ∀ (ρ : AOpd → AV) (h : Hp), ρ (.t 1) = .ptr A 0 → h.hp A = some ⟨true, arrC 4096 D⟩ → yS (.slice (some 4096) 1 (.t 1) (some (.t 7)) (some (.t 11)) (some (.t 15))) ρ h = sliceV (some 4096) 1 (.ptr A 0) (some (ρ (.t 7))) (some (ρ (.t 11))) (some (ρ (.t 15))) := fun ρ h h1 h2 => by
    unfold yS
    simp only [h1, h2, arrC_len]
    simp
  have q1 : (i : Int) * s = ((i * s : Nat) : Int) := (Int.natCast_mul _ _).symm
  have q2 : ((i : Int) + 1) * s = (((i + 1) * s : Nat) : Int) := by rw [Int.natCast_mul]; rfl
  have hsl : sliceV (some 4096) 1 (.ptr A 0) (some (.lit (.int .i64 ((i : Int) * s)))) (some (.lit (.int .i64 (((i : Int) + 1) * s)))) (some (.lit (.int .i64 (((i : Int) + 1) * s)))) = some (.sl A (i * s) s 1) := by
    rw [q1, q2]
    have h3 : (i + 1) * s = i * s + s := Nat.succ_mul i s
    generalize (i + 1) * s = y at *
    generalize i * s = x at *
    have b1 : ∀ (d z : Nat), qE d (some (.lit (.int .i64 (z : Int)))) = some z := fun d z => by simp [qE]
    simp only [sliceV, b1, Option.isSome, Option.isNone]
    rw [if_neg (by simp), if_pos ⟨by omega, Nat.le_refl _, by omega⟩, Nat.zero_add, Nat.mul_one, show y - x = s from by omega]
  repeat' (first | ((try clear hf); with_reducible refine zM fun env K hE hK hf => ?_; have n : _ ∧ _ ∧ _ ∧ _ := ⟨hE 0, hE 1, hE 2, hE 4⟩; simp -implicitDefEqProofs only [push_cast, reduceIte, Nat.reduceEqDiff, e0, e1, e2, e4] at n; clear hE e0 e1 e2 e4; obtain ⟨e0, e1, e2, e4⟩ := n) | (with_reducible refine hK _ _ ?_; clear hK K) | (with_reducible first | refine zJ ?_ | refine zU ?_ | refine zB ?_ | refine zG ?_ | refine zE ?_ | refine zL ?_ | refine zT ?_ | refine zD ?_ | refine zH ?_ | refine zV ?_ | refine zF ?_ | refine zA (by decide) ?_ | refine zP ?_ | refine zO ?_ | refine zK ?_ | refine yB ?_ | refine yC ?_ | refine zW (by assumption) ?_ | refine zY (by assumption) ?_) | (refine zI rfl ?_) | (simp -implicitDefEqProofs only [push_cast, sevalprocAttr, eq_self, e0, e1, e2, e4, hA, hB, hw1, hw2, hw3, hrs, hsl]) | (simp -implicitDefEqProofs (disch := omega) only [zR, zZ, zS, zQ, e0, e1, e2, e4, hA, hB, hw1, hw2, hw3, hrs, hsl]) | (with_reducible refine yE ?_ ?_) | (refine zN rfl (fun bb => ?_) (fun bb => ?_) <;> (first | have bp := of_decide_eq_true bb | have bp := of_decide_eq_false bb | skip) <;> simp only [bb]) | (with_reducible refine zX (fun bb => ?_) (fun bb => ?_) <;> (first | have bp := of_decide_eq_true bb | have bp := of_decide_eq_false bb | skip)) | ((with_reducible refine And.intro ?_ ?_); omega) | fail)
  exact (show Ext h0 _ from (by repeat (first | exact Ext.refl _ | assumption | refine Ext.tick ?_ | refine Ext.push ?_ (by omega) _ | refine Ext.put ?_ (by omega) _ | refine Ext.kill ?_ (by omega) | refine Ext.killA ?_ (by assumption))))
end Go.Proofs.Hx

set_option linter.unusedVariables false
set_option linter.unusedSimpArgs false
namespace Go.Proofs.Hx
open Go Go.Proofs
attribute [local irreducible] yM awp opK goV goM yV yZ qF yQ HV HVF HC
/-! ### The square of the longest ways, as a function -/
def farZ : Int := -1099511627776
def capZ (x : Int) : Int := if 1073741824 < x then 1073741824 else x
/-- One cell of the row i, by way of k. -/
def jStep (s k i : Nat) (D : Nat → Int) (j : Nat) : Nat → Int :=
  if D (k * s + j) ≠ farZ ∧ D (i * s + j) < D (i * s + k) + D (k * s + j) then fset D (i * s + j) (capZ (D (i * s + k) + D (k * s + j))) else D
def jN (s k i : Nat) (D : Nat → Int) : Nat → Nat → Int
  | 0 => D
  | j + 1 => jStep s k i (jN s k i D j) j
def iStep (s k : Nat) (D : Nat → Int) (i : Nat) : Option (Nat → Int) :=
  if D (i * s + k) = farZ then some D else if 0 < jN s k i D s (i * s + i) then none else some (jN s k i D s)
def iN (s k : Nat) (D : Nat → Int) : Nat → Option (Nat → Int)
  | 0 => some D
  | i + 1 => (iN s k D i).bind fun D => iStep s k D i
def kN (s : Nat) (D : Nat → Int) : Nat → Option (Nat → Int)
  | 0 => some D
  | k + 1 => (kN s D k).bind fun D => iN s k D s
def eStep (s : Nat) (n : Int) (D : Nat → Int) (e : Edg) : Nat → Int :=
  fset D (e.f.toNat * s + e.t.toNat) (if e.l - n * e.d > D (e.f.toNat * s + e.t.toNat) then e.l - n * e.d else D (e.f.toNat * s + e.t.toNat))
def farTo (m : Nat) : Nat → Int := fun j => if j < m then farZ else 0
def eN (s : Nat) (n : Int) (es : List Edg) : Nat → Int := es.foldl (eStep s n) (farTo (s * s))
def goesP (es : List Edg) (s : Nat) (n : Int) : Bool := (kN s (eN s n es) s).isSome
theorem iN_none {s k : Nat} {D : Nat → Int} {i m : Nat} (h : iN s k D i = none) (hm : i ≤ m) : iN s k D m = none := by
  obtain ⟨d, rfl⟩ : ∃ d, m = i + d := ⟨m - i, by omega⟩
  induction d with
  | zero => exact h
  | succ d ih => rw [← Nat.add_assoc, iN, ih (by omega)]; rfl
theorem kN_none {s : Nat} {D : Nat → Int} {i m : Nat} (h : kN s D i = none) (hm : i ≤ m) : kN s D m = none := by
  obtain ⟨d, rfl⟩ : ∃ d, m = i + d := ⟨m - i, by omega⟩
  induction d with
  | zero => exact h
  | succ d ih => rw [← Nat.add_assoc, kN, ih (by omega)]; rfl
/-- All cells lie between 'no way' and the cap. -/
def inR (D : Nat → Int) : Prop := ∀ p, farZ ≤ D p ∧ D p ≤ 1073741824
theorem inR_fset {D : Nat → Int} (h : inR D) {p : Nat} {v : Int} (h1 : farZ ≤ v) (h2 : v ≤ 1073741824) : inR (fset D p v) := fun q => by
  unfold fset; split
  · exact ⟨h1, h2⟩
  · exact h q
theorem inR_farTo (m : Nat) : inR (farTo m) := fun p => by unfold farTo farZ; split <;> omega
theorem inR_jStep {s k i : Nat} {D : Nat → Int} (h : inR D) (j : Nat) : inR (jStep s k i D j) := by
  unfold jStep
  split
  · rename_i hh
    have := h (i * s + j)
    apply inR_fset h <;> unfold capZ <;> split <;> omega
  · exact h
theorem inR_jN {s k i : Nat} {D : Nat → Int} (h : inR D) : ∀ j, inR (jN s k i D j)
  | 0 => h
  | j + 1 => inR_jStep (inR_jN h j) j
theorem inR_iN {s k : Nat} {D : Nat → Int} (h : inR D) : ∀ i D', iN s k D i = some D' → inR D'
  | 0, D', e => by cases e; exact h
  | i + 1, D', e => by
    rw [iN] at e
    cases hi : iN s k D i with
    | none => rw [hi] at e; cases e
    | some D1 =>
      rw [hi, Option.bind_some, iStep] at e
      have h1 := inR_iN h i D1 hi
      split at e
      · cases e; exact h1
      · split at e
        · cases e
        · cases e; exact inR_jN h1 s
theorem inR_kN {s : Nat} {D : Nat → Int} (h : inR D) : ∀ i D', kN s D i = some D' → inR D'
  | 0, D', e => by cases e; exact h
  | i + 1, D', e => by
    rw [kN] at e
    cases hi : kN s D i with
    | none => rw [hi] at e; cases e
    | some D1 => rw [hi, Option.bind_some] at e; exact inR_iN (inR_kN h i D1 hi) s D' e
/-- What the edges of a list are like. -/
def edgOK (s : Nat) (es : List Edg) : Prop := ∀ e ∈ es, 0 ≤ e.f ∧ e.f < s ∧ 0 ≤ e.t ∧ e.t < s ∧ 0 ≤ e.l ∧ e.l ≤ 1000 ∧ 0 ≤ e.d ∧ e.d ≤ 1000
theorem nd_le {n d : Int} (h1 : 0 ≤ n) (h2 : n ≤ 100000) (h3 : 0 ≤ d) (h4 : d ≤ 1000) : 0 ≤ n * d ∧ n * d ≤ 100000000 := by
  have a := Int.mul_nonneg h1 h3
  have b := Int.mul_le_mul h2 h4 h3 (by omega : (0 : Int) ≤ 100000)
  omega
theorem inR_eStep {s : Nat} {n : Int} {D : Nat → Int} {e : Edg} (h : inR D) (hn : 0 ≤ n ∧ n ≤ 100000) (he : 0 ≤ e.l ∧ e.l ≤ 1000 ∧ 0 ≤ e.d ∧ e.d ≤ 1000) : inR (eStep s n D e) := by
  have h1 := nd_le hn.1 hn.2 he.2.2.1 he.2.2.2
  unfold eStep
  have := h (e.f.toNat * s + e.t.toNat)
  apply inR_fset h <;> split <;> unfold farZ at * <;> omega
theorem inR_eN {s : Nat} {n : Int} (hn : 0 ≤ n ∧ n ≤ 100000) : ∀ (es : List Edg), (∀ e ∈ es, 0 ≤ e.l ∧ e.l ≤ 1000 ∧ 0 ≤ e.d ∧ e.d ≤ 1000) → ∀ D, inR D → inR (es.foldl (eStep s n) D)
  | [], _, D, h => h
  | e :: es, he, D, h => inR_eN hn es (fun x hx => he x (List.mem_cons_of_mem _ hx)) _ (inR_eStep h hn (he e List.mem_cons_self))
/-! ### The array's cells -/
def ls61 : List AV := match r61_1 with | [⟨_, .alloc z, _⟩] => z | _ => []
theorem r61_eq : r61_1 = [⟨some 7, .alloc ls61, none⟩] := rfl
def isZ : AV → Bool | .lit (.int .i64 n) => n == 0 | _ => false
theorem isZ_eq : ∀ {x : AV}, isZ x = true → x = i64 0
  | .lit (.int .i64 n), h => by simp [isZ] at h; subst h; rfl
theorem ls61_all : (ls61.length == 4096 && ls61.all isZ) = true := by decide +kernel
theorem ls61_eq : ls61 = arrC 4096 fun _ => 0 := by
  have h := ls61_all
  rw [Bool.and_eq_true] at h
  have hl : ls61.length = 4096 := by simpa using h.1
  apply List.ext_getElem?
  intro r
  by_cases hr : r < 4096
  · rw [arrC_at _ hr, List.getElem?_eq_getElem (by omega)]
    rw [isZ_eq (List.all_eq_true.1 h.2 _ (List.getElem_mem _))]
  · rw [List.getElem?_eq_none (by omega), List.getElem?_eq_none (by simp [arrC_len]; omega)]
theorem r61_arr : r61_1 = [⟨some 7, .alloc (arrC 4096 (farTo 0)), none⟩] := by
  rw [r61_eq, ls61_eq]; rfl
end Go.Proofs.Hx

set_option linter.unusedVariables false
set_option linter.unusedSimpArgs false
namespace Go.Proofs.Hx
open Go Go.Proofs
/-! ### Ways, and the square -/
def wgt (n : Int) (e : Edg) : Int := e.l - n * e.d
def Way (es : List Edg) (n : Int) : Nat → Nat → Nat → Int → Prop
  | 0, i, j, w => ∃ e ∈ es, e.f = i ∧ e.t = j ∧ w = wgt n e
  | k + 1, i, j, w => Way es n k i j w ∨ ∃ w1 w2, Way es n k i k w1 ∧ Way es n k k j w2 ∧ w = w1 + w2
def wOK (es : List Edg) (n : Int) : Prop := ∀ e ∈ es, -1000 ≤ wgt n e ∧ wgt n e ≤ 8
theorem way_bnd {es : List Edg} {n : Int} (h : wOK es n) : ∀ k i j w, Way es n k i j w → -(1000 * 2 ^ k : Int) ≤ w ∧ w ≤ 8 * 2 ^ k
  | 0, i, j, w, ⟨e, he, _, _, hw⟩ => by have := h e he; simp only [Int.pow_zero]; omega
  | k + 1, i, j, w, hw => by
    have e2 : (2 : Int) ^ (k + 1) = 2 ^ k * 2 := Int.pow_succ 2 k
    have hp : (0 : Int) < 2 ^ k := Int.pow_pos (by omega)
    rw [e2]
    rcases hw with hw | ⟨w1, w2, h1, h2, rfl⟩
    · have := way_bnd h k i j w hw; omega
    · have := way_bnd h k i k w1 h1; have := way_bnd h k k j w2 h2; omega
theorem pow24 {k : Nat} (h : k ≤ 24) : (2 : Int) ^ k ≤ 16777216 := by
  have : 2 ^ k ≤ 2 ^ 24 := Nat.pow_le_pow_right (by omega) h
  have e : ((2 ^ k : Nat) : Int) = 2 ^ k := by rw [Int.natCast_pow]; rfl
  rw [← e]
  have : 2 ^ k ≤ 16777216 := this
  omega
theorem cell_inj {s i j i' j' : Nat} (hj : j < s) (hj' : j' < s) (h : i * s + j = i' * s + j') : i = i' ∧ j = j' := by
  have a : (i * s + j) / s = i := by rw [Nat.mul_comm, Nat.mul_add_div (by omega), Nat.div_eq_of_lt hj]; rfl
  have b : (i' * s + j') / s = i' := by rw [Nat.mul_comm, Nat.mul_add_div (by omega), Nat.div_eq_of_lt hj']; rfl
  have c : i = i' := by rw [← a, ← b, h]
  subst c
  exact ⟨rfl, by omega⟩
theorem fset_same (D : Nat → Int) (p : Nat) (v : Int) : fset D p v p = v := by simp [fset]
theorem fset_ne (D : Nat → Int) {p q : Nat} (v : Int) (h : q ≠ p) : fset D p v q = D q := by simp [fset, h]
/-! the row's step -/
theorem jStep_ge {s k i : Nat} {D : Nat → Int} (hR : inR D) (j p : Nat) : D p ≤ jStep s k i D j p := by
  unfold jStep
  split
  · rename_i h
    unfold fset
    split
    · rename_i e; subst e
      have := hR (i * s + j)
      unfold capZ; split <;> omega
    · exact Int.le_refl _
  · exact Int.le_refl _
theorem jStep_ne {s k i : Nat} {D : Nat → Int} {j p : Nat} (h : p ≠ i * s + j) : jStep s k i D j p = D p := by
  unfold jStep
  split
  · exact fset_ne _ _ h
  · rfl
theorem jN_ge {s k i : Nat} {D : Nat → Int} (hR : inR D) (p : Nat) : ∀ j, D p ≤ jN s k i D j p
  | 0 => Int.le_refl _
  | j + 1 => Int.le_trans (jN_ge hR p j) (jStep_ge (inR_jN hR j) j p)
theorem jN_ne {s k i : Nat} {D : Nat → Int} {p : Nat} : ∀ j, (∀ j' < j, p ≠ i * s + j') → jN s k i D j p = D p
  | 0, _ => rfl
  | j + 1, h => by rw [jN, jStep_ne (h j (by omega)), jN_ne j fun j' hj => h j' (by omega)]
theorem jN_w {s k i j : Nat} {D : Nat → Int} (hj : j < s) : jN s k i D j (k * s + j) = D (k * s + j) :=
  jN_ne j fun j' h e => by have := (cell_inj hj (by omega) e).2; omega
/-- What the row's cell j is behind the step of j. -/
theorem jN_cell {s k i j : Nat} {D : Nat → Int} (hR : inR D) (hj : j < s) : ∀ m, j < m → m ≤ s → jN s k i D m (i * s + j) = jStep s k i (jN s k i D j) j (i * s + j)
  | m + 1, h, hm => by
    rw [jN]
    by_cases e : m = j
    · subst e; rfl
    · rw [jStep_ne (fun e' => e ((cell_inj hj (by omega) e').2.symm)), jN_cell hR hj m (by omega) (by omega)]
theorem jN_low {s k i j : Nat} {D : Nat → Int} (hR : inR D) (hj : j < s) (hw : D (k * s + j) ≠ farZ) : capZ (D (i * s + k) + D (k * s + j)) ≤ jN s k i D s (i * s + j) := by
  rw [jN_cell hR hj s hj (Nat.le_refl _)]
  have h1 := jN_w (k := k) (i := i) (D := D) hj
  have h2 := jN_ge (s := s) (k := k) (i := i) hR (i * s + k) j
  have hc : ∀ x y : Int, x ≤ y → capZ x ≤ capZ y := fun x y h => by unfold capZ; split <;> split <;> omega
  have hc' : ∀ x : Int, capZ x ≤ x := fun x => by unfold capZ; split <;> omega
  unfold jStep
  rw [h1]
  split
  · rename_i hh
    rw [fset_same]
    exact hc _ _ (by omega)
  · rename_i hh
    have : jN s k i D j (i * s + k) + D (k * s + j) ≤ jN s k i D j (i * s + j) := Int.not_lt.1 fun h => hh ⟨hw, h⟩
    have := hc' (D (i * s + k) + D (k * s + j))
    omega
theorem jN_or {s k i j : Nat} {D : Nat → Int} (hR : inR D) (hj : j < s) : jN s k i D s (i * s + j) = D (i * s + j) ∨ D (k * s + j) ≠ farZ := by
  by_cases hw : D (k * s + j) = farZ
  · left
    rw [jN_cell hR hj s hj (Nat.le_refl _)]
    unfold jStep
    rw [jN_w hj, if_neg fun h => h.1 hw]
    exact jN_ne j fun j' h e => by have := (cell_inj hj (by omega) e).2; omega
  · exact .inr hw
theorem jN_other {s k i i' j : Nat} {D : Nat → Int} (hj : j < s) (h : i' ≠ i) : jN s k i D s (i' * s + j) = D (i' * s + j) :=
  jN_ne s fun j' hj' e => h (cell_inj hj hj' e).1
/-! the lower qE -/
def lev (es : List Edg) (n : Int) (s : Nat) (D : Nat → Int) (K i j : Nat) : Prop :=
  (∀ w, Way es n K i j w → w ≤ D (i * s + j)) ∧ (D (i * s + j) = farZ ∨ ∃ w, Way es n K i j w)
def LV (es : List Edg) (n : Int) (s k i : Nat) (D : Nat → Int) : Prop :=
  (∀ i' j', i' < s → j' < s → lev es n s D (if i' < i then k + 1 else k) i' j') ∧ ∀ j', j' < s → lev es n s D k k j'
theorem iStep_LV {es : List Edg} {n : Int} {s k i : Nat} {D D' : Nat → Int} (hO : wOK es n) (hs : s ≤ 24) (hk : k < s) (hi : i < s) (hR : inR D) (h : LV es n s k i D) (e : iStep s k D i = some D') : LV es n s k (i + 1) D' := by
  have hp := pow24 (k := k) (by omega)
  have hp2 := pow24 (k := k + 1) (by omega)
  have hnf : ∀ {i j w}, Way es n k i j w → farZ < w := fun {i j w} hw => by
    have := (way_bnd hO _ _ _ _ hw).1
    unfold farZ; omega
  have hik : lev es n s D k i k := by have := h.1 i k hi hk; rwa [if_neg (by omega)] at this
  unfold iStep at e
  split at e
  · rename_i hf
    cases e
    refine ⟨fun i' j' hi' hj' => ?_, h.2⟩
    by_cases e' : i' = i
    · subst e'
      have h1 := h.1 i' j' hi' hj'
      rw [if_neg (by omega)] at h1
      rw [if_pos (by omega)]
      refine ⟨fun w hw => ?_, h1.2.imp id fun ⟨w, hw⟩ => ⟨w, .inl hw⟩⟩
      rcases hw with hw | ⟨w1, w2, hw1, _, _⟩
      · exact h1.1 w hw
      · exfalso
        have a := hik.1 w1 hw1
        have b := hnf hw1
        omega
    · have h1 := h.1 i' j' hi' hj'
      by_cases hlt : i' < i
      · rw [if_pos hlt] at h1; rw [if_pos (by omega)]; exact h1
      · rw [if_neg hlt] at h1; rw [if_neg (by omega)]; exact h1
  · rename_i hf
    split at e
    · cases e
    · cases e
      obtain ⟨w1, hw1⟩ : ∃ w, Way es n k i k w := hik.2.resolve_left hf
      refine ⟨fun i' j' hi' hj' => ?_, fun j' hj' => ?_⟩
      · by_cases e' : i' = i
        · subst e'
          have h1 := h.1 i' j' hi' hj'
          rw [if_neg (by omega)] at h1
          rw [if_pos (by omega)]
          have hkj := h.2 j' hj'
          refine ⟨fun w hw => ?_, ?_⟩
          · have hb := (way_bnd hO (k + 1) i' j' w hw).2
            rcases hw with hw | ⟨v1, v2, hv1, hv2, rfl⟩
            · exact Int.le_trans (h1.1 w hw) (jN_ge hR _ s)
            · have a := hik.1 v1 hv1
              have b := hkj.1 v2 hv2
              have c := hnf hv2
              refine Int.le_trans ?_ (jN_low hR hj' (by omega))
              unfold capZ; split <;> omega
          · rcases jN_or (k := k) (i := i') hR hj' with e1 | e1
            · rw [e1]; exact h1.2.imp id fun ⟨w, hw⟩ => ⟨w, .inl hw⟩
            · obtain ⟨w2, hw2⟩ := hkj.2.resolve_left e1
              exact .inr ⟨w1 + w2, .inr ⟨w1, w2, hw1, hw2, rfl⟩⟩
        · have h1 := h.1 i' j' hi' hj'
          unfold lev at h1 ⊢
          rw [jN_other hj' e']
          by_cases hlt : i' < i
          · rw [if_pos hlt] at h1; rw [if_pos (by omega)]; exact h1
          · rw [if_neg hlt] at h1; rw [if_neg (by omega)]; exact h1
      · have hkj := h.2 j' hj'
        by_cases e' : k = i
        · subst e'
          refine ⟨fun w hw => Int.le_trans (hkj.1 w hw) (jN_ge hR _ s), ?_⟩
          rcases jN_or (k := k) (i := k) hR hj' with e1 | e1
          · rw [e1]; exact hkj.2
          · exact .inr (hkj.2.resolve_left e1)
        · unfold lev at hkj ⊢
          rw [jN_other hj' e']; exact hkj
def DG (s k i : Nat) (D : Nat → Int) : Prop := ∀ i', i' < s → 0 < D (i' * s + i') → k < i' ∨ (k = i' ∧ i ≤ i')
theorem iStep_DG {s k i : Nat} {D D' : Nat → Int} (hi : i < s) (h : DG s k i D) (e : iStep s k D i = some D') : DG s k (i + 1) D' := by
  unfold iStep at e
  split at e
  · rename_i hf
    cases e
    intro i' hi' hp
    rcases h i' hi' hp with h1 | ⟨rfl, h1⟩
    · exact .inl h1
    · by_cases e' : i = k
      · subst e'; rw [hf] at hp; unfold farZ at hp; omega
      · exact .inr ⟨rfl, by omega⟩
  · split at e
    · cases e
    · rename_i hn
      cases e
      intro i' hi' hp
      by_cases e' : i' = i
      · subst e'; omega
      · rw [jN_other hi' e'] at hp
        rcases h i' hi' hp with h1 | ⟨rfl, h1⟩
        · exact .inl h1
        · exact .inr ⟨rfl, by omega⟩
theorem iN_inv {es : List Edg} {n : Int} {s k : Nat} {D : Nat → Int} (hO : wOK es n) (hs : s ≤ 24) (hk : k < s) (hR : inR D) (h : LV es n s k 0 D) (hd : DG s k 0 D) : ∀ i D', i ≤ s → iN s k D i = some D' → LV es n s k i D' ∧ DG s k i D'
  | 0, D', _, e => by cases e; exact ⟨h, hd⟩
  | i + 1, D', hi, e => by
    rw [iN] at e
    cases h1 : iN s k D i with
    | none => rw [h1] at e; cases e
    | some D1 =>
      rw [h1, Option.bind_some] at e
      obtain ⟨a, b⟩ := iN_inv hO hs hk hR h hd i D1 (by omega) h1
      exact ⟨iStep_LV hO hs hk (by omega) (inR_iN hR i D1 h1) a e, iStep_DG (by omega) b e⟩
def LK (es : List Edg) (n : Int) (s k : Nat) (D : Nat → Int) : Prop := ∀ i j, i < s → j < s → lev es n s D k i j
theorem kN_inv {es : List Edg} {n : Int} {s : Nat} {D : Nat → Int} (hO : wOK es n) (hs : s ≤ 24) (hR : inR D) (h : LK es n s 0 D) : ∀ k D', k ≤ s → kN s D k = some D' → LK es n s k D' ∧ DG s k 0 D'
  | 0, D', _, e => by
    cases e
    exact ⟨h, fun i' hi' hp => by omega⟩
  | k + 1, D', hk, e => by
    rw [kN] at e
    cases h1 : kN s D k with
    | none => rw [h1] at e; cases e
    | some D1 =>
      rw [h1, Option.bind_some] at e
      obtain ⟨a, b⟩ := kN_inv hO hs hR h k D1 (by omega) h1
      obtain ⟨c, d⟩ := iN_inv hO hs (by omega) (inR_kN hR k D1 h1) ⟨fun i' j' hi' hj' => by rw [if_neg (by omega)]; exact a i' j' hi' hj', fun j' hj' => a k j' (by omega) hj'⟩ b s D' (Nat.le_refl _) e
      refine ⟨fun i j hi hj => by have := c.1 i j hi hj; rwa [if_pos hi] at this, fun i' hi' hp => ?_⟩
      rcases d i' hi' hp with h1 | ⟨_, h1⟩
      · by_cases e' : k + 1 = i'
        · exact .inr ⟨e', by omega⟩
        · exact .inl (by omega)
      · omega
/-! the edges -/
theorem eN_lev {es : List Edg} {n : Int} {s : Nat} (he : edgOK s es) (hO : wOK es n) : LK es n s 0 (eN s n es) := by
  have key : ∀ (r p : List Edg) (D : Nat → Int), (∀ e ∈ r, e ∈ es) → (∀ i j, i < s → j < s → lev p n s D 0 i j) → ∀ i j, i < s → j < s → lev (p ++ r) n s (r.foldl (eStep s n) D) 0 i j := by
    intro r
    induction r with
    | nil => intro p D _ h; simpa using h
    | cons e r ih =>
      intro p D hr h i j hi hj
      have hE := he e (hr e List.mem_cons_self)
      have hW := hO e (hr e List.mem_cons_self)
      have := ih (p ++ [e]) (eStep s n D e) (fun x hx => hr x (List.mem_cons_of_mem _ hx)) (fun i j hi hj => ?_) i j hi hj
      · simpa using this
      · have h0 := h i j hi hj
        unfold lev Way at h0 ⊢
        unfold eStep
        by_cases ep : i * s + j = e.f.toNat * s + e.t.toNat
        · obtain ⟨e1, e2⟩ := cell_inj hj (by omega) ep
          rw [← ep, fset_same]
          refine ⟨?_, .inr ⟨_, e, by simp, by omega, by omega, rfl⟩⟩
          rintro w ⟨x, hx, h1, h2, rfl⟩
          rcases List.mem_append.1 hx with hx | hx
          · have := h0.1 _ ⟨x, hx, h1, h2, rfl⟩
            split <;> omega
          · have : x = e := by simpa using hx
            subst this
            unfold wgt
            split <;> omega
        · rw [fset_ne _ _ ep]
          refine ⟨?_, h0.2.imp id fun ⟨w, x, hx, hh⟩ => ⟨w, x, List.mem_append_left _ hx, hh⟩⟩
          rintro w ⟨x, hx, h1, h2, rfl⟩
          rcases List.mem_append.1 hx with hx | hx
          · exact h0.1 _ ⟨x, hx, h1, h2, rfl⟩
          · have : x = e := by simpa using hx
            subst this
            exact absurd (by rw [h1, h2]; rfl) ep
  have := key es [] (farTo (s * s)) (fun _ h => h) (fun i j hi hj => ⟨fun w ⟨x, hx, _⟩ => (by cases hx), .inl ?_⟩)
  · rw [List.nil_append] at this; exact this
  · unfold farTo
    rw [if_pos]
    have : i * s + s ≤ s * s := by
      have := Nat.mul_le_mul_right s (show i + 1 ≤ s from hi)
      rw [Nat.succ_mul] at this; exact this
    omega
/-- Where it goes, no way back is above nothing. -/
theorem goesP_hard {es : List Edg} {n : Int} {s : Nat} (hn : 0 ≤ n ∧ n ≤ 100000) (he : edgOK s es) (hO : wOK es n) (hs : s ≤ 24) (h : goesP es s n = true) : ∀ i w, i < s → Way es n s i i w → w ≤ 0 := by
  intro i w hi hw
  unfold goesP at h
  obtain ⟨D, hD⟩ := Option.isSome_iff_exists.1 h
  have hR : inR (eN s n es) := inR_eN hn es (fun e h => (he e h).2.2.2.2) _ (inR_farTo _)
  obtain ⟨a, b⟩ := kN_inv hO hs hR (eN_lev he hO) s D (Nat.le_refl _) hD
  have h1 := (a i i hi hi).1 w hw
  have h2 : ¬ 0 < D (i * s + i) := fun hp => by rcases b i hi hp with h | ⟨h, _⟩ <;> omega
  omega
/-! the upper qE -/
def potE (es : List Edg) (n : Int) (A : Nat → Int) : Prop := ∀ e ∈ es, A e.f.toNat + wgt n e ≤ A e.t.toNat
def potD (s : Nat) (A : Nat → Int) (D : Nat → Int) : Prop := ∀ i j, i < s → j < s → D (i * s + j) = farZ ∨ D (i * s + j) ≤ A j - A i
theorem jN_pot {s k i : Nat} {A D : Nat → Int} (hk : k < s) (hi : i < s) (hR : inR D) (h : potD s A D) (hf : D (i * s + k) ≠ farZ) : ∀ j, j ≤ s → potD s A (jN s k i D j)
  | 0, _ => h
  | j + 1, hj => by
    have ih := jN_pot hk hi hR h hf j (by omega)
    rw [jN]
    unfold jStep
    split
    · rename_i hh
      intro i' j' hi' hj'
      by_cases ep : i' * s + j' = i * s + j
      · obtain ⟨rfl, rfl⟩ := cell_inj hj' (by omega) ep
        right
        rw [fset_same]
        have h1 := jN_ge (s := s) (k := k) (i := i') hR (i' * s + k) j'
        have h2 := hR (i' * s + k)
        have h3 := (ih i' k hi' hk).resolve_left (by omega)
        have h4 := (ih k j' hk hj').resolve_left hh.1
        unfold capZ; split <;> omega
      · rw [fset_ne _ _ ep]; exact ih i' j' hi' hj'
    · exact ih
theorem iStep_pot {s k i : Nat} {A D : Nat → Int} (hk : k < s) (hi : i < s) (hR : inR D) (h : potD s A D) : ∃ D', iStep s k D i = some D' ∧ potD s A D' := by
  unfold iStep
  split
  · exact ⟨D, rfl, h⟩
  · rename_i hf
    have hp := jN_pot hk hi hR h hf s (Nat.le_refl _)
    rw [if_neg]
    · exact ⟨_, rfl, hp⟩
    · rcases hp i i hi hi with h | h
      · rw [h]; unfold farZ; omega
      · omega
theorem iN_pot {s k : Nat} {A D : Nat → Int} (hk : k < s) (hR : inR D) (h : potD s A D) : ∀ i, i ≤ s → ∃ D', iN s k D i = some D' ∧ potD s A D'
  | 0, _ => ⟨D, rfl, h⟩
  | i + 1, hi => by
    obtain ⟨D1, h1, h2⟩ := iN_pot hk hR h i (by omega)
    rw [iN, h1, Option.bind_some]
    exact iStep_pot hk (by omega) (inR_iN hR i D1 h1) h2
theorem kN_pot {s : Nat} {A D : Nat → Int} (hR : inR D) (h : potD s A D) : ∀ k, k ≤ s → ∃ D', kN s D k = some D' ∧ potD s A D'
  | 0, _ => ⟨D, rfl, h⟩
  | k + 1, hk => by
    obtain ⟨D1, h1, h2⟩ := kN_pot hR h k (by omega)
    rw [kN, h1, Option.bind_some]
    exact iN_pot (by omega) (inR_kN hR k D1 h1) h2 s (Nat.le_refl _)
theorem goesP_easy {es : List Edg} {n : Int} {s : Nat} {A : Nat → Int} (hn : 0 ≤ n ∧ n ≤ 100000) (he : edgOK s es) (h : potE es n A) : goesP es s n = true := by
  have hR : inR (eN s n es) := inR_eN hn es (fun e h => (he e h).2.2.2.2) _ (inR_farTo _)
  have key : ∀ (r : List Edg) (D : Nat → Int), (∀ e ∈ r, e ∈ es) → potD s A D → potD s A (r.foldl (eStep s n) D) := by
    intro r
    induction r with
    | nil => intro D _ h; exact h
    | cons e r ih =>
      intro D hr hD
      refine ih _ (fun x hx => hr x (List.mem_cons_of_mem _ hx)) ?_
      have hE := he e (hr e List.mem_cons_self)
      have hP := h e (hr e List.mem_cons_self)
      intro i j hi hj
      unfold eStep
      by_cases ep : i * s + j = e.f.toNat * s + e.t.toNat
      · obtain ⟨e1, e2⟩ := cell_inj hj (by omega) ep
        rw [← ep, fset_same]
        rw [← e1, ← e2] at hP
        unfold wgt at hP
        have := hD i j hi hj
        split
        · right; omega
        · exact this
      · rw [fset_ne _ _ ep]; exact hD i j hi hj
  have h0 : potD s A (eN s n es) := key es _ (fun _ h => h) fun i j hi hj => .inl (by
    unfold farTo
    rw [if_pos]
    have : i * s + s ≤ s * s := by
      have := Nat.mul_le_mul_right s (show i + 1 ≤ s from hi)
      rw [Nat.succ_mul] at this; exact this
    omega)
  obtain ⟨D', h1, _⟩ := kN_pot hR h0 s (Nat.le_refl _)
  unfold goesP
  rw [h1]; rfl
end Go.Proofs.Hx

set_option linter.unusedVariables false
set_option linter.unusedSimpArgs false
namespace Go.Proofs.Hx
open Go Go.Proofs
/-! ### Longest ways from everywhere, round by round -/
def fStep (n : Int) (A : (Nat → Int) × Bool) (e : Edg) : (Nat → Int) × Bool :=
  if A.1 e.f.toNat + e.l - n * e.d > A.1 e.t.toNat then (fset A.1 e.t.toNat (A.1 e.f.toNat + e.l - n * e.d), false) else A
def fRound (n : Int) (es : List Edg) (A : Nat → Int) : (Nat → Int) × Bool := es.foldl (fStep n) (A, true)
def endsN (n : Int) (es : List Edg) (A : Nat → Int) : Nat → Bool
  | 0 => false
  | r + 1 => if (fRound n es A).2 = true then true else endsN n es (fRound n es A).1 r
def zeroD : Nat → Int := fun _ => 0
def endsP (es : List Edg) (s : Nat) (n : Int) : Bool := endsN n es zeroD (s + 1)
theorem fold_false (n : Int) : ∀ (r : List Edg) (A : Nat → Int), (r.foldl (fStep n) (A, false)).2 = false
  | [], _ => rfl
  | e :: r, A => by
    rw [List.foldl_cons]
    unfold fStep
    split
    · exact fold_false n r _
    · exact fold_false n r A
theorem fRound_true {n : Int} : ∀ (r : List Edg) (A : Nat → Int), (r.foldl (fStep n) (A, true)).2 = true → potE r n A
  | [], _, _ => fun _ h => by cases h
  | e :: r, A, h => by
    rw [List.foldl_cons] at h
    by_cases hh : A e.f.toNat + e.l - n * e.d > A e.t.toNat
    · rw [show fStep n (A, true) e = (_, false) from if_pos hh, fold_false] at h; cases h
    · rw [show fStep n (A, true) e = (A, true) from if_neg hh] at h
      intro x hx
      rcases List.mem_cons.1 hx with rfl | hx
      · unfold wgt; omega
      · exact fRound_true r A h x hx
theorem endsN_pot {n : Int} {es : List Edg} : ∀ (m : Nat) (A : Nat → Int), endsN n es A m = true → ∃ A', potE es n A'
  | m + 1, A, h => by
    rw [endsN] at h
    split at h
    · rename_i hh; exact ⟨A, fRound_true es A hh⟩
    · exact endsN_pot m _ h
/-! chains of changes -/
def Chain (es : List Edg) (n : Int) : List (Nat × Int) → Prop
  | [] => False
  | [_] => True
  | (v, a) :: (u, b) :: r => (∃ e ∈ es, e.f = u ∧ e.t = v ∧ a = b + wgt n e) ∧ Chain es n ((u, b) :: r)
theorem chain_cut {es : List Edg} {n : Int} : ∀ (p : List (Nat × Int)) {x : Nat × Int} {r : List (Nat × Int)}, Chain es n (p ++ x :: r) → Chain es n (x :: r)
  | [], _, _, h => h
  | [(v, a)], (u, b), r, h => h.2
  | (v, a) :: (u, b) :: p, x, r, h => chain_cut ((u, b) :: p) h.2
theorem mem_split {α : Type} {x : α} : ∀ {l : List α}, x ∈ l → ∃ a b, l = a ++ x :: b
  | y :: l, h => by
    rcases List.mem_cons.1 h with rfl | h
    · exact ⟨[], l, rfl⟩
    · obtain ⟨a, b, rfl⟩ := mem_split h
      exact ⟨y :: a, b, rfl⟩
theorem chain_way {es : List Edg} {n : Int} : ∀ (K : Nat) (v u : Nat) (a b : Int) (m r : List (Nat × Int)), Chain es n ((v, a) :: m ++ (u, b) :: r) → (m.map (·.1)).Nodup → (∀ x ∈ m, x.1 < K) → Way es n K u v (a - b)
  | 0, v, u, a, b, [], r, h, _, _ => by
    obtain ⟨⟨e, he, h1, h2, h3⟩, _⟩ := h
    exact ⟨e, he, h1, h2, by omega⟩
  | 0, v, u, a, b, x :: m, r, h, _, hx => absurd (hx x List.mem_cons_self) (by omega)
  | K + 1, v, u, a, b, m, r, h, hnd, hx => by
    by_cases hK : ∃ x ∈ m, x.1 = K
    · obtain ⟨⟨k, c⟩, hm, hk⟩ := hK
      simp only at hk
      subst hk
      obtain ⟨m1, m2, rfl⟩ := mem_split hm
      rw [List.map_append, List.map_cons] at hnd
      have hn1 := (List.nodup_append.1 hnd)
      have hn2 := List.nodup_cons.1 hn1.2.1
      have hlt1 : ∀ x ∈ m1, x.1 < k := fun x h => by
        have a := hx x (List.mem_append_left _ h)
        have b := hn1.2.2 x.1 (List.mem_map.2 ⟨x, h, rfl⟩) k List.mem_cons_self
        omega
      have hlt2 : ∀ x ∈ m2, x.1 < k := fun x h => by
        have a := hx x (List.mem_append_right _ (List.mem_cons_of_mem _ h))
        have b : x.1 ≠ k := fun e => hn2.1 (by rw [← e]; exact List.mem_map.2 ⟨x, h, rfl⟩)
        omega
      have hc : Chain es n ((v, a) :: m1 ++ (k, c) :: (m2 ++ (u, b) :: r)) := by simpa using h
      have hc2 : Chain es n ((k, c) :: m2 ++ (u, b) :: r) := chain_cut ((v, a) :: m1) hc
      exact .inr ⟨c - b, a - c, chain_way k k u c b m2 r hc2 hn2.2 hlt2, chain_way k v k a c m1 _ hc hn1.1 hlt1, by omega⟩
    · exact .inl (chain_way K v u a b m r h hnd fun x h => by
        have a := hx x h
        have b : x.1 ≠ K := fun e => hK ⟨x, h, e⟩
        omega)
theorem nodup_len : ∀ (s : Nat) (l : List Nat), l.Nodup → (∀ x ∈ l, x < s) → l.length ≤ s
  | 0, [], _, _ => by simp
  | 0, x :: l, _, h => absurd (h x List.mem_cons_self) (by omega)
  | s + 1, l, hn, h => by
    by_cases hs : s ∈ l
    · obtain ⟨a, b, rfl⟩ := mem_split hs
      have h1 := List.nodup_append.1 hn
      have h2 := List.nodup_cons.1 h1.2.1
      have h3 : (a ++ b).Nodup := List.nodup_append.2 ⟨h1.1, h2.2, fun x hx y hy => h1.2.2 x hx y (List.mem_cons_of_mem _ hy)⟩
      have h4 : ∀ x ∈ a ++ b, x < s := fun x hx => by
        rcases List.mem_append.1 hx with hx | hx
        · have := h x (List.mem_append_left _ hx)
          have := h1.2.2 x hx s List.mem_cons_self
          omega
        · have := h x (List.mem_append_right _ (List.mem_cons_of_mem _ hx))
          have : x ≠ s := fun e => h2.1 (by rw [← e]; exact hx)
          omega
      have := nodup_len s (a ++ b) h3 h4
      simp only [List.length_append, List.length_cons] at this ⊢
      omega
    · have := nodup_len s l hn fun x hx => by
        have a := h x hx
        have b : x ≠ s := fun e => hs (by rw [← e]; exact hx)
        omega
      omega
theorem dup_split {β : Type} : ∀ (l : List (Nat × β)), ¬ (l.map (·.1)).Nodup → ∃ p x y m r, l = p ++ x :: m ++ y :: r ∧ x.1 = y.1 ∧ (m.map (·.1)).Nodup
  | [], h => absurd List.nodup_nil h
  | z :: t, h => by
    by_cases ht : (t.map (·.1)).Nodup
    · rw [List.map_cons, List.nodup_cons] at h
      have : z.1 ∈ t.map (·.1) := Classical.byContradiction fun hc => h ⟨hc, ht⟩
      obtain ⟨y, hy, e⟩ := List.mem_map.1 this
      obtain ⟨m, r, rfl⟩ := mem_split hy
      rw [List.map_append] at ht
      exact ⟨[], z, y, m, r, rfl, e.symm, (List.nodup_append.1 ht).1⟩
    · obtain ⟨p, x, y, m, r, rfl, h1, h2⟩ := dup_split t ht
      exact ⟨z :: p, x, y, m, r, rfl, h1, h2⟩
/-- What stands behind the values of a round. -/
structure CHs (es : List Edg) (n : Int) (s : Nat) (A : Nat → Int) (c : Nat → List (Nat × Int)) : Prop where
  hd : ∀ v, ∃ r, c v = (v, A v) :: r
  ch : ∀ v, Chain es n (c v)
  pw : ∀ v, (c v).Pairwise fun x y => x.1 = y.1 → y.2 < x.2
  le : ∀ v, ∀ x ∈ c v, x.2 ≤ A x.1
  lt : ∀ v, v < s → ∀ x ∈ c v, x.1 < s
theorem CHs.init {es : List Edg} {n : Int} {s : Nat} : CHs es n s zeroD fun v => [(v, 0)] where
  hd v := ⟨[], rfl⟩
  ch v := trivial
  pw v := by simp
  le v x h := by simp at h; subst h; exact Int.le_refl _
  lt v hv x h := by simp at h; subst h; exact hv
def cset (c : Nat → List (Nat × Int)) (v : Nat) (l : List (Nat × Int)) : Nat → List (Nat × Int) := fun u => if u = v then l else c u
theorem CHs.step {es : List Edg} {n : Int} {s : Nat} {A : Nat → Int} {c : Nat → List (Nat × Int)} (h : CHs es n s A c) {e : Edg} (hm : e ∈ es) (hf : 0 ≤ e.f ∧ e.f < s) (ht : 0 ≤ e.t ∧ e.t < s) {x : Int} (hx : x = A e.f.toNat + wgt n e) (hgt : A e.t.toNat < x) :
    CHs es n s (fset A e.t.toNat x) (cset c e.t.toNat ((e.t.toNat, x) :: c e.f.toNat)) := by
  have hA : ∀ u, A u ≤ fset A e.t.toNat x u := fun u => by
    unfold fset; split
    · rename_i e'; subst e'; omega
    · exact Int.le_refl _
  have hle : ∀ v, ∀ y ∈ c v, y.2 ≤ fset A e.t.toNat x y.1 := fun v y hy => Int.le_trans (h.le v y hy) (hA _)
  refine ⟨fun v => ?_, fun v => ?_, fun v => ?_, fun v => ?_, fun v => ?_⟩
  · unfold cset fset; split
    · rename_i e'; subst e'; exact ⟨_, rfl⟩
    · exact h.hd v
  · unfold cset; split
    · obtain ⟨r, hr⟩ := h.hd e.f.toNat
      have := h.ch e.f.toNat
      rw [hr] at this ⊢
      exact ⟨⟨e, hm, by omega, by omega, hx⟩, this⟩
    · exact h.ch v
  · unfold cset; split
    · refine List.pairwise_cons.2 ⟨fun y hy e' => ?_, h.pw _⟩
      have := h.le _ y hy
      rw [← e'] at this
      simp only at this ⊢
      omega
    · exact h.pw v
  · unfold cset; split
    · intro y hy
      rcases List.mem_cons.1 hy with rfl | hy
      · rw [fset_same]; exact Int.le_refl _
      · exact hle _ y hy
    · exact hle v
  · intro hv
    unfold cset; split
    · intro y hy
      rcases List.mem_cons.1 hy with rfl | hy
      · simp only; omega
      · exact h.lt _ (by omega) y hy
    · exact h.lt v hv
/-- One round: from chains that are long where an edge is not kept, to longer ones. -/
theorem round_CH {es : List Edg} {n : Int} {s : Nat} (he : edgOK s es) (R : Nat) : ∀ (q p : List Edg) (A : Nat → Int) (c : Nat → List (Nat × Int)) (b : Bool), p ++ q = es → CHs es n s A c →
    (∀ e ∈ p, A e.f.toNat + wgt n e ≤ A e.t.toNat ∨ R + 1 ≤ (c e.f.toNat).length) → (∀ e ∈ q, A e.f.toNat + wgt n e ≤ A e.t.toNat ∨ R ≤ (c e.f.toNat).length) → (b = false → ∃ v < s, R + 1 ≤ (c v).length) →
    ∃ c', CHs es n s (q.foldl (fStep n) (A, b)).1 c' ∧ (∀ e ∈ es, (q.foldl (fStep n) (A, b)).1 e.f.toNat + wgt n e ≤ (q.foldl (fStep n) (A, b)).1 e.t.toNat ∨ R + 1 ≤ (c' e.f.toNat).length) ∧ ((q.foldl (fStep n) (A, b)).2 = false → ∃ v < s, R + 1 ≤ (c' v).length)
  | [], p, A, c, b, hpq, hC, hp, hq, hb => by
    rw [List.append_nil] at hpq; subst hpq
    exact ⟨c, hC, hp, hb⟩
  | e :: q, p, A, c, b, hpq, hC, hp, hq, hb => by
    have hm : e ∈ es := by rw [← hpq]; simp
    have hE := he e hm
    have hpq' : (p ++ [e]) ++ q = es := by rw [← hpq]; simp
    have hx0 : A e.f.toNat + e.l - n * e.d = A e.f.toNat + wgt n e := by unfold wgt; omega
    rw [List.foldl_cons]
    by_cases hgt : A e.t.toNat < A e.f.toNat + wgt n e
    · have hs : fStep n (A, b) e = (fset A e.t.toNat (A e.f.toNat + wgt n e), false) := by
        unfold fStep; simp only [hx0]; rw [if_pos hgt]
      rw [hs]
      have hlen : R + 1 ≤ (c e.f.toNat).length + 1 := by
        rcases hq e List.mem_cons_self with h | h <;> omega
      have hcl : ∀ (k : Nat) (v : Nat), k ≤ R + 1 → k ≤ (c v).length → k ≤ (cset c e.t.toNat ((e.t.toNat, A e.f.toNat + wgt n e) :: c e.f.toNat) v).length := fun k v hk h => by
        unfold cset; split
        · simp only [List.length_cons]; omega
        · exact h
      have hkeep : ∀ (k : Nat) (x : Edg), k ≤ R + 1 → (A x.f.toNat + wgt n x ≤ A x.t.toNat ∨ k ≤ (c x.f.toNat).length) → (fset A e.t.toNat (A e.f.toNat + wgt n e) x.f.toNat + wgt n x ≤ fset A e.t.toNat (A e.f.toNat + wgt n e) x.t.toNat ∨ k ≤ (cset c e.t.toNat ((e.t.toNat, A e.f.toNat + wgt n e) :: c e.f.toNat) x.f.toNat).length) := fun k x hk h => by
        by_cases ef : x.f.toNat = e.t.toNat
        · right
          unfold cset
          rw [if_pos ef]
          simp only [List.length_cons]; omega
        · rcases h with h | h
          · left
            rw [fset_ne _ _ ef]
            unfold fset; split
            · rename_i et; rw [et] at h; omega
            · exact h
          · exact .inr (hcl k _ hk h)
      refine round_CH he R q (p ++ [e]) _ _ false hpq' (hC.step hm ⟨hE.1, hE.2.1⟩ ⟨hE.2.2.1, hE.2.2.2.1⟩ rfl hgt) ?_ ?_ ?_
      · intro x hx
        rcases List.mem_append.1 hx with hx | hx
        · exact hkeep _ x (Nat.le_refl _) (hp x hx)
        · have : x = e := by simpa using hx
          subst this
          by_cases ef : x.f.toNat = x.t.toNat
          · right; unfold cset; rw [if_pos ef]; simp only [List.length_cons]; omega
          · left; rw [fset_ne _ _ ef, fset_same]; exact Int.le_refl _
      · intro x hx
        exact hkeep R x (by omega) (hq x (List.mem_cons_of_mem _ hx))
      · intro _
        refine ⟨e.t.toNat, by omega, ?_⟩
        unfold cset; rw [if_pos rfl]; simp only [List.length_cons]; omega
    · have hs : fStep n (A, b) e = (A, b) := by
        unfold fStep; simp only [hx0]; rw [if_neg hgt]
      rw [hs]
      refine round_CH he R q (p ++ [e]) A c b hpq' hC ?_ (fun x hx => hq x (List.mem_cons_of_mem _ hx)) hb
      intro x hx
      rcases List.mem_append.1 hx with hx | hx
      · exact hp x hx
      · have : x = e := by simpa using hx
        subst this
        left; omega
theorem endsN_long {es : List Edg} {n : Int} {s : Nat} (he : edgOK s es) : ∀ (m R : Nat) (A : Nat → Int) (c : Nat → List (Nat × Int)), CHs es n s A c → (∀ e ∈ es, A e.f.toNat + wgt n e ≤ A e.t.toNat ∨ R ≤ (c e.f.toNat).length) → endsN n es A (m + 1) = false →
    ∃ A' c', CHs es n s A' c' ∧ ∃ v < s, R + m + 1 ≤ (c' v).length
  | m, R, A, c, hC, hq, h => by
    rw [endsN] at h
    split at h
    · cases h
    · rename_i hh
      obtain ⟨c', h1, h2, h3⟩ := round_CH he R es [] A c true rfl hC (fun _ h => by cases h) hq (fun h => by cases h)
      have hf : (fRound n es A).2 = false := by simpa using hh
      match m with
      | 0 => exact ⟨_, c', h1, h3 hf⟩
      | m + 1 =>
        obtain ⟨A', c2, k1, v, hv, k2⟩ := endsN_long he m (R + 1) _ c' h1 h2 h
        exact ⟨A', c2, k1, v, hv, by omega⟩
/-- Where the longest ways don't end, some way back is above nothing. -/
theorem endsP_ring {es : List Edg} {n : Int} {s : Nat} (he : edgOK s es) (h : endsP es s n = false) : ∃ i w, i < s ∧ 0 < w ∧ Way es n s i i w := by
  obtain ⟨A, c, hC, v, hv, hl⟩ := endsN_long he s 1 zeroD _ CHs.init (fun e _ => .inr (by simp)) h
  have hnd : ¬ ((c v).map (·.1)).Nodup := fun hn => by
    have := nodup_len s _ hn fun x hx => by
      obtain ⟨y, hy, rfl⟩ := List.mem_map.1 hx
      exact hC.lt v hv y hy
    rw [List.length_map] at this
    omega
  obtain ⟨p, ⟨x, a⟩, ⟨y, b⟩, m, r, hc, hxy, hm⟩ := dup_split _ hnd
  simp only at hxy
  subst hxy
  have hch : Chain es n ((x, a) :: m ++ (x, b) :: r) := by
    have := hC.ch v
    rw [hc, List.append_assoc] at this
    exact chain_cut p this
  have hpw := hC.pw v
  rw [hc, List.append_assoc] at hpw
  have h1 := (List.pairwise_append.1 hpw).2.1
  have h2 : b < a := (List.pairwise_cons.1 h1).1 (x, b) (by simp) rfl
  refine ⟨x, a - b, hC.lt v hv (x, a) (by rw [hc]; simp), by omega, chain_way s x x a b m r hch hm fun z hz => hC.lt v hv z (by rw [hc]; simp [hz])⟩
/-- Both answers are one. -/
theorem goes_ends {es : List Edg} {n : Int} {s : Nat} (hn : 0 ≤ n ∧ n ≤ 100000) (he : edgOK s es) (hO : wOK es n) (hs : s ≤ 24) : goesP es s n = endsP es s n := by
  cases h : endsP es s n with
  | true =>
    obtain ⟨A, hA⟩ := endsN_pot _ _ h
    exact goesP_easy hn he hA
  | false =>
    obtain ⟨i, w, hi, hw, hW⟩ := endsP_ring he h
    cases hg : goesP es s n with
    | false => rfl
    | true => have := goesP_hard hn he hO hs hg i w hi hW; omega
theorem pot_ends {es : List Edg} {n : Int} {s : Nat} {A : Nat → Int} (hn : 0 ≤ n ∧ n ≤ 100000) (he : edgOK s es) (hO : wOK es n) (hs : s ≤ 24) (h : potE es n A) : endsP es s n = true := by
  rw [← goes_ends hn he hO hs]; exact goesP_easy hn he h
theorem ends_mono {es : List Edg} {n m : Int} {s : Nat} (hn : 0 ≤ n ∧ n ≤ m ∧ m ≤ 100000) (he : edgOK s es) (hO : wOK es m) (hs : s ≤ 24) (h : endsP es s n = true) : endsP es s m = true := by
  obtain ⟨A, hA⟩ := endsN_pot _ _ h
  refine pot_ends ⟨by omega, hn.2.2⟩ he hO hs (A := A) fun e hm => ?_
  have := hA e hm
  have hd := (he e hm).2.2.2.2.2.2.1
  have := Int.mul_le_mul_of_nonneg_right hn.2.1 hd
  unfold wgt at *
  omega
end Go.Proofs.Hx

set_option linter.unusedVariables false
set_option linter.unusedSimpArgs false
namespace Go.Proofs.Hx
open Go Go.Proofs
/-! ### What the edges of a loop are like -/
def eQ (n : Nat) (e : Edg) : Prop := 0 ≤ e.f ∧ e.f < n ∧ 0 ≤ e.t ∧ e.t < n ∧ 0 ≤ e.l ∧ e.l ≤ 8 ∧ ((e.d = 0 ∧ e.f < e.t) ∨ e.d = 1)
theorem pairE_q {t : Tab} (ht : qM t) {a b : Opn} {i j : Int} {dist : Int} {m : Bool} : ∀ e ∈ pairE t a b i j dist m, e.f = i ∧ e.t = j ∧ 0 ≤ e.l ∧ e.l ≤ 8 ∧ e.d = dist := by
  intro e he
  have h1 := latS_ok ht a
  have h2 := latS_ok ht b
  have h3 := ht.1 2 (by omega)
  unfold okC at h3
  unfold pairE at he
  simp only [List.mem_append] at he
  rcases he with ((he | he) | he) | he <;> (split at he <;> (try (simp at he; done)))
  all_goals
    simp only [List.mem_singleton] at he; subst he
    simp only
    refine ⟨by trivial, by trivial, ?_, ?_, by trivial⟩ <;> (repeat' split) <;> omega
theorem ijE_q {l : List Opn} {t : Tab} (ht : qM t) {i j : Nat} : ∀ e ∈ ijE l t i j, e.f = i ∧ e.t = j ∧ 0 ≤ e.l ∧ e.l ≤ 8 ∧ e.d = 0 := by
  intro e he
  have h1 := latS_ok ht (opAt l i)
  unfold ijE at he
  rw [List.mem_append] at he
  rcases he with he | he
  · split at he
    · simp only [List.mem_singleton] at he; subst he
      exact ⟨rfl, rfl, by simp only; omega, by simp only; omega, rfl⟩
    · simp at he
  · exact pairE_q ht e he
theorem ijR_q {l : List Opn} {t : Tab} (ht : qM t) {i j : Nat} : ∀ e ∈ ijR l t i j, e.f = i ∧ e.t = j ∧ 0 ≤ e.l ∧ e.l ≤ 8 ∧ e.d = 1 := by
  intro e he
  have h1 := latS_ok ht (opAt l i)
  unfold ijR at he
  rw [List.mem_append] at he
  rcases he with he | he
  · split at he
    · simp only [List.mem_singleton] at he; subst he
      exact ⟨rfl, rfl, by simp only; omega, by simp only; omega, rfl⟩
    · simp at he
  · exact pairE_q ht e he
theorem toE_q {l : List Opn} {t : Tab} (ht : qM t) {j n : Nat} (hj : j < n) : ∀ i, i ≤ j → ∀ e ∈ toE l t j i, eQ n e
  | 0, _, e, he => by simp [toE] at he
  | i + 1, hi, e, he => by
    simp only [toE, List.mem_append] at he
    rcases he with he | he
    · exact toE_q ht hj i (by omega) e he
    · have := ijE_q ht e he
      unfold eQ; omega
theorem onceE_q {l : List Opn} {t : Tab} (ht : qM t) {n : Nat} : ∀ j, j ≤ n → ∀ e ∈ onceE l t j, eQ n e
  | 0, _, e, he => by simp [onceE] at he
  | j + 1, hj, e, he => by
    simp only [onceE, List.mem_append] at he
    rcases he with he | he
    · exact onceE_q ht j (by omega) e he
    · exact toE_q ht (by omega) j (Nat.le_refl _) e he
theorem toR_q {l : List Opn} {t : Tab} (ht : qM t) {j n : Nat} (hj : j < n) : ∀ i, i ≤ n → ∀ e ∈ toR l t j i, eQ n e
  | 0, _, e, he => by simp [toR] at he
  | i + 1, hi, e, he => by
    simp only [toR, List.mem_append] at he
    rcases he with he | he
    · exact toR_q ht hj i (by omega) e he
    · have := ijR_q ht e he
      unfold eQ; omega
theorem arndE_q {l : List Opn} {t : Tab} (ht : qM t) : ∀ j, j ≤ l.length → ∀ e ∈ arndE l t j, eQ l.length e
  | 0, _, e, he => by simp [arndE] at he
  | j + 1, hj, e, he => by
    simp only [arndE, List.mem_append] at he
    rcases he with he | he
    · exact arndE_q ht j (by omega) e he
    · exact toR_q ht (by omega) _ (Nat.le_refl _) e he
theorem loopE_q {l : List Opn} {t : Tab} (ht : qM t) : ∀ e ∈ loopE l t, eQ l.length e := by
  intro e he
  unfold loopE at he
  rcases List.mem_append.1 he with he | he
  · exact onceE_q ht _ (Nat.le_refl _) e he
  · exact arndE_q ht _ (Nat.le_refl _) e he
theorem loopE_edg {l : List Opn} {t : Tab} (ht : qM t) : edgOK l.length (loopE l t) := fun e he => by
  have := loopE_q ht e he
  unfold eQ at this; omega
theorem loopE_w {l : List Opn} {t : Tab} (ht : qM t) {n : Int} (hn : 0 ≤ n ∧ n ≤ 900) : wOK (loopE l t) n := fun e he => by
  have := loopE_q ht e he
  unfold eQ at this
  unfold wgt
  obtain ⟨_, _, _, _, _, _, h | h⟩ := this
  · rw [h.1]; omega
  · rw [h]; omega
theorem loopE_pot {l : List Opn} {t : Tab} (ht : qM t) (hl : l.length ≤ 64) : potE (loopE l t) 513 (fun i => 8 * (i : Int)) := fun e he => by
  have := loopE_q ht e he
  unfold eQ at this
  show 8 * (e.f.toNat : Int) + wgt 513 e ≤ 8 * (e.t.toNat : Int)
  unfold wgt
  obtain ⟨_, _, _, _, _, _, h | h⟩ := this
  · rw [h.1]; omega
  · rw [h]; omega
/-! ### The least round -/
def lst (p : Int → Bool) : Nat → Nat → Nat
  | a, 0 => a
  | a, f + 1 => if p a = true then a else lst p (a + 1) f
theorem lst_eq {p : Int → Bool} {c : Nat} (hc : p c = true) : ∀ (f a : Nat), a ≤ c → c ≤ a + f → (∀ x : Nat, a ≤ x → x < c → p x = false) → lst p a f = c
  | 0, a, h1, h2, h3 => by rw [lst]; omega
  | f + 1, a, h1, h2, h3 => by
    rw [lst]
    by_cases e : a = c
    · subst e; rw [if_pos hc]
    · rw [if_neg (by rw [h3 a (Nat.le_refl _) (by omega)]; simp)]
      exact lst_eq hc f (a + 1) (by omega) (by omega) fun x h => h3 x (by omega)
/-- How often a round can begin, by what goes round. -/
def rndN (l : List Opn) (t : Tab) : Nat := lst (endsP (loopE l t) l.length) 1 512
theorem ends_up {l : List Opn} {t : Tab} (ht : qM t) (hl : l.length ≤ 24) {n m : Int} (h0 : 0 ≤ n) (hm : m ≤ 513) (h : n ≤ m) (hp : endsP (loopE l t) l.length n = true) : endsP (loopE l t) l.length m = true :=
  ends_mono ⟨h0, h, by omega⟩ (loopE_edg ht) (loopE_w ht ⟨by omega, by omega⟩) hl hp
theorem ends_513 {l : List Opn} {t : Tab} (ht : qM t) (hl : l.length ≤ 24) : endsP (loopE l t) l.length 513 = true :=
  pot_ends ⟨by omega, by omega⟩ (loopE_edg ht) (loopE_w ht ⟨by omega, by omega⟩) hl (loopE_pot ht (by omega))
theorem rndN_of {l : List Opn} {t : Tab} (ht : qM t) (hl : l.length ≤ 24) {c : Nat} (h1 : 1 ≤ c) (h2 : c ≤ 513) (ha : c = 1 ∨ endsP (loopE l t) l.length ((c : Int) - 1) = false) (hb : endsP (loopE l t) l.length c = true) : rndN l t = c := by
  refine lst_eq hb 512 1 h1 (by omega) fun x hx hxc => ?_
  cases hp : endsP (loopE l t) l.length x with
  | false => rfl
  | true =>
    rcases ha with ha | ha
    · omega
    · rw [ends_up ht hl (n := x) (by omega) (by omega) (by omega) hp] at ha; cases ha
theorem rndN_ok {l : List Opn} {t : Tab} (ht : qM t) (hl : l.length ≤ 24) : 1 ≤ rndN l t ∧ rndN l t ≤ 513 ∧ endsP (loopE l t) l.length (rndN l t) = true ∧ (rndN l t = 1 ∨ endsP (loopE l t) l.length ((rndN l t : Int) - 1) = false) := by
  have key : ∀ (d c : Nat), c + d = 513 → 1 ≤ c → endsP (loopE l t) l.length c = false → ∃ b : Nat, 1 ≤ b ∧ b ≤ 513 ∧ endsP (loopE l t) l.length b = true ∧ (b = 1 ∨ endsP (loopE l t) l.length ((b : Int) - 1) = false) := by
    intro d
    induction d with
    | zero => intro c h _ hf; rw [show (c : Int) = 513 by omega, ends_513 ht hl] at hf; cases hf
    | succ d ih =>
      intro c h h1 hf
      cases hn : endsP (loopE l t) l.length ((c + 1 : Nat) : Int) with
      | true => exact ⟨c + 1, by omega, by omega, hn, .inr (by rw [show ((c + 1 : Nat) : Int) - 1 = c by omega]; exact hf)⟩
      | false => exact ih (c + 1) (by omega) (by omega) hn
  obtain ⟨b, h1, h2, h3, h4⟩ : ∃ b : Nat, 1 ≤ b ∧ b ≤ 513 ∧ endsP (loopE l t) l.length b = true ∧ (b = 1 ∨ endsP (loopE l t) l.length ((b : Int) - 1) = false) := by
    cases hn : endsP (loopE l t) l.length ((1 : Nat) : Int) with
    | true => exact ⟨1, by omega, by omega, hn, .inl rfl⟩
    | false => exact key 512 1 rfl (by omega) hn
  rw [rndN_of ht hl h1 h2 h4 h3]
  exact ⟨h1, h2, h3, h4⟩
end Go.Proofs.Hx

set_option linter.unusedVariables false
set_option linter.unusedSimpArgs false
namespace Go.Proofs.Hx
open Go Go.Proofs
attribute [local irreducible] yM awp opK goV goM yV yZ qF yQ HV HVF HC
theorem erows_imms (l : List Edg) : immss (l.map edC) = true := qI fun i x hx => by simp at hx; obtain ⟨o, _, rfl⟩ := hx; rfl
/-- Edges, as they are lent: none may be nil. -/
def EdV (E : AV) (es : List Edg) : Prop := E = .row (es.map edC) ∨ (E = .nil ∧ es = [])
theorem EdV.imm {E : AV} {es : List Edg} (h : EdV E es) : imm E = true := by
  rcases h with rfl | ⟨rfl, _⟩
  · simp [Hx.imm, erows_imms]
  · rfl
theorem EdV.len {E : AV} {es : List Edg} (h : EdV E es) : lenV E = some (.lit (.int .i64 es.length)) := by
  rcases h with rfl | ⟨rfl, rfl⟩
  · simp [lenV]
  · rfl
theorem EdV.at {E : AV} {es : List Edg} (h : EdV E es) {k : Nat} (hk : k < es.length) (kd : IntKind) : idxAddrV none 5 E (.lit (.int kd (k : Int))) = some (.ip (edC es[k])) := by
  rcases h with rfl | ⟨rfl, rfl⟩
  · exact idxAddr_row edC 5 edC_len es kd hk
  · exact absurd hk (by simp)
theorem farTo_put (k : Nat) : fset (farTo k) k (-1099511627776) = farTo (k + 1) := by
  funext j; unfold fset farTo farZ
  by_cases h : j = k
  · subst h; simp
  · by_cases h2 : j < k
    · rw [if_neg h, if_pos h2, if_pos (by omega)]
    · rw [if_neg h, if_neg h2, if_neg (by omega)]
set_option maxRecDepth 20000 in
set_option maxHeartbeats 4000000 in
theorem f61 (E : AV) (es : List Edg) (s : Nat) (n : Int) (hE : EdV E es) (hs : s ≤ 64) (hn : 0 ≤ n ∧ n ≤ 100000) (he : edgOK s es) (hl : es.length ≤ 100000000) :
    HV Try.prog 61 [E, i64 s, i64 n] (bl (goesP es s n)) := by
  refine yJ yL cf61 (by simp) (by simp [imms, imm, hE.imm]) ?_ rfl
  unfold ac61 re61
  rw [r61_arr]
  refine yF fun env hE => ?_; have e0 := hE 0; have e1 := hE 1; have e2 := hE 2; have e4 := hE 4; have e6 := hE 6; have e7 := hE 7; have e8 := hE 8; have e9 := hE 9; have e11 := hE 11; have e12 := hE 12; have e13 := hE 13; have e14 := hE 14; have e15 := hE 15; have e16 := hE 16; have e17 := hE 17; have e18 := hE 18; have e22 := hE 22; have e23 := hE 23; have e24 := hE 24; have e29 := hE 29; have e30 := hE 30; have e31 := hE 31; have e32 := hE 32; have e57 := hE 57; have e58 := hE 58; have e59 := hE 59; have e64 := hE 64; have e65 := hE 65; have e66 := hE 66; have e76 := hE 76; have e77 := hE 77; have e78 := hE 78; have e79 := hE 79; simp -implicitDefEqProofs only [push_cast] at e0 e1 e2 e4 e6 e7 e8 e9 e11 e12 e13 e14 e15 e16 e17 e18 e22 e23 e24 e29 e30 e31 e32 e57 e58 e59 e64 e65 e66 e76 e77 e78 e79; clear hE
  have hss : s * s ≤ 4096 := Nat.mul_le_mul hs hs
  have hw1 : IntKind.i64.wrap ((s : Int) * s) = ((s * s : Nat) : Int) := by rw [← Int.natCast_mul]; exact wrap64 (by omega) (by omega)
  repeat' (first | ((try clear hf); with_reducible refine zM fun env K hE hK hf => ?_; have n : _ ∧ _ ∧ _ ∧ _ ∧ _ ∧ _ ∧ _ ∧ _ ∧ _ ∧ _ ∧ _ ∧ _ ∧ _ ∧ _ ∧ _ ∧ _ ∧ _ ∧ _ ∧ _ ∧ _ ∧ _ ∧ _ ∧ _ ∧ _ ∧ _ ∧ _ ∧ _ ∧ _ ∧ _ ∧ _ ∧ _ ∧ _ ∧ _ := ⟨hE 0, hE 1, hE 2, hE 4, hE 6, hE 7, hE 8, hE 9, hE 11, hE 12, hE 13, hE 14, hE 15, hE 16, hE 17, hE 18, hE 22, hE 23, hE 24, hE 29, hE 30, hE 31, hE 32, hE 57, hE 58, hE 59, hE 64, hE 65, hE 66, hE 76, hE 77, hE 78, hE 79⟩; simp -implicitDefEqProofs only [push_cast, reduceIte, Nat.reduceEqDiff, e0, e1, e2, e4, e6, e7, e8, e9, e11, e12, e13, e14, e15, e16, e17, e18, e22, e23, e24, e29, e30, e31, e32, e57, e58, e59, e64, e65, e66, e76, e77, e78, e79] at n; clear hE e0 e1 e2 e4 e6 e7 e8 e9 e11 e12 e13 e14 e15 e16 e17 e18 e22 e23 e24 e29 e30 e31 e32 e57 e58 e59 e64 e65 e66 e76 e77 e78 e79; obtain ⟨e0, e1, e2, e4, e6, e7, e8, e9, e11, e12, e13, e14, e15, e16, e17, e18, e22, e23, e24, e29, e30, e31, e32, e57, e58, e59, e64, e65, e66, e76, e77, e78, e79⟩ := n) | (with_reducible refine hK _ _ ?_; clear hK K) | (with_reducible first | refine zJ ?_ | refine zU ?_ | refine zB ?_ | refine zG ?_ | refine zE ?_ | refine zL ?_ | refine zT ?_ | refine zD ?_ | refine zH ?_ | refine zV ?_ | refine zF ?_ | refine zA (by decide) ?_ | refine zP ?_ | refine zO ?_ | refine zK ?_ | refine yB ?_ | refine yC ?_ | refine zW (by assumption) ?_ | refine zY (by assumption) ?_) | (refine zI rfl ?_) | (simp -implicitDefEqProofs only [push_cast, sevalprocAttr, eq_self, e0, e1, e2, e4, e6, e7, e8, e9, e11, e12, e13, e14, e15, e16, e17, e18, e22, e23, e24, e29, e30, e31, e32, e57, e58, e59, e64, e65, e66, e76, e77, e78, e79, hw1]) | (simp -implicitDefEqProofs (disch := omega) only [zR, zZ, zS, zQ, e0, e1, e2, e4, e6, e7, e8, e9, e11, e12, e13, e14, e15, e16, e17, e18, e22, e23, e24, e29, e30, e31, e32, e57, e58, e59, e64, e65, e66, e76, e77, e78, e79, hw1]) | (with_reducible refine yE ?_ ?_) | (refine zN rfl (fun bb => ?_) (fun bb => ?_) <;> (first | have bp := of_decide_eq_true bb | have bp := of_decide_eq_false bb | skip) <;> simp only [bb]) | (with_reducible refine zX (fun bb => ?_) (fun bb => ?_) <;> (first | have bp := of_decide_eq_true bb | have bp := of_decide_eq_false bb | skip)) | ((with_reducible refine And.intro ?_ ?_); omega) | fail)
  refine yF fun env hE => ?_; have n : _ ∧ _ ∧ _ ∧ _ ∧ _ ∧ _ ∧ _ ∧ _ ∧ _ ∧ _ ∧ _ ∧ _ ∧ _ ∧ _ ∧ _ ∧ _ ∧ _ ∧ _ ∧ _ ∧ _ ∧ _ ∧ _ ∧ _ ∧ _ ∧ _ ∧ _ ∧ _ ∧ _ ∧ _ ∧ _ ∧ _ ∧ _ ∧ _ := ⟨hE 0, hE 1, hE 2, hE 4, hE 6, hE 7, hE 8, hE 9, hE 11, hE 12, hE 13, hE 14, hE 15, hE 16, hE 17, hE 18, hE 22, hE 23, hE 24, hE 29, hE 30, hE 31, hE 32, hE 57, hE 58, hE 59, hE 64, hE 65, hE 66, hE 76, hE 77, hE 78, hE 79⟩; simp -implicitDefEqProofs only [push_cast, reduceIte, Nat.reduceEqDiff, e0, e1, e2, e4, e6, e7, e8, e9, e11, e12, e13, e14, e15, e16, e17, e18, e22, e23, e24, e29, e30, e31, e32, e57, e58, e59, e64, e65, e66, e76, e77, e78, e79] at n; clear hE e0 e1 e2 e4 e6 e7 e8 e9 e11 e12 e13 e14 e15 e16 e17 e18 e22 e23 e24 e29 e30 e31 e32 e57 e58 e59 e64 e65 e66 e76 e77 e78 e79; obtain ⟨e0, e1, e2, e4, e6, e7, e8, e9, e11, e12, e13, e14, e15, e16, e17, e18, e22, e23, e24, e29, e30, e31, e32, e57, e58, e59, e64, e65, e66, e76, e77, e78, e79⟩ := n; have E61_0_0 := e0; have E61_0_1 := e1; have E61_0_2 := e2; have E61_0_4 := e4; have E61_0_6 := e6; have E61_0_7 := e7; have E61_0_8 := e8; have E61_0_22 := e22
  refine yN (fun nn σ => ∃ (k : Nat), nn = s * s - k ∧ σ.env 0 = env 0 ∧ σ.env 1 = env 1 ∧ σ.env 2 = env 2 ∧ σ.env 4 = env 4 ∧ σ.env 6 = env 6 ∧ σ.env 7 = env 7 ∧ σ.env 8 = env 8 ∧ σ.env 22 = env 22 ∧ σ.env 23 = i64 k ∧ (k ≤ s * s ∧ σ.h.hp (2, 4) = some ⟨true, [i64 s]⟩ ∧ σ.h.hp (3, 7) = some ⟨true, arrC 4096 (farTo k)⟩ ∧ 3 ≤ σ.h.ep)) _ ⟨0, rfl, rfl, rfl, rfl, rfl, rfl, rfl, rfl, rfl, by refine e23.trans ?_; first | rfl | exact yG (by omega) | (simp -implicitDefEqProofs (disch := omega) only [zQ]; first | rfl | exact yG (by omega)), ?_⟩ ?_
  · exact ⟨by omega, by simp -implicitDefEqProofs only [push_cast, sevalprocAttr, eq_self], by simp -implicitDefEqProofs only [push_cast, sevalprocAttr, eq_self], (by first | omega | (simp -implicitDefEqProofs only [push_cast, sevalprocAttr, eq_self]; first | done | omega))⟩
  clear e0 e1 e2 e4 e6 e7 e8 e9 e11 e12 e13 e14 e15 e16 e17 e18 e22 e23 e24 e29 e30 e31 e32 e57 e58 e59 e64 e65 e66 e76 e77 e78 e79; rintro nn ⟨env, h⟩ ⟨k, rfl, q0, q1, q2, q4, q6, q7, q8, q22, e23, hI⟩; simp only at q0 q1 q2 q4 q6 q7 q8 q22 e23 hI; (first | have e0 := q0.trans E61_0_0 | have e0 := True.intro); (first | have e1 := q1.trans E61_0_1 | have e1 := True.intro); (first | have e2 := q2.trans E61_0_2 | have e2 := True.intro); (first | have e4 := q4.trans E61_0_4 | have e4 := True.intro); (first | have e6 := q6.trans E61_0_6 | have e6 := True.intro); (first | have e7 := q7.trans E61_0_7 | have e7 := True.intro); (first | have e8 := q8.trans E61_0_8 | have e8 := True.intro); (first | have e22 := q22.trans E61_0_22 | have e22 := True.intro); clear q0 q1 q2 q4 q6 q7 q8 q22; have e9 := True.intro; have e11 := True.intro; have e12 := True.intro; have e13 := True.intro; have e14 := True.intro; have e15 := True.intro; have e16 := True.intro; have e17 := True.intro; have e18 := True.intro; have e24 := True.intro; have e29 := True.intro; have e30 := True.intro; have e31 := True.intro; have e32 := True.intro; have e57 := True.intro; have e58 := True.intro; have e59 := True.intro; have e64 := True.intro; have e65 := True.intro; have e66 := True.intro; have e76 := True.intro; have e77 := True.intro; have e78 := True.intro; have e79 := True.intro
  obtain ⟨hk, hb4, hb7, hep⟩ := hI
  unfold l61_0
  (first | refine yI fun hF => ?_ | refine yX fun hF => ?_ | refine yW fun hF => ?_)
  have hc0 : ((s * s : Nat) : Int) = (s : Int) * s := Int.natCast_mul s s
  by_cases hlt : k < s * s
  · have hd : decide ((k : Int) < (s : Int) * s) = true := decide_eq_true (by omega)
    have hp1 := fun D => arrC_put (n := 4096) D (k := k) (by omega)
    repeat' (first | ((try clear hf); with_reducible refine zM fun env K hE hK hf => ?_; have n : _ ∧ _ ∧ _ ∧ _ ∧ _ ∧ _ ∧ _ ∧ _ ∧ _ ∧ _ ∧ _ ∧ _ ∧ _ ∧ _ ∧ _ ∧ _ ∧ _ ∧ _ ∧ _ ∧ _ ∧ _ ∧ _ ∧ _ ∧ _ ∧ _ ∧ _ ∧ _ ∧ _ ∧ _ ∧ _ ∧ _ ∧ _ ∧ _ := ⟨hE 0, hE 1, hE 2, hE 4, hE 6, hE 7, hE 8, hE 9, hE 11, hE 12, hE 13, hE 14, hE 15, hE 16, hE 17, hE 18, hE 22, hE 23, hE 24, hE 29, hE 30, hE 31, hE 32, hE 57, hE 58, hE 59, hE 64, hE 65, hE 66, hE 76, hE 77, hE 78, hE 79⟩; simp -implicitDefEqProofs only [push_cast, reduceIte, Nat.reduceEqDiff, e0, e1, e2, e4, e6, e7, e8, e9, e11, e12, e13, e14, e15, e16, e17, e18, e22, e23, e24, e29, e30, e31, e32, e57, e58, e59, e64, e65, e66, e76, e77, e78, e79] at n; clear hE e0 e1 e2 e4 e6 e7 e8 e9 e11 e12 e13 e14 e15 e16 e17 e18 e22 e23 e24 e29 e30 e31 e32 e57 e58 e59 e64 e65 e66 e76 e77 e78 e79; obtain ⟨e0, e1, e2, e4, e6, e7, e8, e9, e11, e12, e13, e14, e15, e16, e17, e18, e22, e23, e24, e29, e30, e31, e32, e57, e58, e59, e64, e65, e66, e76, e77, e78, e79⟩ := n) | (with_reducible refine hK _ _ ?_; clear hK K) | (with_reducible first | refine zJ ?_ | refine zU ?_ | refine zB ?_ | refine zG ?_ | refine zE ?_ | refine zL ?_ | refine zT ?_ | refine zD ?_ | refine zH ?_ | refine zV ?_ | refine zF ?_ | refine zA (by decide) ?_ | refine zP ?_ | refine zO ?_ | refine zK ?_ | refine yB ?_ | refine yC ?_ | refine zW (by assumption) ?_ | refine zY (by assumption) ?_) | (refine zI rfl ?_) | (simp -implicitDefEqProofs only [push_cast, sevalprocAttr, eq_self, e0, e1, e2, e4, e6, e7, e8, e9, e11, e12, e13, e14, e15, e16, e17, e18, e22, e23, e24, e29, e30, e31, e32, e57, e58, e59, e64, e65, e66, e76, e77, e78, e79, hd, hb4, hb7, hp1, farTo_put]) | (simp -implicitDefEqProofs (disch := omega) only [zR, zZ, zS, zQ, e0, e1, e2, e4, e6, e7, e8, e9, e11, e12, e13, e14, e15, e16, e17, e18, e22, e23, e24, e29, e30, e31, e32, e57, e58, e59, e64, e65, e66, e76, e77, e78, e79, hd, hb4, hb7, hp1, farTo_put]) | (with_reducible refine yE ?_ ?_) | (refine zN rfl (fun bb => ?_) (fun bb => ?_) <;> (first | have bp := of_decide_eq_true bb | have bp := of_decide_eq_false bb | skip) <;> simp only [bb]) | (with_reducible refine zX (fun bb => ?_) (fun bb => ?_) <;> (first | have bp := of_decide_eq_true bb | have bp := of_decide_eq_false bb | skip)) | ((with_reducible refine And.intro ?_ ?_); omega) | fail)
    refine ⟨_, ?_, k + 1, rfl, E61_0_0.symm, E61_0_1.symm, E61_0_2.symm, E61_0_4.symm, E61_0_6.symm, E61_0_7.symm, E61_0_8.symm, E61_0_22.symm, by first | rfl | exact yG (by omega) | (simp -implicitDefEqProofs (disch := omega) only [zQ]; first | rfl | exact yG (by omega)), ?_⟩
    · omega
    · exact ⟨by omega, rfl⟩
  have hd : decide ((k : Int) < (s : Int) * s) = false := decide_eq_false (by omega)
  have hke : k = s * s := by omega
  repeat' (first | ((try clear hf); with_reducible refine zM fun env K hE hK hf => ?_; have n : _ ∧ _ ∧ _ ∧ _ ∧ _ ∧ _ ∧ _ ∧ _ ∧ _ ∧ _ ∧ _ ∧ _ ∧ _ ∧ _ ∧ _ ∧ _ ∧ _ ∧ _ ∧ _ ∧ _ ∧ _ ∧ _ ∧ _ ∧ _ ∧ _ ∧ _ ∧ _ ∧ _ ∧ _ ∧ _ ∧ _ ∧ _ ∧ _ := ⟨hE 0, hE 1, hE 2, hE 4, hE 6, hE 7, hE 8, hE 9, hE 11, hE 12, hE 13, hE 14, hE 15, hE 16, hE 17, hE 18, hE 22, hE 23, hE 24, hE 29, hE 30, hE 31, hE 32, hE 57, hE 58, hE 59, hE 64, hE 65, hE 66, hE 76, hE 77, hE 78, hE 79⟩; simp -implicitDefEqProofs only [push_cast, reduceIte, Nat.reduceEqDiff, e0, e1, e2, e4, e6, e7, e8, e9, e11, e12, e13, e14, e15, e16, e17, e18, e22, e23, e24, e29, e30, e31, e32, e57, e58, e59, e64, e65, e66, e76, e77, e78, e79] at n; clear hE e0 e1 e2 e4 e6 e7 e8 e9 e11 e12 e13 e14 e15 e16 e17 e18 e22 e23 e24 e29 e30 e31 e32 e57 e58 e59 e64 e65 e66 e76 e77 e78 e79; obtain ⟨e0, e1, e2, e4, e6, e7, e8, e9, e11, e12, e13, e14, e15, e16, e17, e18, e22, e23, e24, e29, e30, e31, e32, e57, e58, e59, e64, e65, e66, e76, e77, e78, e79⟩ := n) | (with_reducible refine hK _ _ ?_; clear hK K) | (with_reducible first | refine zJ ?_ | refine zU ?_ | refine zB ?_ | refine zG ?_ | refine zE ?_ | refine zL ?_ | refine zT ?_ | refine zD ?_ | refine zH ?_ | refine zV ?_ | refine zF ?_ | refine zA (by decide) ?_ | refine zP ?_ | refine zO ?_ | refine zK ?_ | refine yB ?_ | refine yC ?_ | refine zW (by assumption) ?_ | refine zY (by assumption) ?_) | (refine zI rfl ?_) | (simp -implicitDefEqProofs only [push_cast, sevalprocAttr, eq_self, e0, e1, e2, e4, e6, e7, e8, e9, e11, e12, e13, e14, e15, e16, e17, e18, e22, e23, e24, e29, e30, e31, e32, e57, e58, e59, e64, e65, e66, e76, e77, e78, e79, hd, hb4, hb7, hE.len]) | (simp -implicitDefEqProofs (disch := omega) only [zR, zZ, zS, zQ, e0, e1, e2, e4, e6, e7, e8, e9, e11, e12, e13, e14, e15, e16, e17, e18, e22, e23, e24, e29, e30, e31, e32, e57, e58, e59, e64, e65, e66, e76, e77, e78, e79, hd, hb4, hb7, hE.len]) | (with_reducible refine yE ?_ ?_) | (refine zN rfl (fun bb => ?_) (fun bb => ?_) <;> (first | have bp := of_decide_eq_true bb | have bp := of_decide_eq_false bb | skip) <;> simp only [bb]) | (with_reducible refine zX (fun bb => ?_) (fun bb => ?_) <;> (first | have bp := of_decide_eq_true bb | have bp := of_decide_eq_false bb | skip)) | ((with_reducible refine And.intro ?_ ?_); omega) | fail)
  rw [hke] at hb7
  refine yF fun env hE => ?_; have n : _ ∧ _ ∧ _ ∧ _ ∧ _ ∧ _ ∧ _ ∧ _ ∧ _ ∧ _ ∧ _ ∧ _ ∧ _ ∧ _ ∧ _ ∧ _ ∧ _ ∧ _ ∧ _ ∧ _ ∧ _ ∧ _ ∧ _ ∧ _ ∧ _ ∧ _ ∧ _ ∧ _ ∧ _ ∧ _ ∧ _ ∧ _ ∧ _ := ⟨hE 0, hE 1, hE 2, hE 4, hE 6, hE 7, hE 8, hE 9, hE 11, hE 12, hE 13, hE 14, hE 15, hE 16, hE 17, hE 18, hE 22, hE 23, hE 24, hE 29, hE 30, hE 31, hE 32, hE 57, hE 58, hE 59, hE 64, hE 65, hE 66, hE 76, hE 77, hE 78, hE 79⟩; simp -implicitDefEqProofs only [push_cast, reduceIte, Nat.reduceEqDiff, e0, e1, e2, e4, e6, e7, e8, e9, e11, e12, e13, e14, e15, e16, e17, e18, e22, e23, e24, e29, e30, e31, e32, e57, e58, e59, e64, e65, e66, e76, e77, e78, e79] at n; clear hE e0 e1 e2 e4 e6 e7 e8 e9 e11 e12 e13 e14 e15 e16 e17 e18 e22 e23 e24 e29 e30 e31 e32 e57 e58 e59 e64 e65 e66 e76 e77 e78 e79; obtain ⟨e0, e1, e2, e4, e6, e7, e8, e9, e11, e12, e13, e14, e15, e16, e17, e18, e22, e23, e24, e29, e30, e31, e32, e57, e58, e59, e64, e65, e66, e76, e77, e78, e79⟩ := n; have E61_1_0 := e0; have E61_1_1 := e1; have E61_1_2 := e2; have E61_1_4 := e4; have E61_1_6 := e6; have E61_1_7 := e7; have E61_1_8 := e8; have E61_1_9 := e9; have E61_1_22 := e22; have E61_1_23 := e23; have E61_1_24 := e24; have E61_1_29 := e29; have E61_1_30 := e30
  refine yN (fun nn σ => ∃ (m : Nat), nn = es.length - m ∧ σ.env 0 = env 0 ∧ σ.env 1 = env 1 ∧ σ.env 2 = env 2 ∧ σ.env 4 = env 4 ∧ σ.env 6 = env 6 ∧ σ.env 7 = env 7 ∧ σ.env 8 = env 8 ∧ σ.env 9 = env 9 ∧ σ.env 22 = env 22 ∧ σ.env 23 = env 23 ∧ σ.env 24 = env 24 ∧ σ.env 29 = env 29 ∧ σ.env 30 = env 30 ∧ σ.env 31 = i64 m ∧ (m ≤ es.length ∧ σ.h.hp (2, 4) = some ⟨true, [i64 s]⟩ ∧ σ.h.hp (3, 7) = some ⟨true, arrC 4096 ((es.take m).foldl (eStep s n) (farTo (s * s)))⟩ ∧ 3 ≤ σ.h.ep)) _ ⟨0, rfl, rfl, rfl, rfl, rfl, rfl, rfl, rfl, rfl, rfl, rfl, rfl, rfl, rfl, by refine e31.trans ?_; first | rfl | exact yG (by omega) | (simp -implicitDefEqProofs (disch := omega) only [zQ]; first | rfl | exact yG (by omega)), ?_⟩ ?_
  · exact ⟨by omega, by simp -implicitDefEqProofs only [push_cast, sevalprocAttr, eq_self, hb4], by simp -implicitDefEqProofs only [push_cast, sevalprocAttr, eq_self, hb7]; rfl, (by first | omega | (simp -implicitDefEqProofs only [push_cast, sevalprocAttr, eq_self]; first | done | omega))⟩
  clear hd hlt hb4 hb7 hep hF hke hk
  clear e0 e1 e2 e4 e6 e7 e8 e9 e11 e12 e13 e14 e15 e16 e17 e18 e22 e23 e24 e29 e30 e31 e32 e57 e58 e59 e64 e65 e66 e76 e77 e78 e79; rintro nn ⟨env, h⟩ ⟨m, rfl, q0, q1, q2, q4, q6, q7, q8, q9, q22, q23, q24, q29, q30, e31, hI⟩; simp only at q0 q1 q2 q4 q6 q7 q8 q9 q22 q23 q24 q29 q30 e31 hI; (first | have e0 := q0.trans E61_1_0 | have e0 := True.intro); (first | have e1 := q1.trans E61_1_1 | have e1 := True.intro); (first | have e2 := q2.trans E61_1_2 | have e2 := True.intro); (first | have e4 := q4.trans E61_1_4 | have e4 := True.intro); (first | have e6 := q6.trans E61_1_6 | have e6 := True.intro); (first | have e7 := q7.trans E61_1_7 | have e7 := True.intro); (first | have e8 := q8.trans E61_1_8 | have e8 := True.intro); (first | have e9 := q9.trans E61_1_9 | have e9 := True.intro); (first | have e22 := q22.trans E61_1_22 | have e22 := True.intro); (first | have e23 := q23.trans E61_1_23 | have e23 := True.intro); (first | have e24 := q24.trans E61_1_24 | have e24 := True.intro); (first | have e29 := q29.trans E61_1_29 | have e29 := True.intro); (first | have e30 := q30.trans E61_1_30 | have e30 := True.intro); clear q0 q1 q2 q4 q6 q7 q8 q9 q22 q23 q24 q29 q30; have e11 := True.intro; have e12 := True.intro; have e13 := True.intro; have e14 := True.intro; have e15 := True.intro; have e16 := True.intro; have e17 := True.intro; have e18 := True.intro; have e32 := True.intro; have e57 := True.intro; have e58 := True.intro; have e59 := True.intro; have e64 := True.intro; have e65 := True.intro; have e66 := True.intro; have e76 := True.intro; have e77 := True.intro; have e78 := True.intro; have e79 := True.intro
  obtain ⟨hm, hb4, hb7, hep⟩ := hI
  unfold l61_1
  (first | refine yI fun hF => ?_ | refine yX fun hF => ?_ | refine yW fun hF => ?_)
  by_cases hlt : m < es.length
  · have hd : decide ((m : Int) < (es.length : Int)) = true := decide_eq_true (by omega)
    have hr := hE.at hlt .i64
    have hm1 := he es[m] (List.getElem_mem hlt)
    generalize hD : (es.take m).foldl (eStep s n) (farTo (s * s)) = D at *
    obtain ⟨f, hf'⟩ : ∃ f : Nat, es[m].f = f := ⟨es[m].f.toNat, by omega⟩
    obtain ⟨t, ht'⟩ : ∃ t : Nat, es[m].t = t := ⟨es[m].t.toNat, by omega⟩
    have h0 : (edC es[m])[0]? = some (i64 f) := by rw [← hf']; rfl
    have h1 : (edC es[m])[1]? = some (i64 t) := by rw [← ht']; rfl
    have h2 : (edC es[m])[2]? = some (i64 es[m].l) := rfl
    have h3 : (edC es[m])[3]? = some (i64 es[m].d) := rfl
    repeat' (first | ((try clear hf); with_reducible refine zM fun env K hE hK hf => ?_; have n : _ ∧ _ ∧ _ ∧ _ ∧ _ ∧ _ ∧ _ ∧ _ ∧ _ ∧ _ ∧ _ ∧ _ ∧ _ ∧ _ ∧ _ ∧ _ ∧ _ ∧ _ ∧ _ ∧ _ ∧ _ ∧ _ ∧ _ ∧ _ ∧ _ ∧ _ ∧ _ ∧ _ ∧ _ ∧ _ ∧ _ ∧ _ ∧ _ := ⟨hE 0, hE 1, hE 2, hE 4, hE 6, hE 7, hE 8, hE 9, hE 11, hE 12, hE 13, hE 14, hE 15, hE 16, hE 17, hE 18, hE 22, hE 23, hE 24, hE 29, hE 30, hE 31, hE 32, hE 57, hE 58, hE 59, hE 64, hE 65, hE 66, hE 76, hE 77, hE 78, hE 79⟩; simp -implicitDefEqProofs only [push_cast, reduceIte, Nat.reduceEqDiff, e0, e1, e2, e4, e6, e7, e8, e9, e11, e12, e13, e14, e15, e16, e17, e18, e22, e23, e24, e29, e30, e31, e32, e57, e58, e59, e64, e65, e66, e76, e77, e78, e79] at n; clear hE e0 e1 e2 e4 e6 e7 e8 e9 e11 e12 e13 e14 e15 e16 e17 e18 e22 e23 e24 e29 e30 e31 e32 e57 e58 e59 e64 e65 e66 e76 e77 e78 e79; obtain ⟨e0, e1, e2, e4, e6, e7, e8, e9, e11, e12, e13, e14, e15, e16, e17, e18, e22, e23, e24, e29, e30, e31, e32, e57, e58, e59, e64, e65, e66, e76, e77, e78, e79⟩ := n) | (with_reducible refine hK _ _ ?_; clear hK K) | (with_reducible first | refine zJ ?_ | refine zU ?_ | refine zB ?_ | refine zG ?_ | refine zE ?_ | refine zL ?_ | refine zT ?_ | refine zD ?_ | refine zH ?_ | refine zV ?_ | refine zF ?_ | refine zA (by decide) ?_ | refine zP ?_ | refine zO ?_ | refine zK ?_ | refine yB ?_ | refine yC ?_ | refine zW (by assumption) ?_ | refine zY (by assumption) ?_) | (refine zI rfl ?_) | (simp -implicitDefEqProofs only [push_cast, sevalprocAttr, eq_self, e0, e1, e2, e4, e6, e7, e8, e9, e11, e12, e13, e14, e15, e16, e17, e18, e22, e23, e24, e29, e30, e31, e32, e57, e58, e59, e64, e65, e66, e76, e77, e78, e79, hd, hb4, hb7, hr, hF.at, h0, h1, h2, h3]) | (simp -implicitDefEqProofs (disch := omega) only [zR, zZ, zS, zQ, e0, e1, e2, e4, e6, e7, e8, e9, e11, e12, e13, e14, e15, e16, e17, e18, e22, e23, e24, e29, e30, e31, e32, e57, e58, e59, e64, e65, e66, e76, e77, e78, e79, hd, hb4, hb7, hr, hF.at, h0, h1, h2, h3]) | (with_reducible refine yE ?_ ?_) | (refine zN rfl (fun bb => ?_) (fun bb => ?_) <;> (first | have bp := of_decide_eq_true bb | have bp := of_decide_eq_false bb | skip) <;> simp only [bb]) | (with_reducible refine zX (fun bb => ?_) (fun bb => ?_) <;> (first | have bp := of_decide_eq_true bb | have bp := of_decide_eq_false bb | skip)) | ((with_reducible refine And.intro ?_ ?_); omega) | (refine call_hc (HC.mono (f91 (A := (3, 7)) (B := (2, 4)) (i := f) (s := s) (D := D) (by simp -implicitDefEqProofs only [push_cast, sevalprocAttr, eq_self, hb7]) (by simp -implicitDefEqProofs only [push_cast, sevalprocAttr, eq_self, hb4]) (by omega) hs) ?_); rintro r g ⟨rfl, hg⟩ hF') | fail)
    obtain ⟨he1, he2⟩ := hg
    simp only [qO, push_ep, put_ep, tick_hp] at he1 he2
    have hfs : f * s + t < 4096 := by
      have a : f * s + s ≤ s * s := by
        have := Nat.mul_le_mul_right s (show f + 1 ≤ s by omega)
        rw [Nat.succ_mul] at this; exact this
      omega
    have hgS := (he2 (h.ep + 1 + 1, 11) (by simp only; omega)).trans (show _ = some ⟨true, edC es[m]⟩ by simp -implicitDefEqProofs only [push_cast, sevalprocAttr, eq_self])
    have hg7 := (he2 (3, 7) (by simp only; omega)).trans (show _ = some ⟨true, arrC 4096 D⟩ by simp -implicitDefEqProofs only [push_cast, sevalprocAttr, eq_self, hb7])
    have hg4 := (he2 (2, 4) (by simp only; omega)).trans (show _ = some ⟨true, [i64 s]⟩ by simp -implicitDefEqProofs only [push_cast, sevalprocAttr, eq_self, hb4])
    have hnd := nd_le hn.1 hn.2 hm1.2.2.2.2.2.2.1 hm1.2.2.2.2.2.2.2
    have hw2 : IntKind.i64.wrap (n * es[m].d) = n * es[m].d := wrap64 (by omega) (by omega)
    have hw3 : IntKind.i64.wrap (es[m].l - n * es[m].d) = es[m].l - n * es[m].d := wrap64 (by omega) (by omega)
    have hat := arrC_at (n := 4096) D (k := f * s + t) hfs
    have hpt := fun v => arrC_put (n := 4096) D (k := f * s + t) hfs v
    repeat' (first | ((try clear hf); with_reducible refine zM fun env K hE hK hf => ?_; have n : _ ∧ _ ∧ _ ∧ _ ∧ _ ∧ _ ∧ _ ∧ _ ∧ _ ∧ _ ∧ _ ∧ _ ∧ _ ∧ _ ∧ _ ∧ _ ∧ _ ∧ _ ∧ _ ∧ _ ∧ _ ∧ _ ∧ _ ∧ _ ∧ _ ∧ _ ∧ _ ∧ _ ∧ _ ∧ _ ∧ _ ∧ _ ∧ _ := ⟨hE 0, hE 1, hE 2, hE 4, hE 6, hE 7, hE 8, hE 9, hE 11, hE 12, hE 13, hE 14, hE 15, hE 16, hE 17, hE 18, hE 22, hE 23, hE 24, hE 29, hE 30, hE 31, hE 32, hE 57, hE 58, hE 59, hE 64, hE 65, hE 66, hE 76, hE 77, hE 78, hE 79⟩; simp -implicitDefEqProofs only [push_cast, reduceIte, Nat.reduceEqDiff, e0, e1, e2, e4, e6, e7, e8, e9, e11, e12, e13, e14, e15, e16, e17, e18, e22, e23, e24, e29, e30, e31, e32, e57, e58, e59, e64, e65, e66, e76, e77, e78, e79] at n; clear hE e0 e1 e2 e4 e6 e7 e8 e9 e11 e12 e13 e14 e15 e16 e17 e18 e22 e23 e24 e29 e30 e31 e32 e57 e58 e59 e64 e65 e66 e76 e77 e78 e79; obtain ⟨e0, e1, e2, e4, e6, e7, e8, e9, e11, e12, e13, e14, e15, e16, e17, e18, e22, e23, e24, e29, e30, e31, e32, e57, e58, e59, e64, e65, e66, e76, e77, e78, e79⟩ := n) | (with_reducible refine hK _ _ ?_; clear hK K) | (with_reducible first | refine zJ ?_ | refine zU ?_ | refine zB ?_ | refine zG ?_ | refine zE ?_ | refine zL ?_ | refine zT ?_ | refine zD ?_ | refine zH ?_ | refine zV ?_ | refine zF ?_ | refine zA (by decide) ?_ | refine zP ?_ | refine zO ?_ | refine zK ?_ | refine yB ?_ | refine yC ?_ | refine zW (by assumption) ?_ | refine zY (by assumption) ?_) | (refine zI rfl ?_) | (simp -implicitDefEqProofs only [push_cast, sevalprocAttr, eq_self, e0, e1, e2, e4, e6, e7, e8, e9, e11, e12, e13, e14, e15, e16, e17, e18, e22, e23, e24, e29, e30, e31, e32, e57, e58, e59, e64, e65, e66, e76, e77, e78, e79, hgS, hg7, hg4, h0, h1, h2, h3, hw2, hw3, hat, hpt, qR]) | (simp -implicitDefEqProofs (disch := omega) only [zR, zZ, zS, zQ, e0, e1, e2, e4, e6, e7, e8, e9, e11, e12, e13, e14, e15, e16, e17, e18, e22, e23, e24, e29, e30, e31, e32, e57, e58, e59, e64, e65, e66, e76, e77, e78, e79, hgS, hg7, hg4, h0, h1, h2, h3, hw2, hw3, hat, hpt, qR]) | (with_reducible refine yE ?_ ?_) | (refine zN rfl (fun bb => ?_) (fun bb => ?_) <;> (first | have bp := of_decide_eq_true bb | have bp := of_decide_eq_false bb | skip) <;> simp only [bb]) | (with_reducible refine zX (fun bb => ?_) (fun bb => ?_) <;> (first | have bp := of_decide_eq_true bb | have bp := of_decide_eq_false bb | skip)) | ((with_reducible refine And.intro ?_ ?_); omega) | fail)
    have hstep : fset D (f * s + t) (if es[m].l - n * es[m].d > D (f * s + t) then es[m].l - n * es[m].d else D (f * s + t)) = (es.take (m + 1)).foldl (eStep s n) (farTo (s * s)) := by
      rw [List.take_succ_eq_append_getElem hlt, List.foldl_append, hD]
      simp only [List.foldl_cons, List.foldl_nil, eStep, hf', ht', Int.toNat_natCast]
    refine ⟨_, ?_, m + 1, rfl, E61_1_0.symm, E61_1_1.symm, E61_1_2.symm, E61_1_4.symm, E61_1_6.symm, E61_1_7.symm, E61_1_8.symm, E61_1_9.symm, E61_1_22.symm, E61_1_23.symm, E61_1_24.symm, E61_1_29.symm, E61_1_30.symm, by first | rfl | exact yG (by omega) | (simp -implicitDefEqProofs (disch := omega) only [zQ]; first | rfl | exact yG (by omega)), ?_⟩
    · omega
    · rw [hstep]; exact ⟨by omega, rfl⟩
  have hd : decide ((m : Int) < (es.length : Int)) = false := decide_eq_false (by omega)
  have hme : m = es.length := by omega
  have hR : inR (eN s n es) := inR_eN hn es (fun e h => (he e h).2.2.2.2) _ (inR_farTo _)
  have hb7' : h.hp (3, 7) = some ⟨true, arrC 4096 (eN s n es)⟩ := by rw [hb7, hme, List.take_length]; rfl
  repeat' (first | ((try clear hf); with_reducible refine zM fun env K hE hK hf => ?_; have n : _ ∧ _ ∧ _ ∧ _ ∧ _ ∧ _ ∧ _ ∧ _ ∧ _ ∧ _ ∧ _ ∧ _ ∧ _ ∧ _ ∧ _ ∧ _ ∧ _ ∧ _ ∧ _ ∧ _ ∧ _ ∧ _ ∧ _ ∧ _ ∧ _ ∧ _ ∧ _ ∧ _ ∧ _ ∧ _ ∧ _ ∧ _ ∧ _ := ⟨hE 0, hE 1, hE 2, hE 4, hE 6, hE 7, hE 8, hE 9, hE 11, hE 12, hE 13, hE 14, hE 15, hE 16, hE 17, hE 18, hE 22, hE 23, hE 24, hE 29, hE 30, hE 31, hE 32, hE 57, hE 58, hE 59, hE 64, hE 65, hE 66, hE 76, hE 77, hE 78, hE 79⟩; simp -implicitDefEqProofs only [push_cast, reduceIte, Nat.reduceEqDiff, e0, e1, e2, e4, e6, e7, e8, e9, e11, e12, e13, e14, e15, e16, e17, e18, e22, e23, e24, e29, e30, e31, e32, e57, e58, e59, e64, e65, e66, e76, e77, e78, e79] at n; clear hE e0 e1 e2 e4 e6 e7 e8 e9 e11 e12 e13 e14 e15 e16 e17 e18 e22 e23 e24 e29 e30 e31 e32 e57 e58 e59 e64 e65 e66 e76 e77 e78 e79; obtain ⟨e0, e1, e2, e4, e6, e7, e8, e9, e11, e12, e13, e14, e15, e16, e17, e18, e22, e23, e24, e29, e30, e31, e32, e57, e58, e59, e64, e65, e66, e76, e77, e78, e79⟩ := n) | (with_reducible refine hK _ _ ?_; clear hK K) | (with_reducible first | refine zJ ?_ | refine zU ?_ | refine zB ?_ | refine zG ?_ | refine zE ?_ | refine zL ?_ | refine zT ?_ | refine zD ?_ | refine zH ?_ | refine zV ?_ | refine zF ?_ | refine zA (by decide) ?_ | refine zP ?_ | refine zO ?_ | refine zK ?_ | refine yB ?_ | refine yC ?_ | refine zW (by assumption) ?_ | refine zY (by assumption) ?_) | (refine zI rfl ?_) | (simp -implicitDefEqProofs only [push_cast, sevalprocAttr, eq_self, e0, e1, e2, e4, e6, e7, e8, e9, e11, e12, e13, e14, e15, e16, e17, e18, e22, e23, e24, e29, e30, e31, e32, e57, e58, e59, e64, e65, e66, e76, e77, e78, e79, hd, hb4]) | (simp -implicitDefEqProofs (disch := omega) only [zR, zZ, zS, zQ, e0, e1, e2, e4, e6, e7, e8, e9, e11, e12, e13, e14, e15, e16, e17, e18, e22, e23, e24, e29, e30, e31, e32, e57, e58, e59, e64, e65, e66, e76, e77, e78, e79, hd, hb4]) | (with_reducible refine yE ?_ ?_) | (refine zN rfl (fun bb => ?_) (fun bb => ?_) <;> (first | have bp := of_decide_eq_true bb | have bp := of_decide_eq_false bb | skip) <;> simp only [bb]) | (with_reducible refine zX (fun bb => ?_) (fun bb => ?_) <;> (first | have bp := of_decide_eq_true bb | have bp := of_decide_eq_false bb | skip)) | ((with_reducible refine And.intro ?_ ?_); omega) | fail)
  refine yF fun env hE => ?_; have n : _ ∧ _ ∧ _ ∧ _ ∧ _ ∧ _ ∧ _ ∧ _ ∧ _ ∧ _ ∧ _ ∧ _ ∧ _ ∧ _ ∧ _ ∧ _ ∧ _ ∧ _ ∧ _ ∧ _ ∧ _ ∧ _ ∧ _ ∧ _ ∧ _ ∧ _ ∧ _ ∧ _ ∧ _ ∧ _ ∧ _ ∧ _ ∧ _ := ⟨hE 0, hE 1, hE 2, hE 4, hE 6, hE 7, hE 8, hE 9, hE 11, hE 12, hE 13, hE 14, hE 15, hE 16, hE 17, hE 18, hE 22, hE 23, hE 24, hE 29, hE 30, hE 31, hE 32, hE 57, hE 58, hE 59, hE 64, hE 65, hE 66, hE 76, hE 77, hE 78, hE 79⟩; simp -implicitDefEqProofs only [push_cast, reduceIte, Nat.reduceEqDiff, e0, e1, e2, e4, e6, e7, e8, e9, e11, e12, e13, e14, e15, e16, e17, e18, e22, e23, e24, e29, e30, e31, e32, e57, e58, e59, e64, e65, e66, e76, e77, e78, e79] at n; clear hE e0 e1 e2 e4 e6 e7 e8 e9 e11 e12 e13 e14 e15 e16 e17 e18 e22 e23 e24 e29 e30 e31 e32 e57 e58 e59 e64 e65 e66 e76 e77 e78 e79; obtain ⟨e0, e1, e2, e4, e6, e7, e8, e9, e11, e12, e13, e14, e15, e16, e17, e18, e22, e23, e24, e29, e30, e31, e32, e57, e58, e59, e64, e65, e66, e76, e77, e78, e79⟩ := n; have E61_4_0 := e0; have E61_4_1 := e1; have E61_4_2 := e2; have E61_4_4 := e4; have E61_4_7 := e7; have E61_4_8 := e8; have E61_4_9 := e9; have E61_4_11 := e11; have E61_4_12 := e12; have E61_4_22 := e22; have E61_4_23 := e23; have E61_4_24 := e24; have E61_4_29 := e29; have E61_4_30 := e30; have E61_4_31 := e31; have E61_4_32 := e32; have E61_4_57 := e57
  refine yN (fun nn σ => ∃ (k4 : Nat) (D : Nat → Int), nn = s - k4 ∧ σ.env 0 = env 0 ∧ σ.env 1 = env 1 ∧ σ.env 2 = env 2 ∧ σ.env 4 = env 4 ∧ σ.env 7 = env 7 ∧ σ.env 8 = env 8 ∧ σ.env 9 = env 9 ∧ σ.env 11 = env 11 ∧ σ.env 12 = env 12 ∧ σ.env 22 = env 22 ∧ σ.env 23 = env 23 ∧ σ.env 24 = env 24 ∧ σ.env 29 = env 29 ∧ σ.env 30 = env 30 ∧ σ.env 31 = env 31 ∧ σ.env 32 = env 32 ∧ σ.env 57 = env 57 ∧ σ.env 58 = i64 k4 ∧ (k4 ≤ s ∧ σ.h.hp (2, 4) = some ⟨true, [i64 s]⟩ ∧ σ.h.hp (3, 7) = some ⟨true, arrC 4096 D⟩ ∧ kN s (eN s n es) k4 = some D ∧ 3 ≤ σ.h.ep)) _ ⟨0, eN s n es, rfl, rfl, rfl, rfl, rfl, rfl, rfl, rfl, rfl, rfl, rfl, rfl, rfl, rfl, rfl, rfl, rfl, rfl, by refine e58.trans ?_; first | rfl | exact yG (by omega) | (simp -implicitDefEqProofs (disch := omega) only [zQ]; first | rfl | exact yG (by omega)), ?_⟩ ?_
  · exact ⟨by omega, by simp -implicitDefEqProofs only [push_cast, sevalprocAttr, eq_self, hb4], by simp -implicitDefEqProofs only [push_cast, sevalprocAttr, eq_self, hb7'], rfl, (by first | omega | (simp -implicitDefEqProofs only [push_cast, sevalprocAttr, eq_self]; first | done | omega))⟩
  clear hd hlt hb4 hb7 hb7' hep hF hme hm
  clear e0 e1 e2 e4 e6 e7 e8 e9 e11 e12 e13 e14 e15 e16 e17 e18 e22 e23 e24 e29 e30 e31 e32 e57 e58 e59 e64 e65 e66 e76 e77 e78 e79; rintro nn ⟨env, h⟩ ⟨k4, D, rfl, q0, q1, q2, q4, q7, q8, q9, q11, q12, q22, q23, q24, q29, q30, q31, q32, q57, e58, hI⟩; simp only at q0 q1 q2 q4 q7 q8 q9 q11 q12 q22 q23 q24 q29 q30 q31 q32 q57 e58 hI; (first | have e0 := q0.trans E61_4_0 | have e0 := True.intro); (first | have e1 := q1.trans E61_4_1 | have e1 := True.intro); (first | have e2 := q2.trans E61_4_2 | have e2 := True.intro); (first | have e4 := q4.trans E61_4_4 | have e4 := True.intro); (first | have e7 := q7.trans E61_4_7 | have e7 := True.intro); (first | have e8 := q8.trans E61_4_8 | have e8 := True.intro); (first | have e9 := q9.trans E61_4_9 | have e9 := True.intro); (first | have e11 := q11.trans E61_4_11 | have e11 := True.intro); (first | have e12 := q12.trans E61_4_12 | have e12 := True.intro); (first | have e22 := q22.trans E61_4_22 | have e22 := True.intro); (first | have e23 := q23.trans E61_4_23 | have e23 := True.intro); (first | have e24 := q24.trans E61_4_24 | have e24 := True.intro); (first | have e29 := q29.trans E61_4_29 | have e29 := True.intro); (first | have e30 := q30.trans E61_4_30 | have e30 := True.intro); (first | have e31 := q31.trans E61_4_31 | have e31 := True.intro); (first | have e32 := q32.trans E61_4_32 | have e32 := True.intro); (first | have e57 := q57.trans E61_4_57 | have e57 := True.intro); clear q0 q1 q2 q4 q7 q8 q9 q11 q12 q22 q23 q24 q29 q30 q31 q32 q57; have e6 := True.intro; have e13 := True.intro; have e14 := True.intro; have e15 := True.intro; have e16 := True.intro; have e17 := True.intro; have e18 := True.intro; have e59 := True.intro; have e64 := True.intro; have e65 := True.intro; have e66 := True.intro; have e76 := True.intro; have e77 := True.intro; have e78 := True.intro; have e79 := True.intro
  obtain ⟨hk4, hb4, hb7, hkN, hep⟩ := hI
  unfold l61_4
  (first | refine yI fun hF => ?_ | refine yX fun hF => ?_ | refine yW fun hF => ?_)
  by_cases hlt : k4 < s
  · have hd : decide ((k4 : Int) < (s : Int)) = true := decide_eq_true (by omega)
    repeat' (first | ((try clear hf); with_reducible refine zM fun env K hE hK hf => ?_; have n : _ ∧ _ ∧ _ ∧ _ ∧ _ ∧ _ ∧ _ ∧ _ ∧ _ ∧ _ ∧ _ ∧ _ ∧ _ ∧ _ ∧ _ ∧ _ ∧ _ ∧ _ ∧ _ ∧ _ ∧ _ ∧ _ ∧ _ ∧ _ ∧ _ ∧ _ ∧ _ ∧ _ ∧ _ ∧ _ ∧ _ ∧ _ ∧ _ := ⟨hE 0, hE 1, hE 2, hE 4, hE 6, hE 7, hE 8, hE 9, hE 11, hE 12, hE 13, hE 14, hE 15, hE 16, hE 17, hE 18, hE 22, hE 23, hE 24, hE 29, hE 30, hE 31, hE 32, hE 57, hE 58, hE 59, hE 64, hE 65, hE 66, hE 76, hE 77, hE 78, hE 79⟩; simp -implicitDefEqProofs only [push_cast, reduceIte, Nat.reduceEqDiff, e0, e1, e2, e4, e6, e7, e8, e9, e11, e12, e13, e14, e15, e16, e17, e18, e22, e23, e24, e29, e30, e31, e32, e57, e58, e59, e64, e65, e66, e76, e77, e78, e79] at n; clear hE e0 e1 e2 e4 e6 e7 e8 e9 e11 e12 e13 e14 e15 e16 e17 e18 e22 e23 e24 e29 e30 e31 e32 e57 e58 e59 e64 e65 e66 e76 e77 e78 e79; obtain ⟨e0, e1, e2, e4, e6, e7, e8, e9, e11, e12, e13, e14, e15, e16, e17, e18, e22, e23, e24, e29, e30, e31, e32, e57, e58, e59, e64, e65, e66, e76, e77, e78, e79⟩ := n) | (with_reducible refine hK _ _ ?_; clear hK K) | (with_reducible first | refine zJ ?_ | refine zU ?_ | refine zB ?_ | refine zG ?_ | refine zE ?_ | refine zL ?_ | refine zT ?_ | refine zD ?_ | refine zH ?_ | refine zV ?_ | refine zF ?_ | refine zA (by decide) ?_ | refine zP ?_ | refine zO ?_ | refine zK ?_ | refine yB ?_ | refine yC ?_ | refine zW (by assumption) ?_ | refine zY (by assumption) ?_) | (refine zI rfl ?_) | (simp -implicitDefEqProofs only [push_cast, sevalprocAttr, eq_self, e0, e1, e2, e4, e6, e7, e8, e9, e11, e12, e13, e14, e15, e16, e17, e18, e22, e23, e24, e29, e30, e31, e32, e57, e58, e59, e64, e65, e66, e76, e77, e78, e79, hd, hb4, hb7]) | (simp -implicitDefEqProofs (disch := omega) only [zR, zZ, zS, zQ, e0, e1, e2, e4, e6, e7, e8, e9, e11, e12, e13, e14, e15, e16, e17, e18, e22, e23, e24, e29, e30, e31, e32, e57, e58, e59, e64, e65, e66, e76, e77, e78, e79, hd, hb4, hb7]) | (with_reducible refine yE ?_ ?_) | (refine zN rfl (fun bb => ?_) (fun bb => ?_) <;> (first | have bp := of_decide_eq_true bb | have bp := of_decide_eq_false bb | skip) <;> simp only [bb]) | (with_reducible refine zX (fun bb => ?_) (fun bb => ?_) <;> (first | have bp := of_decide_eq_true bb | have bp := of_decide_eq_false bb | skip)) | ((with_reducible refine And.intro ?_ ?_); omega) | (refine call_hc (HC.mono (f91 (A := (3, 7)) (B := (2, 4)) (i := k4) (s := s) (D := D) (by simp -implicitDefEqProofs only [push_cast, sevalprocAttr, eq_self, hb7]) (by simp -implicitDefEqProofs only [push_cast, sevalprocAttr, eq_self, hb4]) (by omega) hs) ?_); rintro r g ⟨rfl, hg⟩ hF') | fail)
    obtain ⟨he1, he2⟩ := hg
    simp only [qO, push_ep, put_ep, tick_hp] at he1 he2
    have hg7 := (he2 (3, 7) (by simp only; omega)).trans (show _ = some ⟨true, arrC 4096 D⟩ by simp -implicitDefEqProofs only [push_cast, sevalprocAttr, eq_self, hb7])
    have hg4 := (he2 (2, 4) (by simp only; omega)).trans (show _ = some ⟨true, [i64 s]⟩ by simp -implicitDefEqProofs only [push_cast, sevalprocAttr, eq_self, hb4])
    repeat' (first | ((try clear hf); with_reducible refine zM fun env K hE hK hf => ?_; have n : _ ∧ _ ∧ _ ∧ _ ∧ _ ∧ _ ∧ _ ∧ _ ∧ _ ∧ _ ∧ _ ∧ _ ∧ _ ∧ _ ∧ _ ∧ _ ∧ _ ∧ _ ∧ _ ∧ _ ∧ _ ∧ _ ∧ _ ∧ _ ∧ _ ∧ _ ∧ _ ∧ _ ∧ _ ∧ _ ∧ _ ∧ _ ∧ _ := ⟨hE 0, hE 1, hE 2, hE 4, hE 6, hE 7, hE 8, hE 9, hE 11, hE 12, hE 13, hE 14, hE 15, hE 16, hE 17, hE 18, hE 22, hE 23, hE 24, hE 29, hE 30, hE 31, hE 32, hE 57, hE 58, hE 59, hE 64, hE 65, hE 66, hE 76, hE 77, hE 78, hE 79⟩; simp -implicitDefEqProofs only [push_cast, reduceIte, Nat.reduceEqDiff, e0, e1, e2, e4, e6, e7, e8, e9, e11, e12, e13, e14, e15, e16, e17, e18, e22, e23, e24, e29, e30, e31, e32, e57, e58, e59, e64, e65, e66, e76, e77, e78, e79] at n; clear hE e0 e1 e2 e4 e6 e7 e8 e9 e11 e12 e13 e14 e15 e16 e17 e18 e22 e23 e24 e29 e30 e31 e32 e57 e58 e59 e64 e65 e66 e76 e77 e78 e79; obtain ⟨e0, e1, e2, e4, e6, e7, e8, e9, e11, e12, e13, e14, e15, e16, e17, e18, e22, e23, e24, e29, e30, e31, e32, e57, e58, e59, e64, e65, e66, e76, e77, e78, e79⟩ := n) | (with_reducible refine hK _ _ ?_; clear hK K) | (with_reducible first | refine zJ ?_ | refine zU ?_ | refine zB ?_ | refine zG ?_ | refine zE ?_ | refine zL ?_ | refine zT ?_ | refine zD ?_ | refine zH ?_ | refine zV ?_ | refine zF ?_ | refine zA (by decide) ?_ | refine zP ?_ | refine zO ?_ | refine zK ?_ | refine yB ?_ | refine yC ?_ | refine zW (by assumption) ?_ | refine zY (by assumption) ?_) | (refine zI rfl ?_) | (simp -implicitDefEqProofs only [push_cast, sevalprocAttr, eq_self, e0, e1, e2, e4, e6, e7, e8, e9, e11, e12, e13, e14, e15, e16, e17, e18, e22, e23, e24, e29, e30, e31, e32, e57, e58, e59, e64, e65, e66, e76, e77, e78, e79, hg7, hg4]) | (simp -implicitDefEqProofs (disch := omega) only [zR, zZ, zS, zQ, e0, e1, e2, e4, e6, e7, e8, e9, e11, e12, e13, e14, e15, e16, e17, e18, e22, e23, e24, e29, e30, e31, e32, e57, e58, e59, e64, e65, e66, e76, e77, e78, e79, hg7, hg4]) | (with_reducible refine yE ?_ ?_) | (refine zN rfl (fun bb => ?_) (fun bb => ?_) <;> (first | have bp := of_decide_eq_true bb | have bp := of_decide_eq_false bb | skip) <;> simp only [bb]) | (with_reducible refine zX (fun bb => ?_) (fun bb => ?_) <;> (first | have bp := of_decide_eq_true bb | have bp := of_decide_eq_false bb | skip)) | ((with_reducible refine And.intro ?_ ?_); omega) | fail)
    have hRD : inR D := inR_kN hR k4 D hkN
    refine yF fun env hE => ?_; have n : _ ∧ _ ∧ _ ∧ _ ∧ _ ∧ _ ∧ _ ∧ _ ∧ _ ∧ _ ∧ _ ∧ _ ∧ _ ∧ _ ∧ _ ∧ _ ∧ _ ∧ _ ∧ _ ∧ _ ∧ _ ∧ _ ∧ _ ∧ _ ∧ _ ∧ _ ∧ _ ∧ _ ∧ _ ∧ _ ∧ _ ∧ _ ∧ _ := ⟨hE 0, hE 1, hE 2, hE 4, hE 6, hE 7, hE 8, hE 9, hE 11, hE 12, hE 13, hE 14, hE 15, hE 16, hE 17, hE 18, hE 22, hE 23, hE 24, hE 29, hE 30, hE 31, hE 32, hE 57, hE 58, hE 59, hE 64, hE 65, hE 66, hE 76, hE 77, hE 78, hE 79⟩; simp -implicitDefEqProofs only [push_cast, reduceIte, Nat.reduceEqDiff, e0, e1, e2, e4, e6, e7, e8, e9, e11, e12, e13, e14, e15, e16, e17, e18, e22, e23, e24, e29, e30, e31, e32, e57, e58, e59, e64, e65, e66, e76, e77, e78, e79] at n; clear hE e0 e1 e2 e4 e6 e7 e8 e9 e11 e12 e13 e14 e15 e16 e17 e18 e22 e23 e24 e29 e30 e31 e32 e57 e58 e59 e64 e65 e66 e76 e77 e78 e79; obtain ⟨e0, e1, e2, e4, e6, e7, e8, e9, e11, e12, e13, e14, e15, e16, e17, e18, e22, e23, e24, e29, e30, e31, e32, e57, e58, e59, e64, e65, e66, e76, e77, e78, e79⟩ := n; have E61_3_0 := e0; have E61_3_1 := e1; have E61_3_2 := e2; have E61_3_4 := e4; have E61_3_7 := e7; have E61_3_8 := e8; have E61_3_9 := e9; have E61_3_11 := e11; have E61_3_12 := e12; have E61_3_13 := e13; have E61_3_14 := e14; have E61_3_22 := e22; have E61_3_23 := e23; have E61_3_24 := e24; have E61_3_29 := e29; have E61_3_30 := e30; have E61_3_31 := e31; have E61_3_32 := e32; have E61_3_57 := e57; have E61_3_58 := e58; have E61_3_59 := e59; have E61_3_64 := e64
    refine yN (fun nn σ => ∃ (i : Nat) (D3 : Nat → Int), nn = s - i ∧ σ.env 0 = env 0 ∧ σ.env 1 = env 1 ∧ σ.env 2 = env 2 ∧ σ.env 4 = env 4 ∧ σ.env 7 = env 7 ∧ σ.env 8 = env 8 ∧ σ.env 9 = env 9 ∧ σ.env 11 = env 11 ∧ σ.env 12 = env 12 ∧ σ.env 13 = env 13 ∧ σ.env 14 = env 14 ∧ σ.env 22 = env 22 ∧ σ.env 23 = env 23 ∧ σ.env 24 = env 24 ∧ σ.env 29 = env 29 ∧ σ.env 30 = env 30 ∧ σ.env 31 = env 31 ∧ σ.env 32 = env 32 ∧ σ.env 57 = env 57 ∧ σ.env 58 = env 58 ∧ σ.env 59 = env 59 ∧ σ.env 64 = env 64 ∧ σ.env 65 = i64 i ∧ (i ≤ s ∧ σ.h.hp (2, 4) = some ⟨true, [i64 s]⟩ ∧ σ.h.hp (3, 7) = some ⟨true, arrC 4096 D3⟩ ∧ iN s k4 D i = some D3 ∧ 3 ≤ σ.h.ep)) _ ⟨0, D, rfl, rfl, rfl, rfl, rfl, rfl, rfl, rfl, rfl, rfl, rfl, rfl, rfl, rfl, rfl, rfl, rfl, rfl, rfl, rfl, rfl, rfl, rfl, by refine e65.trans ?_; first | rfl | exact yG (by omega) | (simp -implicitDefEqProofs (disch := omega) only [zQ]; first | rfl | exact yG (by omega)), ?_⟩ ?_
    · exact ⟨by omega, by simp -implicitDefEqProofs only [push_cast, sevalprocAttr, eq_self, hg4], by simp -implicitDefEqProofs only [push_cast, sevalprocAttr, eq_self, hg7], rfl, (by first | omega | (simp -implicitDefEqProofs only [push_cast, sevalprocAttr, eq_self]; first | done | omega))⟩
    clear hg7 hg4 he1 he2 hF hF' hb4 hb7 hep
    clear e0 e1 e2 e4 e6 e7 e8 e9 e11 e12 e13 e14 e15 e16 e17 e18 e22 e23 e24 e29 e30 e31 e32 e57 e58 e59 e64 e65 e66 e76 e77 e78 e79; rintro nn ⟨env, h⟩ ⟨i, D3, rfl, q0, q1, q2, q4, q7, q8, q9, q11, q12, q13, q14, q22, q23, q24, q29, q30, q31, q32, q57, q58, q59, q64, e65, hI⟩; simp only at q0 q1 q2 q4 q7 q8 q9 q11 q12 q13 q14 q22 q23 q24 q29 q30 q31 q32 q57 q58 q59 q64 e65 hI; (first | have e0 := q0.trans E61_3_0 | have e0 := True.intro); (first | have e1 := q1.trans E61_3_1 | have e1 := True.intro); (first | have e2 := q2.trans E61_3_2 | have e2 := True.intro); (first | have e4 := q4.trans E61_3_4 | have e4 := True.intro); (first | have e7 := q7.trans E61_3_7 | have e7 := True.intro); (first | have e8 := q8.trans E61_3_8 | have e8 := True.intro); (first | have e9 := q9.trans E61_3_9 | have e9 := True.intro); (first | have e11 := q11.trans E61_3_11 | have e11 := True.intro); (first | have e12 := q12.trans E61_3_12 | have e12 := True.intro); (first | have e13 := q13.trans E61_3_13 | have e13 := True.intro); (first | have e14 := q14.trans E61_3_14 | have e14 := True.intro); (first | have e22 := q22.trans E61_3_22 | have e22 := True.intro); (first | have e23 := q23.trans E61_3_23 | have e23 := True.intro); (first | have e24 := q24.trans E61_3_24 | have e24 := True.intro); (first | have e29 := q29.trans E61_3_29 | have e29 := True.intro); (first | have e30 := q30.trans E61_3_30 | have e30 := True.intro); (first | have e31 := q31.trans E61_3_31 | have e31 := True.intro); (first | have e32 := q32.trans E61_3_32 | have e32 := True.intro); (first | have e57 := q57.trans E61_3_57 | have e57 := True.intro); (first | have e58 := q58.trans E61_3_58 | have e58 := True.intro); (first | have e59 := q59.trans E61_3_59 | have e59 := True.intro); (first | have e64 := q64.trans E61_3_64 | have e64 := True.intro); clear q0 q1 q2 q4 q7 q8 q9 q11 q12 q13 q14 q22 q23 q24 q29 q30 q31 q32 q57 q58 q59 q64; have e6 := True.intro; have e15 := True.intro; have e16 := True.intro; have e17 := True.intro; have e18 := True.intro; have e66 := True.intro; have e76 := True.intro; have e77 := True.intro; have e78 := True.intro; have e79 := True.intro
    obtain ⟨hi, hb4, hb7, hiN, hep⟩ := hI
    unfold l61_3
    (first | refine yI fun hF => ?_ | refine yX fun hF => ?_ | refine yW fun hF => ?_)
    by_cases hlti : i < s
    · have hdi : decide ((i : Int) < (s : Int)) = true := decide_eq_true (by omega)
      repeat' (first | ((try clear hf); with_reducible refine zM fun env K hE hK hf => ?_; have n : _ ∧ _ ∧ _ ∧ _ ∧ _ ∧ _ ∧ _ ∧ _ ∧ _ ∧ _ ∧ _ ∧ _ ∧ _ ∧ _ ∧ _ ∧ _ ∧ _ ∧ _ ∧ _ ∧ _ ∧ _ ∧ _ ∧ _ ∧ _ ∧ _ ∧ _ ∧ _ ∧ _ ∧ _ ∧ _ ∧ _ ∧ _ ∧ _ := ⟨hE 0, hE 1, hE 2, hE 4, hE 6, hE 7, hE 8, hE 9, hE 11, hE 12, hE 13, hE 14, hE 15, hE 16, hE 17, hE 18, hE 22, hE 23, hE 24, hE 29, hE 30, hE 31, hE 32, hE 57, hE 58, hE 59, hE 64, hE 65, hE 66, hE 76, hE 77, hE 78, hE 79⟩; simp -implicitDefEqProofs only [push_cast, reduceIte, Nat.reduceEqDiff, e0, e1, e2, e4, e6, e7, e8, e9, e11, e12, e13, e14, e15, e16, e17, e18, e22, e23, e24, e29, e30, e31, e32, e57, e58, e59, e64, e65, e66, e76, e77, e78, e79] at n; clear hE e0 e1 e2 e4 e6 e7 e8 e9 e11 e12 e13 e14 e15 e16 e17 e18 e22 e23 e24 e29 e30 e31 e32 e57 e58 e59 e64 e65 e66 e76 e77 e78 e79; obtain ⟨e0, e1, e2, e4, e6, e7, e8, e9, e11, e12, e13, e14, e15, e16, e17, e18, e22, e23, e24, e29, e30, e31, e32, e57, e58, e59, e64, e65, e66, e76, e77, e78, e79⟩ := n) | (with_reducible refine hK _ _ ?_; clear hK K) | (with_reducible first | refine zJ ?_ | refine zU ?_ | refine zB ?_ | refine zG ?_ | refine zE ?_ | refine zL ?_ | refine zT ?_ | refine zD ?_ | refine zH ?_ | refine zV ?_ | refine zF ?_ | refine zA (by decide) ?_ | refine zP ?_ | refine zO ?_ | refine zK ?_ | refine yB ?_ | refine yC ?_ | refine zW (by assumption) ?_ | refine zY (by assumption) ?_) | (refine zI rfl ?_) | (simp -implicitDefEqProofs only [push_cast, sevalprocAttr, eq_self, e0, e1, e2, e4, e6, e7, e8, e9, e11, e12, e13, e14, e15, e16, e17, e18, e22, e23, e24, e29, e30, e31, e32, e57, e58, e59, e64, e65, e66, e76, e77, e78, e79, hdi, hb4, hb7]) | (simp -implicitDefEqProofs (disch := omega) only [zR, zZ, zS, zQ, e0, e1, e2, e4, e6, e7, e8, e9, e11, e12, e13, e14, e15, e16, e17, e18, e22, e23, e24, e29, e30, e31, e32, e57, e58, e59, e64, e65, e66, e76, e77, e78, e79, hdi, hb4, hb7]) | (with_reducible refine yE ?_ ?_) | (refine zN rfl (fun bb => ?_) (fun bb => ?_) <;> (first | have bp := of_decide_eq_true bb | have bp := of_decide_eq_false bb | skip) <;> simp only [bb]) | (with_reducible refine zX (fun bb => ?_) (fun bb => ?_) <;> (first | have bp := of_decide_eq_true bb | have bp := of_decide_eq_false bb | skip)) | ((with_reducible refine And.intro ?_ ?_); omega) | (refine call_hc (HC.mono (f91 (A := (3, 7)) (B := (2, 4)) (i := i) (s := s) (D := D3) (by simp -implicitDefEqProofs only [push_cast, sevalprocAttr, eq_self, hb7]) (by simp -implicitDefEqProofs only [push_cast, sevalprocAttr, eq_self, hb4]) (by omega) hs) ?_); rintro r g ⟨rfl, hg⟩ hF') | fail)
      obtain ⟨he1, he2⟩ := hg
      simp only [qO, push_ep, put_ep, tick_hp] at he1 he2
      have hg7 := (he2 (3, 7) (by simp only; omega)).trans (show _ = some ⟨true, arrC 4096 D3⟩ by simp -implicitDefEqProofs only [push_cast, sevalprocAttr, eq_self, hb7])
      have hg4 := (he2 (2, 4) (by simp only; omega)).trans (show _ = some ⟨true, [i64 s]⟩ by simp -implicitDefEqProofs only [push_cast, sevalprocAttr, eq_self, hb4])
      have hR3 : inR D3 := inR_iN hRD i D3 hiN
      have his : i * s + s ≤ s * s := by
        have := Nat.mul_le_mul_right s (show i + 1 ≤ s by omega)
        rw [Nat.succ_mul] at this; exact this
      have hks : k4 * s + s ≤ s * s := by
        have := Nat.mul_le_mul_right s (show k4 + 1 ≤ s by omega)
        rw [Nat.succ_mul] at this; exact this
      have hik := fun D => arrC_at (n := 4096) D (k := i * s + k4) (by omega)
      by_cases hfar : D3 (i * s + k4) = farZ
      · have hdf : decide (D3 (i * s + k4) = -1099511627776) = true := decide_eq_true hfar
        repeat' (first | ((try clear hf); with_reducible refine zM fun env K hE hK hf => ?_; have n : _ ∧ _ ∧ _ ∧ _ ∧ _ ∧ _ ∧ _ ∧ _ ∧ _ ∧ _ ∧ _ ∧ _ ∧ _ ∧ _ ∧ _ ∧ _ ∧ _ ∧ _ ∧ _ ∧ _ ∧ _ ∧ _ ∧ _ ∧ _ ∧ _ ∧ _ ∧ _ ∧ _ ∧ _ ∧ _ ∧ _ ∧ _ ∧ _ := ⟨hE 0, hE 1, hE 2, hE 4, hE 6, hE 7, hE 8, hE 9, hE 11, hE 12, hE 13, hE 14, hE 15, hE 16, hE 17, hE 18, hE 22, hE 23, hE 24, hE 29, hE 30, hE 31, hE 32, hE 57, hE 58, hE 59, hE 64, hE 65, hE 66, hE 76, hE 77, hE 78, hE 79⟩; simp -implicitDefEqProofs only [push_cast, reduceIte, Nat.reduceEqDiff, e0, e1, e2, e4, e6, e7, e8, e9, e11, e12, e13, e14, e15, e16, e17, e18, e22, e23, e24, e29, e30, e31, e32, e57, e58, e59, e64, e65, e66, e76, e77, e78, e79] at n; clear hE e0 e1 e2 e4 e6 e7 e8 e9 e11 e12 e13 e14 e15 e16 e17 e18 e22 e23 e24 e29 e30 e31 e32 e57 e58 e59 e64 e65 e66 e76 e77 e78 e79; obtain ⟨e0, e1, e2, e4, e6, e7, e8, e9, e11, e12, e13, e14, e15, e16, e17, e18, e22, e23, e24, e29, e30, e31, e32, e57, e58, e59, e64, e65, e66, e76, e77, e78, e79⟩ := n) | (with_reducible refine hK _ _ ?_; clear hK K) | (with_reducible first | refine zJ ?_ | refine zU ?_ | refine zB ?_ | refine zG ?_ | refine zE ?_ | refine zL ?_ | refine zT ?_ | refine zD ?_ | refine zH ?_ | refine zV ?_ | refine zF ?_ | refine zA (by decide) ?_ | refine zP ?_ | refine zO ?_ | refine zK ?_ | refine yB ?_ | refine yC ?_ | refine zW (by assumption) ?_ | refine zY (by assumption) ?_) | (refine zI rfl ?_) | (simp -implicitDefEqProofs only [push_cast, sevalprocAttr, eq_self, e0, e1, e2, e4, e6, e7, e8, e9, e11, e12, e13, e14, e15, e16, e17, e18, e22, e23, e24, e29, e30, e31, e32, e57, e58, e59, e64, e65, e66, e76, e77, e78, e79, hg7, hg4, hik, hdf]) | (simp -implicitDefEqProofs (disch := omega) only [zR, zZ, zS, zQ, e0, e1, e2, e4, e6, e7, e8, e9, e11, e12, e13, e14, e15, e16, e17, e18, e22, e23, e24, e29, e30, e31, e32, e57, e58, e59, e64, e65, e66, e76, e77, e78, e79, hg7, hg4, hik, hdf]) | (with_reducible refine yE ?_ ?_) | (refine zN rfl (fun bb => ?_) (fun bb => ?_) <;> (first | have bp := of_decide_eq_true bb | have bp := of_decide_eq_false bb | skip) <;> simp only [bb]) | (with_reducible refine zX (fun bb => ?_) (fun bb => ?_) <;> (first | have bp := of_decide_eq_true bb | have bp := of_decide_eq_false bb | skip)) | ((with_reducible refine And.intro ?_ ?_); omega) | fail)
        refine ⟨_, ?_, i + 1, D3, rfl, E61_3_0.symm, E61_3_1.symm, E61_3_2.symm, E61_3_4.symm, E61_3_7.symm, E61_3_8.symm, E61_3_9.symm, E61_3_11.symm, E61_3_12.symm, E61_3_13.symm, E61_3_14.symm, E61_3_22.symm, E61_3_23.symm, E61_3_24.symm, E61_3_29.symm, E61_3_30.symm, E61_3_31.symm, E61_3_32.symm, E61_3_57.symm, E61_3_58.symm, E61_3_59.symm, E61_3_64.symm, by first | rfl | exact yG (by omega) | (simp -implicitDefEqProofs (disch := omega) only [zQ]; first | rfl | exact yG (by omega)), ?_⟩
        · omega
        · refine ⟨by omega, rfl, ?_⟩
          rw [iN, hiN, Option.bind_some, iStep, if_pos hfar]
      · have hdf : decide (D3 (i * s + k4) = -1099511627776) = false := decide_eq_false hfar
        have hls : lenV (.sl (3, 7) (k4 * s) s 1) = some (.lit (.int .i64 s)) := rfl
        repeat' (first | ((try clear hf); with_reducible refine zM fun env K hE hK hf => ?_; have n : _ ∧ _ ∧ _ ∧ _ ∧ _ ∧ _ ∧ _ ∧ _ ∧ _ ∧ _ ∧ _ ∧ _ ∧ _ ∧ _ ∧ _ ∧ _ ∧ _ ∧ _ ∧ _ ∧ _ ∧ _ ∧ _ ∧ _ ∧ _ ∧ _ ∧ _ ∧ _ ∧ _ ∧ _ ∧ _ ∧ _ ∧ _ ∧ _ := ⟨hE 0, hE 1, hE 2, hE 4, hE 6, hE 7, hE 8, hE 9, hE 11, hE 12, hE 13, hE 14, hE 15, hE 16, hE 17, hE 18, hE 22, hE 23, hE 24, hE 29, hE 30, hE 31, hE 32, hE 57, hE 58, hE 59, hE 64, hE 65, hE 66, hE 76, hE 77, hE 78, hE 79⟩; simp -implicitDefEqProofs only [push_cast, reduceIte, Nat.reduceEqDiff, e0, e1, e2, e4, e6, e7, e8, e9, e11, e12, e13, e14, e15, e16, e17, e18, e22, e23, e24, e29, e30, e31, e32, e57, e58, e59, e64, e65, e66, e76, e77, e78, e79] at n; clear hE e0 e1 e2 e4 e6 e7 e8 e9 e11 e12 e13 e14 e15 e16 e17 e18 e22 e23 e24 e29 e30 e31 e32 e57 e58 e59 e64 e65 e66 e76 e77 e78 e79; obtain ⟨e0, e1, e2, e4, e6, e7, e8, e9, e11, e12, e13, e14, e15, e16, e17, e18, e22, e23, e24, e29, e30, e31, e32, e57, e58, e59, e64, e65, e66, e76, e77, e78, e79⟩ := n) | (with_reducible refine hK _ _ ?_; clear hK K) | (with_reducible first | refine zJ ?_ | refine zU ?_ | refine zB ?_ | refine zG ?_ | refine zE ?_ | refine zL ?_ | refine zT ?_ | refine zD ?_ | refine zH ?_ | refine zV ?_ | refine zF ?_ | refine zA (by decide) ?_ | refine zP ?_ | refine zO ?_ | refine zK ?_ | refine yB ?_ | refine yC ?_ | refine zW (by assumption) ?_ | refine zY (by assumption) ?_) | (refine zI rfl ?_) | (simp -implicitDefEqProofs only [push_cast, sevalprocAttr, eq_self, e0, e1, e2, e4, e6, e7, e8, e9, e11, e12, e13, e14, e15, e16, e17, e18, e22, e23, e24, e29, e30, e31, e32, e57, e58, e59, e64, e65, e66, e76, e77, e78, e79, hg7, hg4, hik, hdf, hls]) | (simp -implicitDefEqProofs (disch := omega) only [zR, zZ, zS, zQ, e0, e1, e2, e4, e6, e7, e8, e9, e11, e12, e13, e14, e15, e16, e17, e18, e22, e23, e24, e29, e30, e31, e32, e57, e58, e59, e64, e65, e66, e76, e77, e78, e79, hg7, hg4, hik, hdf, hls]) | (with_reducible refine yE ?_ ?_) | (refine zN rfl (fun bb => ?_) (fun bb => ?_) <;> (first | have bp := of_decide_eq_true bb | have bp := of_decide_eq_false bb | skip) <;> simp only [bb]) | (with_reducible refine zX (fun bb => ?_) (fun bb => ?_) <;> (first | have bp := of_decide_eq_true bb | have bp := of_decide_eq_false bb | skip)) | ((with_reducible refine And.intro ?_ ?_); omega) | fail)
        refine yF fun env hE => ?_; have n : _ ∧ _ ∧ _ ∧ _ ∧ _ ∧ _ ∧ _ ∧ _ ∧ _ ∧ _ ∧ _ ∧ _ ∧ _ ∧ _ ∧ _ ∧ _ ∧ _ ∧ _ ∧ _ ∧ _ ∧ _ ∧ _ ∧ _ ∧ _ ∧ _ ∧ _ ∧ _ ∧ _ ∧ _ ∧ _ ∧ _ ∧ _ ∧ _ := ⟨hE 0, hE 1, hE 2, hE 4, hE 6, hE 7, hE 8, hE 9, hE 11, hE 12, hE 13, hE 14, hE 15, hE 16, hE 17, hE 18, hE 22, hE 23, hE 24, hE 29, hE 30, hE 31, hE 32, hE 57, hE 58, hE 59, hE 64, hE 65, hE 66, hE 76, hE 77, hE 78, hE 79⟩; simp -implicitDefEqProofs only [push_cast, reduceIte, Nat.reduceEqDiff, e0, e1, e2, e4, e6, e7, e8, e9, e11, e12, e13, e14, e15, e16, e17, e18, e22, e23, e24, e29, e30, e31, e32, e57, e58, e59, e64, e65, e66, e76, e77, e78, e79] at n; clear hE e0 e1 e2 e4 e6 e7 e8 e9 e11 e12 e13 e14 e15 e16 e17 e18 e22 e23 e24 e29 e30 e31 e32 e57 e58 e59 e64 e65 e66 e76 e77 e78 e79; obtain ⟨e0, e1, e2, e4, e6, e7, e8, e9, e11, e12, e13, e14, e15, e16, e17, e18, e22, e23, e24, e29, e30, e31, e32, e57, e58, e59, e64, e65, e66, e76, e77, e78, e79⟩ := n; have E61_2_0 := e0; have E61_2_1 := e1; have E61_2_2 := e2; have E61_2_4 := e4; have E61_2_6 := e6; have E61_2_7 := e7; have E61_2_8 := e8; have E61_2_9 := e9; have E61_2_11 := e11; have E61_2_12 := e12; have E61_2_13 := e13; have E61_2_14 := e14; have E61_2_15 := e15; have E61_2_16 := e16; have E61_2_22 := e22; have E61_2_23 := e23; have E61_2_24 := e24; have E61_2_29 := e29; have E61_2_30 := e30; have E61_2_31 := e31; have E61_2_32 := e32; have E61_2_57 := e57; have E61_2_58 := e58; have E61_2_59 := e59; have E61_2_64 := e64; have E61_2_65 := e65; have E61_2_66 := e66; have E61_2_76 := e76; have E61_2_77 := e77
        refine yN (fun nn σ => ∃ (j : Nat), nn = s - j ∧ σ.env 0 = env 0 ∧ σ.env 1 = env 1 ∧ σ.env 2 = env 2 ∧ σ.env 4 = env 4 ∧ σ.env 6 = env 6 ∧ σ.env 7 = env 7 ∧ σ.env 8 = env 8 ∧ σ.env 9 = env 9 ∧ σ.env 11 = env 11 ∧ σ.env 12 = env 12 ∧ σ.env 13 = env 13 ∧ σ.env 14 = env 14 ∧ σ.env 15 = env 15 ∧ σ.env 16 = env 16 ∧ σ.env 22 = env 22 ∧ σ.env 23 = env 23 ∧ σ.env 24 = env 24 ∧ σ.env 29 = env 29 ∧ σ.env 30 = env 30 ∧ σ.env 31 = env 31 ∧ σ.env 32 = env 32 ∧ σ.env 57 = env 57 ∧ σ.env 58 = env 58 ∧ σ.env 59 = env 59 ∧ σ.env 64 = env 64 ∧ σ.env 65 = env 65 ∧ σ.env 66 = env 66 ∧ σ.env 76 = env 76 ∧ σ.env 77 = env 77 ∧ σ.env 78 = i64 j ∧ (j ≤ s ∧ σ.h.hp (2, 4) = some ⟨true, [i64 s]⟩ ∧ σ.h.hp (3, 7) = some ⟨true, arrC 4096 (jN s k4 i D3 j)⟩ ∧ 3 ≤ σ.h.ep)) _ ⟨0, rfl, rfl, rfl, rfl, rfl, rfl, rfl, rfl, rfl, rfl, rfl, rfl, rfl, rfl, rfl, rfl, rfl, rfl, rfl, rfl, rfl, rfl, rfl, rfl, rfl, rfl, rfl, rfl, rfl, rfl, by refine e78.trans ?_; first | rfl | exact yG (by omega) | (simp -implicitDefEqProofs (disch := omega) only [zQ]; first | rfl | exact yG (by omega)), ?_⟩ ?_
        · exact ⟨by omega, by simp -implicitDefEqProofs only [push_cast, sevalprocAttr, eq_self, hg4], by simp -implicitDefEqProofs only [push_cast, sevalprocAttr, eq_self, hg7]; rfl, (by first | omega | (simp -implicitDefEqProofs only [push_cast, sevalprocAttr, eq_self]; first | done | omega))⟩
        clear hg7 hg4 he1 he2 hF hF' hb4 hb7 hep
        clear e0 e1 e2 e4 e6 e7 e8 e9 e11 e12 e13 e14 e15 e16 e17 e18 e22 e23 e24 e29 e30 e31 e32 e57 e58 e59 e64 e65 e66 e76 e77 e78 e79; rintro nn ⟨env, h⟩ ⟨j, rfl, q0, q1, q2, q4, q6, q7, q8, q9, q11, q12, q13, q14, q15, q16, q22, q23, q24, q29, q30, q31, q32, q57, q58, q59, q64, q65, q66, q76, q77, e78, hI⟩; simp only at q0 q1 q2 q4 q6 q7 q8 q9 q11 q12 q13 q14 q15 q16 q22 q23 q24 q29 q30 q31 q32 q57 q58 q59 q64 q65 q66 q76 q77 e78 hI; (first | have e0 := q0.trans E61_2_0 | have e0 := True.intro); (first | have e1 := q1.trans E61_2_1 | have e1 := True.intro); (first | have e2 := q2.trans E61_2_2 | have e2 := True.intro); (first | have e4 := q4.trans E61_2_4 | have e4 := True.intro); (first | have e6 := q6.trans E61_2_6 | have e6 := True.intro); (first | have e7 := q7.trans E61_2_7 | have e7 := True.intro); (first | have e8 := q8.trans E61_2_8 | have e8 := True.intro); (first | have e9 := q9.trans E61_2_9 | have e9 := True.intro); (first | have e11 := q11.trans E61_2_11 | have e11 := True.intro); (first | have e12 := q12.trans E61_2_12 | have e12 := True.intro); (first | have e13 := q13.trans E61_2_13 | have e13 := True.intro); (first | have e14 := q14.trans E61_2_14 | have e14 := True.intro); (first | have e15 := q15.trans E61_2_15 | have e15 := True.intro); (first | have e16 := q16.trans E61_2_16 | have e16 := True.intro); (first | have e22 := q22.trans E61_2_22 | have e22 := True.intro); (first | have e23 := q23.trans E61_2_23 | have e23 := True.intro); (first | have e24 := q24.trans E61_2_24 | have e24 := True.intro); (first | have e29 := q29.trans E61_2_29 | have e29 := True.intro); (first | have e30 := q30.trans E61_2_30 | have e30 := True.intro); (first | have e31 := q31.trans E61_2_31 | have e31 := True.intro); (first | have e32 := q32.trans E61_2_32 | have e32 := True.intro); (first | have e57 := q57.trans E61_2_57 | have e57 := True.intro); (first | have e58 := q58.trans E61_2_58 | have e58 := True.intro); (first | have e59 := q59.trans E61_2_59 | have e59 := True.intro); (first | have e64 := q64.trans E61_2_64 | have e64 := True.intro); (first | have e65 := q65.trans E61_2_65 | have e65 := True.intro); (first | have e66 := q66.trans E61_2_66 | have e66 := True.intro); (first | have e76 := q76.trans E61_2_76 | have e76 := True.intro); (first | have e77 := q77.trans E61_2_77 | have e77 := True.intro); clear q0 q1 q2 q4 q6 q7 q8 q9 q11 q12 q13 q14 q15 q16 q22 q23 q24 q29 q30 q31 q32 q57 q58 q59 q64 q65 q66 q76 q77; have e17 := True.intro; have e18 := True.intro; have e79 := True.intro
        obtain ⟨hj, hb4, hb7, hep⟩ := hI
        unfold l61_2
        (first | refine yI fun hF => ?_ | refine yX fun hF => ?_ | refine yW fun hF => ?_)
        have hRj : inR (jN s k4 i D3 j) := inR_jN hR3 j
        by_cases hltj : j < s
        · have hdj : decide ((j : Int) < (s : Int)) = true := decide_eq_true (by omega)
          have hkj := arrC_at (n := 4096) (jN s k4 i D3 j) (k := k4 * s + j) (by omega)
          have hij := arrC_at (n := 4096) (jN s k4 i D3 j) (k := i * s + j) (by omega)
          have hpt := fun D v => arrC_put (n := 4096) D (k := i * s + j) (by omega) v
          have hst : jN s k4 i D3 (j + 1) = jStep s k4 i (jN s k4 i D3 j) j := rfl
          generalize hDj : jN s k4 i D3 j = Dj at *
          have b1 := hRj (k4 * s + j)
          have b2 := hRj (i * s + j)
          have b3 := hRj (i * s + k4)
          unfold farZ at b1 b2 b3
          by_cases hw : Dj (k4 * s + j) = -1099511627776
          · have hdw : decide (¬ Dj (k4 * s + j) = -1099511627776) = false := decide_eq_false (by simpa using hw)
            repeat' (first | ((try clear hf); with_reducible refine zM fun env K hE hK hf => ?_; have n : _ ∧ _ ∧ _ ∧ _ ∧ _ ∧ _ ∧ _ ∧ _ ∧ _ ∧ _ ∧ _ ∧ _ ∧ _ ∧ _ ∧ _ ∧ _ ∧ _ ∧ _ ∧ _ ∧ _ ∧ _ ∧ _ ∧ _ ∧ _ ∧ _ ∧ _ ∧ _ ∧ _ ∧ _ ∧ _ ∧ _ ∧ _ ∧ _ := ⟨hE 0, hE 1, hE 2, hE 4, hE 6, hE 7, hE 8, hE 9, hE 11, hE 12, hE 13, hE 14, hE 15, hE 16, hE 17, hE 18, hE 22, hE 23, hE 24, hE 29, hE 30, hE 31, hE 32, hE 57, hE 58, hE 59, hE 64, hE 65, hE 66, hE 76, hE 77, hE 78, hE 79⟩; simp -implicitDefEqProofs only [push_cast, reduceIte, Nat.reduceEqDiff, e0, e1, e2, e4, e6, e7, e8, e9, e11, e12, e13, e14, e15, e16, e17, e18, e22, e23, e24, e29, e30, e31, e32, e57, e58, e59, e64, e65, e66, e76, e77, e78, e79] at n; clear hE e0 e1 e2 e4 e6 e7 e8 e9 e11 e12 e13 e14 e15 e16 e17 e18 e22 e23 e24 e29 e30 e31 e32 e57 e58 e59 e64 e65 e66 e76 e77 e78 e79; obtain ⟨e0, e1, e2, e4, e6, e7, e8, e9, e11, e12, e13, e14, e15, e16, e17, e18, e22, e23, e24, e29, e30, e31, e32, e57, e58, e59, e64, e65, e66, e76, e77, e78, e79⟩ := n) | (with_reducible refine hK _ _ ?_; clear hK K) | (with_reducible first | refine zJ ?_ | refine zU ?_ | refine zB ?_ | refine zG ?_ | refine zE ?_ | refine zL ?_ | refine zT ?_ | refine zD ?_ | refine zH ?_ | refine zV ?_ | refine zF ?_ | refine zA (by decide) ?_ | refine zP ?_ | refine zO ?_ | refine zK ?_ | refine yB ?_ | refine yC ?_ | refine zW (by assumption) ?_ | refine zY (by assumption) ?_) | (refine zI rfl ?_) | (simp -implicitDefEqProofs only [push_cast, sevalprocAttr, eq_self, e0, e1, e2, e4, e6, e7, e8, e9, e11, e12, e13, e14, e15, e16, e17, e18, e22, e23, e24, e29, e30, e31, e32, e57, e58, e59, e64, e65, e66, e76, e77, e78, e79, hdj, hb4, hb7, hkj, hdw]) | (simp -implicitDefEqProofs (disch := omega) only [zR, zZ, zS, zQ, e0, e1, e2, e4, e6, e7, e8, e9, e11, e12, e13, e14, e15, e16, e17, e18, e22, e23, e24, e29, e30, e31, e32, e57, e58, e59, e64, e65, e66, e76, e77, e78, e79, hdj, hb4, hb7, hkj, hdw]) | (with_reducible refine yE ?_ ?_) | (refine zN rfl (fun bb => ?_) (fun bb => ?_) <;> (first | have bp := of_decide_eq_true bb | have bp := of_decide_eq_false bb | skip) <;> simp only [bb]) | (with_reducible refine zX (fun bb => ?_) (fun bb => ?_) <;> (first | have bp := of_decide_eq_true bb | have bp := of_decide_eq_false bb | skip)) | ((with_reducible refine And.intro ?_ ?_); omega) | fail)
            refine ⟨_, ?_, j + 1, rfl, E61_2_0.symm, E61_2_1.symm, E61_2_2.symm, E61_2_4.symm, E61_2_6.symm, E61_2_7.symm, E61_2_8.symm, E61_2_9.symm, E61_2_11.symm, E61_2_12.symm, E61_2_13.symm, E61_2_14.symm, E61_2_15.symm, E61_2_16.symm, E61_2_22.symm, E61_2_23.symm, E61_2_24.symm, E61_2_29.symm, E61_2_30.symm, E61_2_31.symm, E61_2_32.symm, E61_2_57.symm, E61_2_58.symm, E61_2_59.symm, E61_2_64.symm, E61_2_65.symm, E61_2_66.symm, E61_2_76.symm, E61_2_77.symm, by first | rfl | exact yG (by omega) | (simp -implicitDefEqProofs (disch := omega) only [zQ]; first | rfl | exact yG (by omega)), ?_⟩
            · omega
            · rw [hst]; unfold jStep; rw [if_neg fun h => h.1 hw]; exact ⟨by omega, rfl⟩
          have hdw : decide (¬ Dj (k4 * s + j) = -1099511627776) = true := decide_eq_true hw
          have hws : IntKind.i64.wrap (Dj (i * s + k4) + Dj (k4 * s + j)) = Dj (i * s + k4) + Dj (k4 * s + j) := wrap64 (by omega) (by omega)
          by_cases hgt : Dj (i * s + j) < Dj (i * s + k4) + Dj (k4 * s + j)
          · have hdg : decide (Dj (i * s + j) < Dj (i * s + k4) + Dj (k4 * s + j)) = true := decide_eq_true hgt
            have hst2 : jN s k4 i D3 (j + 1) = fset Dj (i * s + j) (capZ (Dj (i * s + k4) + Dj (k4 * s + j))) := by rw [hst]; unfold jStep; rw [if_pos ⟨hw, hgt⟩]
            repeat' (first | ((try clear hf); with_reducible refine zM fun env K hE hK hf => ?_; have n : _ ∧ _ ∧ _ ∧ _ ∧ _ ∧ _ ∧ _ ∧ _ ∧ _ ∧ _ ∧ _ ∧ _ ∧ _ ∧ _ ∧ _ ∧ _ ∧ _ ∧ _ ∧ _ ∧ _ ∧ _ ∧ _ ∧ _ ∧ _ ∧ _ ∧ _ ∧ _ ∧ _ ∧ _ ∧ _ ∧ _ ∧ _ ∧ _ := ⟨hE 0, hE 1, hE 2, hE 4, hE 6, hE 7, hE 8, hE 9, hE 11, hE 12, hE 13, hE 14, hE 15, hE 16, hE 17, hE 18, hE 22, hE 23, hE 24, hE 29, hE 30, hE 31, hE 32, hE 57, hE 58, hE 59, hE 64, hE 65, hE 66, hE 76, hE 77, hE 78, hE 79⟩; simp -implicitDefEqProofs only [push_cast, reduceIte, Nat.reduceEqDiff, e0, e1, e2, e4, e6, e7, e8, e9, e11, e12, e13, e14, e15, e16, e17, e18, e22, e23, e24, e29, e30, e31, e32, e57, e58, e59, e64, e65, e66, e76, e77, e78, e79] at n; clear hE e0 e1 e2 e4 e6 e7 e8 e9 e11 e12 e13 e14 e15 e16 e17 e18 e22 e23 e24 e29 e30 e31 e32 e57 e58 e59 e64 e65 e66 e76 e77 e78 e79; obtain ⟨e0, e1, e2, e4, e6, e7, e8, e9, e11, e12, e13, e14, e15, e16, e17, e18, e22, e23, e24, e29, e30, e31, e32, e57, e58, e59, e64, e65, e66, e76, e77, e78, e79⟩ := n) | (with_reducible refine hK _ _ ?_; clear hK K) | (with_reducible first | refine zJ ?_ | refine zU ?_ | refine zB ?_ | refine zG ?_ | refine zE ?_ | refine zL ?_ | refine zT ?_ | refine zD ?_ | refine zH ?_ | refine zV ?_ | refine zF ?_ | refine zA (by decide) ?_ | refine zP ?_ | refine zO ?_ | refine zK ?_ | refine yB ?_ | refine yC ?_ | refine zW (by assumption) ?_ | refine zY (by assumption) ?_) | (refine zI rfl ?_) | (simp -implicitDefEqProofs only [push_cast, sevalprocAttr, eq_self, e0, e1, e2, e4, e6, e7, e8, e9, e11, e12, e13, e14, e15, e16, e17, e18, e22, e23, e24, e29, e30, e31, e32, e57, e58, e59, e64, e65, e66, e76, e77, e78, e79, hdj, hb4, hb7, hik, hkj, hij, hpt, hdw, hws, hdg, minV_two]) | (simp -implicitDefEqProofs (disch := omega) only [zR, zZ, zS, zQ, e0, e1, e2, e4, e6, e7, e8, e9, e11, e12, e13, e14, e15, e16, e17, e18, e22, e23, e24, e29, e30, e31, e32, e57, e58, e59, e64, e65, e66, e76, e77, e78, e79, hdj, hb4, hb7, hik, hkj, hij, hpt, hdw, hws, hdg, minV_two]) | (with_reducible refine yE ?_ ?_) | (refine zN rfl (fun bb => ?_) (fun bb => ?_) <;> (first | have bp := of_decide_eq_true bb | have bp := of_decide_eq_false bb | skip) <;> simp only [bb]) | (with_reducible refine zX (fun bb => ?_) (fun bb => ?_) <;> (first | have bp := of_decide_eq_true bb | have bp := of_decide_eq_false bb | skip)) | ((with_reducible refine And.intro ?_ ?_); omega) | fail)
            refine ⟨_, ?_, j + 1, rfl, E61_2_0.symm, E61_2_1.symm, E61_2_2.symm, E61_2_4.symm, E61_2_6.symm, E61_2_7.symm, E61_2_8.symm, E61_2_9.symm, E61_2_11.symm, E61_2_12.symm, E61_2_13.symm, E61_2_14.symm, E61_2_15.symm, E61_2_16.symm, E61_2_22.symm, E61_2_23.symm, E61_2_24.symm, E61_2_29.symm, E61_2_30.symm, E61_2_31.symm, E61_2_32.symm, E61_2_57.symm, E61_2_58.symm, E61_2_59.symm, E61_2_64.symm, E61_2_65.symm, E61_2_66.symm, E61_2_76.symm, E61_2_77.symm, by first | rfl | exact yG (by omega) | (simp -implicitDefEqProofs (disch := omega) only [zQ]; first | rfl | exact yG (by omega)), ?_⟩
            · omega
            · rw [hst2]; unfold capZ; exact ⟨by omega, rfl⟩
          · have hdg : decide (Dj (i * s + j) < Dj (i * s + k4) + Dj (k4 * s + j)) = false := decide_eq_false hgt
            repeat' (first | ((try clear hf); with_reducible refine zM fun env K hE hK hf => ?_; have n : _ ∧ _ ∧ _ ∧ _ ∧ _ ∧ _ ∧ _ ∧ _ ∧ _ ∧ _ ∧ _ ∧ _ ∧ _ ∧ _ ∧ _ ∧ _ ∧ _ ∧ _ ∧ _ ∧ _ ∧ _ ∧ _ ∧ _ ∧ _ ∧ _ ∧ _ ∧ _ ∧ _ ∧ _ ∧ _ ∧ _ ∧ _ ∧ _ := ⟨hE 0, hE 1, hE 2, hE 4, hE 6, hE 7, hE 8, hE 9, hE 11, hE 12, hE 13, hE 14, hE 15, hE 16, hE 17, hE 18, hE 22, hE 23, hE 24, hE 29, hE 30, hE 31, hE 32, hE 57, hE 58, hE 59, hE 64, hE 65, hE 66, hE 76, hE 77, hE 78, hE 79⟩; simp -implicitDefEqProofs only [push_cast, reduceIte, Nat.reduceEqDiff, e0, e1, e2, e4, e6, e7, e8, e9, e11, e12, e13, e14, e15, e16, e17, e18, e22, e23, e24, e29, e30, e31, e32, e57, e58, e59, e64, e65, e66, e76, e77, e78, e79] at n; clear hE e0 e1 e2 e4 e6 e7 e8 e9 e11 e12 e13 e14 e15 e16 e17 e18 e22 e23 e24 e29 e30 e31 e32 e57 e58 e59 e64 e65 e66 e76 e77 e78 e79; obtain ⟨e0, e1, e2, e4, e6, e7, e8, e9, e11, e12, e13, e14, e15, e16, e17, e18, e22, e23, e24, e29, e30, e31, e32, e57, e58, e59, e64, e65, e66, e76, e77, e78, e79⟩ := n) | (with_reducible refine hK _ _ ?_; clear hK K) | (with_reducible first | refine zJ ?_ | refine zU ?_ | refine zB ?_ | refine zG ?_ | refine zE ?_ | refine zL ?_ | refine zT ?_ | refine zD ?_ | refine zH ?_ | refine zV ?_ | refine zF ?_ | refine zA (by decide) ?_ | refine zP ?_ | refine zO ?_ | refine zK ?_ | refine yB ?_ | refine yC ?_ | refine zW (by assumption) ?_ | refine zY (by assumption) ?_) | (refine zI rfl ?_) | (simp -implicitDefEqProofs only [push_cast, sevalprocAttr, eq_self, e0, e1, e2, e4, e6, e7, e8, e9, e11, e12, e13, e14, e15, e16, e17, e18, e22, e23, e24, e29, e30, e31, e32, e57, e58, e59, e64, e65, e66, e76, e77, e78, e79, hdj, hb4, hb7, hik, hkj, hij, hdw, hws, hdg]) | (simp -implicitDefEqProofs (disch := omega) only [zR, zZ, zS, zQ, e0, e1, e2, e4, e6, e7, e8, e9, e11, e12, e13, e14, e15, e16, e17, e18, e22, e23, e24, e29, e30, e31, e32, e57, e58, e59, e64, e65, e66, e76, e77, e78, e79, hdj, hb4, hb7, hik, hkj, hij, hdw, hws, hdg]) | (with_reducible refine yE ?_ ?_) | (refine zN rfl (fun bb => ?_) (fun bb => ?_) <;> (first | have bp := of_decide_eq_true bb | have bp := of_decide_eq_false bb | skip) <;> simp only [bb]) | (with_reducible refine zX (fun bb => ?_) (fun bb => ?_) <;> (first | have bp := of_decide_eq_true bb | have bp := of_decide_eq_false bb | skip)) | ((with_reducible refine And.intro ?_ ?_); omega) | fail)
            refine ⟨_, ?_, j + 1, rfl, E61_2_0.symm, E61_2_1.symm, E61_2_2.symm, E61_2_4.symm, E61_2_6.symm, E61_2_7.symm, E61_2_8.symm, E61_2_9.symm, E61_2_11.symm, E61_2_12.symm, E61_2_13.symm, E61_2_14.symm, E61_2_15.symm, E61_2_16.symm, E61_2_22.symm, E61_2_23.symm, E61_2_24.symm, E61_2_29.symm, E61_2_30.symm, E61_2_31.symm, E61_2_32.symm, E61_2_57.symm, E61_2_58.symm, E61_2_59.symm, E61_2_64.symm, E61_2_65.symm, E61_2_66.symm, E61_2_76.symm, E61_2_77.symm, by first | rfl | exact yG (by omega) | (simp -implicitDefEqProofs (disch := omega) only [zQ]; first | rfl | exact yG (by omega)), ?_⟩
            · omega
            · rw [hst]; unfold jStep; rw [if_neg fun h => hgt h.2]; exact ⟨by omega, rfl⟩
        have hdj : decide ((j : Int) < (s : Int)) = false := decide_eq_false (by omega)
        have hje : j = s := by omega
        have hii := arrC_at (n := 4096) (jN s k4 i D3 j) (k := i * s + i) (by omega)
        by_cases hdia : 0 < jN s k4 i D3 j (i * s + i)
        · have hdd : decide (0 < jN s k4 i D3 j (i * s + i)) = true := decide_eq_true hdia
          have hgo : goesP es s n = false := by
            have h1 : iN s k4 D (i + 1) = none := by rw [iN, hiN, Option.bind_some, iStep, if_neg hfar, if_pos (by rw [hje] at hdia; exact hdia)]
            have h2 : kN s (eN s n es) (k4 + 1) = none := by rw [kN, hkN, Option.bind_some]; exact iN_none h1 (by omega)
            unfold goesP
            rw [kN_none h2 (by omega)]; rfl
          repeat' (first | ((try clear hf); with_reducible refine zM fun env K hE hK hf => ?_; have n : _ ∧ _ ∧ _ ∧ _ ∧ _ ∧ _ ∧ _ ∧ _ ∧ _ ∧ _ ∧ _ ∧ _ ∧ _ ∧ _ ∧ _ ∧ _ ∧ _ ∧ _ ∧ _ ∧ _ ∧ _ ∧ _ ∧ _ ∧ _ ∧ _ ∧ _ ∧ _ ∧ _ ∧ _ ∧ _ ∧ _ ∧ _ ∧ _ := ⟨hE 0, hE 1, hE 2, hE 4, hE 6, hE 7, hE 8, hE 9, hE 11, hE 12, hE 13, hE 14, hE 15, hE 16, hE 17, hE 18, hE 22, hE 23, hE 24, hE 29, hE 30, hE 31, hE 32, hE 57, hE 58, hE 59, hE 64, hE 65, hE 66, hE 76, hE 77, hE 78, hE 79⟩; simp -implicitDefEqProofs only [push_cast, reduceIte, Nat.reduceEqDiff, e0, e1, e2, e4, e6, e7, e8, e9, e11, e12, e13, e14, e15, e16, e17, e18, e22, e23, e24, e29, e30, e31, e32, e57, e58, e59, e64, e65, e66, e76, e77, e78, e79] at n; clear hE e0 e1 e2 e4 e6 e7 e8 e9 e11 e12 e13 e14 e15 e16 e17 e18 e22 e23 e24 e29 e30 e31 e32 e57 e58 e59 e64 e65 e66 e76 e77 e78 e79; obtain ⟨e0, e1, e2, e4, e6, e7, e8, e9, e11, e12, e13, e14, e15, e16, e17, e18, e22, e23, e24, e29, e30, e31, e32, e57, e58, e59, e64, e65, e66, e76, e77, e78, e79⟩ := n) | (with_reducible refine hK _ _ ?_; clear hK K) | (with_reducible first | refine zJ ?_ | refine zU ?_ | refine zB ?_ | refine zG ?_ | refine zE ?_ | refine zL ?_ | refine zT ?_ | refine zD ?_ | refine zH ?_ | refine zV ?_ | refine zF ?_ | refine zA (by decide) ?_ | refine zP ?_ | refine zO ?_ | refine zK ?_ | refine yB ?_ | refine yC ?_ | refine zW (by assumption) ?_ | refine zY (by assumption) ?_) | (refine zI rfl ?_) | (simp -implicitDefEqProofs only [push_cast, sevalprocAttr, eq_self, e0, e1, e2, e4, e6, e7, e8, e9, e11, e12, e13, e14, e15, e16, e17, e18, e22, e23, e24, e29, e30, e31, e32, e57, e58, e59, e64, e65, e66, e76, e77, e78, e79, hdj, hb4, hb7, hii, hdd, hgo]) | (simp -implicitDefEqProofs (disch := omega) only [zR, zZ, zS, zQ, e0, e1, e2, e4, e6, e7, e8, e9, e11, e12, e13, e14, e15, e16, e17, e18, e22, e23, e24, e29, e30, e31, e32, e57, e58, e59, e64, e65, e66, e76, e77, e78, e79, hdj, hb4, hb7, hii, hdd, hgo]) | (with_reducible refine yE ?_ ?_) | (refine zN rfl (fun bb => ?_) (fun bb => ?_) <;> (first | have bp := of_decide_eq_true bb | have bp := of_decide_eq_false bb | skip) <;> simp only [bb]) | (with_reducible refine zX (fun bb => ?_) (fun bb => ?_) <;> (first | have bp := of_decide_eq_true bb | have bp := of_decide_eq_false bb | skip)) | ((with_reducible refine And.intro ?_ ?_); omega) | fail)
        · have hdd : decide (0 < jN s k4 i D3 j (i * s + i)) = false := decide_eq_false hdia
          repeat' (first | ((try clear hf); with_reducible refine zM fun env K hE hK hf => ?_; have n : _ ∧ _ ∧ _ ∧ _ ∧ _ ∧ _ ∧ _ ∧ _ ∧ _ ∧ _ ∧ _ ∧ _ ∧ _ ∧ _ ∧ _ ∧ _ ∧ _ ∧ _ ∧ _ ∧ _ ∧ _ ∧ _ ∧ _ ∧ _ ∧ _ ∧ _ ∧ _ ∧ _ ∧ _ ∧ _ ∧ _ ∧ _ ∧ _ := ⟨hE 0, hE 1, hE 2, hE 4, hE 6, hE 7, hE 8, hE 9, hE 11, hE 12, hE 13, hE 14, hE 15, hE 16, hE 17, hE 18, hE 22, hE 23, hE 24, hE 29, hE 30, hE 31, hE 32, hE 57, hE 58, hE 59, hE 64, hE 65, hE 66, hE 76, hE 77, hE 78, hE 79⟩; simp -implicitDefEqProofs only [push_cast, reduceIte, Nat.reduceEqDiff, e0, e1, e2, e4, e6, e7, e8, e9, e11, e12, e13, e14, e15, e16, e17, e18, e22, e23, e24, e29, e30, e31, e32, e57, e58, e59, e64, e65, e66, e76, e77, e78, e79] at n; clear hE e0 e1 e2 e4 e6 e7 e8 e9 e11 e12 e13 e14 e15 e16 e17 e18 e22 e23 e24 e29 e30 e31 e32 e57 e58 e59 e64 e65 e66 e76 e77 e78 e79; obtain ⟨e0, e1, e2, e4, e6, e7, e8, e9, e11, e12, e13, e14, e15, e16, e17, e18, e22, e23, e24, e29, e30, e31, e32, e57, e58, e59, e64, e65, e66, e76, e77, e78, e79⟩ := n) | (with_reducible refine hK _ _ ?_; clear hK K) | (with_reducible first | refine zJ ?_ | refine zU ?_ | refine zB ?_ | refine zG ?_ | refine zE ?_ | refine zL ?_ | refine zT ?_ | refine zD ?_ | refine zH ?_ | refine zV ?_ | refine zF ?_ | refine zA (by decide) ?_ | refine zP ?_ | refine zO ?_ | refine zK ?_ | refine yB ?_ | refine yC ?_ | refine zW (by assumption) ?_ | refine zY (by assumption) ?_) | (refine zI rfl ?_) | (simp -implicitDefEqProofs only [push_cast, sevalprocAttr, eq_self, e0, e1, e2, e4, e6, e7, e8, e9, e11, e12, e13, e14, e15, e16, e17, e18, e22, e23, e24, e29, e30, e31, e32, e57, e58, e59, e64, e65, e66, e76, e77, e78, e79, hdj, hb4, hb7, hii, hdd]) | (simp -implicitDefEqProofs (disch := omega) only [zR, zZ, zS, zQ, e0, e1, e2, e4, e6, e7, e8, e9, e11, e12, e13, e14, e15, e16, e17, e18, e22, e23, e24, e29, e30, e31, e32, e57, e58, e59, e64, e65, e66, e76, e77, e78, e79, hdj, hb4, hb7, hii, hdd]) | (with_reducible refine yE ?_ ?_) | (refine zN rfl (fun bb => ?_) (fun bb => ?_) <;> (first | have bp := of_decide_eq_true bb | have bp := of_decide_eq_false bb | skip) <;> simp only [bb]) | (with_reducible refine zX (fun bb => ?_) (fun bb => ?_) <;> (first | have bp := of_decide_eq_true bb | have bp := of_decide_eq_false bb | skip)) | ((with_reducible refine And.intro ?_ ?_); omega) | fail)
          refine ⟨_, ?_, i + 1, jN s k4 i D3 j, rfl, E61_3_0.symm, E61_3_1.symm, E61_3_2.symm, E61_3_4.symm, E61_3_7.symm, E61_3_8.symm, E61_3_9.symm, E61_3_11.symm, E61_3_12.symm, E61_3_13.symm, E61_3_14.symm, E61_3_22.symm, E61_3_23.symm, E61_3_24.symm, E61_3_29.symm, E61_3_30.symm, E61_3_31.symm, E61_3_32.symm, E61_3_57.symm, E61_3_58.symm, E61_3_59.symm, E61_3_64.symm, by first | rfl | exact yG (by omega) | (simp -implicitDefEqProofs (disch := omega) only [zQ]; first | rfl | exact yG (by omega)), ?_⟩
          · omega
          · refine ⟨by omega, rfl, ?_⟩
            rw [hje] at hdia ⊢
            rw [iN, hiN, Option.bind_some, iStep, if_neg hfar, if_neg hdia]
    · have hdi : decide ((i : Int) < (s : Int)) = false := decide_eq_false (by omega)
      have hie : i = s := by omega
      repeat' (first | ((try clear hf); with_reducible refine zM fun env K hE hK hf => ?_; have n : _ ∧ _ ∧ _ ∧ _ ∧ _ ∧ _ ∧ _ ∧ _ ∧ _ ∧ _ ∧ _ ∧ _ ∧ _ ∧ _ ∧ _ ∧ _ ∧ _ ∧ _ ∧ _ ∧ _ ∧ _ ∧ _ ∧ _ ∧ _ ∧ _ ∧ _ ∧ _ ∧ _ ∧ _ ∧ _ ∧ _ ∧ _ ∧ _ := ⟨hE 0, hE 1, hE 2, hE 4, hE 6, hE 7, hE 8, hE 9, hE 11, hE 12, hE 13, hE 14, hE 15, hE 16, hE 17, hE 18, hE 22, hE 23, hE 24, hE 29, hE 30, hE 31, hE 32, hE 57, hE 58, hE 59, hE 64, hE 65, hE 66, hE 76, hE 77, hE 78, hE 79⟩; simp -implicitDefEqProofs only [push_cast, reduceIte, Nat.reduceEqDiff, e0, e1, e2, e4, e6, e7, e8, e9, e11, e12, e13, e14, e15, e16, e17, e18, e22, e23, e24, e29, e30, e31, e32, e57, e58, e59, e64, e65, e66, e76, e77, e78, e79] at n; clear hE e0 e1 e2 e4 e6 e7 e8 e9 e11 e12 e13 e14 e15 e16 e17 e18 e22 e23 e24 e29 e30 e31 e32 e57 e58 e59 e64 e65 e66 e76 e77 e78 e79; obtain ⟨e0, e1, e2, e4, e6, e7, e8, e9, e11, e12, e13, e14, e15, e16, e17, e18, e22, e23, e24, e29, e30, e31, e32, e57, e58, e59, e64, e65, e66, e76, e77, e78, e79⟩ := n) | (with_reducible refine hK _ _ ?_; clear hK K) | (with_reducible first | refine zJ ?_ | refine zU ?_ | refine zB ?_ | refine zG ?_ | refine zE ?_ | refine zL ?_ | refine zT ?_ | refine zD ?_ | refine zH ?_ | refine zV ?_ | refine zF ?_ | refine zA (by decide) ?_ | refine zP ?_ | refine zO ?_ | refine zK ?_ | refine yB ?_ | refine yC ?_ | refine zW (by assumption) ?_ | refine zY (by assumption) ?_) | (refine zI rfl ?_) | (simp -implicitDefEqProofs only [push_cast, sevalprocAttr, eq_self, e0, e1, e2, e4, e6, e7, e8, e9, e11, e12, e13, e14, e15, e16, e17, e18, e22, e23, e24, e29, e30, e31, e32, e57, e58, e59, e64, e65, e66, e76, e77, e78, e79, hdi]) | (simp -implicitDefEqProofs (disch := omega) only [zR, zZ, zS, zQ, e0, e1, e2, e4, e6, e7, e8, e9, e11, e12, e13, e14, e15, e16, e17, e18, e22, e23, e24, e29, e30, e31, e32, e57, e58, e59, e64, e65, e66, e76, e77, e78, e79, hdi]) | (with_reducible refine yE ?_ ?_) | (refine zN rfl (fun bb => ?_) (fun bb => ?_) <;> (first | have bp := of_decide_eq_true bb | have bp := of_decide_eq_false bb | skip) <;> simp only [bb]) | (with_reducible refine zX (fun bb => ?_) (fun bb => ?_) <;> (first | have bp := of_decide_eq_true bb | have bp := of_decide_eq_false bb | skip)) | ((with_reducible refine And.intro ?_ ?_); omega) | fail)
      refine ⟨_, ?_, k4 + 1, D3, rfl, E61_4_0.symm, E61_4_1.symm, E61_4_2.symm, E61_4_4.symm, E61_4_7.symm, E61_4_8.symm, E61_4_9.symm, E61_4_11.symm, E61_4_12.symm, E61_4_22.symm, E61_4_23.symm, E61_4_24.symm, E61_4_29.symm, E61_4_30.symm, E61_4_31.symm, E61_4_32.symm, E61_4_57.symm, by first | rfl | exact yG (by omega) | (simp -implicitDefEqProofs (disch := omega) only [zQ]; first | rfl | exact yG (by omega)), ?_⟩
      · omega
      · refine ⟨by omega, hb4, hb7, ?_, by omega⟩
        rw [hie] at hiN
        rw [kN, hkN, Option.bind_some, hiN]
  · have hd : decide ((k4 : Int) < (s : Int)) = false := decide_eq_false (by omega)
    have hke : k4 = s := by omega
    have hgo : goesP es s n = true := by unfold goesP; rw [← hke] at hkN ⊢; rw [hkN]; rfl
    repeat' (first | ((try clear hf); with_reducible refine zM fun env K hE hK hf => ?_; have n : _ ∧ _ ∧ _ ∧ _ ∧ _ ∧ _ ∧ _ ∧ _ ∧ _ ∧ _ ∧ _ ∧ _ ∧ _ ∧ _ ∧ _ ∧ _ ∧ _ ∧ _ ∧ _ ∧ _ ∧ _ ∧ _ ∧ _ ∧ _ ∧ _ ∧ _ ∧ _ ∧ _ ∧ _ ∧ _ ∧ _ ∧ _ ∧ _ := ⟨hE 0, hE 1, hE 2, hE 4, hE 6, hE 7, hE 8, hE 9, hE 11, hE 12, hE 13, hE 14, hE 15, hE 16, hE 17, hE 18, hE 22, hE 23, hE 24, hE 29, hE 30, hE 31, hE 32, hE 57, hE 58, hE 59, hE 64, hE 65, hE 66, hE 76, hE 77, hE 78, hE 79⟩; simp -implicitDefEqProofs only [push_cast, reduceIte, Nat.reduceEqDiff, e0, e1, e2, e4, e6, e7, e8, e9, e11, e12, e13, e14, e15, e16, e17, e18, e22, e23, e24, e29, e30, e31, e32, e57, e58, e59, e64, e65, e66, e76, e77, e78, e79] at n; clear hE e0 e1 e2 e4 e6 e7 e8 e9 e11 e12 e13 e14 e15 e16 e17 e18 e22 e23 e24 e29 e30 e31 e32 e57 e58 e59 e64 e65 e66 e76 e77 e78 e79; obtain ⟨e0, e1, e2, e4, e6, e7, e8, e9, e11, e12, e13, e14, e15, e16, e17, e18, e22, e23, e24, e29, e30, e31, e32, e57, e58, e59, e64, e65, e66, e76, e77, e78, e79⟩ := n) | (with_reducible refine hK _ _ ?_; clear hK K) | (with_reducible first | refine zJ ?_ | refine zU ?_ | refine zB ?_ | refine zG ?_ | refine zE ?_ | refine zL ?_ | refine zT ?_ | refine zD ?_ | refine zH ?_ | refine zV ?_ | refine zF ?_ | refine zA (by decide) ?_ | refine zP ?_ | refine zO ?_ | refine zK ?_ | refine yB ?_ | refine yC ?_ | refine zW (by assumption) ?_ | refine zY (by assumption) ?_) | (refine zI rfl ?_) | (simp -implicitDefEqProofs only [push_cast, sevalprocAttr, eq_self, e0, e1, e2, e4, e6, e7, e8, e9, e11, e12, e13, e14, e15, e16, e17, e18, e22, e23, e24, e29, e30, e31, e32, e57, e58, e59, e64, e65, e66, e76, e77, e78, e79, hd, hgo]) | (simp -implicitDefEqProofs (disch := omega) only [zR, zZ, zS, zQ, e0, e1, e2, e4, e6, e7, e8, e9, e11, e12, e13, e14, e15, e16, e17, e18, e22, e23, e24, e29, e30, e31, e32, e57, e58, e59, e64, e65, e66, e76, e77, e78, e79, hd, hgo]) | (with_reducible refine yE ?_ ?_) | (refine zN rfl (fun bb => ?_) (fun bb => ?_) <;> (first | have bp := of_decide_eq_true bb | have bp := of_decide_eq_false bb | skip) <;> simp only [bb]) | (with_reducible refine zX (fun bb => ?_) (fun bb => ?_) <;> (first | have bp := of_decide_eq_true bb | have bp := of_decide_eq_false bb | skip)) | ((with_reducible refine And.intro ?_ ?_); omega) | fail)
end Go.Proofs.Hx
