import Derived.Test.YtcdibfkebojefaaG4
set_option linter.unusedVariables false
set_option linter.unusedSimpArgs false
namespace Go.Proofs.Hx
open Go Go.Proofs
attribute [local irreducible] yM awp opK goV goM yZ qB qD yQ HV HVF HC
/-- The finder while it is made: reads and d as they stand. -/
def finW (l : List Opn) (t : Tab) (a b : AV) : List AV := .row (l.map opC) :: (tabC t ++ [a, b, .nil])
theorem finW_14 (l : List Opn) (t : Tab) (a b : AV) : (finW l t a b)[14]? = some a := rfl
theorem finW_15 (l : List Opn) (t : Tab) (a b : AV) : (finW l t a b)[15]? = some b := rfl
theorem finW_put14 (l : List Opn) (t : Tab) (a b v : AV) : (finW l t a b).take 14 ++ [v] ++ (finW l t a b).drop (14 + 1) = finW l t v b := rfl
theorem finW_put15 (l : List Opn) (t : Tab) (a b v : AV) : (finW l t a b).take 15 ++ [v] ++ (finW l t a b).drop (15 + 1) = finW l t a v := rfl
theorem finW_len (l : List Opn) (t : Tab) (a b : AV) : (finW l t a b).length = 17 := rfl
attribute [push_cast] finW_14 finW_15 finW_put14 finW_put15 finW_len
theorem Ext.kill {h g : Hp} (e : Ext h g) {a b : Nat} (hid : h.ep < a) : Ext h (g.kill (a, b)) :=
  ⟨e.1, fun x hx => by rw [kill_ne _ _ _ (fun e' => by rw [e'] at hx; simp at hx; omega)]; exact e.2 x hx⟩
structure FinW (h0 h : Hp) (F : Id) (l : List Opn) (t : Tab) (j : Nat) (a b : AV) : Prop where
  fin : h.hp F = some ⟨true, finW l t a b⟩
  st : (j = 0 ∧ a = .nil ∧ b = .nil) ∨ ∃ re rs de ds : Nat, a = .sl (re, rs) 0 j 1 ∧ b = .sl (de, ds) 0 j 1 ∧ h.hp (re, rs) = some ⟨true, (l.take j).flatMap regRow⟩ ∧ h.hp (de, ds) = some ⟨true, (l.take j).flatMap dRow⟩ ∧
    re ≤ h.ep ∧ de ≤ h.ep ∧ (re, rs) ≠ F ∧ (de, ds) ≠ F ∧ (re, rs) ≠ (de, ds) ∧ h0.ep < re ∧ h0.ep < de
  eF : F.1 ≤ h.ep
  lF : h0.ep < F.1
  ex : Ext h0 h
def I65 (h0 : Hp) (F : Id) (l : List Opn) (t : Tab) (n : Nat) (σ : St) : Prop := ∃ (j : Nat) (a b : AV), j ≤ l.length ∧ n = l.length - j ∧ σ.env 0 = .row (l.map opC) ∧ σ.env 5 = .ptr F 0 ∧ σ.env 14 = i64 l.length ∧ σ.env 15 = i64 j ∧ FinW h0 σ.h F l t j a b
set_option maxHeartbeats 1000000 in
theorem f65 {h0 : Hp} {l : List Opn} {t : Tab} (hl : ∀ o ∈ l, o.ok) (hn : l.length ≤ 1024) :
    HC Try.prog 65 [.row (l.map opC), .agg (tabC t)] h0 fun r h' => ∃ F a b, r = .ptr F 0 ∧ FinW h0 h' F l t l.length a b := by
  refine yX yK cf65 (by simp) fun hF => ?_
  unfold ac65 re65
  refine yF fun env hE => ?_; have e0 := hE 0; have e1 := hE 1; have e3 := hE 3; have e4 := hE 4; have e5 := hE 5; have e6 := hE 6; have e7 := hE 7; have e8 := hE 8; have e14 := hE 14; have e15 := hE 15; have e16 := hE 16; simp -implicitDefEqProofs only [push_cast] at e0 e1 e3 e4 e5 e6 e7 e8 e14 e15 e16; clear hE
  repeat' (first | ((try clear hf); with_reducible refine zO fun env K hE hK hf => ?_; have n : _ ∧ _ ∧ _ ∧ _ ∧ _ ∧ _ ∧ _ ∧ _ ∧ _ ∧ _ ∧ _ := ⟨hE 0, hE 1, hE 3, hE 4, hE 5, hE 6, hE 7, hE 8, hE 14, hE 15, hE 16⟩; simp -implicitDefEqProofs only [push_cast, reduceIte, Nat.reduceEqDiff, e0, e1, e3, e4, e5, e6, e7, e8, e14, e15, e16] at n; clear hE e0 e1 e3 e4 e5 e6 e7 e8 e14 e15 e16; obtain ⟨e0, e1, e3, e4, e5, e6, e7, e8, e14, e15, e16⟩ := n) | (with_reducible refine hK _ _ ?_; clear hK K) | (with_reducible first | refine zK ?_ | refine zU ?_ | refine zB ?_ | refine zF ?_ | refine zD ?_ | refine zN ?_ | refine zT ?_ | refine zC ?_ | refine zG ?_ | refine zV ?_ | refine zE ?_ | refine zA (by decide) ?_ | refine zL ?_ | refine zQ ?_ | refine zM ?_ | refine yB ?_ | refine yC ?_ | refine zW (by assumption) ?_ | refine zY (by assumption) ?_) | (refine zH rfl ?_) | (simp -implicitDefEqProofs only [push_cast, sevalprocAttr, eq_self, e0, e1, e3, e4, e5, e6, e7, e8, e14, e15, e16, hF.at, qS]) | (simp -implicitDefEqProofs (disch := omega) only [zR, zZ, zS, zJ, e0, e1, e3, e4, e5, e6, e7, e8, e14, e15, e16, hF.at, qS]) | (with_reducible refine yE ?_ ?_) | (refine zP rfl (fun bb => ?_) (fun bb => ?_) <;> simp only [bb]) | (with_reducible refine zX (fun bb => ?_) (fun bb => ?_)) | ((with_reducible refine And.intro ?_ ?_); omega) | fail)
  generalize hF0 : (h0.ep + 1 + 1 + 1, 12) = F
  have hFl : h0.ep < F.1 := by rw [← hF0]; show h0.ep < h0.ep + 1 + 1 + 1; omega
  refine yL (I65 h0 F l t) l.length ⟨0, .nil, .nil, by omega, by omega, by simp -implicitDefEqProofs only [push_cast, sevalprocAttr, eq_self, e0], by simp -implicitDefEqProofs only [push_cast, sevalprocAttr, eq_self, e5, hF0], by simp -implicitDefEqProofs only [push_cast, sevalprocAttr, eq_self], by simp -implicitDefEqProofs only [push_cast, sevalprocAttr, eq_self], ⟨?_, .inl ⟨rfl, rfl, rfl⟩, ?_, hFl, ?_⟩⟩ ?_
  · rw [← hF0]; simp -implicitDefEqProofs only [push_cast, sevalprocAttr, eq_self]; rfl
  · rw [← hF0]; show h0.ep + 1 + 1 + 1 ≤ _; simp -implicitDefEqProofs only [push_cast, sevalprocAttr, eq_self]; omega
  · rw [← hF0]; exact (by repeat (first | exact Ext.refl _ | refine Ext.tick ?_ | refine Ext.push ?_ (by omega) _ | refine Ext.put ?_ (by omega) _))
  obtain ⟨Fe, Fs⟩ := F
  simp only at hFl
  clear hF hF0
  rintro n ⟨env, h⟩ ⟨j, a, b, hj', rfl, e0, e5, e14, e15, ⟨hb, hst, hFe, hlF, hex⟩⟩
  simp only at e0 e5 e14 e15 hb hst hFe hlF hex
  have e1 : True := trivial; have e3 : True := trivial; have e4 : True := trivial; have e6 : True := trivial; have e7 : True := trivial; have e8 : True := trivial; have e16 : True := trivial
  unfold l65_0
  refine yI fun hF => ?_
  by_cases hj : j < l.length
  · have hd : decide ((j : Int) < (l.length : Int)) = true := by simp; omega
    have ho := hl _ (List.getElem_mem hj)
    have hw : IntKind.i64.wrap (wrS l[j]).1 = (wrS l[j]).1 := by
      have h := ho
      unfold Opn.ok at h
      apply wrap64 <;> (unfold wrS; split <;> simp <;> omega)
    have htk : ∀ f : Opn → List AV, (l.take (j + 1)).flatMap f = (l.take j).flatMap f ++ f l[j] := fun f => by
      rw [List.take_succ_eq_append_getElem hj, List.flatMap_append]
      simp
    rcases hst with ⟨hj0, rfl, rfl⟩ | ⟨re, rs, de, ds, rfl, rfl, h1, h2, g1, g2, g3, g4, g5, g6, g7⟩
    · have hA : ∀ (h' : Hp) (id' : Id) (x : List AV), appV h' id' 1 24 1 x .nil = some (.sl id' 0 1 1, h'.push id' x) := fun h' id' x => appV_nil _ _ (by decide) (by decide)
      have hA2 : ∀ (h' : Hp) (id' : Id) (x : List AV), appV h' id' 1 8 1 x .nil = some (.sl id' 0 1 1, h'.push id' x) := fun h' id' x => appV_nil _ _ (by decide) (by decide)
      repeat' (first | ((try clear hf); with_reducible refine zO fun env K hE hK hf => ?_; have n : _ ∧ _ ∧ _ ∧ _ ∧ _ ∧ _ ∧ _ ∧ _ ∧ _ ∧ _ ∧ _ := ⟨hE 0, hE 1, hE 3, hE 4, hE 5, hE 6, hE 7, hE 8, hE 14, hE 15, hE 16⟩; simp -implicitDefEqProofs only [push_cast, reduceIte, Nat.reduceEqDiff, e0, e1, e3, e4, e5, e6, e7, e8, e14, e15, e16] at n; clear hE e0 e1 e3 e4 e5 e6 e7 e8 e14 e15 e16; obtain ⟨e0, e1, e3, e4, e5, e6, e7, e8, e14, e15, e16⟩ := n) | (with_reducible refine hK _ _ ?_; clear hK K) | (with_reducible first | refine zK ?_ | refine zU ?_ | refine zB ?_ | refine zF ?_ | refine zD ?_ | refine zN ?_ | refine zT ?_ | refine zC ?_ | refine zG ?_ | refine zV ?_ | refine zE ?_ | refine zA (by decide) ?_ | refine zL ?_ | refine zQ ?_ | refine zM ?_ | refine yB ?_ | refine yC ?_ | refine zW (by assumption) ?_ | refine zY (by assumption) ?_) | (refine zH rfl ?_) | (simp -implicitDefEqProofs only [push_cast, sevalprocAttr, eq_self, e0, e1, e3, e4, e5, e6, e7, e8, e14, e15, e16, hd, hF.at, hb, hA, hA2, yP, qK hj]) | (simp -implicitDefEqProofs (disch := omega) only [zR, zZ, zS, zJ, e0, e1, e3, e4, e5, e6, e7, e8, e14, e15, e16, hd, hF.at, hb, hA, hA2, yP, qK hj]) | (with_reducible refine yE ?_ ?_) | (refine zP rfl (fun bb => ?_) (fun bb => ?_) <;> simp only [bb]) | (with_reducible refine zX (fun bb => ?_) (fun bb => ?_)) | ((with_reducible refine And.intro ?_ ?_); omega) | (refine call_ownq (lends_imm rfl) (f54 l[j] ho) ?_) | (refine yG (f52 l[j] ho) ?_) | fail)
      all_goals
        subst hj0
        refine ⟨l.length - (0 + 1), by omega, 0 + 1, .sl (h.ep + 1 + 1 + 1, 29) 0 (0 + 1) 1, .sl (h.ep + 1 + 1 + 1 + 1 + 1 + 1, 46) 0 (0 + 1) 1, by omega, rfl, by simp -implicitDefEqProofs only [push_cast, sevalprocAttr, eq_self, e0], by simp -implicitDefEqProofs only [push_cast, sevalprocAttr, eq_self, e5], by simp -implicitDefEqProofs only [push_cast, sevalprocAttr, eq_self, e14], by simp -implicitDefEqProofs only [push_cast, sevalprocAttr, eq_self], ⟨?_, .inr ⟨_, _, _, _, rfl, rfl, ?_, ?_, ?_, ?_, ?_, ?_, ?_, by omega, by omega⟩, ?_, hlF, (by repeat (first | assumption | refine Ext.tick ?_ | refine Ext.push ?_ (by omega) _ | refine Ext.put ?_ (by omega) _))⟩⟩
        · simp -implicitDefEqProofs (disch := first | decide | omega) only [qN, qP, put_self, zR, zZ, push_slot, put_slot]
        · simp -implicitDefEqProofs (disch := first | decide | omega) only [qN, qP, put_self, zR, zZ, push_slot, put_slot]
          rw [htk]
          rfl
        · simp -implicitDefEqProofs (disch := first | decide | omega) only [qN, qP, put_self, zR, zZ, push_slot, put_slot]
          rw [htk]
          simp [dRow, bb, hw]
        · simp -implicitDefEqProofs only [push_cast, sevalprocAttr, eq_self]; omega
        · simp -implicitDefEqProofs only [push_cast, sevalprocAttr, eq_self]; omega
        · intro e; have := congrArg Prod.fst e; simp at this; omega
        · intro e; have := congrArg Prod.fst e; simp at this; omega
        · intro e; have := congrArg Prod.fst e; simp at this
        · simp -implicitDefEqProofs only [push_cast, sevalprocAttr, eq_self]; omega
    · have hlr : ((l.take j).flatMap regRow).length = j * 1 := by rw [flat1_len (fun _ => rfl)]; simp; omega
      have hld : ((l.take j).flatMap dRow).length = j * 1 := by rw [flat1_len (fun _ => rfl)]; simp; omega
      have htr : ((l.take j).flatMap regRow).take j = (l.take j).flatMap regRow := by rw [List.take_of_length_le (by omega)]
      have htd : ((l.take j).flatMap dRow).take j = (l.take j).flatMap dRow := by rw [List.take_of_length_le (by omega)]
      have hdl : ∀ x, ((l.take j).flatMap dRow ++ [x]).take j = (l.take j).flatMap dRow := fun x => by rw [List.take_append_of_le_length (by omega)]; exact htd
      have k1 : ∀ h' : Hp, (h'.kill (re, rs)).hp (Fe, Fs) = h'.hp (Fe, Fs) := fun h' => kill_ne _ _ _ (Ne.symm g3)
      have k2 : ∀ h' : Hp, (h'.kill (de, ds)).hp (Fe, Fs) = h'.hp (Fe, Fs) := fun h' => kill_ne _ _ _ (Ne.symm g4)
      have k3 : ∀ h' : Hp, (h'.kill (re, rs)).hp (de, ds) = h'.hp (de, ds) := fun h' => kill_ne _ _ _ (Ne.symm g5)
      have hle : j + 1 ≤ ((l.take j).flatMap dRow ++ [AV.lit (.int .i64 (-1))]).length := by simp only [List.length_append, hld, List.length_cons, List.length_nil]; omega
      have hdd : ∀ x, ((l.take j).flatMap dRow ++ [x]).drop (j + 1) = [] := fun x => List.drop_eq_nil_of_le (by simp only [List.length_append, hld, List.length_cons, List.length_nil]; omega)
      have k4 : ∀ (h' : Hp) (c : List AV), (h'.put (Fe, Fs) c).hp (de, ds) = h'.hp (de, ds) := fun h' c => put_ne _ _ _ _ g4
      repeat' (first | ((try clear hf); with_reducible refine zO fun env K hE hK hf => ?_; have n : _ ∧ _ ∧ _ ∧ _ ∧ _ ∧ _ ∧ _ ∧ _ ∧ _ ∧ _ ∧ _ := ⟨hE 0, hE 1, hE 3, hE 4, hE 5, hE 6, hE 7, hE 8, hE 14, hE 15, hE 16⟩; simp -implicitDefEqProofs only [push_cast, reduceIte, Nat.reduceEqDiff, e0, e1, e3, e4, e5, e6, e7, e8, e14, e15, e16] at n; clear hE e0 e1 e3 e4 e5 e6 e7 e8 e14 e15 e16; obtain ⟨e0, e1, e3, e4, e5, e6, e7, e8, e14, e15, e16⟩ := n) | (with_reducible refine hK _ _ ?_; clear hK K) | (with_reducible first | refine zK ?_ | refine zU ?_ | refine zB ?_ | refine zF ?_ | refine zD ?_ | refine zN ?_ | refine zT ?_ | refine zC ?_ | refine zG ?_ | refine zV ?_ | refine zE ?_ | refine zA (by decide) ?_ | refine zL ?_ | refine zQ ?_ | refine zM ?_ | refine yB ?_ | refine yC ?_ | refine zW (by assumption) ?_ | refine zY (by assumption) ?_) | (refine zH rfl ?_) | (simp -implicitDefEqProofs only [push_cast, sevalprocAttr, eq_self, e0, e1, e3, e4, e5, e6, e7, e8, e14, e15, e16, hd, hF.at, hb, h1, h2, appV_sl_eq, yP, qK hj, htr, htd, hdl, hdd, List.append_nil, k1, k2, k3, k4]) | (simp -implicitDefEqProofs (disch := omega) only [zR, zZ, zS, zJ, e0, e1, e3, e4, e5, e6, e7, e8, e14, e15, e16, hd, hF.at, hb, h1, h2, appV_sl_eq, yP, qK hj, htr, htd, hdl, hdd, List.append_nil, k1, k2, k3, k4]) | (with_reducible refine yE ?_ ?_) | (refine zP rfl (fun bb => ?_) (fun bb => ?_) <;> simp only [bb]) | (with_reducible refine zX (fun bb => ?_) (fun bb => ?_)) | ((with_reducible refine And.intro ?_ ?_); omega) | (refine call_ownq (lends_imm rfl) (f54 l[j] ho) ?_) | (refine yG (f52 l[j] ho) ?_) | fail)
      all_goals
        refine ⟨l.length - (j + 1), by omega, j + 1, .sl (h.ep + 1 + 1 + 1, 29) 0 (j + 1) 1, .sl (h.ep + 1 + 1 + 1 + 1 + 1 + 1, 46) 0 (j + 1) 1, by omega, rfl, by simp -implicitDefEqProofs only [push_cast, sevalprocAttr, eq_self, e0], by simp -implicitDefEqProofs only [push_cast, sevalprocAttr, eq_self, e5], by simp -implicitDefEqProofs only [push_cast, sevalprocAttr, eq_self, e14], by simp -implicitDefEqProofs only [push_cast, sevalprocAttr, eq_self], ⟨?_, .inr ⟨_, _, _, _, rfl, rfl, ?_, ?_, ?_, ?_, ?_, ?_, ?_, by omega, by omega⟩, ?_, hlF, (by repeat (first | assumption | refine Ext.tick ?_ | refine Ext.push ?_ (by omega) _ | refine Ext.put ?_ (by omega) _ | refine Ext.kill ?_ (by omega)))⟩⟩
        · simp -implicitDefEqProofs (disch := first | decide | omega) only [qN, qP, put_self, zR, zZ, push_slot, put_slot, zS, k1, k2, k3, k4]
        · simp -implicitDefEqProofs (disch := first | decide | omega) only [qN, qP, put_self, zR, zZ, push_slot, put_slot, zS, k1, k2, k3, k4]
          rw [htk]
          rfl
        · simp -implicitDefEqProofs (disch := first | decide | omega) only [qN, qP, put_self, zR, zZ, push_slot, put_slot, zS, k1, k2, k3, k4]
          rw [htk]
          simp [dRow, bb, hw]
        · simp -implicitDefEqProofs only [push_cast, sevalprocAttr, eq_self]; omega
        · simp -implicitDefEqProofs only [push_cast, sevalprocAttr, eq_self]; omega
        · intro e; have := congrArg Prod.fst e; simp at this; omega
        · intro e; have := congrArg Prod.fst e; simp at this; omega
        · intro e; have := congrArg Prod.fst e; simp at this
        · simp -implicitDefEqProofs only [push_cast, sevalprocAttr, eq_self]; omega
  · have hd : decide ((j : Int) < (l.length : Int)) = false := by simp; omega
    repeat' (first | ((try clear hf); with_reducible refine zO fun env K hE hK hf => ?_; have n : _ ∧ _ ∧ _ ∧ _ ∧ _ ∧ _ ∧ _ ∧ _ ∧ _ ∧ _ ∧ _ := ⟨hE 0, hE 1, hE 3, hE 4, hE 5, hE 6, hE 7, hE 8, hE 14, hE 15, hE 16⟩; simp -implicitDefEqProofs only [push_cast, reduceIte, Nat.reduceEqDiff, e0, e1, e3, e4, e5, e6, e7, e8, e14, e15, e16] at n; clear hE e0 e1 e3 e4 e5 e6 e7 e8 e14 e15 e16; obtain ⟨e0, e1, e3, e4, e5, e6, e7, e8, e14, e15, e16⟩ := n) | (with_reducible refine hK _ _ ?_; clear hK K) | (with_reducible first | refine zK ?_ | refine zU ?_ | refine zB ?_ | refine zF ?_ | refine zD ?_ | refine zN ?_ | refine zT ?_ | refine zC ?_ | refine zG ?_ | refine zV ?_ | refine zE ?_ | refine zA (by decide) ?_ | refine zL ?_ | refine zQ ?_ | refine zM ?_ | refine yB ?_ | refine yC ?_ | refine zW (by assumption) ?_ | refine zY (by assumption) ?_) | (refine zH rfl ?_) | (simp -implicitDefEqProofs only [push_cast, sevalprocAttr, eq_self, e0, e1, e3, e4, e5, e6, e7, e8, e14, e15, e16, hd]) | (simp -implicitDefEqProofs (disch := omega) only [zR, zZ, zS, zJ, e0, e1, e3, e4, e5, e6, e7, e8, e14, e15, e16, hd]) | (with_reducible refine yE ?_ ?_) | (refine zP rfl (fun bb => ?_) (fun bb => ?_) <;> simp only [bb]) | (with_reducible refine zX (fun bb => ?_) (fun bb => ?_)) | ((with_reducible refine And.intro ?_ ?_); omega) | fail)
    obtain rfl : j = l.length := by omega
    exact ⟨(Fe, Fs), a, b, rfl, hb, hst.imp id fun ⟨re, rs, de, ds, e1, e2, e3, e4, e5, e6, r⟩ => ⟨re, rs, de, ds, e1, e2, e3, e4, by rw [yN, yN]; omega, by rw [yN, yN]; omega, r⟩, by rw [yN, yN]; simp only; omega, hlF, hex.tick.tick⟩
end Go.Proofs.Hx

set_option linter.unusedVariables false
set_option linter.unusedSimpArgs false
namespace Go.Proofs.Hx
open Go Go.Proofs
attribute [local irreducible] yM awp opK goV goM yZ qB qD yQ HV HVF HC
/-- The finder, made. -/
theorem FinW.finH {h0 h : Hp} {F : Id} {l : List Opn} {t : Tab} {a b : AV} (w : FinW h0 h F l t l.length a b) (hp : 0 < l.length) : ∃ rid did, FinH h F l t [] rid did .nil := by
  rcases w.st with ⟨h1, _, _⟩ | ⟨re, rs, de, ds, rfl, rfl, e1, e2, e3, e4, e5, e6, e7, e8, e9⟩
  · omega
  · rw [List.take_length] at e1 e2
    exact ⟨(re, rs), (de, ds), w.fin, e1, e2, .inl ⟨rfl, rfl⟩, w.eF, e3, e4, e5, e6, e7, fun id h => by simp [idOf] at h⟩
theorem call_nf {d : Option Nat} {K : St → Prop} {env : Nat → AV} {g : Hp} {l : List Opn} {t : Tab} (hl : ∀ o ∈ l, o.ok) (hn : l.length ≤ 1024)
    (k : ∀ h' F a b, FinW g h' F l t l.length a b → qQ h' → K ⟨putA env d (.ptr F 0), h'.tick⟩) :
    yZ Try.prog d K env g false (.fn 65 []) [.row (l.map opC), .agg (tabC t)] :=
  yT (HC.mono (f65 hl hn) fun r h' ⟨F, a, b, hr, w⟩ hf => by rw [hr]; exact k h' F a b w hf)
theorem call_once {d : Option Nat} {K : St → Prop} {env : Nat → AV} {g : Hp} {F : Id} {l : List Opn} {t : Tab} {rid did : Id} (hX : FinH g F l t [] rid did .nil) (hl : ∀ o ∈ l, o.ok) (ht : tabOK t) (hn : l.length ≤ 1024)
    (k : ∀ h' out', FinH h' F l t (onceE l t l.length) rid did out' → qQ h' → FS g F .nil h' out' → K ⟨putA env d (.tup []), h'.tick⟩) :
    yZ Try.prog d K env g false (.fn 66 []) [.ptr F 0] :=
  yT (HC.mono (f66 hX (fun x h => by simp [idOf] at h) hl ht hn) fun r h' ⟨hr, out', h1, h2⟩ hf => by rw [hr]; exact k h' out' h1 hf h2)
theorem Ext.tr {h g k : Hp} (a : Ext h g) (b : Ext g k) : Ext h k := ⟨Nat.le_trans a.1 b.1, fun x hx => (b.2 x (Nat.le_trans hx a.1)).trans (a.2 x hx)⟩
theorem Ext.le {h g : Hp} (a : Ext h g) : h.ep ≤ g.ep := a.1
set_option maxHeartbeats 1000000 in
theorem f40 {h0 : Hp} {l : List Opn} {t : Tab} (hl : ∀ o ∈ l, o.ok) (ht : tabOK t) (hn : l.length ≤ 1024) (hp : 0 < l.length) (hR : errR l t = 0) :
    HC Try.prog 40 [.row (l.map opC), .agg (tabC t)] h0 fun r h' => ∃ out, r = .tup [out, i64 0] ∧ OutR h' out (onceE l t l.length) ∧ Ext h0 h' := by
  refine yX yK cf40 (by simp) fun hF => ?_
  unfold ac40 re40
  refine yF fun env hE => ?_; have e0 := hE 0; have e1 := hE 1; have e3 := hE 3; have e4 := hE 4; have e5 := hE 5; have e6 := hE 6; have e7 := hE 7; simp -implicitDefEqProofs only [push_cast] at e0 e1 e3 e4 e5 e6 e7; clear hE
  have hr := f64 l t hl
  rw [hR] at hr
  have hb := hR
  have h16 : ∀ l t a b o, (finC l t a b o)[16]? = some o := fun _ _ _ _ _ => rfl
  repeat' (first | ((try clear hf); with_reducible refine zO fun env K hE hK hf => ?_; have n : _ ∧ _ ∧ _ ∧ _ ∧ _ ∧ _ ∧ _ := ⟨hE 0, hE 1, hE 3, hE 4, hE 5, hE 6, hE 7⟩; simp -implicitDefEqProofs only [push_cast, reduceIte, Nat.reduceEqDiff, e0, e1, e3, e4, e5, e6, e7] at n; clear hE e0 e1 e3 e4 e5 e6 e7; obtain ⟨e0, e1, e3, e4, e5, e6, e7⟩ := n) | (with_reducible refine hK _ _ ?_; clear hK K) | (with_reducible first | refine zK ?_ | refine zU ?_ | refine zB ?_ | refine zF ?_ | refine zD ?_ | refine zN ?_ | refine zT ?_ | refine zC ?_ | refine zG ?_ | refine zV ?_ | refine zE ?_ | refine zA (by decide) ?_ | refine zL ?_ | refine zQ ?_ | refine zM ?_ | refine yB ?_ | refine yC ?_ | refine zW (by assumption) ?_ | refine zY (by assumption) ?_) | (refine zH rfl ?_) | (simp -implicitDefEqProofs only [push_cast, sevalprocAttr, eq_self, e0, e1, e3, e4, e5, e6, e7, hF.at, hb, h16]) | (simp -implicitDefEqProofs (disch := omega) only [zR, zZ, zS, zJ, e0, e1, e3, e4, e5, e6, e7, hF.at, hb, h16]) | (with_reducible refine yE ?_ ?_) | (refine zP rfl (fun bb => ?_) (fun bb => ?_) <;> simp only [bb]) | (with_reducible refine zX (fun bb => ?_) (fun bb => ?_)) | ((with_reducible refine And.intro ?_ ?_); omega) | (refine yG hr ?_) | (refine call_nf hl hn ?_; intro h F a b w hF; have hx0 : Ext h0 h := Ext.tr (by repeat (first | exact Ext.refl _ | refine Ext.tick ?_ | refine Ext.push ?_ (by omega) _)) w.ex; have lF : h0.ep < F.1 := Nat.lt_of_le_of_lt (Ext.le (by repeat (first | exact Ext.refl _ | refine Ext.tick ?_ | refine Ext.push ?_ (by omega) _))) w.lF; obtain ⟨rid, did, hX⟩ := w.finH hp; have hb := hX.fin) | (refine call_once (hX.ext (by repeat (first | exact Ext.refl _ | refine Ext.tick ?_))) hl ht hn ?_; intro h out hX hF hS; have hb := hX.fin) | fail)
  refine ⟨out, rfl, (hX.ext (by repeat (first | exact Ext.refl _ | refine Ext.tick ?_))).outr, ?_⟩
  have hE : Ext h0 h := ⟨Nat.le_trans hx0.1 (Nat.le_trans (Nat.le_trans (Nat.le_succ _) (Nat.le_succ _)) hS.1), fun x hx => ((hS.2 x (Nat.le_trans hx (Nat.le_trans hx0.1 (Nat.le_trans (Nat.le_succ _) (Nat.le_succ _)))) (fun e => by rw [e] at hx; omega) (by simp [idOf])).1).trans (hx0.2 x hx)⟩
  repeat (first | exact hE | refine Ext.tick ?_)
end Go.Proofs.Hx

set_option linter.unusedVariables false
set_option linter.unusedSimpArgs false
namespace Go.Proofs.Hx
open Go Go.Proofs
attribute [local irreducible] yM awp opK goV goM yZ qB qD yQ HV HVF HC
theorem f40'e {h0 : Hp} {l : List Opn} {t : Tab} (hl : ∀ o ∈ l, o.ok) (hR : errR l t ≠ 0) :
    HC Try.prog 40 [.row (l.map opC), .agg (tabC t)] h0 fun r h' => r = .tup [.nil, i64 (errR l t)] ∧ Ext h0 h' := by
  refine yX yK cf40 (by simp) fun hF => ?_
  unfold ac40 re40
  refine yF fun env hE => ?_; have e0 := hE 0; have e1 := hE 1; have e3 := hE 3; have e4 := hE 4; have e5 := hE 5; have e6 := hE 6; have e7 := hE 7; simp -implicitDefEqProofs only [push_cast] at e0 e1 e3 e4 e5 e6 e7; clear hE
  have hr := f64 l t hl
  have hb : decide (errR l t = 0) = false := by simpa using hR
  have hb2 : decide (errR l t ≠ 0) = true := by simpa using hR
  repeat' (first | ((try clear hf); with_reducible refine zO fun env K hE hK hf => ?_; have n : _ ∧ _ ∧ _ ∧ _ ∧ _ ∧ _ ∧ _ := ⟨hE 0, hE 1, hE 3, hE 4, hE 5, hE 6, hE 7⟩; simp -implicitDefEqProofs only [push_cast, reduceIte, Nat.reduceEqDiff, e0, e1, e3, e4, e5, e6, e7] at n; clear hE e0 e1 e3 e4 e5 e6 e7; obtain ⟨e0, e1, e3, e4, e5, e6, e7⟩ := n) | (with_reducible refine hK _ _ ?_; clear hK K) | (with_reducible first | refine zK ?_ | refine zU ?_ | refine zB ?_ | refine zF ?_ | refine zD ?_ | refine zN ?_ | refine zT ?_ | refine zC ?_ | refine zG ?_ | refine zV ?_ | refine zE ?_ | refine zA (by decide) ?_ | refine zL ?_ | refine zQ ?_ | refine zM ?_ | refine yB ?_ | refine yC ?_ | refine zW (by assumption) ?_ | refine zY (by assumption) ?_) | (refine zH rfl ?_) | (simp -implicitDefEqProofs only [push_cast, sevalprocAttr, eq_self, e0, e1, e3, e4, e5, e6, e7, hF.at, hb, hb2]) | (simp -implicitDefEqProofs (disch := omega) only [zR, zZ, zS, zJ, e0, e1, e3, e4, e5, e6, e7, hF.at, hb, hb2]) | (with_reducible refine yE ?_ ?_) | (refine zP rfl (fun bb => ?_) (fun bb => ?_) <;> simp only [bb]) | (with_reducible refine zX (fun bb => ?_) (fun bb => ?_)) | ((with_reducible refine And.intro ?_ ?_); omega) | (refine yG hr ?_) | fail)
  exact (show Ext h0 _ from (by repeat (first | exact Ext.refl _ | assumption | refine Ext.tick ?_ | refine Ext.push ?_ (by omega) _ | refine Ext.put ?_ (by omega) _)))
/-- once over no operation. -/
theorem f66'n {h0 : Hp} {F : Id} {t : Tab} {a b : AV} (hb : h0.hp F = some ⟨true, finW [] t a b⟩) (hFe : F.1 ≤ h0.ep) :
    HC Try.prog 66 [.ptr F 0] h0 fun r h' => r = .tup [] ∧ Ext h0 h' := by
  refine yX yK cf66 (by simp) fun hF => ?_
  unfold ac66 re66
  refine yF fun env hE => ?_; have e0 := hE 0; have e2 := hE 2; have e3 := hE 3; have e4 := hE 4; have e9 := hE 9; have e10 := hE 10; have e11 := hE 11; have e13 := hE 13; have e14 := hE 14; have e15 := hE 15; simp -implicitDefEqProofs only [push_cast] at e0 e2 e3 e4 e9 e10 e11 e13 e14 e15; clear hE
  obtain ⟨Fe, Fs⟩ := F
  have h00 : (finW [] t a b)[0]? = some (.row []) := rfl
  have h01 : lenV (.row []) = some (.lit (.int .i64 0)) := rfl
  repeat' (first | ((try clear hf); with_reducible refine zO fun env K hE hK hf => ?_; have n : _ ∧ _ ∧ _ ∧ _ ∧ _ ∧ _ ∧ _ ∧ _ ∧ _ ∧ _ := ⟨hE 0, hE 2, hE 3, hE 4, hE 9, hE 10, hE 11, hE 13, hE 14, hE 15⟩; simp -implicitDefEqProofs only [push_cast, reduceIte, Nat.reduceEqDiff, e0, e2, e3, e4, e9, e10, e11, e13, e14, e15] at n; clear hE e0 e2 e3 e4 e9 e10 e11 e13 e14 e15; obtain ⟨e0, e2, e3, e4, e9, e10, e11, e13, e14, e15⟩ := n) | (with_reducible refine hK _ _ ?_; clear hK K) | (with_reducible first | refine zK ?_ | refine zU ?_ | refine zB ?_ | refine zF ?_ | refine zD ?_ | refine zN ?_ | refine zT ?_ | refine zC ?_ | refine zG ?_ | refine zV ?_ | refine zE ?_ | refine zA (by decide) ?_ | refine zL ?_ | refine zQ ?_ | refine zM ?_ | refine yB ?_ | refine yC ?_ | refine zW (by assumption) ?_ | refine zY (by assumption) ?_) | (refine zH rfl ?_) | (simp -implicitDefEqProofs only [push_cast, sevalprocAttr, eq_self, e0, e2, e3, e4, e9, e10, e11, e13, e14, e15, hb, hF.at, h00, h01]) | (simp -implicitDefEqProofs (disch := omega) only [zR, zZ, zS, zJ, e0, e2, e3, e4, e9, e10, e11, e13, e14, e15, hb, hF.at, h00, h01]) | (with_reducible refine yE ?_ ?_) | (refine zP rfl (fun bb => ?_) (fun bb => ?_) <;> simp only [bb]) | (with_reducible refine zX (fun bb => ?_) (fun bb => ?_)) | ((with_reducible refine And.intro ?_ ?_); omega) | fail)
  refine yL (fun n σ => σ.env 9 = i64 0 ∧ σ.env 10 = i64 0 ∧ Ext h0 σ.h) 0 ⟨by simp -implicitDefEqProofs only [push_cast, sevalprocAttr, eq_self], by simp -implicitDefEqProofs only [push_cast, sevalprocAttr, eq_self], (by repeat (first | exact Ext.refl _ | assumption | refine Ext.tick ?_ | refine Ext.push ?_ (by omega) _ | refine Ext.put ?_ (by omega) _))⟩ ?_
  rintro n ⟨env, h⟩ ⟨e9, e10, hE⟩
  simp only at e9 e10 hE
  have e0 : True := trivial; have e2 : True := trivial; have e3 : True := trivial; have e4 : True := trivial; have e11 : True := trivial; have e13 : True := trivial; have e14 : True := trivial; have e15 : True := trivial
  unfold l66_1
  refine yI fun hF => ?_
  repeat' (first | ((try clear hf); with_reducible refine zO fun env K hE hK hf => ?_; have n : _ ∧ _ ∧ _ ∧ _ ∧ _ ∧ _ ∧ _ ∧ _ ∧ _ ∧ _ := ⟨hE 0, hE 2, hE 3, hE 4, hE 9, hE 10, hE 11, hE 13, hE 14, hE 15⟩; simp -implicitDefEqProofs only [push_cast, reduceIte, Nat.reduceEqDiff, e0, e2, e3, e4, e9, e10, e11, e13, e14, e15] at n; clear hE e0 e2 e3 e4 e9 e10 e11 e13 e14 e15; obtain ⟨e0, e2, e3, e4, e9, e10, e11, e13, e14, e15⟩ := n) | (with_reducible refine hK _ _ ?_; clear hK K) | (with_reducible first | refine zK ?_ | refine zU ?_ | refine zB ?_ | refine zF ?_ | refine zD ?_ | refine zN ?_ | refine zT ?_ | refine zC ?_ | refine zG ?_ | refine zV ?_ | refine zE ?_ | refine zA (by decide) ?_ | refine zL ?_ | refine zQ ?_ | refine zM ?_ | refine yB ?_ | refine yC ?_ | refine zW (by assumption) ?_ | refine zY (by assumption) ?_) | (refine zH rfl ?_) | (simp -implicitDefEqProofs only [push_cast, sevalprocAttr, eq_self, e0, e2, e3, e4, e9, e10, e11, e13, e14, e15]) | (simp -implicitDefEqProofs (disch := omega) only [zR, zZ, zS, zJ, e0, e2, e3, e4, e9, e10, e11, e13, e14, e15]) | (with_reducible refine yE ?_ ?_) | (refine zP rfl (fun bb => ?_) (fun bb => ?_) <;> simp only [bb]) | (with_reducible refine zX (fun bb => ?_) (fun bb => ?_)) | ((with_reducible refine And.intro ?_ ?_); omega) | fail)
  exact (show Ext h0 _ from (by repeat (first | exact Ext.refl _ | assumption | refine Ext.tick ?_ | refine Ext.push ?_ (by omega) _ | refine Ext.put ?_ (by omega) _)))
theorem f40'n {h0 : Hp} {t : Tab} (hR : errR [] t = 0) :
    HC Try.prog 40 [.row [], .agg (tabC t)] h0 fun r h' => r = .tup [.nil, i64 0] ∧ Ext h0 h' := by
  refine yX yK cf40 (by simp) fun hF => ?_
  unfold ac40 re40
  refine yF fun env hE => ?_; have e0 := hE 0; have e1 := hE 1; have e3 := hE 3; have e4 := hE 4; have e5 := hE 5; have e6 := hE 6; have e7 := hE 7; simp -implicitDefEqProofs only [push_cast] at e0 e1 e3 e4 e5 e6 e7; clear hE
  have hr := f64 [] t (by simp)
  rw [hR] at hr
  have hb := hR
  have h16 : ∀ t a b, (finW [] t a b)[16]? = some .nil := fun _ _ _ => rfl
  repeat' (first | ((try clear hf); with_reducible refine zO fun env K hE hK hf => ?_; have n : _ ∧ _ ∧ _ ∧ _ ∧ _ ∧ _ ∧ _ := ⟨hE 0, hE 1, hE 3, hE 4, hE 5, hE 6, hE 7⟩; simp -implicitDefEqProofs only [push_cast, reduceIte, Nat.reduceEqDiff, e0, e1, e3, e4, e5, e6, e7] at n; clear hE e0 e1 e3 e4 e5 e6 e7; obtain ⟨e0, e1, e3, e4, e5, e6, e7⟩ := n) | (with_reducible refine hK _ _ ?_; clear hK K) | (with_reducible first | refine zK ?_ | refine zU ?_ | refine zB ?_ | refine zF ?_ | refine zD ?_ | refine zN ?_ | refine zT ?_ | refine zC ?_ | refine zG ?_ | refine zV ?_ | refine zE ?_ | refine zA (by decide) ?_ | refine zL ?_ | refine zQ ?_ | refine zM ?_ | refine yB ?_ | refine yC ?_ | refine zW (by assumption) ?_ | refine zY (by assumption) ?_) | (refine zH rfl ?_) | (simp -implicitDefEqProofs only [push_cast, sevalprocAttr, eq_self, e0, e1, e3, e4, e5, e6, e7, hF.at, hb, h16]) | (simp -implicitDefEqProofs (disch := omega) only [zR, zZ, zS, zJ, e0, e1, e3, e4, e5, e6, e7, hF.at, hb, h16]) | (with_reducible refine yE ?_ ?_) | (refine zP rfl (fun bb => ?_) (fun bb => ?_) <;> simp only [bb]) | (with_reducible refine zX (fun bb => ?_) (fun bb => ?_)) | ((with_reducible refine And.intro ?_ ?_); omega) | (refine yG hr ?_) | (refine call_nf (l := []) (by simp) (by simp) ?_; intro h F a b w hF; have hx0 : Ext h0 h := Ext.tr (by repeat (first | exact Ext.refl _ | assumption | refine Ext.tick ?_ | refine Ext.push ?_ (by omega) _ | refine Ext.put ?_ (by omega) _)) w.ex; have hb := w.fin) | (refine yT (HC.mono (f66'n (F := F) (t := t) (a := a) (b := b) hb (Nat.le_trans w.eF (by simp only [yN]; omega))) fun r h' ⟨hr, hE⟩ hf => ?_); have hb := (hE.2 F (Nat.le_trans w.eF (by simp only [yN]; omega))).trans hb; rw [hr]) | fail)
  have hE2 : Ext h0 h' := Ext.tr (Ext.tick (Ext.tick hx0)) hE
  exact (show Ext h0 _ from (by repeat (first | exact Ext.refl _ | assumption | refine Ext.tick ?_)))
theorem errR_ok {l : List Opn} {t : Tab} (h : errR l t = 0) : tabOK t ∧ l.length ≤ 1024 ∧ ∀ o ∈ l, opOK o := by
  unfold errR tabE at h
  by_cases h1 : tabOK t
  · by_cases h2 : 1024 < l.length
    · simp [h1, h2] at h
    · by_cases h3 : ∀ o ∈ l, opOK o
      · exact ⟨h1, by omega, h3⟩
      · simp only [if_pos h1, if_neg h2, if_neg h3] at h; simp at h
  · simp [h1] at h
/-- deps.Of, whatever the list. -/
theorem of_all {h0 : Hp} {l : List Opn} {t : Tab} (hl : ∀ o ∈ l, o.ok) :
    HC Try.prog 40 [.row (l.map opC), .agg (tabC t)] h0 fun r h' => Ext h0 h' ∧ ((errR l t ≠ 0 ∧ r = .tup [.nil, i64 (errR l t)]) ∨ (errR l t = 0 ∧ ∃ out, r = .tup [out, i64 0] ∧ OutR h' out (onceE l t l.length))) := by
  by_cases hR : errR l t = 0
  · obtain ⟨ht, hn, _⟩ := errR_ok hR
    by_cases hp : 0 < l.length
    · exact HC.mono (f40 hl ht hn hp hR) fun r h' ⟨out, h1, h2, h3⟩ => ⟨h3, .inr ⟨hR, out, h1, h2⟩⟩
    · obtain rfl : l = [] := List.length_eq_zero_iff.1 (by omega)
      exact HC.mono (f40'n hR) fun r h' ⟨h1, h2⟩ => ⟨h2, .inr ⟨hR, .nil, h1, .inl ⟨rfl, rfl⟩⟩⟩
  · exact HC.mono (f40'e hl hR) fun r h' ⟨h1, h2⟩ => ⟨h2, .inl ⟨hR, h1⟩⟩
end Go.Proofs.Hx

set_option linter.unusedVariables false
set_option linter.unusedSimpArgs false
namespace Go.Proofs.Hx
open Go Go.Proofs
/-! ### Slices that grow, whatever they lie in -/
def killA (h : Hp) (a : AV) : Hp := match idOf a with | some t => h.kill t | none => h
theorem killA_ep (h : Hp) (a : AV) : (killA h a).ep = h.ep := by unfold killA; split <;> rfl
theorem killA_ne (h : Hp) (a : AV) {x : Id} (hx : idOf a ≠ some x) : (killA h a).hp x = h.hp x := by
  unfold killA
  split
  · rename_i t e
    exact kill_ne _ _ _ (fun e' => hx (by rw [e, e']))
  · rfl
theorem Ext.killA {h g : Hp} (e : Ext h g) {a : AV} (ha : ∀ x, idOf a = some x → h.ep < x.1) : Ext h (Hx.killA g a) :=
  ⟨by rw [killA_ep]; exact e.1, fun x hx => by rw [killA_ne _ _ (fun e' => by have := ha x e'; omega)]; exact e.2 x hx⟩
/-- A slice of 'es', each with cells of its own. -/
structure SlO {α : Type} (f : α → List AV) (sz : Nat) (h : Hp) (a : AV) (es : List α) : Prop where
  st : (a = .nil ∧ es = []) ∨ (∃ id, a = .sl id 0 es.length sz ∧ h.hp id = some ⟨true, es.flatMap f⟩ ∧ id.1 ≤ h.ep)
theorem SlO.nil {α : Type} (f : α → List AV) (sz : Nat) (h : Hp) : SlO f sz h .nil [] := ⟨.inl ⟨rfl, rfl⟩⟩
theorem SlO.ext {α : Type} {f : α → List AV} {sz : Nat} {h g : Hp} {a : AV} {es : List α} (s : SlO f sz h a es) (he : Ext h g) : SlO f sz g a es := by
  rcases s.st with h1 | ⟨id, h1, h2, h3⟩
  · exact ⟨.inl h1⟩
  · exact ⟨.inr ⟨id, h1, (he.2 id h3).trans h2, Nat.le_trans h3 he.1⟩⟩
theorem SlO.len {α : Type} {f : α → List AV} {sz : Nat} {h : Hp} {a : AV} {es : List α} (s : SlO f sz h a es) : lenV a = some (i64 es.length) := by
  rcases s.st with ⟨rfl, rfl⟩ | ⟨id, rfl, h2, h3⟩
  · exact lenV_nil
  · exact lenV_sl _ _ _ _
theorem SlO.id_le {α : Type} {f : α → List AV} {sz : Nat} {h : Hp} {a : AV} {es : List α} (s : SlO f sz h a es) {x : Id} (hx : idOf a = some x) : x.1 ≤ h.ep := by
  rcases s.st with ⟨rfl, rfl⟩ | ⟨id, rfl, h2, h3⟩
  · simp [idOf] at hx
  · simp [idOf] at hx; subst hx; exact h3
/-- The same, where the slice has not been touched. -/
theorem SlO.keep {α : Type} {f : α → List AV} {sz : Nat} {h g : Hp} {a : AV} {es : List α} (s : SlO f sz h a es) (hk : ∀ x, idOf a = some x → g.hp x = h.hp x) (he : h.ep ≤ g.ep) : SlO f sz g a es := by
  rcases s.st with h1 | ⟨id, h1, h2, h3⟩
  · exact ⟨.inl h1⟩
  · exact ⟨.inr ⟨id, h1, (hk id (by rw [h1]; rfl)).trans h2, Nat.le_trans h3 he⟩⟩
/-- It has memory, where there is an element. -/
theorem SlO.blk {α : Type} {f : α → List AV} {sz : Nat} {h : Hp} {a : AV} {es : List α} (s : SlO f sz h a es) (hp : 0 < es.length) : ∃ e n, a = .sl (e, n) 0 es.length sz ∧ h.hp (e, n) = some ⟨true, es.flatMap f⟩ ∧ e ≤ h.ep := by
  rcases s.st with ⟨rfl, rfl⟩ | ⟨⟨e, n⟩, h1, h2, h3⟩
  · simp at hp
  · exact ⟨e, n, h1, h2, h3⟩
theorem flat_len {α : Type} {f : α → List AV} {sz : Nat} (hf : ∀ a, (f a).length = sz) (l : List α) : (l.flatMap f).length = l.length * sz := by
  induction l with
  | nil => simp
  | cons a l ih => rw [List.flatMap_cons, List.length_append, hf, ih, List.length_cons, Nat.add_mul]; omega
theorem flat_drop {α : Type} {f : α → List AV} {sz : Nat} (hf : ∀ a, (f a).length = sz) (l : List α) (k : Nat) : (l.flatMap f).drop (k * sz) = (l.drop k).flatMap f := by
  induction l generalizing k with
  | nil => simp
  | cons a l ih =>
    cases k with
    | zero => simp
    | succ k =>
      have : (k + 1) * sz = (f a).length + k * sz := by rw [hf a, Nat.add_mul]; omega
      rw [List.flatMap_cons, this, ← List.drop_drop, List.drop_left, ih]
      rfl
theorem flat_take {α : Type} {f : α → List AV} {sz : Nat} (hf : ∀ a, (f a).length = sz) (l : List α) {k : Nat} (hk : k < l.length) : ((l.flatMap f).drop (k * sz)).take sz = f l[k] := by
  rw [flat_drop hf, List.drop_eq_getElem_cons hk, List.flatMap_cons, ← hf l[k], List.take_left]
theorem flat_get {α : Type} {f : α → List AV} {sz : Nat} (hf : ∀ a, (f a).length = sz) (l : List α) {k : Nat} (hk : k < l.length) {i : Nat} (hi : i < sz) : (l.flatMap f)[k * sz + i]? = (f l[k])[i]? := by
  rw [← List.getElem?_drop, flat_drop hf, List.drop_eq_getElem_cons hk, List.flatMap_cons, List.getElem?_append_left (by rw [hf]; exact hi)]
theorem SlO.app {α : Type} {f : α → List AV} {sz : Nat} {h : Hp} {a : AV} {es : List α} (s : SlO f sz h a es) (hf : ∀ a, (f a).length = sz) {bytes n : Nat} {new : List AV} (id : Id) (hn : n ≠ 0) (ho : new.all one = true)
    (hb : (es.length + n + (es.length + n) / 4 + 512) * bytes ≤ 281474976710656) : appV h id sz bytes n new a = some (.sl id 0 (es.length + n) sz, (killA h a).push id (es.flatMap f ++ new)) := by
  rcases s.st with ⟨rfl, rfl⟩ | ⟨t, rfl, h2, h3⟩
  · simp only [List.length_nil, Nat.zero_add] at hb ⊢
    rw [appV_nil _ _ hn (Nat.le_trans (Nat.mul_le_mul_right bytes (by omega)) hb)]
    rfl
  · rw [appV_sl_eq, h2]
    simp only [Option.bind_some]
    rw [if_pos ⟨trivial, trivial, ho, hb⟩, List.drop_zero, ← flat_len hf, List.take_length]
    rfl
theorem OutR.slo {h : Hp} {a : AV} {es : List Edg} (o : OutR h a es) : SlO edC 5 h a es := ⟨o⟩
theorem rep1 (n : Nat) (a : AV) : (List.replicate n [a]).flatten = List.replicate n a := by
  induction n with
  | zero => rfl
  | succ n ih => rw [List.replicate_succ, List.flatten_cons, ih]; rfl
def intC (n : Int) : List AV := [i64 n]
theorem ints_imms (l : List Int) : immss (l.map intC) = true := qI fun i x hx => by simp at hx; obtain ⟨a, _, rfl⟩ := hx; rfl
theorem int_at {l : List Int} {k : Nat} (hk : k < l.length) (kd : IntKind) : idxAddrV none 1 (.row (l.map intC)) (.lit (.int kd (k : Int))) = some (.ip [i64 (l.getD k 0)]) := by
  rw [idxAddr_row intC 1 (fun _ => rfl) l kd hk]
  simp [intC, List.getD_eq_getElem?_getD, hk]
def iC (n : Int) : AV := i64 n
theorem rep_map (n : Nat) (v : Int) : List.replicate n (i64 v) = (List.replicate n v).map iC := by simp [iC]
theorem set_at {α : Type} (f : α → AV) (H : List α) {k : Nat} (hk : k < H.length) (v : α) : (H.map f).take k ++ [f v] ++ (H.map f).drop (k + 1) = (H.set k v).map f := by
  rw [← List.map_take, ← List.map_drop, List.set_eq_take_append_cons_drop, if_pos hk]
  simp
theorem set_cell (c : List AV) {k : Nat} (hk : k < c.length) (v : AV) : c.take k ++ [v] ++ c.drop (k + 1) = c.set k v := by
  rw [List.set_eq_take_append_cons_drop, if_pos hk]
  simp
/-! ### Rows of slices -/
structure RowsO {α : Type} (f : α → List AV) (sz : Nat) (h : Hp) (E : Nat) (c : List AV) (fs : Nat → List α) : Prop where
  get : ∀ (i : Nat) (a : AV), c[i]? = some a → SlO f sz h a (fs i) ∧ ∀ x, idOf a = some x → E < x.1
  sep : ∀ (i j : Nat) (a b : AV) (x : Id), c[i]? = some a → c[j]? = some b → i ≠ j → idOf a = some x → idOf b ≠ some x
theorem RowsO.keep {α : Type} {f : α → List AV} {sz : Nat} {h g : Hp} {E : Nat} {c : List AV} {fs : Nat → List α} (r : RowsO f sz h E c fs) (hk : ∀ x, E < x.1 → x.1 ≤ h.ep → g.hp x = h.hp x) (he : h.ep ≤ g.ep) : RowsO f sz g E c fs :=
  ⟨fun i a hi => ⟨(r.get i a hi).1.keep (fun x hx => hk x ((r.get i a hi).2 x hx) ((r.get i a hi).1.id_le hx)) he, (r.get i a hi).2⟩, r.sep⟩
theorem RowsO.ext {α : Type} {f : α → List AV} {sz : Nat} {h g : Hp} {E : Nat} {c : List AV} {fs : Nat → List α} (r : RowsO f sz h E c fs) (he : Ext h g) : RowsO f sz g E c fs := r.keep (fun x _ hx => he.2 x hx) he.1
/-- One of the rows grows. -/
theorem RowsO.app {α : Type} {f : α → List AV} {sz : Nat} {h g : Hp} {E : Nat} {c : List AV} {fs : Nat → List α} (r : RowsO f sz h E c fs) {k : Nat} {a : AV} (hk : c[k]? = some a) {id : Id} (hid : h.ep < id.1) (hE : E ≤ h.ep) (e : α)
    (hg : g.hp id = some ⟨true, (fs k).flatMap f ++ f e⟩) (hi : id.1 ≤ g.ep) (he : h.ep ≤ g.ep) (ho : ∀ x, E < x.1 → x.1 ≤ h.ep → idOf a ≠ some x → g.hp x = h.hp x) :
    RowsO f sz g E (c.set k (.sl id 0 ((fs k).length + 1) sz)) (fun i => if i = k then fs k ++ [e] else fs i) := by
  have hkl : k < c.length := (List.getElem?_eq_some_iff.1 hk).1
  have new : ∀ (i : Nat) (b : AV), (c.set k (.sl id 0 ((fs k).length + 1) sz))[i]? = some b → (i = k ∧ b = .sl id 0 ((fs k).length + 1) sz) ∨ (i ≠ k ∧ c[i]? = some b) := by
    intro i b hb
    rw [List.getElem?_set] at hb
    by_cases e1 : k = i
    · subst e1
      rw [if_pos rfl, if_pos hkl] at hb
      cases hb
      exact .inl ⟨rfl, rfl⟩
    · rw [if_neg e1] at hb
      exact .inr ⟨Ne.symm e1, hb⟩
  refine ⟨fun i b hb => ?_, fun i j b d x hb hd hij hx => ?_⟩
  · rcases new i b hb with ⟨rfl, rfl⟩ | ⟨h1, h2⟩
    · refine ⟨⟨.inr ⟨id, by simp, ?_, hi⟩⟩, fun x hx => by simp [idOf] at hx; subst hx; omega⟩
      rw [hg]
      simp
    · obtain ⟨g1, g2⟩ := r.get i b h2
      refine ⟨?_, g2⟩
      rw [if_neg h1]
      exact g1.keep (fun x hx => ho x (g2 x hx) (g1.id_le hx) (r.sep i k b a x h2 hk h1 hx)) he
  · rcases new i b hb with ⟨rfl, rfl⟩ | ⟨h1, h2⟩ <;> rcases new j d hd with ⟨rfl, rfl⟩ | ⟨h3, h4⟩
    · exact absurd rfl hij
    · simp [idOf] at hx
      subst hx
      intro h
      have := (r.get j d h4).1.id_le h
      omega
    · intro h
      simp [idOf] at h
      subst h
      have := (r.get i b h2).1.id_le hx
      omega
    · exact r.sep i j b d x h2 h4 hij hx
theorem sepV_old {a : AV} {i : Id} {o : Nat} {E : Nat} (ha : ∀ x, idOf a = some x → x.1 ≤ E) (hi : E < i.1) : sepV (.ptr i o) a = True := by
  simp only [sepV, eq_iff_iff, iff_true]
  split
  · rename_i x y h1 h2
    intro e
    have := ha y h2
    simp [idOf] at h1
    rw [h1, e] at hi
    omega
  · trivial
theorem yD {x y : Int} (h : x = y) : (.lit (.int .i64 x) : AV) = i64 y := by rw [h]
theorem yS {P : Program} {l : List zI} {s : List (Nat × Nat)} {b c : ACode} {Q : AEx → St → Prop} {env : Nat → AV} {h : Hp} (k : qQ h → awp P (.seq (.seq (.ops l s) b) c) Q ⟨env, h⟩) : awp P (.seq (.seq (.ops l s) b) c) Q ⟨env, h⟩ := fun hf => k hf hf
theorem yR {P : Program} {l : List zI} {s : List (Nat × Nat)} {b c d : ACode} {Q : AEx → St → Prop} {env : Nat → AV} {h : Hp} (k : qQ h → awp P (.seq (.seq (.seq (.ops l s) b) c) d) Q ⟨env, h⟩) : awp P (.seq (.seq (.seq (.ops l s) b) c) d) Q ⟨env, h⟩ := fun hf => k hf hf
theorem ed_0 (e : Edg) : (edC e)[0]? = some (i64 e.f) := rfl
theorem ed_1 (e : Edg) : (edC e)[1]? = some (i64 e.t) := rfl
theorem ed_2 (e : Edg) : (edC e)[2]? = some (i64 e.l) := rfl
theorem ed_3 (e : Edg) : (edC e)[3]? = some (i64 e.d) := rfl
theorem ed_drop (e : Edg) : (edC e).drop 5 = [] := rfl
attribute [push_cast] qS lenV_sl lenV_nil maxV_two op_0 one_sl ed_0 ed_1 ed_2 ed_3 edC_take qO edC_one ed_drop killA_ep
end Go.Proofs.Hx

set_option linter.unusedVariables false
set_option linter.unusedSimpArgs false
namespace Go.Proofs.Hx
open Go Go.Proofs
attribute [local irreducible] yM awp opK goV goM yZ qB qD yQ HV HVF HC
/-! ### The reference's kinds -/
def refA (s : Shp) : List AV := [.lit (.string s.nm), i64 s.cl, bl s.d, bl s.a, bl s.b, bl s.n, bl s.im]
theorem refA_len (s : Shp) : (refA s).length = 7 := rfl
theorem refA_one (s : Shp) : (refA s).all one = true := rfl
theorem refA_1 (s : Shp) : (refA s)[1]? = some (i64 s.cl) := rfl
theorem refA_2 (s : Shp) : (refA s)[2]? = some (bl s.d) := rfl
theorem refA_3 (s : Shp) : (refA s)[3]? = some (bl s.a) := rfl
theorem refA_4 (s : Shp) : (refA s)[4]? = some (bl s.b) := rfl
theorem refA_5 (s : Shp) : (refA s)[5]? = some (bl s.n) := rfl
theorem refA_6 (s : Shp) : (refA s)[6]? = some (bl s.im) := rfl
theorem refA_drop (s : Shp) : (refA s).drop 7 = [] := rfl
attribute [push_cast] refA_len refA_one refA_1 refA_2 refA_3 refA_4 refA_5 refA_6 refA_drop
def tblRef : Tbl := [(86, 57, ac86, re86), (109, 24, ac109, re109)]
theorem yY : TblOk Try.prog tblRef := by simp only [TblOk, tblRef, List.forall_mem_cons, List.not_mem_nil, false_imp_iff, implies_true, and_true]; exact ⟨cf86, cf109⟩
theorem ref_0 : HV Try.prog 86 [.lit (.int .i8 0)] (.tup [.agg (refA (shpT 0)), bl (shpT 0).is]) := yW yK (T := tblRef) yY 1000 rfl (by kernel_rfl) (by kernel_rfl)
theorem ref_1 : HV Try.prog 86 [.lit (.int .i8 1)] (.tup [.agg (refA (shpT 1)), bl (shpT 1).is]) := yW yK (T := tblRef) yY 1000 rfl (by kernel_rfl) (by kernel_rfl)
theorem ref_2 : HV Try.prog 86 [.lit (.int .i8 2)] (.tup [.agg (refA (shpT 2)), bl (shpT 2).is]) := yW yK (T := tblRef) yY 1000 rfl (by kernel_rfl) (by kernel_rfl)
theorem ref_3 : HV Try.prog 86 [.lit (.int .i8 3)] (.tup [.agg (refA (shpT 3)), bl (shpT 3).is]) := yW yK (T := tblRef) yY 1000 rfl (by kernel_rfl) (by kernel_rfl)
theorem ref_4 : HV Try.prog 86 [.lit (.int .i8 4)] (.tup [.agg (refA (shpT 4)), bl (shpT 4).is]) := yW yK (T := tblRef) yY 1000 rfl (by kernel_rfl) (by kernel_rfl)
theorem ref_5 : HV Try.prog 86 [.lit (.int .i8 5)] (.tup [.agg (refA (shpT 5)), bl (shpT 5).is]) := yW yK (T := tblRef) yY 1000 rfl (by kernel_rfl) (by kernel_rfl)
theorem ref_6 : HV Try.prog 86 [.lit (.int .i8 6)] (.tup [.agg (refA (shpT 6)), bl (shpT 6).is]) := yW yK (T := tblRef) yY 1000 rfl (by kernel_rfl) (by kernel_rfl)
theorem ref_7 : HV Try.prog 86 [.lit (.int .i8 7)] (.tup [.agg (refA (shpT 7)), bl (shpT 7).is]) := yW yK (T := tblRef) yY 1000 rfl (by kernel_rfl) (by kernel_rfl)
theorem ref_8 : HV Try.prog 86 [.lit (.int .i8 8)] (.tup [.agg (refA (shpT 8)), bl (shpT 8).is]) := yW yK (T := tblRef) yY 1000 rfl (by kernel_rfl) (by kernel_rfl)
theorem ref_9 : HV Try.prog 86 [.lit (.int .i8 9)] (.tup [.agg (refA (shpT 9)), bl (shpT 9).is]) := yW yK (T := tblRef) yY 1000 rfl (by kernel_rfl) (by kernel_rfl)
theorem ref_10 : HV Try.prog 86 [.lit (.int .i8 10)] (.tup [.agg (refA (shpT 10)), bl (shpT 10).is]) := yW yK (T := tblRef) yY 1000 rfl (by kernel_rfl) (by kernel_rfl)
theorem ref_11 : HV Try.prog 86 [.lit (.int .i8 11)] (.tup [.agg (refA (shpT 11)), bl (shpT 11).is]) := yW yK (T := tblRef) yY 1000 rfl (by kernel_rfl) (by kernel_rfl)
theorem ref_12 : HV Try.prog 86 [.lit (.int .i8 12)] (.tup [.agg (refA (shpT 12)), bl (shpT 12).is]) := yW yK (T := tblRef) yY 1000 rfl (by kernel_rfl) (by kernel_rfl)
theorem ref_13 : HV Try.prog 86 [.lit (.int .i8 13)] (.tup [.agg (refA (shpT 13)), bl (shpT 13).is]) := yW yK (T := tblRef) yY 1000 rfl (by kernel_rfl) (by kernel_rfl)
theorem ref_14 : HV Try.prog 86 [.lit (.int .i8 14)] (.tup [.agg (refA (shpT 14)), bl (shpT 14).is]) := yW yK (T := tblRef) yY 1000 rfl (by kernel_rfl) (by kernel_rfl)
theorem ref_15 : HV Try.prog 86 [.lit (.int .i8 15)] (.tup [.agg (refA (shpT 15)), bl (shpT 15).is]) := yW yK (T := tblRef) yY 1000 rfl (by kernel_rfl) (by kernel_rfl)
theorem ref_16 : HV Try.prog 86 [.lit (.int .i8 16)] (.tup [.agg (refA (shpT 16)), bl (shpT 16).is]) := yW yK (T := tblRef) yY 1000 rfl (by kernel_rfl) (by kernel_rfl)
theorem ref_17 : HV Try.prog 86 [.lit (.int .i8 17)] (.tup [.agg (refA (shpT 17)), bl (shpT 17).is]) := yW yK (T := tblRef) yY 1000 rfl (by kernel_rfl) (by kernel_rfl)
theorem ref_18 : HV Try.prog 86 [.lit (.int .i8 18)] (.tup [.agg (refA (shpT 18)), bl (shpT 18).is]) := yW yK (T := tblRef) yY 1000 rfl (by kernel_rfl) (by kernel_rfl)
theorem ref_19 : HV Try.prog 86 [.lit (.int .i8 19)] (.tup [.agg (refA (shpT 19)), bl (shpT 19).is]) := yW yK (T := tblRef) yY 1000 rfl (by kernel_rfl) (by kernel_rfl)
theorem ref_20 : HV Try.prog 86 [.lit (.int .i8 20)] (.tup [.agg (refA (shpT 20)), bl (shpT 20).is]) := yW yK (T := tblRef) yY 1000 rfl (by kernel_rfl) (by kernel_rfl)
theorem ref_21 : HV Try.prog 86 [.lit (.int .i8 21)] (.tup [.agg (refA (shpT 21)), bl (shpT 21).is]) := yW yK (T := tblRef) yY 1000 rfl (by kernel_rfl) (by kernel_rfl)
theorem ref_22 : HV Try.prog 86 [.lit (.int .i8 22)] (.tup [.agg (refA (shpT 22)), bl (shpT 22).is]) := yW yK (T := tblRef) yY 1000 rfl (by kernel_rfl) (by kernel_rfl)
theorem ref_23 : HV Try.prog 86 [.lit (.int .i8 23)] (.tup [.agg (refA (shpT 23)), bl (shpT 23).is]) := yW yK (T := tblRef) yY 1000 rfl (by kernel_rfl) (by kernel_rfl)
theorem ref_ok {i : Nat} (h : i < 24) : HV Try.prog 86 [.lit (.int .i8 (i : Int))] (.tup [.agg (refA (shpT i)), bl (shpT i).is]) := by
  match i, h with
  | 0, _ => exact ref_0
  | 1, _ => exact ref_1
  | 2, _ => exact ref_2
  | 3, _ => exact ref_3
  | 4, _ => exact ref_4
  | 5, _ => exact ref_5
  | 6, _ => exact ref_6
  | 7, _ => exact ref_7
  | 8, _ => exact ref_8
  | 9, _ => exact ref_9
  | 10, _ => exact ref_10
  | 11, _ => exact ref_11
  | 12, _ => exact ref_12
  | 13, _ => exact ref_13
  | 14, _ => exact ref_14
  | 15, _ => exact ref_15
  | 16, _ => exact ref_16
  | 17, _ => exact ref_17
  | 18, _ => exact ref_18
  | 19, _ => exact ref_19
  | 20, _ => exact ref_20
  | 21, _ => exact ref_21
  | 22, _ => exact ref_22
  | 23, _ => exact ref_23
  | n + 24, h => omega
theorem f109 (n : Int) (hn : n < 0 ∨ 24 ≤ n) : HV Try.prog 109 [.lit (.int .i8 n)] (.tup [.agg (refA noShp), bl false]) := by
  refine yJ yK cf109 (by simp) rfl ?_ rfl
  unfold ac109 re109
  refine yF fun env hE => ?_; have e0 := hE 0; have e2 := hE 2; have e3 := hE 3; have e4 := hE 4; simp -implicitDefEqProofs only [push_cast] at e0 e2 e3 e4; clear hE
  have d18 : decide (n = 18) = false := decide_eq_false (by omega)
  have d19 : decide (n = 19) = false := decide_eq_false (by omega)
  have d20 : decide (n = 20) = false := decide_eq_false (by omega)
  have d21 : decide (n = 21) = false := decide_eq_false (by omega)
  have d22 : decide (n = 22) = false := decide_eq_false (by omega)
  have d23 : decide (n = 23) = false := decide_eq_false (by omega)
  repeat' (first | ((try clear hf); with_reducible refine zO fun env K hE hK hf => ?_; have n : _ ∧ _ ∧ _ ∧ _ := ⟨hE 0, hE 2, hE 3, hE 4⟩; simp -implicitDefEqProofs only [push_cast, reduceIte, Nat.reduceEqDiff, e0, e2, e3, e4] at n; clear hE e0 e2 e3 e4; obtain ⟨e0, e2, e3, e4⟩ := n) | (with_reducible refine hK _ _ ?_; clear hK K) | (with_reducible first | refine zK ?_ | refine zU ?_ | refine zB ?_ | refine zF ?_ | refine zD ?_ | refine zN ?_ | refine zT ?_ | refine zC ?_ | refine zG ?_ | refine zV ?_ | refine zE ?_ | refine zA (by decide) ?_ | refine zL ?_ | refine zQ ?_ | refine zM ?_ | refine yB ?_ | refine yC ?_ | refine zW (by assumption) ?_ | refine zY (by assumption) ?_) | (refine zH rfl ?_) | (simp -implicitDefEqProofs only [push_cast, sevalprocAttr, eq_self, e0, e2, e3, e4, d18, d19, d20, d21, d22, d23]) | (simp -implicitDefEqProofs (disch := omega) only [zR, zZ, zS, zJ, e0, e2, e3, e4, d18, d19, d20, d21, d22, d23]) | (with_reducible refine yE ?_ ?_) | (refine zP rfl (fun bb => ?_) (fun bb => ?_) <;> (first | have bp := of_decide_eq_true bb | have bp := of_decide_eq_false bb | skip) <;> simp only [bb]) | (with_reducible refine zX (fun bb => ?_) (fun bb => ?_) <;> (first | have bp := of_decide_eq_true bb | have bp := of_decide_eq_false bb | skip)) | ((with_reducible refine And.intro ?_ ?_); omega) | fail)
  all_goals rfl
theorem f86 (n : Int) : HV Try.prog 86 [.lit (.int .i8 n)] (.tup [.agg (refA (ofS n)), bl (ofS n).is]) := by
  by_cases hn : n < 0 ∨ 24 ≤ n
  rotate_left
  · obtain ⟨i, rfl⟩ : ∃ i : Nat, n = i := ⟨n.toNat, by omega⟩
    rw [show ofS (i : Int) = shpT i from by have := ofS_ok (n := i) (by omega); simpa using this]
    exact ref_ok (by omega)
  rw [ofS_bad hn]
  refine yJ yK cf86 (by simp) rfl ?_ rfl
  unfold ac86 re86
  refine yF fun env hE => ?_; have e0 := hE 0; have e2 := hE 2; have e3 := hE 3; have e4 := hE 4; have e5 := hE 5; have e6 := hE 6; have e13 := hE 13; have e33 := hE 33; simp -implicitDefEqProofs only [push_cast] at e0 e2 e3 e4 e5 e6 e13 e33; clear hE
  have d0 : decide (n = 0) = false := decide_eq_false (by omega)
  have d1 : decide (n = 1) = false := decide_eq_false (by omega)
  have d2 : decide (n = 2) = false := decide_eq_false (by omega)
  have d3 : decide (n = 3) = false := decide_eq_false (by omega)
  have d4 : decide (n = 4) = false := decide_eq_false (by omega)
  have d5 : decide (n = 5) = false := decide_eq_false (by omega)
  have d6 : decide (n = 6) = false := decide_eq_false (by omega)
  have d7 : decide (n = 7) = false := decide_eq_false (by omega)
  have d8 : decide (n = 8) = false := decide_eq_false (by omega)
  have d9 : decide (n = 9) = false := decide_eq_false (by omega)
  have d10 : decide (n = 10) = false := decide_eq_false (by omega)
  have d11 : decide (n = 11) = false := decide_eq_false (by omega)
  have d12 : decide (n = 12) = false := decide_eq_false (by omega)
  have d13 : decide (n = 13) = false := decide_eq_false (by omega)
  have d14 : decide (n = 14) = false := decide_eq_false (by omega)
  have d15 : decide (n = 15) = false := decide_eq_false (by omega)
  have d16 : decide (n = 16) = false := decide_eq_false (by omega)
  have d17 : decide (n = 17) = false := decide_eq_false (by omega)
  have d18 : decide (n = 18) = false := decide_eq_false (by omega)
  have d19 : decide (n = 19) = false := decide_eq_false (by omega)
  have d20 : decide (n = 20) = false := decide_eq_false (by omega)
  have d21 : decide (n = 21) = false := decide_eq_false (by omega)
  have d22 : decide (n = 22) = false := decide_eq_false (by omega)
  have d23 : decide (n = 23) = false := decide_eq_false (by omega)
  repeat' (first | ((try clear hf); with_reducible refine zO fun env K hE hK hf => ?_; have n : _ ∧ _ ∧ _ ∧ _ ∧ _ ∧ _ ∧ _ ∧ _ := ⟨hE 0, hE 2, hE 3, hE 4, hE 5, hE 6, hE 13, hE 33⟩; simp -implicitDefEqProofs only [push_cast, reduceIte, Nat.reduceEqDiff, e0, e2, e3, e4, e5, e6, e13, e33] at n; clear hE e0 e2 e3 e4 e5 e6 e13 e33; obtain ⟨e0, e2, e3, e4, e5, e6, e13, e33⟩ := n) | (with_reducible refine hK _ _ ?_; clear hK K) | (with_reducible first | refine zK ?_ | refine zU ?_ | refine zB ?_ | refine zF ?_ | refine zD ?_ | refine zN ?_ | refine zT ?_ | refine zC ?_ | refine zG ?_ | refine zV ?_ | refine zE ?_ | refine zA (by decide) ?_ | refine zL ?_ | refine zQ ?_ | refine zM ?_ | refine yB ?_ | refine yC ?_ | refine zW (by assumption) ?_ | refine zY (by assumption) ?_) | (refine zH rfl ?_) | (simp -implicitDefEqProofs only [push_cast, sevalprocAttr, eq_self, e0, e2, e3, e4, e5, e6, e13, e33, d0, d1, d2, d3, d4, d5, d6, d7, d8, d9, d10, d11, d12, d13, d14, d15, d16, d17, d18, d19, d20, d21, d22, d23]) | (simp -implicitDefEqProofs (disch := omega) only [zR, zZ, zS, zJ, e0, e2, e3, e4, e5, e6, e13, e33, d0, d1, d2, d3, d4, d5, d6, d7, d8, d9, d10, d11, d12, d13, d14, d15, d16, d17, d18, d19, d20, d21, d22, d23]) | (with_reducible refine yE ?_ ?_) | (refine zP rfl (fun bb => ?_) (fun bb => ?_) <;> (first | have bp := of_decide_eq_true bb | have bp := of_decide_eq_false bb | skip) <;> simp only [bb]) | (with_reducible refine zX (fun bb => ?_) (fun bb => ?_) <;> (first | have bp := of_decide_eq_true bb | have bp := of_decide_eq_false bb | skip)) | ((with_reducible refine And.intro ?_ ?_); omega) | (refine yG (f109 n hn) ?_) | fail)
  all_goals rfl
theorem f51 (n : Int) : HV Try.prog 51 [.lit (.int .i8 n)] (.tup [.lit (.int .i64 (clsS n).1), .lit (.bool (clsS n).2)]) := by
  refine yJ yK cf51 (by simp) rfl ?_ (by simp [imm, imms])
  unfold ac51 re51
  refine yF fun env hE => ?_; have e0 := hE 0; have e2 := hE 2; have e3 := hE 3; have e4 := hE 4; have e5 := hE 5; simp -implicitDefEqProofs only [push_cast] at e0 e2 e3 e4 e5; clear hE
  repeat' (first | ((try clear hf); with_reducible refine zO fun env K hE hK hf => ?_; have n : _ ∧ _ ∧ _ ∧ _ ∧ _ := ⟨hE 0, hE 2, hE 3, hE 4, hE 5⟩; simp -implicitDefEqProofs only [push_cast, reduceIte, Nat.reduceEqDiff, e0, e2, e3, e4, e5] at n; clear hE e0 e2 e3 e4 e5; obtain ⟨e0, e2, e3, e4, e5⟩ := n) | (with_reducible refine hK _ _ ?_; clear hK K) | (with_reducible first | refine zK ?_ | refine zU ?_ | refine zB ?_ | refine zF ?_ | refine zD ?_ | refine zN ?_ | refine zT ?_ | refine zC ?_ | refine zG ?_ | refine zV ?_ | refine zE ?_ | refine zA (by decide) ?_ | refine zL ?_ | refine zQ ?_ | refine zM ?_ | refine yB ?_ | refine yC ?_ | refine zW (by assumption) ?_ | refine zY (by assumption) ?_) | (refine zH rfl ?_) | (simp -implicitDefEqProofs only [push_cast, sevalprocAttr, eq_self, e0, e2, e3, e4, e5]) | (simp -implicitDefEqProofs (disch := omega) only [zR, zZ, zS, zJ, e0, e2, e3, e4, e5]) | (with_reducible refine yE ?_ ?_) | (refine zP rfl (fun bb => ?_) (fun bb => ?_) <;> (first | have bp := of_decide_eq_true bb | have bp := of_decide_eq_false bb | skip) <;> simp only [bb]) | (with_reducible refine zX (fun bb => ?_) (fun bb => ?_) <;> (first | have bp := of_decide_eq_true bb | have bp := of_decide_eq_false bb | skip)) | ((with_reducible refine And.intro ?_ ?_); omega) | (refine yG (f86 n) ?_) | fail)
  all_goals ((try clear hf); (try clear e0 e2 e3 e4 e5); simp only [clsS]; simp at *; first | (simp [*]; done) | (rw [if_neg (by simp [*])]; simp))
set_option maxHeartbeats 4000000 in
theorem f111 (o : Opn) (h : o.ok) : HV Try.prog 111 [.agg (opC o)] (i64 (chkE o)) := by
  refine yJ yK cf111 (by simp) rfl ?_ rfl
  unfold ac111 re111
  refine yF fun env hE => ?_; have e0 := hE 0; have e1 := hE 1; have e2 := hE 2; have e3 := hE 3; have e4 := hE 4; simp -implicitDefEqProofs only [push_cast] at e0 e1 e2 e3 e4; clear hE
  repeat' (first | ((try clear hf); with_reducible refine zO fun env K hE hK hf => ?_; have n : _ ∧ _ ∧ _ ∧ _ ∧ _ := ⟨hE 0, hE 1, hE 2, hE 3, hE 4⟩; simp -implicitDefEqProofs only [push_cast, reduceIte, Nat.reduceEqDiff, e0, e1, e2, e3, e4] at n; clear hE e0 e1 e2 e3 e4; obtain ⟨e0, e1, e2, e3, e4⟩ := n) | (with_reducible refine hK _ _ ?_; clear hK K) | (with_reducible first | refine zK ?_ | refine zU ?_ | refine zB ?_ | refine zF ?_ | refine zD ?_ | refine zN ?_ | refine zT ?_ | refine zC ?_ | refine zG ?_ | refine zV ?_ | refine zE ?_ | refine zA (by decide) ?_ | refine zL ?_ | refine zQ ?_ | refine zM ?_ | refine yB ?_ | refine yC ?_ | refine zW (by assumption) ?_ | refine zY (by assumption) ?_) | (refine zH rfl ?_) | (simp -implicitDefEqProofs only [push_cast, sevalprocAttr, eq_self, e0, e1, e2, e3, e4, opC]) | (simp -implicitDefEqProofs (disch := omega) only [zR, zZ, zS, zJ, e0, e1, e2, e3, e4, opC]) | (with_reducible refine yE ?_ ?_) | (refine zP rfl (fun bb => ?_) (fun bb => ?_) <;> (first | have bp := of_decide_eq_true bb | have bp := of_decide_eq_false bb | skip) <;> simp only [bb]) | (with_reducible refine zX (fun bb => ?_) (fun bb => ?_) <;> (first | have bp := of_decide_eq_true bb | have bp := of_decide_eq_false bb | skip)) | ((with_reducible refine And.intro ?_ ?_); omega) | (refine yG (f86 o.k) ?_) | fail)
  all_goals ((try clear hf); (try clear e0 e1 e2 e3 e4); simp only [chkE, chkP]; simp at *; simp [*]; try omega)
theorem f88 (o : Opn) (h : o.ok) : HV Try.prog 88 [.agg (opC o)] (.tup [u8 (wrS o).1, bl (wrS o).2]) := by
  refine yJ yK cf88 (by simp) rfl ?_ rfl
  unfold ac88 re88
  refine yF fun env hE => ?_; have e0 := hE 0; have e1 := hE 1; have e2 := hE 2; have e3 := hE 3; have e4 := hE 4; simp -implicitDefEqProofs only [push_cast] at e0 e1 e2 e3 e4; clear hE
  repeat' (first | ((try clear hf); with_reducible refine zO fun env K hE hK hf => ?_; have n : _ ∧ _ ∧ _ ∧ _ ∧ _ := ⟨hE 0, hE 1, hE 2, hE 3, hE 4⟩; simp -implicitDefEqProofs only [push_cast, reduceIte, Nat.reduceEqDiff, e0, e1, e2, e3, e4] at n; clear hE e0 e1 e2 e3 e4; obtain ⟨e0, e1, e2, e3, e4⟩ := n) | (with_reducible refine hK _ _ ?_; clear hK K) | (with_reducible first | refine zK ?_ | refine zU ?_ | refine zB ?_ | refine zF ?_ | refine zD ?_ | refine zN ?_ | refine zT ?_ | refine zC ?_ | refine zG ?_ | refine zV ?_ | refine zE ?_ | refine zA (by decide) ?_ | refine zL ?_ | refine zQ ?_ | refine zM ?_ | refine yB ?_ | refine yC ?_ | refine zW (by assumption) ?_ | refine zY (by assumption) ?_) | (refine zH rfl ?_) | (simp -implicitDefEqProofs only [push_cast, sevalprocAttr, eq_self, e0, e1, e2, e3, e4, opC]) | (simp -implicitDefEqProofs (disch := omega) only [zR, zZ, zS, zJ, e0, e1, e2, e3, e4, opC]) | (with_reducible refine yE ?_ ?_) | (refine zP rfl (fun bb => ?_) (fun bb => ?_) <;> (first | have bp := of_decide_eq_true bb | have bp := of_decide_eq_false bb | skip) <;> simp only [bb]) | (with_reducible refine zX (fun bb => ?_) (fun bb => ?_) <;> (first | have bp := of_decide_eq_true bb | have bp := of_decide_eq_false bb | skip)) | ((with_reducible refine And.intro ?_ ?_); omega) | (refine yG (f86 o.k) ?_) | (refine yG (f111 o h) ?_) | fail)
  all_goals ((try clear hf); (try clear e0 e1 e2 e3 e4); simp only [wrS]; simp at *; simp [*])
end Go.Proofs.Hx

set_option linter.unusedVariables false
set_option linter.unusedSimpArgs false
namespace Go.Proofs.Hx
open Go Go.Proofs
attribute [local irreducible] yM awp opK goV goM yZ qB qD yQ HV HVF HC
theorem f89 (o : Opn) (h : o.ok) : HVF Try.prog 89 [.agg (opC o)] (.row (regsC (rdS o))) := by
  refine HVF_of_awp yK cf89 (by simp) rfl ?_ (by simp [imm]; exact qI fun i x hx => by simp [regsC] at hx; obtain ⟨a, _, rfl⟩ := hx; rfl)
  unfold ac89 re89
  refine yF fun env hE => ?_; have e0 := hE 0; have e1 := hE 1; have e2 := hE 2; have e3 := hE 3; have e5 := hE 5; simp -implicitDefEqProofs only [push_cast] at e0 e1 e2 e3 e5; clear hE
  have hA : ∀ (h' : Hp) (id' : Id) (x : List AV), appV h' id' 1 1 1 x .nil = some (.sl id' 0 1 1, h'.push id' x) := fun h' id' x => appV_nil _ _ (by decide) (by decide)
  repeat' (first | ((try clear hf); with_reducible refine zO fun env K hE hK hf => ?_; have n : _ ∧ _ ∧ _ ∧ _ ∧ _ := ⟨hE 0, hE 1, hE 2, hE 3, hE 5⟩; simp -implicitDefEqProofs only [push_cast, reduceIte, Nat.reduceEqDiff, e0, e1, e2, e3, e5] at n; clear hE e0 e1 e2 e3 e5; obtain ⟨e0, e1, e2, e3, e5⟩ := n) | (with_reducible refine hK _ _ ?_; clear hK K) | (with_reducible first | refine zK ?_ | refine zU ?_ | refine zB ?_ | refine zF ?_ | refine zD ?_ | refine zN ?_ | refine zT ?_ | refine zC ?_ | refine zG ?_ | refine zV ?_ | refine zE ?_ | refine zA (by decide) ?_ | refine zL ?_ | refine zQ ?_ | refine zM ?_ | refine yB ?_ | refine yC ?_ | refine zW (by assumption) ?_ | refine zY (by assumption) ?_) | (refine zH rfl ?_) | (simp -implicitDefEqProofs only [push_cast, sevalprocAttr, eq_self, e0, e1, e2, e3, e5, opC, hA, appV_sl_eq]) | (simp -implicitDefEqProofs (disch := omega) only [zR, zZ, zS, zJ, e0, e1, e2, e3, e5, opC, hA, appV_sl_eq]) | (with_reducible refine yE ?_ ?_) | (refine zP rfl (fun bb => ?_) (fun bb => ?_) <;> (first | have bp := of_decide_eq_true bb | have bp := of_decide_eq_false bb | skip) <;> simp only [bb]) | (with_reducible refine zX (fun bb => ?_) (fun bb => ?_) <;> (first | have bp := of_decide_eq_true bb | have bp := of_decide_eq_false bb | skip)) | ((with_reducible refine And.intro ?_ ?_); omega) | (refine yG (f86 o.k) ?_) | (refine yG (f111 o h) ?_) | fail)
  all_goals ((try clear hf); (try clear e0 e1 e2 e3 e5); clear hA; simp only [rdS, regsC]; by_cases hab : o.a = o.b <;> simp_all)
theorem f56 (o : Opn) (ho : o.ok) (r : Int) : HV Try.prog 56 [.agg (opC o), u8 r] (bl (seesS o r)) := by
  refine yJ yK cf56 (by simp) rfl ?_ rfl
  unfold ac56 re56
  refine yF fun env hE => ?_; have e0 := hE 0; have e1 := hE 1; have e2 := hE 2; have e4 := hE 4; have e5 := hE 5; have e6 := hE 6; simp -implicitDefEqProofs only [push_cast] at e0 e1 e2 e4 e5 e6; clear hE
  repeat' (first | ((try clear hf); with_reducible refine zO fun env K hE hK hf => ?_; have n : _ ∧ _ ∧ _ ∧ _ ∧ _ ∧ _ := ⟨hE 0, hE 1, hE 2, hE 4, hE 5, hE 6⟩; simp -implicitDefEqProofs only [push_cast, reduceIte, Nat.reduceEqDiff, e0, e1, e2, e4, e5, e6] at n; clear hE e0 e1 e2 e4 e5 e6; obtain ⟨e0, e1, e2, e4, e5, e6⟩ := n) | (with_reducible refine hK _ _ ?_; clear hK K) | (with_reducible first | refine zK ?_ | refine zU ?_ | refine zB ?_ | refine zF ?_ | refine zD ?_ | refine zN ?_ | refine zT ?_ | refine zC ?_ | refine zG ?_ | refine zV ?_ | refine zE ?_ | refine zA (by decide) ?_ | refine zL ?_ | refine zQ ?_ | refine zM ?_ | refine yB ?_ | refine yC ?_ | refine zW (by assumption) ?_ | refine zY (by assumption) ?_) | (refine zH rfl ?_) | (simp -implicitDefEqProofs only [push_cast, sevalprocAttr, eq_self, e0, e1, e2, e4, e5, e6, opC]) | (simp -implicitDefEqProofs (disch := omega) only [zR, zZ, zS, zJ, e0, e1, e2, e4, e5, e6, opC]) | (with_reducible refine yE ?_ ?_) | (refine zP rfl (fun bb => ?_) (fun bb => ?_) <;> (first | have bp := of_decide_eq_true bb | have bp := of_decide_eq_false bb | skip) <;> simp only [bb]) | (with_reducible refine zX (fun bb => ?_) (fun bb => ?_) <;> (first | have bp := of_decide_eq_true bb | have bp := of_decide_eq_false bb | skip)) | ((with_reducible refine And.intro ?_ ?_); omega) | (refine call_own (lends_imm rfl) (f89 o ho) ?_) | fail)
  refine yF fun env hE => ?_; have n : _ ∧ _ ∧ _ ∧ _ ∧ _ ∧ _ := ⟨hE 0, hE 1, hE 2, hE 4, hE 5, hE 6⟩; simp -implicitDefEqProofs only [push_cast, reduceIte, Nat.reduceEqDiff, e0, e1, e2, e4, e5, e6] at n; clear hE e0 e1 e2 e4 e5 e6; obtain ⟨e0, e1, e2, e4, e5, e6⟩ := n; have E56_0_0 := e0; have E56_0_1 := e1; have E56_0_2 := e2; have E56_0_5 := e5
  refine yL (fun nn σ => ∃ (k : Nat), nn = (rdS o).length - k ∧ σ.env 0 = env 0 ∧ σ.env 1 = env 1 ∧ σ.env 2 = env 2 ∧ σ.env 5 = env 5 ∧ σ.env 6 = i64 k ∧ (k ≤ (rdS o).length ∧ ∀ (j : Nat) (hj : j < k) (h : j < (rdS o).length), (rdS o)[j] ≠ r)) _ ⟨0, rfl, rfl, rfl, rfl, rfl, by refine e6.trans ?_; first | rfl | exact yD (by omega) | (simp -implicitDefEqProofs (disch := omega) only [zJ]; first | rfl | exact yD (by omega)), ?_⟩ ?_
  · exact ⟨by omega, fun j hj => by omega⟩
  clear e0 e1 e2 e4 e5 e6; rintro nn ⟨env, h⟩ ⟨k, rfl, q0, q1, q2, q5, e6, hI⟩; simp only at q0 q1 q2 q5 e6 hI; (first | have e0 := q0.trans E56_0_0 | have e0 := True.intro); (first | have e1 := q1.trans E56_0_1 | have e1 := True.intro); (first | have e2 := q2.trans E56_0_2 | have e2 := True.intro); (first | have e5 := q5.trans E56_0_5 | have e5 := True.intro); clear q0 q1 q2 q5; have e4 := True.intro
  obtain ⟨hk, hall⟩ := hI
  unfold l56_0
  have hrl := rdS_len o
  by_cases hlt : k < (rdS o).length
  · have hd : decide ((k : Int) < ((rdS o).length : Int)) = true := decide_eq_true (by omega)
    have hr := regs_at hlt .i64
    have hm := rdS_mem ho (List.getElem_mem hlt)
    repeat' (first | ((try clear hf); with_reducible refine zO fun env K hE hK hf => ?_; have n : _ ∧ _ ∧ _ ∧ _ ∧ _ ∧ _ := ⟨hE 0, hE 1, hE 2, hE 4, hE 5, hE 6⟩; simp -implicitDefEqProofs only [push_cast, reduceIte, Nat.reduceEqDiff, e0, e1, e2, e4, e5, e6] at n; clear hE e0 e1 e2 e4 e5 e6; obtain ⟨e0, e1, e2, e4, e5, e6⟩ := n) | (with_reducible refine hK _ _ ?_; clear hK K) | (with_reducible first | refine zK ?_ | refine zU ?_ | refine zB ?_ | refine zF ?_ | refine zD ?_ | refine zN ?_ | refine zT ?_ | refine zC ?_ | refine zG ?_ | refine zV ?_ | refine zE ?_ | refine zA (by decide) ?_ | refine zL ?_ | refine zQ ?_ | refine zM ?_ | refine yB ?_ | refine yC ?_ | refine zW (by assumption) ?_ | refine zY (by assumption) ?_) | (refine zH rfl ?_) | (simp -implicitDefEqProofs only [push_cast, sevalprocAttr, eq_self, e0, e1, e2, e4, e5, e6, hd, hr, lenV_regs]) | (simp -implicitDefEqProofs (disch := omega) only [zR, zZ, zS, zJ, e0, e1, e2, e4, e5, e6, hd, hr, lenV_regs]) | (with_reducible refine yE ?_ ?_) | (refine zP rfl (fun bb => ?_) (fun bb => ?_) <;> (first | have bp := of_decide_eq_true bb | have bp := of_decide_eq_false bb | skip) <;> simp only [bb]) | (with_reducible refine zX (fun bb => ?_) (fun bb => ?_) <;> (first | have bp := of_decide_eq_true bb | have bp := of_decide_eq_false bb | skip)) | ((with_reducible refine And.intro ?_ ?_); omega) | fail)
    · have : seesS o r = true := by
        unfold seesS
        rw [List.any_eq_true]
        exact ⟨_, List.getElem_mem hlt, decide_eq_true (by assumption)⟩
      rw [this]
    · refine ⟨_, ?_, k + 1, rfl, E56_0_0.symm, E56_0_1.symm, E56_0_2.symm, E56_0_5.symm, by first | rfl | exact yD (by omega) | (simp -implicitDefEqProofs (disch := omega) only [zJ]; first | rfl | exact yD (by omega)), ?_⟩
      · omega
      · refine ⟨by omega, fun j hj h => ?_⟩
        by_cases e : j < k
        · exact hall j e h
        · obtain rfl : j = k := by omega
          assumption
  · have hd : decide ((k : Int) < ((rdS o).length : Int)) = false := decide_eq_false (by omega)
    repeat' (first | ((try clear hf); with_reducible refine zO fun env K hE hK hf => ?_; have n : _ ∧ _ ∧ _ ∧ _ ∧ _ ∧ _ := ⟨hE 0, hE 1, hE 2, hE 4, hE 5, hE 6⟩; simp -implicitDefEqProofs only [push_cast, reduceIte, Nat.reduceEqDiff, e0, e1, e2, e4, e5, e6] at n; clear hE e0 e1 e2 e4 e5 e6; obtain ⟨e0, e1, e2, e4, e5, e6⟩ := n) | (with_reducible refine hK _ _ ?_; clear hK K) | (with_reducible first | refine zK ?_ | refine zU ?_ | refine zB ?_ | refine zF ?_ | refine zD ?_ | refine zN ?_ | refine zT ?_ | refine zC ?_ | refine zG ?_ | refine zV ?_ | refine zE ?_ | refine zA (by decide) ?_ | refine zL ?_ | refine zQ ?_ | refine zM ?_ | refine yB ?_ | refine yC ?_ | refine zW (by assumption) ?_ | refine zY (by assumption) ?_) | (refine zH rfl ?_) | (simp -implicitDefEqProofs only [push_cast, sevalprocAttr, eq_self, e0, e1, e2, e4, e5, e6, hd, lenV_regs]) | (simp -implicitDefEqProofs (disch := omega) only [zR, zZ, zS, zJ, e0, e1, e2, e4, e5, e6, hd, lenV_regs]) | (with_reducible refine yE ?_ ?_) | (refine zP rfl (fun bb => ?_) (fun bb => ?_) <;> (first | have bp := of_decide_eq_true bb | have bp := of_decide_eq_false bb | skip) <;> simp only [bb]) | (with_reducible refine zX (fun bb => ?_) (fun bb => ?_) <;> (first | have bp := of_decide_eq_true bb | have bp := of_decide_eq_false bb | skip)) | ((with_reducible refine And.intro ?_ ?_); omega) | fail)
    have : seesS o r = false := by
      unfold seesS
      rw [List.any_eq_false]
      intro x hx
      obtain ⟨j, hj, rfl⟩ := List.getElem_of_mem hx
      simpa using hall j (by omega) hj
    rw [this]
theorem f69 (t : Tab) : HV Try.prog 69 [.agg (tabC t)] (i64 (tabE t)) := by
  refine yJ yK cf69 (by simp) rfl ?_ rfl
  unfold ac69 re69
  refine yF fun env hE => ?_; have e0 := hE 0; have e1 := hE 1; have e2 := hE 2; have e3 := hE 3; simp -implicitDefEqProofs only [push_cast] at e0 e1 e2 e3; clear hE
  repeat' (first | ((try clear hf); with_reducible refine zO fun env K hE hK hf => ?_; have n : _ ∧ _ ∧ _ ∧ _ := ⟨hE 0, hE 1, hE 2, hE 3⟩; simp -implicitDefEqProofs only [push_cast, reduceIte, Nat.reduceEqDiff, e0, e1, e2, e3] at n; clear hE e0 e1 e2 e3; obtain ⟨e0, e1, e2, e3⟩ := n) | (with_reducible refine hK _ _ ?_; clear hK K) | (with_reducible first | refine zK ?_ | refine zU ?_ | refine zB ?_ | refine zF ?_ | refine zD ?_ | refine zN ?_ | refine zT ?_ | refine zC ?_ | refine zG ?_ | refine zV ?_ | refine zE ?_ | refine zA (by decide) ?_ | refine zL ?_ | refine zQ ?_ | refine zM ?_ | refine yB ?_ | refine yC ?_ | refine zW (by assumption) ?_ | refine zY (by assumption) ?_) | (refine zH rfl ?_) | (simp -implicitDefEqProofs only [push_cast, sevalprocAttr, eq_self, e0, e1, e2, e3]) | (simp -implicitDefEqProofs (disch := omega) only [zR, zZ, zS, zJ, e0, e1, e2, e3]) | (with_reducible refine yE ?_ ?_) | (refine zP rfl (fun bb => ?_) (fun bb => ?_) <;> (first | have bp := of_decide_eq_true bb | have bp := of_decide_eq_false bb | skip) <;> simp only [bb]) | (with_reducible refine zX (fun bb => ?_) (fun bb => ?_) <;> (first | have bp := of_decide_eq_true bb | have bp := of_decide_eq_false bb | skip)) | ((with_reducible refine And.intro ?_ ?_); omega) | fail)
  refine yF fun env hE => ?_; have n : _ ∧ _ ∧ _ ∧ _ := ⟨hE 0, hE 1, hE 2, hE 3⟩; simp -implicitDefEqProofs only [push_cast, reduceIte, Nat.reduceEqDiff, e0, e1, e2, e3] at n; clear hE e0 e1 e2 e3; obtain ⟨e0, e1, e2, e3⟩ := n; have E69_0_0 := e0; have E69_0_1 := e1
  refine yL (fun nn σ => ∃ (c : Nat), nn = 4 - c ∧ σ.env 0 = env 0 ∧ σ.env 1 = env 1 ∧ σ.env 3 = i64 c ∧ (c ≤ 4 ∧ σ.h.hp (2, 1) = some ⟨true, tabC t⟩ ∧ ∀ j, j < c → okC t j)) _ ⟨0, rfl, rfl, rfl, by refine e3.trans ?_; first | rfl | exact yD (by omega) | (simp -implicitDefEqProofs (disch := omega) only [zJ]; first | rfl | exact yD (by omega)), ?_⟩ ?_
  · exact ⟨by omega, by simp -implicitDefEqProofs only [push_cast, sevalprocAttr, eq_self], fun j hj => by omega⟩
  clear e0 e1 e2 e3; rintro nn ⟨env, h⟩ ⟨c, rfl, q0, q1, e3, hI⟩; simp only at q0 q1 e3 hI; (first | have e0 := q0.trans E69_0_0 | have e0 := True.intro); (first | have e1 := q1.trans E69_0_1 | have e1 := True.intro); clear q0 q1; have e2 := True.intro
  obtain ⟨hc4, hb, hall⟩ := hI
  unfold l69_0
  by_cases hc : c < 4
  · have hx := tab_u t hc
    have hy := tab_l t hc
    have hz := tab_b t hc
    have hd : decide ((c : Int) < 4) = true := decide_eq_true (by omega)
    repeat' (first | ((try clear hf); with_reducible refine zO fun env K hE hK hf => ?_; have n : _ ∧ _ ∧ _ ∧ _ := ⟨hE 0, hE 1, hE 2, hE 3⟩; simp -implicitDefEqProofs only [push_cast, reduceIte, Nat.reduceEqDiff, e0, e1, e2, e3] at n; clear hE e0 e1 e2 e3; obtain ⟨e0, e1, e2, e3⟩ := n) | (with_reducible refine hK _ _ ?_; clear hK K) | (with_reducible first | refine zK ?_ | refine zU ?_ | refine zB ?_ | refine zF ?_ | refine zD ?_ | refine zN ?_ | refine zT ?_ | refine zC ?_ | refine zG ?_ | refine zV ?_ | refine zE ?_ | refine zA (by decide) ?_ | refine zL ?_ | refine zQ ?_ | refine zM ?_ | refine yB ?_ | refine yC ?_ | refine zW (by assumption) ?_ | refine zY (by assumption) ?_) | (refine zH rfl ?_) | (simp -implicitDefEqProofs only [push_cast, sevalprocAttr, eq_self, e0, e1, e2, e3, hd, hb, hx, hy, hz]) | (simp -implicitDefEqProofs (disch := omega) only [zR, zZ, zS, zJ, e0, e1, e2, e3, hd, hb, hx, hy, hz]) | (with_reducible refine yE ?_ ?_) | (refine zP rfl (fun bb => ?_) (fun bb => ?_) <;> (first | have bp := of_decide_eq_true bb | have bp := of_decide_eq_false bb | skip) <;> simp only [bb]) | (with_reducible refine zX (fun bb => ?_) (fun bb => ?_) <;> (first | have bp := of_decide_eq_true bb | have bp := of_decide_eq_false bb | skip)) | ((with_reducible refine And.intro ?_ ?_); omega) | fail)
    all_goals first
      | (rw [tabE_bad]; intro h; have := h.1 c hc; unfold okC at this; omega)
      | skip
    refine ⟨_, ?_, c + 1, rfl, E69_0_0.symm, E69_0_1.symm, by first | rfl | exact yD (by omega) | (simp -implicitDefEqProofs (disch := omega) only [zJ]; first | rfl | exact yD (by omega)), ?_⟩
    · omega
    · refine ⟨by omega, fun j hj => ?_⟩
      by_cases e : j < c
      · exact hall j e
      · obtain rfl : j = c := by omega
        unfold okC; omega
  · have hd : decide ((c : Int) < 4) = false := decide_eq_false (by omega)
    repeat' (first | ((try clear hf); with_reducible refine zO fun env K hE hK hf => ?_; have n : _ ∧ _ ∧ _ ∧ _ := ⟨hE 0, hE 1, hE 2, hE 3⟩; simp -implicitDefEqProofs only [push_cast, reduceIte, Nat.reduceEqDiff, e0, e1, e2, e3] at n; clear hE e0 e1 e2 e3; obtain ⟨e0, e1, e2, e3⟩ := n) | (with_reducible refine hK _ _ ?_; clear hK K) | (with_reducible first | refine zK ?_ | refine zU ?_ | refine zB ?_ | refine zF ?_ | refine zD ?_ | refine zN ?_ | refine zT ?_ | refine zC ?_ | refine zG ?_ | refine zV ?_ | refine zE ?_ | refine zA (by decide) ?_ | refine zL ?_ | refine zQ ?_ | refine zM ?_ | refine yB ?_ | refine yC ?_ | refine zW (by assumption) ?_ | refine zY (by assumption) ?_) | (refine zH rfl ?_) | (simp -implicitDefEqProofs only [push_cast, sevalprocAttr, eq_self, e0, e1, e2, e3, hd, hb, tab_d]) | (simp -implicitDefEqProofs (disch := omega) only [zR, zZ, zS, zJ, e0, e1, e2, e3, hd, hb, tab_d]) | (with_reducible refine yE ?_ ?_) | (refine zP rfl (fun bb => ?_) (fun bb => ?_) <;> (first | have bp := of_decide_eq_true bb | have bp := of_decide_eq_false bb | skip) <;> simp only [bb]) | (with_reducible refine zX (fun bb => ?_) (fun bb => ?_) <;> (first | have bp := of_decide_eq_true bb | have bp := of_decide_eq_false bb | skip)) | ((with_reducible refine And.intro ?_ ?_); omega) | fail)
    all_goals first
      | (rw [tabE_bad]; intro h; have := h.2; omega)
      | (rw [tabE_ok]; exact ⟨fun j hj => hall j (by omega), by omega⟩)
end Go.Proofs.Hx

set_option linter.unusedVariables false
set_option linter.unusedSimpArgs false
namespace Go.Proofs.Hx
open Go Go.Proofs
attribute [local irreducible] yM awp opK goV goM yZ qB qD yQ HV HVF HC
theorem op_d0 (o : Opn) : ((opC o).drop 0)[0]? = some (.lit (.int .i8 o.k)) := rfl
theorem op_d1 (o : Opn) : ((opC o).drop 1)[0]? = some (u8 o.d) := rfl
theorem op_d2 (o : Opn) : ((opC o).drop 2)[0]? = some (u8 o.a) := rfl
theorem op_d3 (o : Opn) : ((opC o).drop 3)[0]? = some (u8 o.b) := rfl
theorem op_d4 (o : Opn) : ((opC o).drop 4)[0]? = some (i64 o.im) := rfl
attribute [push_cast] op_d0 op_d1 op_d2 op_d3 op_d4 op_1 op_2 op_3 op_4 opC_take opC_len opC_one
theorem tmod_zero (z : Int) : z.tmod 256 = 0 ↔ z % 256 = 0 := by
  constructor
  · intro h; exact Int.emod_eq_zero_of_dvd (Int.dvd_of_tmod_eq_zero h)
  · intro h; exact Int.tmod_eq_zero_of_dvd (Int.dvd_of_emod_eq_zero h)
theorem im_eq (x y : Int) : decide ((IntKind.i64.wrap (x - y)).tmod 256 = 0) = decide (IntKind.wrap .u8 x = IntKind.wrap .u8 y) := by
  apply decide_eq_decide.2
  rw [tmod_zero]
  simp only [IntKind.wrap, IntKind.bits, IntKind.signed, Bool.true_and, Bool.false_and, decide_eq_true_eq, ge_iff_le, Bool.false_eq_true, if_false]
  split <;> omega
def twoS (a b : Opn) : Bool := memS a && memS b && (decide (a.k = 16) || decide (b.k = 16))
theorem f115 (l : List Opn) (i j : Nat) (hi : i < l.length) (hj : j < l.length) (hl : ∀ o ∈ l, o.ok) : HV Try.prog 115 [.row (l.map opC), i64 i, i64 j] (bl (twoS l[i] l[j])) := by
  refine yJ yK cf115 (by simp) (by simp [imms, imm, qF]) ?_ rfl
  unfold ac115 re115
  refine yF fun env hE => ?_; have e0 := hE 0; have e1 := hE 1; have e2 := hE 2; have e6 := hE 6; have e7 := hE 7; have e8 := hE 8; have e9 := hE 9; simp -implicitDefEqProofs only [push_cast] at e0 e1 e2 e6 e7 e8 e9; clear hE
  have hr := qK hi .i64
  have hq := qK hj .i64
  have ho := hl _ (List.getElem_mem hi)
  have hp := hl _ (List.getElem_mem hj)
  generalize l[i] = a at *
  generalize l[j] = b at *
  have d1 : decide ((i : Int) < 0) = false := decide_eq_false (by omega)
  have d2 : decide ((j : Int) < 0) = false := decide_eq_false (by omega)
  have d3 : decide ((l.length : Int) ≤ (i : Int)) = false := decide_eq_false (by omega)
  have d4 : decide ((l.length : Int) ≤ (j : Int)) = false := decide_eq_false (by omega)
  repeat' (first | ((try clear hf); with_reducible refine zO fun env K hE hK hf => ?_; have n : _ ∧ _ ∧ _ ∧ _ ∧ _ ∧ _ ∧ _ := ⟨hE 0, hE 1, hE 2, hE 6, hE 7, hE 8, hE 9⟩; simp -implicitDefEqProofs only [push_cast, reduceIte, Nat.reduceEqDiff, e0, e1, e2, e6, e7, e8, e9] at n; clear hE e0 e1 e2 e6 e7 e8 e9; obtain ⟨e0, e1, e2, e6, e7, e8, e9⟩ := n) | (with_reducible refine hK _ _ ?_; clear hK K) | (with_reducible first | refine zK ?_ | refine zU ?_ | refine zB ?_ | refine zF ?_ | refine zD ?_ | refine zN ?_ | refine zT ?_ | refine zC ?_ | refine zG ?_ | refine zV ?_ | refine zE ?_ | refine zA (by decide) ?_ | refine zL ?_ | refine zQ ?_ | refine zM ?_ | refine yB ?_ | refine yC ?_ | refine zW (by assumption) ?_ | refine zY (by assumption) ?_) | (refine zH rfl ?_) | (simp -implicitDefEqProofs only [push_cast, sevalprocAttr, eq_self, e0, e1, e2, e6, e7, e8, e9, hr, hq, d1, d2, d3, d4, opC_take, opC_len, opC_one]) | (simp -implicitDefEqProofs (disch := omega) only [zR, zZ, zS, zJ, e0, e1, e2, e6, e7, e8, e9, hr, hq, d1, d2, d3, d4, opC_take, opC_len, opC_one]) | (with_reducible refine yE ?_ ?_) | (refine zP rfl (fun bb => ?_) (fun bb => ?_) <;> (first | have bp := of_decide_eq_true bb | have bp := of_decide_eq_false bb | skip) <;> simp only [bb]) | (with_reducible refine zX (fun bb => ?_) (fun bb => ?_) <;> (first | have bp := of_decide_eq_true bb | have bp := of_decide_eq_false bb | skip)) | ((with_reducible refine And.intro ?_ ?_); omega) | (refine yG (f111 a ho) ?_) | (refine yG (f111 b hp) ?_) | fail)
  all_goals ((try clear hf); (try clear e0 e1 e2 e6 e7 e8 e9); clear hr hq ho hp hl; simp only [twoS, memS]; simp_all)
theorem written_iff {l : List Opn} {f t : Nat} {r : Int} (ht : t ≤ l.length) : writtenS ((l.drop f).take (t - f)) r = true ↔ ∃ q, f ≤ q ∧ q < t ∧ ((wrS (opAt l q)).2 && decide ((wrS (opAt l q)).1 = r)) = true := by
  unfold writtenS
  rw [List.any_eq_true]
  constructor
  · rintro ⟨x, hx, h⟩
    obtain ⟨q, hq, rfl⟩ := List.getElem_of_mem hx
    simp only [List.length_take, List.length_drop] at hq
    refine ⟨f + q, by omega, by omega, ?_⟩
    rw [← qH (by omega)]
    simpa using h
  · rintro ⟨q, h1, h2, h⟩
    rw [← qH (by omega)] at h
    refine ⟨l[q]'(by omega), ?_, h⟩
    have : ((l.drop f).take (t - f))[q - f]? = some (l[q]'(by omega)) := by
      rw [List.getElem?_take_of_lt (by omega), List.getElem?_drop, show f + (q - f) = q by omega, List.getElem?_eq_getElem]
    exact List.mem_of_getElem? this
def apS (a b : Opn) (s : List Opn) : Bool := !(decide (a.a ≠ b.a) || decide (IntKind.wrap .u8 a.im = IntKind.wrap .u8 b.im)) && !(writtenS s a.a)
set_option maxHeartbeats 1000000 in
theorem f116 (l : List Opn) (i j f t : Nat) (hi : i < l.length) (hj : j < l.length) (hl : ∀ o ∈ l, o.ok) (h1 : f ≤ t) (h2 : t ≤ l.length) (hn : l.length ≤ 1000000) :
    HV Try.prog 116 [.row (l.map opC), i64 i, i64 j, i64 f, i64 t] (bl (apS l[i] l[j] ((l.drop f).take (t - f)))) := by
  refine yJ yK cf116 (by simp) (by simp [imms, imm, qF]) ?_ rfl
  unfold ac116 re116
  refine yF fun env hE => ?_; have e0 := hE 0; have e1 := hE 1; have e2 := hE 2; have e3 := hE 3; have e4 := hE 4; have e10 := hE 10; have e11 := hE 11; have e12 := hE 12; have e13 := hE 13; simp -implicitDefEqProofs only [push_cast] at e0 e1 e2 e3 e4 e10 e11 e12 e13; clear hE
  have hr := qK hi .i64
  have hq := qK hj .i64
  have hwi := written_iff (l := l) (f := f) (t := t) (r := l[i].a) h2
  generalize hai : l[i] = a at *
  generalize l[j] = b at *
  by_cases hc : (decide (a.a ≠ b.a) || decide (IntKind.wrap .u8 a.im = IntKind.wrap .u8 b.im)) = true
  · have hs : apS a b ((l.drop f).take (t - f)) = false := by unfold apS; rw [hc]; rfl
    rw [hs]
    by_cases h3 : a.a = b.a
    · have d1 : decide (a.a ≠ b.a) = false := decide_eq_false (fun h => h h3)
      have d2 : decide (IntKind.wrap .u8 a.im = IntKind.wrap .u8 b.im) = true := by rw [d1, Bool.false_or] at hc; exact hc
      repeat' (first | ((try clear hf); with_reducible refine zO fun env K hE hK hf => ?_; have n : _ ∧ _ ∧ _ ∧ _ ∧ _ ∧ _ ∧ _ ∧ _ ∧ _ := ⟨hE 0, hE 1, hE 2, hE 3, hE 4, hE 10, hE 11, hE 12, hE 13⟩; simp -implicitDefEqProofs only [push_cast, reduceIte, Nat.reduceEqDiff, e0, e1, e2, e3, e4, e10, e11, e12, e13] at n; clear hE e0 e1 e2 e3 e4 e10 e11 e12 e13; obtain ⟨e0, e1, e2, e3, e4, e10, e11, e12, e13⟩ := n) | (with_reducible refine hK _ _ ?_; clear hK K) | (with_reducible first | refine zK ?_ | refine zU ?_ | refine zB ?_ | refine zF ?_ | refine zD ?_ | refine zN ?_ | refine zT ?_ | refine zC ?_ | refine zG ?_ | refine zV ?_ | refine zE ?_ | refine zA (by decide) ?_ | refine zL ?_ | refine zQ ?_ | refine zM ?_ | refine yB ?_ | refine yC ?_ | refine zW (by assumption) ?_ | refine zY (by assumption) ?_) | (refine zH rfl ?_) | (simp -implicitDefEqProofs only [push_cast, sevalprocAttr, eq_self, e0, e1, e2, e3, e4, e10, e11, e12, e13, hr, hq, d1, d2, op_2, op_4, im_eq]) | (simp -implicitDefEqProofs (disch := omega) only [zR, zZ, zS, zJ, e0, e1, e2, e3, e4, e10, e11, e12, e13, hr, hq, d1, d2, op_2, op_4, im_eq]) | (with_reducible refine yE ?_ ?_) | (refine zP rfl (fun bb => ?_) (fun bb => ?_) <;> (first | have bp := of_decide_eq_true bb | have bp := of_decide_eq_false bb | skip) <;> simp only [bb]) | (with_reducible refine zX (fun bb => ?_) (fun bb => ?_) <;> (first | have bp := of_decide_eq_true bb | have bp := of_decide_eq_false bb | skip)) | ((with_reducible refine And.intro ?_ ?_); omega) | fail)
    · have d1 : decide (a.a ≠ b.a) = true := decide_eq_true h3
      repeat' (first | ((try clear hf); with_reducible refine zO fun env K hE hK hf => ?_; have n : _ ∧ _ ∧ _ ∧ _ ∧ _ ∧ _ ∧ _ ∧ _ ∧ _ := ⟨hE 0, hE 1, hE 2, hE 3, hE 4, hE 10, hE 11, hE 12, hE 13⟩; simp -implicitDefEqProofs only [push_cast, reduceIte, Nat.reduceEqDiff, e0, e1, e2, e3, e4, e10, e11, e12, e13] at n; clear hE e0 e1 e2 e3 e4 e10 e11 e12 e13; obtain ⟨e0, e1, e2, e3, e4, e10, e11, e12, e13⟩ := n) | (with_reducible refine hK _ _ ?_; clear hK K) | (with_reducible first | refine zK ?_ | refine zU ?_ | refine zB ?_ | refine zF ?_ | refine zD ?_ | refine zN ?_ | refine zT ?_ | refine zC ?_ | refine zG ?_ | refine zV ?_ | refine zE ?_ | refine zA (by decide) ?_ | refine zL ?_ | refine zQ ?_ | refine zM ?_ | refine yB ?_ | refine yC ?_ | refine zW (by assumption) ?_ | refine zY (by assumption) ?_) | (refine zH rfl ?_) | (simp -implicitDefEqProofs only [push_cast, sevalprocAttr, eq_self, e0, e1, e2, e3, e4, e10, e11, e12, e13, hr, hq, d1, op_2, op_4, im_eq]) | (simp -implicitDefEqProofs (disch := omega) only [zR, zZ, zS, zJ, e0, e1, e2, e3, e4, e10, e11, e12, e13, hr, hq, d1, op_2, op_4, im_eq]) | (with_reducible refine yE ?_ ?_) | (refine zP rfl (fun bb => ?_) (fun bb => ?_) <;> (first | have bp := of_decide_eq_true bb | have bp := of_decide_eq_false bb | skip) <;> simp only [bb]) | (with_reducible refine zX (fun bb => ?_) (fun bb => ?_) <;> (first | have bp := of_decide_eq_true bb | have bp := of_decide_eq_false bb | skip)) | ((with_reducible refine And.intro ?_ ?_); omega) | fail)
  · rw [Bool.not_eq_true, Bool.or_eq_false_iff] at hc
    obtain ⟨d1, d2⟩ := hc
    have hs : apS a b ((l.drop f).take (t - f)) = !(writtenS ((l.drop f).take (t - f)) a.a) := by unfold apS; rw [d1, d2]; rfl
    repeat' (first | ((try clear hf); with_reducible refine zO fun env K hE hK hf => ?_; have n : _ ∧ _ ∧ _ ∧ _ ∧ _ ∧ _ ∧ _ ∧ _ ∧ _ := ⟨hE 0, hE 1, hE 2, hE 3, hE 4, hE 10, hE 11, hE 12, hE 13⟩; simp -implicitDefEqProofs only [push_cast, reduceIte, Nat.reduceEqDiff, e0, e1, e2, e3, e4, e10, e11, e12, e13] at n; clear hE e0 e1 e2 e3 e4 e10 e11 e12 e13; obtain ⟨e0, e1, e2, e3, e4, e10, e11, e12, e13⟩ := n) | (with_reducible refine hK _ _ ?_; clear hK K) | (with_reducible first | refine zK ?_ | refine zU ?_ | refine zB ?_ | refine zF ?_ | refine zD ?_ | refine zN ?_ | refine zT ?_ | refine zC ?_ | refine zG ?_ | refine zV ?_ | refine zE ?_ | refine zA (by decide) ?_ | refine zL ?_ | refine zQ ?_ | refine zM ?_ | refine yB ?_ | refine yC ?_ | refine zW (by assumption) ?_ | refine zY (by assumption) ?_) | (refine zH rfl ?_) | (simp -implicitDefEqProofs only [push_cast, sevalprocAttr, eq_self, e0, e1, e2, e3, e4, e10, e11, e12, e13, hr, hq, d1, d2, op_2, op_4, im_eq]) | (simp -implicitDefEqProofs (disch := omega) only [zR, zZ, zS, zJ, e0, e1, e2, e3, e4, e10, e11, e12, e13, hr, hq, d1, d2, op_2, op_4, im_eq]) | (with_reducible refine yE ?_ ?_) | (refine zP rfl (fun bb => ?_) (fun bb => ?_) <;> (first | have bp := of_decide_eq_true bb | have bp := of_decide_eq_false bb | skip) <;> simp only [bb]) | (with_reducible refine zX (fun bb => ?_) (fun bb => ?_) <;> (first | have bp := of_decide_eq_true bb | have bp := of_decide_eq_false bb | skip)) | ((with_reducible refine And.intro ?_ ?_); omega) | fail)
    refine yF fun env hE => ?_; have n : _ ∧ _ ∧ _ ∧ _ ∧ _ ∧ _ ∧ _ ∧ _ ∧ _ := ⟨hE 0, hE 1, hE 2, hE 3, hE 4, hE 10, hE 11, hE 12, hE 13⟩; simp -implicitDefEqProofs only [push_cast, reduceIte, Nat.reduceEqDiff, e0, e1, e2, e3, e4, e10, e11, e12, e13] at n; clear hE e0 e1 e2 e3 e4 e10 e11 e12 e13; obtain ⟨e0, e1, e2, e3, e4, e10, e11, e12, e13⟩ := n; have E116_0_0 := e0; have E116_0_1 := e1; have E116_0_2 := e2; have E116_0_3 := e3; have E116_0_4 := e4
    refine yL (fun nn σ => ∃ (k : Nat), nn = t - k ∧ σ.env 0 = env 0 ∧ σ.env 1 = env 1 ∧ σ.env 2 = env 2 ∧ σ.env 3 = env 3 ∧ σ.env 4 = env 4 ∧ σ.env 11 = i64 k ∧ (f ≤ k ∧ k ≤ t ∧ (∀ q, f ≤ q → q < k → ((wrS (opAt l q)).2 && decide ((wrS (opAt l q)).1 = a.a)) = false))) _ ⟨f, rfl, rfl, rfl, rfl, rfl, rfl, by refine e11.trans ?_; first | rfl | exact yD (by omega) | (simp -implicitDefEqProofs (disch := omega) only [zJ]; first | rfl | exact yD (by omega)), ?_⟩ ?_
    · exact ⟨by omega, by omega, fun q h1 h2 => by omega⟩
    clear e0 e1 e2 e3 e4 e10 e11 e12 e13; rintro nn ⟨env, h⟩ ⟨k, rfl, q0, q1, q2, q3, q4, e11, hI⟩; simp only at q0 q1 q2 q3 q4 e11 hI; (first | have e0 := q0.trans E116_0_0 | have e0 := True.intro); (first | have e1 := q1.trans E116_0_1 | have e1 := True.intro); (first | have e2 := q2.trans E116_0_2 | have e2 := True.intro); (first | have e3 := q3.trans E116_0_3 | have e3 := True.intro); (first | have e4 := q4.trans E116_0_4 | have e4 := True.intro); clear q0 q1 q2 q3 q4; have e10 := True.intro; have e12 := True.intro; have e13 := True.intro
    obtain ⟨k1, k2, hall⟩ := hI
    unfold l116_0
    by_cases hlt : k < t
    · have hd : decide ((k : Int) < (t : Int)) = true := decide_eq_true (by omega)
      have hr2 := qK (l := l) (k := k) (by omega) .i64
      have ho := hl _ (List.getElem_mem (show k < l.length by omega))
      have hoe := qH (l := l) (j := k) (by omega)
      generalize l[k] = o at *
      by_cases hw : ((wrS o).2 && decide ((wrS o).1 = a.a)) = true
      · have w := hw
        rw [Bool.and_eq_true] at hw
        obtain ⟨w1, w2⟩ := hw
        repeat' (first | ((try clear hf); with_reducible refine zO fun env K hE hK hf => ?_; have n : _ ∧ _ ∧ _ ∧ _ ∧ _ ∧ _ ∧ _ ∧ _ ∧ _ := ⟨hE 0, hE 1, hE 2, hE 3, hE 4, hE 10, hE 11, hE 12, hE 13⟩; simp -implicitDefEqProofs only [push_cast, reduceIte, Nat.reduceEqDiff, e0, e1, e2, e3, e4, e10, e11, e12, e13] at n; clear hE e0 e1 e2 e3 e4 e10 e11 e12 e13; obtain ⟨e0, e1, e2, e3, e4, e10, e11, e12, e13⟩ := n) | (with_reducible refine hK _ _ ?_; clear hK K) | (with_reducible first | refine zK ?_ | refine zU ?_ | refine zB ?_ | refine zF ?_ | refine zD ?_ | refine zN ?_ | refine zT ?_ | refine zC ?_ | refine zG ?_ | refine zV ?_ | refine zE ?_ | refine zA (by decide) ?_ | refine zL ?_ | refine zQ ?_ | refine zM ?_ | refine yB ?_ | refine yC ?_ | refine zW (by assumption) ?_ | refine zY (by assumption) ?_) | (refine zH rfl ?_) | (simp -implicitDefEqProofs only [push_cast, sevalprocAttr, eq_self, e0, e1, e2, e3, e4, e10, e11, e12, e13, hd, hr, hr2, w1, w2]) | (simp -implicitDefEqProofs (disch := omega) only [zR, zZ, zS, zJ, e0, e1, e2, e3, e4, e10, e11, e12, e13, hd, hr, hr2, w1, w2]) | (with_reducible refine yE ?_ ?_) | (refine zP rfl (fun bb => ?_) (fun bb => ?_) <;> (first | have bp := of_decide_eq_true bb | have bp := of_decide_eq_false bb | skip) <;> simp only [bb]) | (with_reducible refine zX (fun bb => ?_) (fun bb => ?_) <;> (first | have bp := of_decide_eq_true bb | have bp := of_decide_eq_false bb | skip)) | ((with_reducible refine And.intro ?_ ?_); omega) | (refine yG (f88 o ho) ?_) | fail)
        rw [hs, hwi.2 ⟨k, k1, hlt, by rw [← hoe]; exact w⟩]
        rfl
      · rw [Bool.not_eq_true] at hw
        have w := hw
        rw [Bool.and_eq_false_iff] at hw
        rcases hw with w1 | w1
        · repeat' (first | ((try clear hf); with_reducible refine zO fun env K hE hK hf => ?_; have n : _ ∧ _ ∧ _ ∧ _ ∧ _ ∧ _ ∧ _ ∧ _ ∧ _ := ⟨hE 0, hE 1, hE 2, hE 3, hE 4, hE 10, hE 11, hE 12, hE 13⟩; simp -implicitDefEqProofs only [push_cast, reduceIte, Nat.reduceEqDiff, e0, e1, e2, e3, e4, e10, e11, e12, e13] at n; clear hE e0 e1 e2 e3 e4 e10 e11 e12 e13; obtain ⟨e0, e1, e2, e3, e4, e10, e11, e12, e13⟩ := n) | (with_reducible refine hK _ _ ?_; clear hK K) | (with_reducible first | refine zK ?_ | refine zU ?_ | refine zB ?_ | refine zF ?_ | refine zD ?_ | refine zN ?_ | refine zT ?_ | refine zC ?_ | refine zG ?_ | refine zV ?_ | refine zE ?_ | refine zA (by decide) ?_ | refine zL ?_ | refine zQ ?_ | refine zM ?_ | refine yB ?_ | refine yC ?_ | refine zW (by assumption) ?_ | refine zY (by assumption) ?_) | (refine zH rfl ?_) | (simp -implicitDefEqProofs only [push_cast, sevalprocAttr, eq_self, e0, e1, e2, e3, e4, e10, e11, e12, e13, hd, hr, hr2, w1]) | (simp -implicitDefEqProofs (disch := omega) only [zR, zZ, zS, zJ, e0, e1, e2, e3, e4, e10, e11, e12, e13, hd, hr, hr2, w1]) | (with_reducible refine yE ?_ ?_) | (refine zP rfl (fun bb => ?_) (fun bb => ?_) <;> (first | have bp := of_decide_eq_true bb | have bp := of_decide_eq_false bb | skip) <;> simp only [bb]) | (with_reducible refine zX (fun bb => ?_) (fun bb => ?_) <;> (first | have bp := of_decide_eq_true bb | have bp := of_decide_eq_false bb | skip)) | ((with_reducible refine And.intro ?_ ?_); omega) | (refine yG (f88 o ho) ?_) | fail)
          refine ⟨_, ?_, k + 1, rfl, E116_0_0.symm, E116_0_1.symm, E116_0_2.symm, E116_0_3.symm, E116_0_4.symm, by first | rfl | exact yD (by omega) | (simp -implicitDefEqProofs (disch := omega) only [zJ]; first | rfl | exact yD (by omega)), ?_⟩
          · omega
          · refine ⟨by omega, by omega, fun q h1 h2 => ?_⟩
            by_cases e : q < k
            · exact hall q h1 e
            · obtain rfl : q = k := by omega
              rw [← hoe]; exact w
        · repeat' (first | ((try clear hf); with_reducible refine zO fun env K hE hK hf => ?_; have n : _ ∧ _ ∧ _ ∧ _ ∧ _ ∧ _ ∧ _ ∧ _ ∧ _ := ⟨hE 0, hE 1, hE 2, hE 3, hE 4, hE 10, hE 11, hE 12, hE 13⟩; simp -implicitDefEqProofs only [push_cast, reduceIte, Nat.reduceEqDiff, e0, e1, e2, e3, e4, e10, e11, e12, e13] at n; clear hE e0 e1 e2 e3 e4 e10 e11 e12 e13; obtain ⟨e0, e1, e2, e3, e4, e10, e11, e12, e13⟩ := n) | (with_reducible refine hK _ _ ?_; clear hK K) | (with_reducible first | refine zK ?_ | refine zU ?_ | refine zB ?_ | refine zF ?_ | refine zD ?_ | refine zN ?_ | refine zT ?_ | refine zC ?_ | refine zG ?_ | refine zV ?_ | refine zE ?_ | refine zA (by decide) ?_ | refine zL ?_ | refine zQ ?_ | refine zM ?_ | refine yB ?_ | refine yC ?_ | refine zW (by assumption) ?_ | refine zY (by assumption) ?_) | (refine zH rfl ?_) | (simp -implicitDefEqProofs only [push_cast, sevalprocAttr, eq_self, e0, e1, e2, e3, e4, e10, e11, e12, e13, hd, hr, hr2, w1]) | (simp -implicitDefEqProofs (disch := omega) only [zR, zZ, zS, zJ, e0, e1, e2, e3, e4, e10, e11, e12, e13, hd, hr, hr2, w1]) | (with_reducible refine yE ?_ ?_) | (refine zP rfl (fun bb => ?_) (fun bb => ?_) <;> (first | have bp := of_decide_eq_true bb | have bp := of_decide_eq_false bb | skip) <;> simp only [bb]) | (with_reducible refine zX (fun bb => ?_) (fun bb => ?_) <;> (first | have bp := of_decide_eq_true bb | have bp := of_decide_eq_false bb | skip)) | ((with_reducible refine And.intro ?_ ?_); omega) | (refine yG (f88 o ho) ?_) | fail)
          all_goals
            refine ⟨_, ?_, k + 1, rfl, E116_0_0.symm, E116_0_1.symm, E116_0_2.symm, E116_0_3.symm, E116_0_4.symm, by first | rfl | exact yD (by omega) | (simp -implicitDefEqProofs (disch := omega) only [zJ]; first | rfl | exact yD (by omega)), ?_⟩
            · omega
            · refine ⟨by omega, by omega, fun q h1 h2 => ?_⟩
              by_cases e : q < k
              · exact hall q h1 e
              · obtain rfl : q = k := by omega
                rw [← hoe]; exact w
    · have hd : decide ((k : Int) < (t : Int)) = false := decide_eq_false (by omega)
      repeat' (first | ((try clear hf); with_reducible refine zO fun env K hE hK hf => ?_; have n : _ ∧ _ ∧ _ ∧ _ ∧ _ ∧ _ ∧ _ ∧ _ ∧ _ := ⟨hE 0, hE 1, hE 2, hE 3, hE 4, hE 10, hE 11, hE 12, hE 13⟩; simp -implicitDefEqProofs only [push_cast, reduceIte, Nat.reduceEqDiff, e0, e1, e2, e3, e4, e10, e11, e12, e13] at n; clear hE e0 e1 e2 e3 e4 e10 e11 e12 e13; obtain ⟨e0, e1, e2, e3, e4, e10, e11, e12, e13⟩ := n) | (with_reducible refine hK _ _ ?_; clear hK K) | (with_reducible first | refine zK ?_ | refine zU ?_ | refine zB ?_ | refine zF ?_ | refine zD ?_ | refine zN ?_ | refine zT ?_ | refine zC ?_ | refine zG ?_ | refine zV ?_ | refine zE ?_ | refine zA (by decide) ?_ | refine zL ?_ | refine zQ ?_ | refine zM ?_ | refine yB ?_ | refine yC ?_ | refine zW (by assumption) ?_ | refine zY (by assumption) ?_) | (refine zH rfl ?_) | (simp -implicitDefEqProofs only [push_cast, sevalprocAttr, eq_self, e0, e1, e2, e3, e4, e10, e11, e12, e13, hd]) | (simp -implicitDefEqProofs (disch := omega) only [zR, zZ, zS, zJ, e0, e1, e2, e3, e4, e10, e11, e12, e13, hd]) | (with_reducible refine yE ?_ ?_) | (refine zP rfl (fun bb => ?_) (fun bb => ?_) <;> (first | have bp := of_decide_eq_true bb | have bp := of_decide_eq_false bb | skip) <;> simp only [bb]) | (with_reducible refine zX (fun bb => ?_) (fun bb => ?_) <;> (first | have bp := of_decide_eq_true bb | have bp := of_decide_eq_false bb | skip)) | ((with_reducible refine And.intro ?_ ?_); omega) | fail)
      have : writtenS ((l.drop f).take (t - f)) a.a = false := by
        rw [← Bool.not_eq_true]
        intro h
        obtain ⟨q, h1, h2, h3⟩ := hwi.1 h
        rw [hall q h1 (by omega)] at h3
        cases h3
      rw [hs, this]
      rfl
theorem meet_ref (a b : Opn) (s : List Opn) : (twoS a b && !(apS a b s)) = meetS a b s := by
  unfold twoS apS meetS memS
  by_cases h1 : a.k = 15 <;> by_cases h2 : a.k = 16 <;> by_cases h3 : b.k = 15 <;> by_cases h4 : b.k = 16 <;> simp [h1, h2, h3, h4] <;> (try omega)
theorem f102 (l : List Opn) (i j : Nat) (hij : i < j) (hj : j < l.length) (hl : ∀ o ∈ l, o.ok) (hn : l.length ≤ 1000000) :
    HV Try.prog 102 [.row (l.map opC), i64 i, i64 j] (bl (meetL l i j (by omega) hj)) := by
  refine yJ yK cf102 (by simp) (by simp [imms, imm, qF]) ?_ rfl
  unfold ac102 re102
  refine yF fun env hE => ?_; have e0 := hE 0; have e1 := hE 1; have e2 := hE 2; have e6 := hE 6; simp -implicitDefEqProofs only [push_cast] at e0 e1 e2 e6; clear hE
  have d1 : decide ((i : Int) < (j : Int)) = true := decide_eq_true (by omega)
  have hm := meet_ref (l[i]'(by omega)) l[j] ((l.drop i).take (j - i))
  unfold meetL
  rw [← hm]
  have h1 := f115 l i j (by omega) hj hl
  have h2 := f116 l i j i j (by omega) hj hl (by omega) (by omega) hn
  generalize twoS (l[i]'(by omega)) l[j] = b1 at *
  generalize apS (l[i]'(by omega)) l[j] ((l.drop i).take (j - i)) = b2 at *
  repeat' (first | ((try clear hf); with_reducible refine zO fun env K hE hK hf => ?_; have n : _ ∧ _ ∧ _ ∧ _ := ⟨hE 0, hE 1, hE 2, hE 6⟩; simp -implicitDefEqProofs only [push_cast, reduceIte, Nat.reduceEqDiff, e0, e1, e2, e6] at n; clear hE e0 e1 e2 e6; obtain ⟨e0, e1, e2, e6⟩ := n) | (with_reducible refine hK _ _ ?_; clear hK K) | (with_reducible first | refine zK ?_ | refine zU ?_ | refine zB ?_ | refine zF ?_ | refine zD ?_ | refine zN ?_ | refine zT ?_ | refine zC ?_ | refine zG ?_ | refine zV ?_ | refine zE ?_ | refine zA (by decide) ?_ | refine zL ?_ | refine zQ ?_ | refine zM ?_ | refine yB ?_ | refine yC ?_ | refine zW (by assumption) ?_ | refine zY (by assumption) ?_) | (refine zH rfl ?_) | (simp -implicitDefEqProofs only [push_cast, sevalprocAttr, eq_self, e0, e1, e2, e6, d1]) | (simp -implicitDefEqProofs (disch := omega) only [zR, zZ, zS, zJ, e0, e1, e2, e6, d1]) | (with_reducible refine yE ?_ ?_) | (refine zP rfl (fun bb => ?_) (fun bb => ?_) <;> (first | have bp := of_decide_eq_true bb | have bp := of_decide_eq_false bb | skip) <;> simp only [bb]) | (with_reducible refine zX (fun bb => ?_) (fun bb => ?_) <;> (first | have bp := of_decide_eq_true bb | have bp := of_decide_eq_false bb | skip)) | ((with_reducible refine And.intro ?_ ?_); omega) | (refine yG h1 ?_) | (refine yG h2 ?_) | fail)
  all_goals ((try clear hf); (try clear e0 e1 e2 e6); simp_all)
end Go.Proofs.Hx

set_option linter.unusedVariables false
set_option linter.unusedSimpArgs false
namespace Go.Proofs.Hx
open Go Go.Proofs
attribute [local irreducible] yM awp opK goV goM yZ qB qD yQ HV HVF HC
/-! ### Appends, whatever they find -/
theorem goM_app1 {α : Type} {f : α → List AV} {sz : Nat} {d : Option Nat} {K : St → Prop} {env : Nat → AV} {h : Hp} {a : AV} {es : List α} (s : SlO f sz h a es) (hf : ∀ a, (f a).length = sz) {bytes : Nat} {id : Id} {e : α} (ho : (f e).all one = true)
    (hb : (es.length + 1 + (es.length + 1) / 4 + 512) * bytes ≤ 281474976710656) (hid : idOf a ≠ some id) (hle : id.1 ≤ h.ep)
    (k : ∀ h' a', SlO f sz h' a' (es ++ [e]) → (∀ x, idOf a' = some x → x = id) → h'.ep = h.ep → (∀ x, x ≠ id → idOf a ≠ some x → h'.hp x = h.hp x) → K ⟨putA env d a', h'⟩) : goM d K env (appV h id sz bytes 1 (f e) a) := by
  refine goM_of _ _ (s.app hf id (by decide) ho hb) (k _ _ ⟨.inr ⟨id, by simp, ?_, by rw [push_ep, killA_ep]; exact hle⟩⟩ (fun x hx => by simp [idOf] at hx; exact hx.symm) (by rw [push_ep, killA_ep]) fun x h1 h2 => ?_)
  · rw [qP]; simp
  · rw [push_ne _ _ _ _ h1, killA_ne _ _ h2]
theorem goM_appN {α : Type} {f : α → List AV} {sz : Nat} {d : Option Nat} {K : St → Prop} {env : Nat → AV} {h : Hp} {a : AV} {es : List α} (s : SlO f sz h a es) (hf : ∀ a, (f a).length = sz) {bytes : Nat} {id : Id} {fs : List α} (ho : (fs.flatMap f).all one = true)
    (hb : (es.length + fs.length + (es.length + fs.length) / 4 + 512) * bytes ≤ 281474976710656) (hid : idOf a ≠ some id) (hle : id.1 ≤ h.ep)
    (k : ∀ h' a', SlO f sz h' a' (es ++ fs) → (∀ x, idOf a' = some x → x = id) → h'.ep = h.ep → (∀ x, x ≠ id → idOf a ≠ some x → h'.hp x = h.hp x) → K ⟨putA env d a', h'⟩) : goM d K env (appV h id sz bytes fs.length (fs.flatMap f) a) := by
  rcases (show fs = [] ∨ fs.length ≠ 0 from by cases fs <;> simp) with h0 | h0
  · subst h0
    rcases s.st with ⟨rfl, rfl⟩ | ⟨t, rfl, h2, h3⟩
    · exact goM_of _ _ (appV_nil0 _ _ _ _ _) (k _ _ (SlO.nil _ _ _) (fun x hx => by simp [idOf] at hx) rfl fun x _ _ => rfl)
    · refine goM_of (.sl id 0 (es.length + 0) sz) ((h.kill t).push id ((es.flatMap f).take (es.length * sz) ++ [])) ?_ (k _ _ ⟨.inr ⟨id, by simp, ?_, hle⟩⟩ (fun x hx => by simp [idOf] at hx; exact hx.symm) rfl fun x h1 h2 => ?_)
      · rw [appV_sl_eq, h2]
        simp only [Option.bind_some]
        simp only [List.length_nil, Nat.add_zero] at hb ⊢
        rw [if_pos ⟨trivial, trivial, rfl, hb⟩, List.drop_zero]
        rfl
      · rw [qP, ← flat_len hf, List.take_length]; simp
      · rw [push_ne _ _ _ _ h1, kill_ne _ _ _ (fun e => h2 (by rw [e]; rfl))]
  · refine goM_of _ _ (s.app hf id h0 ho hb) (k _ _ ⟨.inr ⟨id, by simp, ?_, by rw [push_ep, killA_ep]; exact hle⟩⟩ (fun x hx => by simp [idOf] at hx; exact hx.symm) (by rw [push_ep, killA_ep]) fun x h1 h2 => ?_)
    · rw [qP]; simp
    · rw [push_ne _ _ _ _ h1, killA_ne _ _ h2]
theorem app_src {α : Type} (f : α → List AV) (sz : Nat) (hf : ∀ a, (f a).length = sz) (h : Hp) (es : List α) : appSrc h sz (.row (es.map f)) = some (es.length, es.flatMap f) := by
  rw [appSrc_row h (fun x hx => by simp at hx; obtain ⟨a, _, rfl⟩ := hx; exact hf a), List.length_map]
  rfl
theorem flat_one {α : Type} {f : α → List AV} (ho : ∀ a, (f a).all one = true) (es : List α) : (es.flatMap f).all one = true := by
  induction es with
  | nil => rfl
  | cons a es ih => rw [List.flatMap_cons, List.all_append, ho, ih]; rfl
theorem SlO.lendF {α : Type} {f : α → List AV} {sz : Nat} {h : Hp} {a : AV} {es : List α} (s : SlO f sz h a es) (hf : ∀ a, (f a).length = sz) (hat : ∀ a, ∀ x ∈ f a, atom x = true) (d : Nat) : Hx.lendF (d + 1) h a = some (.row (es.map f)) := by
  rcases s.st with ⟨rfl, rfl⟩ | ⟨t, rfl, h2, h3⟩
  · exact lendF_nil d h
  · rw [lendF_sl h2 (by rw [flat_len hf]; omega) (fun x hx => ?_), List.drop_zero, ← flat_len hf, List.take_length, chunks_map f sz hf]
    have := List.mem_of_mem_drop (List.mem_of_mem_take hx)
    rw [List.mem_flatMap] at this
    obtain ⟨e, _, he⟩ := this
    exact hat e x he
theorem edC_atom (e : Edg) : ∀ x ∈ edC e, atom x = true := by
  intro x hx
  simp only [edC, List.mem_cons, List.not_mem_nil, or_false] at hx
  rcases hx with rfl | rfl | rfl | rfl | rfl <;> rfl
/-! ### The reference's dependences -/
theorem f90 (l : List Opn) (t : Tab) (hl : ∀ o ∈ l, o.ok) : HV Try.prog 90 [.row (l.map opC), .agg (tabC t)] (i64 (errR l t)) := by
  refine yJ yK cf90 (by simp) (by simp [imms, imm, qF, tab_imms]) ?_ rfl
  unfold ac90 re90
  refine yF fun env hE => ?_; have e0 := hE 0; have e1 := hE 1; have e3 := hE 3; have e4 := hE 4; have e5 := hE 5; have e6 := hE 6; simp -implicitDefEqProofs only [push_cast] at e0 e1 e3 e4 e5 e6; clear hE
  by_cases h1 : tabOK t
  rotate_left
  · have hE : errR l t = 20 := by simp [errR, tabE_bad h1]
    have ht := tabE_bad h1
    rw [hE]
    have d0 : decide ((20 : Int) ≠ 0) = true := rfl
    repeat' (first | ((try clear hf); with_reducible refine zO fun env K hE hK hf => ?_; have n : _ ∧ _ ∧ _ ∧ _ ∧ _ ∧ _ := ⟨hE 0, hE 1, hE 3, hE 4, hE 5, hE 6⟩; simp -implicitDefEqProofs only [push_cast, reduceIte, Nat.reduceEqDiff, e0, e1, e3, e4, e5, e6] at n; clear hE e0 e1 e3 e4 e5 e6; obtain ⟨e0, e1, e3, e4, e5, e6⟩ := n) | (with_reducible refine hK _ _ ?_; clear hK K) | (with_reducible first | refine zK ?_ | refine zU ?_ | refine zB ?_ | refine zF ?_ | refine zD ?_ | refine zN ?_ | refine zT ?_ | refine zC ?_ | refine zG ?_ | refine zV ?_ | refine zE ?_ | refine zA (by decide) ?_ | refine zL ?_ | refine zQ ?_ | refine zM ?_ | refine yB ?_ | refine yC ?_ | refine zW (by assumption) ?_ | refine zY (by assumption) ?_) | (refine zH rfl ?_) | (simp -implicitDefEqProofs only [push_cast, sevalprocAttr, eq_self, e0, e1, e3, e4, e5, e6, ht, d0]) | (simp -implicitDefEqProofs (disch := omega) only [zR, zZ, zS, zJ, e0, e1, e3, e4, e5, e6, ht, d0]) | (with_reducible refine yE ?_ ?_) | (refine zP rfl (fun bb => ?_) (fun bb => ?_) <;> (first | have bp := of_decide_eq_true bb | have bp := of_decide_eq_false bb | skip) <;> simp only [bb]) | (with_reducible refine zX (fun bb => ?_) (fun bb => ?_) <;> (first | have bp := of_decide_eq_true bb | have bp := of_decide_eq_false bb | skip)) | ((with_reducible refine And.intro ?_ ?_); omega) | (refine yG (f69 t) ?_) | fail)
  have ht := tabE_ok h1
  by_cases h2 : 1024 < l.length
  · have hE : errR l t = 3 := by simp [errR, ht, h2]
    have d1 : decide (1024 < (l.length : Int)) = true := decide_eq_true (by omega)
    rw [hE]
    repeat' (first | ((try clear hf); with_reducible refine zO fun env K hE hK hf => ?_; have n : _ ∧ _ ∧ _ ∧ _ ∧ _ ∧ _ := ⟨hE 0, hE 1, hE 3, hE 4, hE 5, hE 6⟩; simp -implicitDefEqProofs only [push_cast, reduceIte, Nat.reduceEqDiff, e0, e1, e3, e4, e5, e6] at n; clear hE e0 e1 e3 e4 e5 e6; obtain ⟨e0, e1, e3, e4, e5, e6⟩ := n) | (with_reducible refine hK _ _ ?_; clear hK K) | (with_reducible first | refine zK ?_ | refine zU ?_ | refine zB ?_ | refine zF ?_ | refine zD ?_ | refine zN ?_ | refine zT ?_ | refine zC ?_ | refine zG ?_ | refine zV ?_ | refine zE ?_ | refine zA (by decide) ?_ | refine zL ?_ | refine zQ ?_ | refine zM ?_ | refine yB ?_ | refine yC ?_ | refine zW (by assumption) ?_ | refine zY (by assumption) ?_) | (refine zH rfl ?_) | (simp -implicitDefEqProofs only [push_cast, sevalprocAttr, eq_self, e0, e1, e3, e4, e5, e6, ht, d1]) | (simp -implicitDefEqProofs (disch := omega) only [zR, zZ, zS, zJ, e0, e1, e3, e4, e5, e6, ht, d1]) | (with_reducible refine yE ?_ ?_) | (refine zP rfl (fun bb => ?_) (fun bb => ?_) <;> (first | have bp := of_decide_eq_true bb | have bp := of_decide_eq_false bb | skip) <;> simp only [bb]) | (with_reducible refine zX (fun bb => ?_) (fun bb => ?_) <;> (first | have bp := of_decide_eq_true bb | have bp := of_decide_eq_false bb | skip)) | ((with_reducible refine And.intro ?_ ?_); omega) | (refine yG (f69 t) ?_) | fail)
  have d1 : decide (1024 < (l.length : Int)) = false := decide_eq_false (by omega)
  repeat' (first | ((try clear hf); with_reducible refine zO fun env K hE hK hf => ?_; have n : _ ∧ _ ∧ _ ∧ _ ∧ _ ∧ _ := ⟨hE 0, hE 1, hE 3, hE 4, hE 5, hE 6⟩; simp -implicitDefEqProofs only [push_cast, reduceIte, Nat.reduceEqDiff, e0, e1, e3, e4, e5, e6] at n; clear hE e0 e1 e3 e4 e5 e6; obtain ⟨e0, e1, e3, e4, e5, e6⟩ := n) | (with_reducible refine hK _ _ ?_; clear hK K) | (with_reducible first | refine zK ?_ | refine zU ?_ | refine zB ?_ | refine zF ?_ | refine zD ?_ | refine zN ?_ | refine zT ?_ | refine zC ?_ | refine zG ?_ | refine zV ?_ | refine zE ?_ | refine zA (by decide) ?_ | refine zL ?_ | refine zQ ?_ | refine zM ?_ | refine yB ?_ | refine yC ?_ | refine zW (by assumption) ?_ | refine zY (by assumption) ?_) | (refine zH rfl ?_) | (simp -implicitDefEqProofs only [push_cast, sevalprocAttr, eq_self, e0, e1, e3, e4, e5, e6, ht, d1]) | (simp -implicitDefEqProofs (disch := omega) only [zR, zZ, zS, zJ, e0, e1, e3, e4, e5, e6, ht, d1]) | (with_reducible refine yE ?_ ?_) | (refine zP rfl (fun bb => ?_) (fun bb => ?_) <;> (first | have bp := of_decide_eq_true bb | have bp := of_decide_eq_false bb | skip) <;> simp only [bb]) | (with_reducible refine zX (fun bb => ?_) (fun bb => ?_) <;> (first | have bp := of_decide_eq_true bb | have bp := of_decide_eq_false bb | skip)) | ((with_reducible refine And.intro ?_ ?_); omega) | (refine yG (f69 t) ?_) | fail)
  refine yF fun env hE => ?_; have n : _ ∧ _ ∧ _ ∧ _ ∧ _ ∧ _ := ⟨hE 0, hE 1, hE 3, hE 4, hE 5, hE 6⟩; simp -implicitDefEqProofs only [push_cast, reduceIte, Nat.reduceEqDiff, e0, e1, e3, e4, e5, e6] at n; clear hE e0 e1 e3 e4 e5 e6; obtain ⟨e0, e1, e3, e4, e5, e6⟩ := n; have E90_0_0 := e0; have E90_0_1 := e1; have E90_0_3 := e3; have E90_0_5 := e5
  refine yL (fun nn σ => ∃ (k : Nat), nn = l.length - k ∧ σ.env 0 = env 0 ∧ σ.env 1 = env 1 ∧ σ.env 3 = env 3 ∧ σ.env 5 = env 5 ∧ σ.env 6 = i64 k ∧ (k ≤ l.length ∧ ∀ j (hj : j < k) (h : j < l.length), opOK l[j])) _ ⟨0, rfl, rfl, rfl, rfl, rfl, by refine e6.trans ?_; first | rfl | exact yD (by omega) | (simp -implicitDefEqProofs (disch := omega) only [zJ]; first | rfl | exact yD (by omega)), ?_⟩ ?_
  · exact ⟨by omega, fun j hj => by omega⟩
  clear e0 e1 e3 e4 e5 e6; rintro nn ⟨env, h⟩ ⟨k, rfl, q0, q1, q3, q5, e6, hI⟩; simp only at q0 q1 q3 q5 e6 hI; (first | have e0 := q0.trans E90_0_0 | have e0 := True.intro); (first | have e1 := q1.trans E90_0_1 | have e1 := True.intro); (first | have e3 := q3.trans E90_0_3 | have e3 := True.intro); (first | have e5 := q5.trans E90_0_5 | have e5 := True.intro); clear q0 q1 q3 q5; have e4 := True.intro
  obtain ⟨hk, hall⟩ := hI
  unfold l90_0
  by_cases hlt : k < l.length
  · have hd : decide ((k : Int) < (l.length : Int)) = true := decide_eq_true (by omega)
    have hr := qK hlt .i64
    have ho := hl _ (List.getElem_mem hlt)
    by_cases hok : opOK l[k]
    · have h3 : decide (l[k].k < 1) = false := decide_eq_false (by have := hok.1; omega)
      have h4 : decide (17 < l[k].k) = false := decide_eq_false (by have := hok.2.1; omega)
      have h5 := hok.2.2
      repeat' (first | ((try clear hf); with_reducible refine zO fun env K hE hK hf => ?_; have n : _ ∧ _ ∧ _ ∧ _ ∧ _ ∧ _ := ⟨hE 0, hE 1, hE 3, hE 4, hE 5, hE 6⟩; simp -implicitDefEqProofs only [push_cast, reduceIte, Nat.reduceEqDiff, e0, e1, e3, e4, e5, e6] at n; clear hE e0 e1 e3 e4 e5 e6; obtain ⟨e0, e1, e3, e4, e5, e6⟩ := n) | (with_reducible refine hK _ _ ?_; clear hK K) | (with_reducible first | refine zK ?_ | refine zU ?_ | refine zB ?_ | refine zF ?_ | refine zD ?_ | refine zN ?_ | refine zT ?_ | refine zC ?_ | refine zG ?_ | refine zV ?_ | refine zE ?_ | refine zA (by decide) ?_ | refine zL ?_ | refine zQ ?_ | refine zM ?_ | refine yB ?_ | refine yC ?_ | refine zW (by assumption) ?_ | refine zY (by assumption) ?_) | (refine zH rfl ?_) | (simp -implicitDefEqProofs only [push_cast, sevalprocAttr, eq_self, e0, e1, e3, e4, e5, e6, hd, hr, h3, h4, h5]) | (simp -implicitDefEqProofs (disch := omega) only [zR, zZ, zS, zJ, e0, e1, e3, e4, e5, e6, hd, hr, h3, h4, h5]) | (with_reducible refine yE ?_ ?_) | (refine zP rfl (fun bb => ?_) (fun bb => ?_) <;> (first | have bp := of_decide_eq_true bb | have bp := of_decide_eq_false bb | skip) <;> simp only [bb]) | (with_reducible refine zX (fun bb => ?_) (fun bb => ?_) <;> (first | have bp := of_decide_eq_true bb | have bp := of_decide_eq_false bb | skip)) | ((with_reducible refine And.intro ?_ ?_); omega) | (refine yG (f111 _ ho) ?_) | fail)
      refine ⟨_, ?_, k + 1, rfl, E90_0_0.symm, E90_0_1.symm, E90_0_3.symm, E90_0_5.symm, by first | rfl | exact yD (by omega) | (simp -implicitDefEqProofs (disch := omega) only [zJ]; first | rfl | exact yD (by omega)), ?_⟩
      · omega
      · refine ⟨by omega, fun j hj h => ?_⟩
        by_cases e : j < k
        · exact hall j e h
        · obtain rfl : j = k := by omega
          exact hok
    · have hE : errR l t = 30 := by
        unfold errR
        rw [if_neg (by omega), if_neg h2, if_neg (fun h => hok (h _ (List.getElem_mem hlt)))]
      rw [hE]
      have hn : ¬ (1 ≤ l[k].k ∧ l[k].k ≤ 17 ∧ chkE l[k] = 0) := hok
      repeat' (first | ((try clear hf); with_reducible refine zO fun env K hE hK hf => ?_; have n : _ ∧ _ ∧ _ ∧ _ ∧ _ ∧ _ := ⟨hE 0, hE 1, hE 3, hE 4, hE 5, hE 6⟩; simp -implicitDefEqProofs only [push_cast, reduceIte, Nat.reduceEqDiff, e0, e1, e3, e4, e5, e6] at n; clear hE e0 e1 e3 e4 e5 e6; obtain ⟨e0, e1, e3, e4, e5, e6⟩ := n) | (with_reducible refine hK _ _ ?_; clear hK K) | (with_reducible first | refine zK ?_ | refine zU ?_ | refine zB ?_ | refine zF ?_ | refine zD ?_ | refine zN ?_ | refine zT ?_ | refine zC ?_ | refine zG ?_ | refine zV ?_ | refine zE ?_ | refine zA (by decide) ?_ | refine zL ?_ | refine zQ ?_ | refine zM ?_ | refine yB ?_ | refine yC ?_ | refine zW (by assumption) ?_ | refine zY (by assumption) ?_) | (refine zH rfl ?_) | (simp -implicitDefEqProofs only [push_cast, sevalprocAttr, eq_self, e0, e1, e3, e4, e5, e6, hd, hr]) | (simp -implicitDefEqProofs (disch := omega) only [zR, zZ, zS, zJ, e0, e1, e3, e4, e5, e6, hd, hr]) | (with_reducible refine yE ?_ ?_) | (refine zP rfl (fun bb => ?_) (fun bb => ?_) <;> (first | have bp := of_decide_eq_true bb | have bp := of_decide_eq_false bb | skip) <;> simp only [bb]) | (with_reducible refine zX (fun bb => ?_) (fun bb => ?_) <;> (first | have bp := of_decide_eq_true bb | have bp := of_decide_eq_false bb | skip)) | ((with_reducible refine And.intro ?_ ?_); omega) | (refine yG (f111 _ ho) ?_) | fail)
      all_goals first
        | rfl
        | (exfalso; omega)
  · have hd : decide ((k : Int) < (l.length : Int)) = false := decide_eq_false (by omega)
    have hE : errR l t = 0 := by
      unfold errR
      rw [if_neg (by omega), if_neg h2, if_pos (fun o ho => by obtain ⟨j, hj, rfl⟩ := List.getElem_of_mem ho; exact hall j (by omega) hj)]
    rw [hE]
    repeat' (first | ((try clear hf); with_reducible refine zO fun env K hE hK hf => ?_; have n : _ ∧ _ ∧ _ ∧ _ ∧ _ ∧ _ := ⟨hE 0, hE 1, hE 3, hE 4, hE 5, hE 6⟩; simp -implicitDefEqProofs only [push_cast, reduceIte, Nat.reduceEqDiff, e0, e1, e3, e4, e5, e6] at n; clear hE e0 e1 e3 e4 e5 e6; obtain ⟨e0, e1, e3, e4, e5, e6⟩ := n) | (with_reducible refine hK _ _ ?_; clear hK K) | (with_reducible first | refine zK ?_ | refine zU ?_ | refine zB ?_ | refine zF ?_ | refine zD ?_ | refine zN ?_ | refine zT ?_ | refine zC ?_ | refine zG ?_ | refine zV ?_ | refine zE ?_ | refine zA (by decide) ?_ | refine zL ?_ | refine zQ ?_ | refine zM ?_ | refine yB ?_ | refine yC ?_ | refine zW (by assumption) ?_ | refine zY (by assumption) ?_) | (refine zH rfl ?_) | (simp -implicitDefEqProofs only [push_cast, sevalprocAttr, eq_self, e0, e1, e3, e4, e5, e6, hd]) | (simp -implicitDefEqProofs (disch := omega) only [zR, zZ, zS, zJ, e0, e1, e3, e4, e5, e6, hd]) | (with_reducible refine yE ?_ ?_) | (refine zP rfl (fun bb => ?_) (fun bb => ?_) <;> (first | have bp := of_decide_eq_true bb | have bp := of_decide_eq_false bb | skip) <;> simp only [bb]) | (with_reducible refine zX (fun bb => ?_) (fun bb => ?_) <;> (first | have bp := of_decide_eq_true bb | have bp := of_decide_eq_false bb | skip)) | ((with_reducible refine And.intro ?_ ?_); omega) | fail)
theorem f93 (o : Opn) (t : Tab) : HV Try.prog 93 [.agg (opC o), .agg (tabC t)] (i64 (latS t o)) := by
  refine yJ yK cf93 (by simp) rfl ?_ rfl
  unfold ac93 re93
  refine yF fun env hE => ?_; have e0 := hE 0; have e1 := hE 1; have e2 := hE 2; have e3 := hE 3; have e4 := hE 4; have e5 := hE 5; simp -implicitDefEqProofs only [push_cast] at e0 e1 e2 e3 e4 e5; clear hE
  have hc := clsN_eq o
  have hc4 := clsN_lt o
  have hq := tab_l t hc4
  repeat' (first | ((try clear hf); with_reducible refine zO fun env K hE hK hf => ?_; have n : _ ∧ _ ∧ _ ∧ _ ∧ _ ∧ _ := ⟨hE 0, hE 1, hE 2, hE 3, hE 4, hE 5⟩; simp -implicitDefEqProofs only [push_cast, reduceIte, Nat.reduceEqDiff, e0, e1, e2, e3, e4, e5] at n; clear hE e0 e1 e2 e3 e4 e5; obtain ⟨e0, e1, e2, e3, e4, e5⟩ := n) | (with_reducible refine hK _ _ ?_; clear hK K) | (with_reducible first | refine zK ?_ | refine zU ?_ | refine zB ?_ | refine zF ?_ | refine zD ?_ | refine zN ?_ | refine zT ?_ | refine zC ?_ | refine zG ?_ | refine zV ?_ | refine zE ?_ | refine zA (by decide) ?_ | refine zL ?_ | refine zQ ?_ | refine zM ?_ | refine yB ?_ | refine yC ?_ | refine zW (by assumption) ?_ | refine zY (by assumption) ?_) | (refine zH rfl ?_) | (simp -implicitDefEqProofs only [push_cast, sevalprocAttr, eq_self, e0, e1, e2, e3, e4, e5, hc, hq]) | (simp -implicitDefEqProofs (disch := omega) only [zR, zZ, zS, zJ, e0, e1, e2, e3, e4, e5, hc, hq]) | (with_reducible refine yE ?_ ?_) | (refine zP rfl (fun bb => ?_) (fun bb => ?_) <;> (first | have bp := of_decide_eq_true bb | have bp := of_decide_eq_false bb | skip) <;> simp only [bb]) | (with_reducible refine zX (fun bb => ?_) (fun bb => ?_) <;> (first | have bp := of_decide_eq_true bb | have bp := of_decide_eq_false bb | skip)) | ((with_reducible refine And.intro ?_ ?_); omega) | (refine yG (f51 _) ?_) | fail)
  rfl
theorem f113 (o : Opn) (ho : o.ok) (r : Int) : HV Try.prog 113 [.agg (opC o), u8 r] (bl ((wrS o).2 && decide ((wrS o).1 = r))) := by
  refine yJ yK cf113 (by simp) rfl ?_ rfl
  unfold ac113 re113
  refine yF fun env hE => ?_; have e0 := hE 0; have e1 := hE 1; have e2 := hE 2; have e4 := hE 4; have e5 := hE 5; have e6 := hE 6; simp -implicitDefEqProofs only [push_cast] at e0 e1 e2 e4 e5 e6; clear hE
  repeat' (first | ((try clear hf); with_reducible refine zO fun env K hE hK hf => ?_; have n : _ ∧ _ ∧ _ ∧ _ ∧ _ ∧ _ := ⟨hE 0, hE 1, hE 2, hE 4, hE 5, hE 6⟩; simp -implicitDefEqProofs only [push_cast, reduceIte, Nat.reduceEqDiff, e0, e1, e2, e4, e5, e6] at n; clear hE e0 e1 e2 e4 e5 e6; obtain ⟨e0, e1, e2, e4, e5, e6⟩ := n) | (with_reducible refine hK _ _ ?_; clear hK K) | (with_reducible first | refine zK ?_ | refine zU ?_ | refine zB ?_ | refine zF ?_ | refine zD ?_ | refine zN ?_ | refine zT ?_ | refine zC ?_ | refine zG ?_ | refine zV ?_ | refine zE ?_ | refine zA (by decide) ?_ | refine zL ?_ | refine zQ ?_ | refine zM ?_ | refine yB ?_ | refine yC ?_ | refine zW (by assumption) ?_ | refine zY (by assumption) ?_) | (refine zH rfl ?_) | (simp -implicitDefEqProofs only [push_cast, sevalprocAttr, eq_self, e0, e1, e2, e4, e5, e6]) | (simp -implicitDefEqProofs (disch := omega) only [zR, zZ, zS, zJ, e0, e1, e2, e4, e5, e6]) | (with_reducible refine yE ?_ ?_) | (refine zP rfl (fun bb => ?_) (fun bb => ?_) <;> (first | have bp := of_decide_eq_true bb | have bp := of_decide_eq_false bb | skip) <;> simp only [bb]) | (with_reducible refine zX (fun bb => ?_) (fun bb => ?_) <;> (first | have bp := of_decide_eq_true bb | have bp := of_decide_eq_false bb | skip)) | ((with_reducible refine And.intro ?_ ?_); omega) | (refine yG (f88 o ho) ?_) | fail)
  all_goals ((try clear hf); (try clear e0 e1 e2 e4 e5 e6); simp_all)
theorem f114 (o : Opn) : HV Try.prog 114 [.agg (opC o)] (bl (effS o)) := by
  refine yJ yK cf114 (by simp) rfl ?_ rfl
  unfold ac114 re114
  refine yF fun env hE => ?_; have e0 := hE 0; have e1 := hE 1; have e2 := hE 2; simp -implicitDefEqProofs only [push_cast] at e0 e1 e2; clear hE
  repeat' (first | ((try clear hf); with_reducible refine zO fun env K hE hK hf => ?_; have n : _ ∧ _ ∧ _ := ⟨hE 0, hE 1, hE 2⟩; simp -implicitDefEqProofs only [push_cast, reduceIte, Nat.reduceEqDiff, e0, e1, e2] at n; clear hE e0 e1 e2; obtain ⟨e0, e1, e2⟩ := n) | (with_reducible refine hK _ _ ?_; clear hK K) | (with_reducible first | refine zK ?_ | refine zU ?_ | refine zB ?_ | refine zF ?_ | refine zD ?_ | refine zN ?_ | refine zT ?_ | refine zC ?_ | refine zG ?_ | refine zV ?_ | refine zE ?_ | refine zA (by decide) ?_ | refine zL ?_ | refine zQ ?_ | refine zM ?_ | refine yB ?_ | refine yC ?_ | refine zW (by assumption) ?_ | refine zY (by assumption) ?_) | (refine zH rfl ?_) | (simp -implicitDefEqProofs only [push_cast, sevalprocAttr, eq_self, e0, e1, e2]) | (simp -implicitDefEqProofs (disch := omega) only [zR, zZ, zS, zJ, e0, e1, e2]) | (with_reducible refine yE ?_ ?_) | (refine zP rfl (fun bb => ?_) (fun bb => ?_) <;> (first | have bp := of_decide_eq_true bb | have bp := of_decide_eq_false bb | skip) <;> simp only [bb]) | (with_reducible refine zX (fun bb => ?_) (fun bb => ?_) <;> (first | have bp := of_decide_eq_true bb | have bp := of_decide_eq_false bb | skip)) | ((with_reducible refine And.intro ?_ ?_); omega) | fail)
  all_goals ((try clear hf); (try clear e0 e1 e2); unfold effS; simp_all)
theorem wr_dS {o : Opn} (ho : o.ok) {r : Int} (hr : 0 ≤ r) : ((wrS o).2 && decide ((wrS o).1 = r)) = true ↔ 0 ≤ dS o ∧ r.toNat = (dS o).toNat := by
  have h1 : 0 ≤ (wrS o).1 := by
    unfold Opn.ok at ho
    unfold wrS; split <;> simp; omega
  unfold dS
  cases h : (wrS o).2
  · simp
  · simp; omega
set_option maxHeartbeats 1000000 in
theorem f112 (l : List Opn) (n : Nat) (r : Int) (hr : 0 ≤ r) (hn : n ≤ l.length) (hl : ∀ o ∈ l, o.ok) (hb : l.length ≤ 1000000) : HV Try.prog 112 [.row (l.map opC), i64 n, u8 r] (i64 (lastL l n r.toNat - 1)) := by
  refine yJ yK cf112 (by simp) (by simp [imms, imm, qF]) ?_ rfl
  unfold ac112 re112
  refine yF fun env hE => ?_; have e0 := hE 0; have e1 := hE 1; have e2 := hE 2; have e6 := hE 6; have e7 := hE 7; simp -implicitDefEqProofs only [push_cast] at e0 e1 e2 e6 e7; clear hE
  repeat' (first | ((try clear hf); with_reducible refine zO fun env K hE hK hf => ?_; have n : _ ∧ _ ∧ _ ∧ _ ∧ _ := ⟨hE 0, hE 1, hE 2, hE 6, hE 7⟩; simp -implicitDefEqProofs only [push_cast, reduceIte, Nat.reduceEqDiff, e0, e1, e2, e6, e7] at n; clear hE e0 e1 e2 e6 e7; obtain ⟨e0, e1, e2, e6, e7⟩ := n) | (with_reducible refine hK _ _ ?_; clear hK K) | (with_reducible first | refine zK ?_ | refine zU ?_ | refine zB ?_ | refine zF ?_ | refine zD ?_ | refine zN ?_ | refine zT ?_ | refine zC ?_ | refine zG ?_ | refine zV ?_ | refine zE ?_ | refine zA (by decide) ?_ | refine zL ?_ | refine zQ ?_ | refine zM ?_ | refine yB ?_ | refine yC ?_ | refine zW (by assumption) ?_ | refine zY (by assumption) ?_) | (refine zH rfl ?_) | (simp -implicitDefEqProofs only [push_cast, sevalprocAttr, eq_self, e0, e1, e2, e6, e7]) | (simp -implicitDefEqProofs (disch := omega) only [zR, zZ, zS, zJ, e0, e1, e2, e6, e7]) | (with_reducible refine yE ?_ ?_) | (refine zP rfl (fun bb => ?_) (fun bb => ?_) <;> (first | have bp := of_decide_eq_true bb | have bp := of_decide_eq_false bb | skip) <;> simp only [bb]) | (with_reducible refine zX (fun bb => ?_) (fun bb => ?_) <;> (first | have bp := of_decide_eq_true bb | have bp := of_decide_eq_false bb | skip)) | ((with_reducible refine And.intro ?_ ?_); omega) | fail)
  refine yF fun env hE => ?_; have n : _ ∧ _ ∧ _ ∧ _ ∧ _ := ⟨hE 0, hE 1, hE 2, hE 6, hE 7⟩; simp -implicitDefEqProofs only [push_cast, reduceIte, Nat.reduceEqDiff, e0, e1, e2, e6, e7] at n; clear hE e0 e1 e2 e6 e7; obtain ⟨e0, e1, e2, e6, e7⟩ := n; have E112_0_0 := e0; have E112_0_1 := e1; have E112_0_2 := e2
  refine yL (fun nn σ => ∃ (m : Nat), nn = m + m ∧ σ.env 0 = env 0 ∧ σ.env 1 = env 1 ∧ σ.env 2 = env 2 ∧ σ.env 7 = i64 ((m : Int) - 1) ∧ (m ≤ n ∧ lastL l n r.toNat = lastL l m r.toNat)) _ ⟨n, rfl, rfl, rfl, rfl, by refine e7.trans ?_; first | rfl | exact yD (by omega) | (simp -implicitDefEqProofs (disch := omega) only [zJ]; first | rfl | exact yD (by omega)), ?_⟩ ?_
  · exact ⟨by omega, rfl⟩
  clear e0 e1 e2 e6 e7; rintro nn ⟨env, h⟩ ⟨m, rfl, q0, q1, q2, e7, hI⟩; simp only at q0 q1 q2 e7 hI; (first | have e0 := q0.trans E112_0_0 | have e0 := True.intro); (first | have e1 := q1.trans E112_0_1 | have e1 := True.intro); (first | have e2 := q2.trans E112_0_2 | have e2 := True.intro); clear q0 q1 q2; have e6 := True.intro
  obtain ⟨hm, hlast⟩ := hI
  unfold l112_0
  by_cases hlt : 0 < m
  · have hd : decide ((0 : Int) ≤ (m : Int) - 1) = true := decide_eq_true (by omega)
    obtain ⟨k, hk⟩ : ∃ k, m = k + 1 := ⟨m - 1, by omega⟩
    have hmk : (m : Int) - 1 = (k : Int) := by omega
    rw [hmk] at hd e7
    have hkl : k < l.length := by omega
    have hr2 := qK hkl .i64
    have ho := hl _ (List.getElem_mem hkl)
    have hw := wr_dS ho hr
    have hoe := qH hkl
    have hLs : lastL l (k + 1) r.toNat = if 0 ≤ dS l[k] ∧ r.toNat = (dS l[k]).toNat then (k : Int) + 1 else lastL l k r.toNat := by rw [hoe]; rfl
    by_cases hc : ((wrS l[k]).2 && decide ((wrS l[k]).1 = r)) = true
    · repeat' (first | ((try clear hf); with_reducible refine zO fun env K hE hK hf => ?_; have n : _ ∧ _ ∧ _ ∧ _ ∧ _ := ⟨hE 0, hE 1, hE 2, hE 6, hE 7⟩; simp -implicitDefEqProofs only [push_cast, reduceIte, Nat.reduceEqDiff, e0, e1, e2, e6, e7] at n; clear hE e0 e1 e2 e6 e7; obtain ⟨e0, e1, e2, e6, e7⟩ := n) | (with_reducible refine hK _ _ ?_; clear hK K) | (with_reducible first | refine zK ?_ | refine zU ?_ | refine zB ?_ | refine zF ?_ | refine zD ?_ | refine zN ?_ | refine zT ?_ | refine zC ?_ | refine zG ?_ | refine zV ?_ | refine zE ?_ | refine zA (by decide) ?_ | refine zL ?_ | refine zQ ?_ | refine zM ?_ | refine yB ?_ | refine yC ?_ | refine zW (by assumption) ?_ | refine zY (by assumption) ?_) | (refine zH rfl ?_) | (simp -implicitDefEqProofs only [push_cast, sevalprocAttr, eq_self, e0, e1, e2, e6, e7, hd, hr2, hc]) | (simp -implicitDefEqProofs (disch := omega) only [zR, zZ, zS, zJ, e0, e1, e2, e6, e7, hd, hr2, hc]) | (with_reducible refine yE ?_ ?_) | (refine zP rfl (fun bb => ?_) (fun bb => ?_) <;> (first | have bp := of_decide_eq_true bb | have bp := of_decide_eq_false bb | skip) <;> simp only [bb]) | (with_reducible refine zX (fun bb => ?_) (fun bb => ?_) <;> (first | have bp := of_decide_eq_true bb | have bp := of_decide_eq_false bb | skip)) | ((with_reducible refine And.intro ?_ ?_); omega) | (refine yG (f113 _ ho r) ?_) | fail)
      rw [hlast, hk, hLs, if_pos (hw.1 hc)]
      exact congrArg some (yD (by omega))
    · have hc2 := hc
      rw [Bool.not_eq_true] at hc
      repeat' (first | ((try clear hf); with_reducible refine zO fun env K hE hK hf => ?_; have n : _ ∧ _ ∧ _ ∧ _ ∧ _ := ⟨hE 0, hE 1, hE 2, hE 6, hE 7⟩; simp -implicitDefEqProofs only [push_cast, reduceIte, Nat.reduceEqDiff, e0, e1, e2, e6, e7] at n; clear hE e0 e1 e2 e6 e7; obtain ⟨e0, e1, e2, e6, e7⟩ := n) | (with_reducible refine hK _ _ ?_; clear hK K) | (with_reducible first | refine zK ?_ | refine zU ?_ | refine zB ?_ | refine zF ?_ | refine zD ?_ | refine zN ?_ | refine zT ?_ | refine zC ?_ | refine zG ?_ | refine zV ?_ | refine zE ?_ | refine zA (by decide) ?_ | refine zL ?_ | refine zQ ?_ | refine zM ?_ | refine yB ?_ | refine yC ?_ | refine zW (by assumption) ?_ | refine zY (by assumption) ?_) | (refine zH rfl ?_) | (simp -implicitDefEqProofs only [push_cast, sevalprocAttr, eq_self, e0, e1, e2, e6, e7, hd, hr2, hc]) | (simp -implicitDefEqProofs (disch := omega) only [zR, zZ, zS, zJ, e0, e1, e2, e6, e7, hd, hr2, hc]) | (with_reducible refine yE ?_ ?_) | (refine zP rfl (fun bb => ?_) (fun bb => ?_) <;> (first | have bp := of_decide_eq_true bb | have bp := of_decide_eq_false bb | skip) <;> simp only [bb]) | (with_reducible refine zX (fun bb => ?_) (fun bb => ?_) <;> (first | have bp := of_decide_eq_true bb | have bp := of_decide_eq_false bb | skip)) | ((with_reducible refine And.intro ?_ ?_); omega) | (refine yG (f113 _ ho r) ?_) | fail)
      refine ⟨_, ?_, k, rfl, E112_0_0.symm, E112_0_1.symm, E112_0_2.symm, by first | rfl | exact yD (by omega) | (simp -implicitDefEqProofs (disch := omega) only [zJ]; first | rfl | exact yD (by omega)), ?_⟩
      · omega
      · refine ⟨by omega, ?_⟩
        rw [hlast, hk, hLs, if_neg (fun h => hc2 (hw.2 h))]
  · have hd : decide ((0 : Int) ≤ (m : Int) - 1) = false := decide_eq_false (by omega)
    repeat' (first | ((try clear hf); with_reducible refine zO fun env K hE hK hf => ?_; have n : _ ∧ _ ∧ _ ∧ _ ∧ _ := ⟨hE 0, hE 1, hE 2, hE 6, hE 7⟩; simp -implicitDefEqProofs only [push_cast, reduceIte, Nat.reduceEqDiff, e0, e1, e2, e6, e7] at n; clear hE e0 e1 e2 e6 e7; obtain ⟨e0, e1, e2, e6, e7⟩ := n) | (with_reducible refine hK _ _ ?_; clear hK K) | (with_reducible first | refine zK ?_ | refine zU ?_ | refine zB ?_ | refine zF ?_ | refine zD ?_ | refine zN ?_ | refine zT ?_ | refine zC ?_ | refine zG ?_ | refine zV ?_ | refine zE ?_ | refine zA (by decide) ?_ | refine zL ?_ | refine zQ ?_ | refine zM ?_ | refine yB ?_ | refine yC ?_ | refine zW (by assumption) ?_ | refine zY (by assumption) ?_) | (refine zH rfl ?_) | (simp -implicitDefEqProofs only [push_cast, sevalprocAttr, eq_self, e0, e1, e2, e6, e7, hd]) | (simp -implicitDefEqProofs (disch := omega) only [zR, zZ, zS, zJ, e0, e1, e2, e6, e7, hd]) | (with_reducible refine yE ?_ ?_) | (refine zP rfl (fun bb => ?_) (fun bb => ?_) <;> (first | have bp := of_decide_eq_true bb | have bp := of_decide_eq_false bb | skip) <;> simp only [bb]) | (with_reducible refine zX (fun bb => ?_) (fun bb => ?_) <;> (first | have bp := of_decide_eq_true bb | have bp := of_decide_eq_false bb | skip)) | ((with_reducible refine And.intro ?_ ?_); omega) | fail)
    obtain rfl : m = 0 := by omega
    rw [hlast]
    rfl
end Go.Proofs.Hx

set_option linter.unusedVariables false
set_option linter.unusedSimpArgs false
namespace Go.Proofs.Hx
open Go Go.Proofs
attribute [local irreducible] yM awp opK goV goM yZ qB qD yQ HV HVF HC
theorem lastL_rng (l : List Opn) (n r : Nat) : 0 ≤ lastL l n r ∧ lastL l n r ≤ n := by
  induction n with
  | zero => simp [lastL]
  | succ n ih => simp only [lastL]; split <;> omega
theorem any_of {L : Nat → Int} {o : Opn} {i k : Nat} (hk : k < (rdS o).length) (h : L ((rdS o)[k]).toNat = (i : Int) + 1) : fromS L o i = true := by
  unfold fromS
  rw [List.any_eq_true]
  exact ⟨_, List.getElem_mem hk, decide_eq_true h⟩
theorem any_no {L : Nat → Int} {o : Opn} {i : Nat} (h : ∀ (q : Nat) (hq : q < (rdS o).length), L ((rdS o)[q]).toNat ≠ (i : Int) + 1) : fromS L o i = false := by
  unfold fromS
  rw [List.any_eq_false]
  intro x hx
  obtain ⟨j, hj, rfl⟩ := List.getElem_of_mem hx
  simpa using h j hj
set_option maxHeartbeats 1000000 in
theorem f92'n (l : List Opn) (i j : Nat) (hi : i ≤ 1000000) (hj : j < l.length) (hl : ∀ o ∈ l, o.ok) (hb : l.length ≤ 1000000) : HV Try.prog 92 [.row (l.map opC), i64 i, i64 j, bl false] (bl (fromS (lastL l j) l[j] i)) := by
  refine yJ yK cf92 (by simp) (by simp [imms, imm, qF]) ?_ rfl
  unfold ac92 re92
  refine yF fun env hE => ?_; have e0 := hE 0; have e1 := hE 1; have e2 := hE 2; have e3 := hE 3; have e8 := hE 8; have e9 := hE 9; have e10 := hE 10; have e11 := hE 11; simp -implicitDefEqProofs only [push_cast] at e0 e1 e2 e3 e8 e9 e10 e11; clear hE
  have hr := qK hj .i64
  have ho := hl _ (List.getElem_mem hj)
  generalize l[j] = o at *
  repeat' (first | ((try clear hf); with_reducible refine zO fun env K hE hK hf => ?_; have n : _ ∧ _ ∧ _ ∧ _ ∧ _ ∧ _ ∧ _ ∧ _ := ⟨hE 0, hE 1, hE 2, hE 3, hE 8, hE 9, hE 10, hE 11⟩; simp -implicitDefEqProofs only [push_cast, reduceIte, Nat.reduceEqDiff, e0, e1, e2, e3, e8, e9, e10, e11] at n; clear hE e0 e1 e2 e3 e8 e9 e10 e11; obtain ⟨e0, e1, e2, e3, e8, e9, e10, e11⟩ := n) | (with_reducible refine hK _ _ ?_; clear hK K) | (with_reducible first | refine zK ?_ | refine zU ?_ | refine zB ?_ | refine zF ?_ | refine zD ?_ | refine zN ?_ | refine zT ?_ | refine zC ?_ | refine zG ?_ | refine zV ?_ | refine zE ?_ | refine zA (by decide) ?_ | refine zL ?_ | refine zQ ?_ | refine zM ?_ | refine yB ?_ | refine yC ?_ | refine zW (by assumption) ?_ | refine zY (by assumption) ?_) | (refine zH rfl ?_) | (simp -implicitDefEqProofs only [push_cast, sevalprocAttr, eq_self, e0, e1, e2, e3, e8, e9, e10, e11, hr]) | (simp -implicitDefEqProofs (disch := omega) only [zR, zZ, zS, zJ, e0, e1, e2, e3, e8, e9, e10, e11, hr]) | (with_reducible refine yE ?_ ?_) | (refine zP rfl (fun bb => ?_) (fun bb => ?_) <;> (first | have bp := of_decide_eq_true bb | have bp := of_decide_eq_false bb | skip) <;> simp only [bb]) | (with_reducible refine zX (fun bb => ?_) (fun bb => ?_) <;> (first | have bp := of_decide_eq_true bb | have bp := of_decide_eq_false bb | skip)) | ((with_reducible refine And.intro ?_ ?_); omega) | (refine call_own (lends_imm rfl) (f89 o ho) ?_) | fail)
  refine yF fun env hE => ?_; have n : _ ∧ _ ∧ _ ∧ _ ∧ _ ∧ _ ∧ _ ∧ _ := ⟨hE 0, hE 1, hE 2, hE 3, hE 8, hE 9, hE 10, hE 11⟩; simp -implicitDefEqProofs only [push_cast, reduceIte, Nat.reduceEqDiff, e0, e1, e2, e3, e8, e9, e10, e11] at n; clear hE e0 e1 e2 e3 e8 e9 e10 e11; obtain ⟨e0, e1, e2, e3, e8, e9, e10, e11⟩ := n; have E92_0_0 := e0; have E92_0_1 := e1; have E92_0_2 := e2; have E92_0_3 := e3; have E92_0_9 := e9
  refine yL (fun nn σ => ∃ (k : Nat), nn = (rdS o).length - k ∧ σ.env 0 = env 0 ∧ σ.env 1 = env 1 ∧ σ.env 2 = env 2 ∧ σ.env 3 = env 3 ∧ σ.env 9 = env 9 ∧ σ.env 10 = i64 k ∧ (k ≤ (rdS o).length ∧ ∀ (q : Nat) (hq : q < k) (h : q < (rdS o).length), lastL l j ((rdS o)[q]).toNat ≠ (i : Int) + 1)) _ ⟨0, rfl, rfl, rfl, rfl, rfl, rfl, by refine e10.trans ?_; first | rfl | exact yD (by omega) | (simp -implicitDefEqProofs (disch := omega) only [zJ]; first | rfl | exact yD (by omega)), ?_⟩ ?_
  · exact ⟨by omega, fun j hj => by omega⟩
  clear e0 e1 e2 e3 e8 e9 e10 e11; rintro nn ⟨env, h⟩ ⟨k, rfl, q0, q1, q2, q3, q9, e10, hI⟩; simp only at q0 q1 q2 q3 q9 e10 hI; (first | have e0 := q0.trans E92_0_0 | have e0 := True.intro); (first | have e1 := q1.trans E92_0_1 | have e1 := True.intro); (first | have e2 := q2.trans E92_0_2 | have e2 := True.intro); (first | have e3 := q3.trans E92_0_3 | have e3 := True.intro); (first | have e9 := q9.trans E92_0_9 | have e9 := True.intro); clear q0 q1 q2 q3 q9; have e8 := True.intro; have e11 := True.intro
  obtain ⟨hk, hall⟩ := hI
  unfold l92_0
  have hrl := rdS_len o
  by_cases hlt : k < (rdS o).length
  · have hd : decide ((k : Int) < ((rdS o).length : Int)) = true := decide_eq_true (by omega)
    have hr := regs_at hlt .i64
    have hm := rdS_mem ho (List.getElem_mem hlt)
    have hcall := f112 l j (rdS o)[k] hm.1 (by omega) hl hb
    have hrng := lastL_rng l j ((rdS o)[k]).toNat
    have hno := fun h => any_of (L := lastL l j) (i := i) hlt h
    generalize hx : (rdS o)[k] = x at *
    by_cases hc : lastL l j x.toNat = (i : Int) + 1
    · have d1 : decide (lastL l j x.toNat - 1 = (i : Int)) = true := decide_eq_true (by omega)
      repeat' (first | ((try clear hf); with_reducible refine zO fun env K hE hK hf => ?_; have n : _ ∧ _ ∧ _ ∧ _ ∧ _ ∧ _ ∧ _ ∧ _ := ⟨hE 0, hE 1, hE 2, hE 3, hE 8, hE 9, hE 10, hE 11⟩; simp -implicitDefEqProofs only [push_cast, reduceIte, Nat.reduceEqDiff, e0, e1, e2, e3, e8, e9, e10, e11] at n; clear hE e0 e1 e2 e3 e8 e9 e10 e11; obtain ⟨e0, e1, e2, e3, e8, e9, e10, e11⟩ := n) | (with_reducible refine hK _ _ ?_; clear hK K) | (with_reducible first | refine zK ?_ | refine zU ?_ | refine zB ?_ | refine zF ?_ | refine zD ?_ | refine zN ?_ | refine zT ?_ | refine zC ?_ | refine zG ?_ | refine zV ?_ | refine zE ?_ | refine zA (by decide) ?_ | refine zL ?_ | refine zQ ?_ | refine zM ?_ | refine yB ?_ | refine yC ?_ | refine zW (by assumption) ?_ | refine zY (by assumption) ?_) | (refine zH rfl ?_) | (simp -implicitDefEqProofs only [push_cast, sevalprocAttr, eq_self, e0, e1, e2, e3, e8, e9, e10, e11, hd, hr, lenV_regs, d1]) | (simp -implicitDefEqProofs (disch := omega) only [zR, zZ, zS, zJ, e0, e1, e2, e3, e8, e9, e10, e11, hd, hr, lenV_regs, d1]) | (with_reducible refine yE ?_ ?_) | (refine zP rfl (fun bb => ?_) (fun bb => ?_) <;> (first | have bp := of_decide_eq_true bb | have bp := of_decide_eq_false bb | skip) <;> simp only [bb]) | (with_reducible refine zX (fun bb => ?_) (fun bb => ?_) <;> (first | have bp := of_decide_eq_true bb | have bp := of_decide_eq_false bb | skip)) | ((with_reducible refine And.intro ?_ ?_); omega) | (refine yG hcall ?_) | fail)
      rw [hno hc]
    · have d1 : decide (lastL l j x.toNat - 1 = (i : Int)) = false := decide_eq_false (by omega)
      repeat' (first | ((try clear hf); with_reducible refine zO fun env K hE hK hf => ?_; have n : _ ∧ _ ∧ _ ∧ _ ∧ _ ∧ _ ∧ _ ∧ _ := ⟨hE 0, hE 1, hE 2, hE 3, hE 8, hE 9, hE 10, hE 11⟩; simp -implicitDefEqProofs only [push_cast, reduceIte, Nat.reduceEqDiff, e0, e1, e2, e3, e8, e9, e10, e11] at n; clear hE e0 e1 e2 e3 e8 e9 e10 e11; obtain ⟨e0, e1, e2, e3, e8, e9, e10, e11⟩ := n) | (with_reducible refine hK _ _ ?_; clear hK K) | (with_reducible first | refine zK ?_ | refine zU ?_ | refine zB ?_ | refine zF ?_ | refine zD ?_ | refine zN ?_ | refine zT ?_ | refine zC ?_ | refine zG ?_ | refine zV ?_ | refine zE ?_ | refine zA (by decide) ?_ | refine zL ?_ | refine zQ ?_ | refine zM ?_ | refine yB ?_ | refine yC ?_ | refine zW (by assumption) ?_ | refine zY (by assumption) ?_) | (refine zH rfl ?_) | (simp -implicitDefEqProofs only [push_cast, sevalprocAttr, eq_self, e0, e1, e2, e3, e8, e9, e10, e11, hd, hr, lenV_regs, d1]) | (simp -implicitDefEqProofs (disch := omega) only [zR, zZ, zS, zJ, e0, e1, e2, e3, e8, e9, e10, e11, hd, hr, lenV_regs, d1]) | (with_reducible refine yE ?_ ?_) | (refine zP rfl (fun bb => ?_) (fun bb => ?_) <;> (first | have bp := of_decide_eq_true bb | have bp := of_decide_eq_false bb | skip) <;> simp only [bb]) | (with_reducible refine zX (fun bb => ?_) (fun bb => ?_) <;> (first | have bp := of_decide_eq_true bb | have bp := of_decide_eq_false bb | skip)) | ((with_reducible refine And.intro ?_ ?_); omega) | (refine yG hcall ?_) | fail)
      refine ⟨_, ?_, k + 1, rfl, E92_0_0.symm, E92_0_1.symm, E92_0_2.symm, E92_0_3.symm, E92_0_9.symm, by first | rfl | exact yD (by omega) | (simp -implicitDefEqProofs (disch := omega) only [zJ]; first | rfl | exact yD (by omega)), ?_⟩
      · omega
      · refine ⟨by omega, fun q hq h => ?_⟩
        by_cases e : q < k
        · exact hall q e h
        · obtain rfl : q = k := by omega
          rw [hx]; exact hc
  · have hd : decide ((k : Int) < ((rdS o).length : Int)) = false := decide_eq_false (by omega)
    repeat' (first | ((try clear hf); with_reducible refine zO fun env K hE hK hf => ?_; have n : _ ∧ _ ∧ _ ∧ _ ∧ _ ∧ _ ∧ _ ∧ _ := ⟨hE 0, hE 1, hE 2, hE 3, hE 8, hE 9, hE 10, hE 11⟩; simp -implicitDefEqProofs only [push_cast, reduceIte, Nat.reduceEqDiff, e0, e1, e2, e3, e8, e9, e10, e11] at n; clear hE e0 e1 e2 e3 e8 e9 e10 e11; obtain ⟨e0, e1, e2, e3, e8, e9, e10, e11⟩ := n) | (with_reducible refine hK _ _ ?_; clear hK K) | (with_reducible first | refine zK ?_ | refine zU ?_ | refine zB ?_ | refine zF ?_ | refine zD ?_ | refine zN ?_ | refine zT ?_ | refine zC ?_ | refine zG ?_ | refine zV ?_ | refine zE ?_ | refine zA (by decide) ?_ | refine zL ?_ | refine zQ ?_ | refine zM ?_ | refine yB ?_ | refine yC ?_ | refine zW (by assumption) ?_ | refine zY (by assumption) ?_) | (refine zH rfl ?_) | (simp -implicitDefEqProofs only [push_cast, sevalprocAttr, eq_self, e0, e1, e2, e3, e8, e9, e10, e11, hd, lenV_regs]) | (simp -implicitDefEqProofs (disch := omega) only [zR, zZ, zS, zJ, e0, e1, e2, e3, e8, e9, e10, e11, hd, lenV_regs]) | (with_reducible refine yE ?_ ?_) | (refine zP rfl (fun bb => ?_) (fun bb => ?_) <;> (first | have bp := of_decide_eq_true bb | have bp := of_decide_eq_false bb | skip) <;> simp only [bb]) | (with_reducible refine zX (fun bb => ?_) (fun bb => ?_) <;> (first | have bp := of_decide_eq_true bb | have bp := of_decide_eq_false bb | skip)) | ((with_reducible refine And.intro ?_ ?_); omega) | fail)
    rw [any_no fun q hq => hall q (by omega) hq]
end Go.Proofs.Hx
