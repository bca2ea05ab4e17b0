import Derived.Test.YtcdibfkebojefaaG5
set_option linter.unusedVariables false
set_option linter.unusedSimpArgs false
namespace Go.Proofs.Hx
open Go Go.Proofs
attribute [local irreducible] yM awp opK goV goM yV yZ qF yQ HV HVF HC
theorem lastL_rng (l : List Opn) (n r : Nat) : 0 ≤ yY l n r ∧ yY l n r ≤ n := by
  induction n with
  | zero => simp [yY]
  | succ n ih => simp only [yY]; split <;> omega
/-- Who was the last of the round ahead to write a register, where nobody has yet in this one. -/
def openL (l : List Opn) (j : Nat) : Nat → Int := fun r => if yY l j r = 0 then yY l l.length r else 0
theorem any_of {L : Nat → Int} {o : Opn} {i k : Nat} (hk : k < (rdS o).length) (h : L ((rdS o)[k]).toNat = (i : Int) + 1) : fromS L o i = true := by
  unfold fromS
  rw [List.any_eq_true]
  exact ⟨_, List.getElem_mem hk, decide_eq_true h⟩
theorem any_no {L : Nat → Int} {o : Opn} {i : Nat} (h : ∀ (q : Nat) (hq : q < (rdS o).length), L ((rdS o)[q]).toNat ≠ (i : Int) + 1) : fromS L o i = false := by
  unfold fromS
  rw [List.any_eq_false]
  intro x hx
  obtain ⟨j, hj, rfl⟩ := List.getElem_of_mem hx
  simpa using h j hj
set_option maxHeartbeats 1000000 in
theorem f92'n (l : List Opn) (i j : Nat) (hi : i ≤ 1000000) (hj : j < l.length) (hl : ∀ o ∈ l, o.ok) (hb : l.length ≤ 1000000) : HV Try.prog 92 [.row (l.map opC), i64 i, i64 j, bl false] (bl (fromS (yY l j) l[j] i)) := by
  refine yJ yL cf92 (by simp) (by simp [imms, imm, yR]) ?_ rfl
  unfold ac92 re92
  refine yF fun env hE => ?_; have e0 := hE 0; have e1 := hE 1; have e2 := hE 2; have e3 := hE 3; have e8 := hE 8; have e9 := hE 9; have e10 := hE 10; have e11 := hE 11; simp -implicitDefEqProofs only [push_cast] at e0 e1 e2 e3 e8 e9 e10 e11; clear hE
  have hr := qJ hj .i64
  have ho := hl _ (List.getElem_mem hj)
  generalize l[j] = o at *
  repeat' (first | ((try clear hf); with_reducible refine zM fun env K hE hK hf => ?_; have n : _ ∧ _ ∧ _ ∧ _ ∧ _ ∧ _ ∧ _ ∧ _ := ⟨hE 0, hE 1, hE 2, hE 3, hE 8, hE 9, hE 10, hE 11⟩; simp -implicitDefEqProofs only [push_cast, reduceIte, Nat.reduceEqDiff, e0, e1, e2, e3, e8, e9, e10, e11] at n; clear hE e0 e1 e2 e3 e8 e9 e10 e11; obtain ⟨e0, e1, e2, e3, e8, e9, e10, e11⟩ := n) | (with_reducible refine hK _ _ ?_; clear hK K) | (with_reducible first | refine zJ ?_ | refine zU ?_ | refine zB ?_ | refine zG ?_ | refine zE ?_ | refine zL ?_ | refine zT ?_ | refine zD ?_ | refine zH ?_ | refine zV ?_ | refine zF ?_ | refine zA (by decide) ?_ | refine zP ?_ | refine zO ?_ | refine zK ?_ | refine yB ?_ | refine yC ?_ | refine zW (by assumption) ?_ | refine zY (by assumption) ?_) | (refine zI rfl ?_) | (simp -implicitDefEqProofs only [push_cast, sevalprocAttr, eq_self, e0, e1, e2, e3, e8, e9, e10, e11, hr]) | (simp -implicitDefEqProofs (disch := omega) only [zR, zZ, zS, zQ, e0, e1, e2, e3, e8, e9, e10, e11, hr]) | (with_reducible refine yE ?_ ?_) | (refine zN rfl (fun bb => ?_) (fun bb => ?_) <;> (first | have bp := of_decide_eq_true bb | have bp := of_decide_eq_false bb | skip) <;> simp only [bb]) | (with_reducible refine zX (fun bb => ?_) (fun bb => ?_) <;> (first | have bp := of_decide_eq_true bb | have bp := of_decide_eq_false bb | skip)) | ((with_reducible refine And.intro ?_ ?_); omega) | (refine call_own (qS rfl) (f89 o ho) ?_) | fail)
  refine yF fun env hE => ?_; have n : _ ∧ _ ∧ _ ∧ _ ∧ _ ∧ _ ∧ _ ∧ _ := ⟨hE 0, hE 1, hE 2, hE 3, hE 8, hE 9, hE 10, hE 11⟩; simp -implicitDefEqProofs only [push_cast, reduceIte, Nat.reduceEqDiff, e0, e1, e2, e3, e8, e9, e10, e11] at n; clear hE e0 e1 e2 e3 e8 e9 e10 e11; obtain ⟨e0, e1, e2, e3, e8, e9, e10, e11⟩ := n; have E92_0_0 := e0; have E92_0_1 := e1; have E92_0_2 := e2; have E92_0_3 := e3; have E92_0_9 := e9
  refine yN (fun nn σ => ∃ (k : Nat), nn = (rdS o).length - k ∧ σ.env 0 = env 0 ∧ σ.env 1 = env 1 ∧ σ.env 2 = env 2 ∧ σ.env 3 = env 3 ∧ σ.env 9 = env 9 ∧ σ.env 10 = i64 k ∧ (k ≤ (rdS o).length ∧ ∀ (q : Nat) (hq : q < k) (h : q < (rdS o).length), yY l j ((rdS o)[q]).toNat ≠ (i : Int) + 1)) _ ⟨0, rfl, rfl, rfl, rfl, rfl, rfl, by refine e10.trans ?_; first | rfl | exact yG (by omega) | (simp -implicitDefEqProofs (disch := omega) only [zQ]; first | rfl | exact yG (by omega)), ?_⟩ ?_
  · exact ⟨by omega, fun j hj => by omega⟩
  clear e0 e1 e2 e3 e8 e9 e10 e11; rintro nn ⟨env, h⟩ ⟨k, rfl, q0, q1, q2, q3, q9, e10, hI⟩; simp only at q0 q1 q2 q3 q9 e10 hI; (first | have e0 := q0.trans E92_0_0 | have e0 := True.intro); (first | have e1 := q1.trans E92_0_1 | have e1 := True.intro); (first | have e2 := q2.trans E92_0_2 | have e2 := True.intro); (first | have e3 := q3.trans E92_0_3 | have e3 := True.intro); (first | have e9 := q9.trans E92_0_9 | have e9 := True.intro); clear q0 q1 q2 q3 q9; have e8 := True.intro; have e11 := True.intro
  obtain ⟨hk, hall⟩ := hI
  unfold l92_0
  have hrl := rdS_len o
  by_cases hlt : k < (rdS o).length
  · have hd : decide ((k : Int) < ((rdS o).length : Int)) = true := decide_eq_true (by omega)
    have hr := regs_at hlt .i64
    have hm := rdS_mem ho (List.getElem_mem hlt)
    have hcall := f112 l j (rdS o)[k] hm.1 (by omega) hl hb
    have hrng := lastL_rng l j ((rdS o)[k]).toNat
    have hno := fun h => any_of (L := yY l j) (i := i) hlt h
    generalize hx : (rdS o)[k] = x at *
    by_cases hc : yY l j x.toNat = (i : Int) + 1
    · have d1 : decide (yY l j x.toNat - 1 = (i : Int)) = true := decide_eq_true (by omega)
      repeat' (first | ((try clear hf); with_reducible refine zM fun env K hE hK hf => ?_; have n : _ ∧ _ ∧ _ ∧ _ ∧ _ ∧ _ ∧ _ ∧ _ := ⟨hE 0, hE 1, hE 2, hE 3, hE 8, hE 9, hE 10, hE 11⟩; simp -implicitDefEqProofs only [push_cast, reduceIte, Nat.reduceEqDiff, e0, e1, e2, e3, e8, e9, e10, e11] at n; clear hE e0 e1 e2 e3 e8 e9 e10 e11; obtain ⟨e0, e1, e2, e3, e8, e9, e10, e11⟩ := n) | (with_reducible refine hK _ _ ?_; clear hK K) | (with_reducible first | refine zJ ?_ | refine zU ?_ | refine zB ?_ | refine zG ?_ | refine zE ?_ | refine zL ?_ | refine zT ?_ | refine zD ?_ | refine zH ?_ | refine zV ?_ | refine zF ?_ | refine zA (by decide) ?_ | refine zP ?_ | refine zO ?_ | refine zK ?_ | refine yB ?_ | refine yC ?_ | refine zW (by assumption) ?_ | refine zY (by assumption) ?_) | (refine zI rfl ?_) | (simp -implicitDefEqProofs only [push_cast, sevalprocAttr, eq_self, e0, e1, e2, e3, e8, e9, e10, e11, hd, hr, qC, d1]) | (simp -implicitDefEqProofs (disch := omega) only [zR, zZ, zS, zQ, e0, e1, e2, e3, e8, e9, e10, e11, hd, hr, qC, d1]) | (with_reducible refine yE ?_ ?_) | (refine zN rfl (fun bb => ?_) (fun bb => ?_) <;> (first | have bp := of_decide_eq_true bb | have bp := of_decide_eq_false bb | skip) <;> simp only [bb]) | (with_reducible refine zX (fun bb => ?_) (fun bb => ?_) <;> (first | have bp := of_decide_eq_true bb | have bp := of_decide_eq_false bb | skip)) | ((with_reducible refine And.intro ?_ ?_); omega) | (refine yD hcall ?_) | fail)
      rw [hno hc]
    · have d1 : decide (yY l j x.toNat - 1 = (i : Int)) = false := decide_eq_false (by omega)
      repeat' (first | ((try clear hf); with_reducible refine zM fun env K hE hK hf => ?_; have n : _ ∧ _ ∧ _ ∧ _ ∧ _ ∧ _ ∧ _ ∧ _ := ⟨hE 0, hE 1, hE 2, hE 3, hE 8, hE 9, hE 10, hE 11⟩; simp -implicitDefEqProofs only [push_cast, reduceIte, Nat.reduceEqDiff, e0, e1, e2, e3, e8, e9, e10, e11] at n; clear hE e0 e1 e2 e3 e8 e9 e10 e11; obtain ⟨e0, e1, e2, e3, e8, e9, e10, e11⟩ := n) | (with_reducible refine hK _ _ ?_; clear hK K) | (with_reducible first | refine zJ ?_ | refine zU ?_ | refine zB ?_ | refine zG ?_ | refine zE ?_ | refine zL ?_ | refine zT ?_ | refine zD ?_ | refine zH ?_ | refine zV ?_ | refine zF ?_ | refine zA (by decide) ?_ | refine zP ?_ | refine zO ?_ | refine zK ?_ | refine yB ?_ | refine yC ?_ | refine zW (by assumption) ?_ | refine zY (by assumption) ?_) | (refine zI rfl ?_) | (simp -implicitDefEqProofs only [push_cast, sevalprocAttr, eq_self, e0, e1, e2, e3, e8, e9, e10, e11, hd, hr, qC, d1]) | (simp -implicitDefEqProofs (disch := omega) only [zR, zZ, zS, zQ, e0, e1, e2, e3, e8, e9, e10, e11, hd, hr, qC, d1]) | (with_reducible refine yE ?_ ?_) | (refine zN rfl (fun bb => ?_) (fun bb => ?_) <;> (first | have bp := of_decide_eq_true bb | have bp := of_decide_eq_false bb | skip) <;> simp only [bb]) | (with_reducible refine zX (fun bb => ?_) (fun bb => ?_) <;> (first | have bp := of_decide_eq_true bb | have bp := of_decide_eq_false bb | skip)) | ((with_reducible refine And.intro ?_ ?_); omega) | (refine yD hcall ?_) | fail)
      refine ⟨_, ?_, k + 1, rfl, E92_0_0.symm, E92_0_1.symm, E92_0_2.symm, E92_0_3.symm, E92_0_9.symm, by first | rfl | exact yG (by omega) | (simp -implicitDefEqProofs (disch := omega) only [zQ]; first | rfl | exact yG (by omega)), ?_⟩
      · omega
      · refine ⟨by omega, fun q hq h => ?_⟩
        by_cases e : q < k
        · exact hall q e h
        · obtain rfl : q = k := by omega
          rw [hx]; exact hc
  · have hd : decide ((k : Int) < ((rdS o).length : Int)) = false := decide_eq_false (by omega)
    repeat' (first | ((try clear hf); with_reducible refine zM fun env K hE hK hf => ?_; have n : _ ∧ _ ∧ _ ∧ _ ∧ _ ∧ _ ∧ _ ∧ _ := ⟨hE 0, hE 1, hE 2, hE 3, hE 8, hE 9, hE 10, hE 11⟩; simp -implicitDefEqProofs only [push_cast, reduceIte, Nat.reduceEqDiff, e0, e1, e2, e3, e8, e9, e10, e11] at n; clear hE e0 e1 e2 e3 e8 e9 e10 e11; obtain ⟨e0, e1, e2, e3, e8, e9, e10, e11⟩ := n) | (with_reducible refine hK _ _ ?_; clear hK K) | (with_reducible first | refine zJ ?_ | refine zU ?_ | refine zB ?_ | refine zG ?_ | refine zE ?_ | refine zL ?_ | refine zT ?_ | refine zD ?_ | refine zH ?_ | refine zV ?_ | refine zF ?_ | refine zA (by decide) ?_ | refine zP ?_ | refine zO ?_ | refine zK ?_ | refine yB ?_ | refine yC ?_ | refine zW (by assumption) ?_ | refine zY (by assumption) ?_) | (refine zI rfl ?_) | (simp -implicitDefEqProofs only [push_cast, sevalprocAttr, eq_self, e0, e1, e2, e3, e8, e9, e10, e11, hd, qC]) | (simp -implicitDefEqProofs (disch := omega) only [zR, zZ, zS, zQ, e0, e1, e2, e3, e8, e9, e10, e11, hd, qC]) | (with_reducible refine yE ?_ ?_) | (refine zN rfl (fun bb => ?_) (fun bb => ?_) <;> (first | have bp := of_decide_eq_true bb | have bp := of_decide_eq_false bb | skip) <;> simp only [bb]) | (with_reducible refine zX (fun bb => ?_) (fun bb => ?_) <;> (first | have bp := of_decide_eq_true bb | have bp := of_decide_eq_false bb | skip)) | ((with_reducible refine And.intro ?_ ?_); omega) | fail)
    rw [any_no fun q hq => hall q (by omega) hq]
set_option maxHeartbeats 1000000 in
theorem f92'a (l : List Opn) (i j : Nat) (hi : i ≤ 1000000) (hj : j < l.length) (hl : ∀ o ∈ l, o.ok) (hb : l.length ≤ 1000000) : HV Try.prog 92 [.row (l.map opC), i64 i, i64 j, bl true] (bl (fromS (openL l j) l[j] i)) := by
  refine yJ yL cf92 (by simp) (by simp [imms, imm, yR]) ?_ rfl
  unfold ac92 re92
  refine yF fun env hE => ?_; have e0 := hE 0; have e1 := hE 1; have e2 := hE 2; have e3 := hE 3; have e8 := hE 8; have e9 := hE 9; have e10 := hE 10; have e11 := hE 11; simp -implicitDefEqProofs only [push_cast] at e0 e1 e2 e3 e8 e9 e10 e11; clear hE
  have hr := qJ hj .i64
  have ho := hl _ (List.getElem_mem hj)
  generalize l[j] = o at *
  repeat' (first | ((try clear hf); with_reducible refine zM fun env K hE hK hf => ?_; have n : _ ∧ _ ∧ _ ∧ _ ∧ _ ∧ _ ∧ _ ∧ _ := ⟨hE 0, hE 1, hE 2, hE 3, hE 8, hE 9, hE 10, hE 11⟩; simp -implicitDefEqProofs only [push_cast, reduceIte, Nat.reduceEqDiff, e0, e1, e2, e3, e8, e9, e10, e11] at n; clear hE e0 e1 e2 e3 e8 e9 e10 e11; obtain ⟨e0, e1, e2, e3, e8, e9, e10, e11⟩ := n) | (with_reducible refine hK _ _ ?_; clear hK K) | (with_reducible first | refine zJ ?_ | refine zU ?_ | refine zB ?_ | refine zG ?_ | refine zE ?_ | refine zL ?_ | refine zT ?_ | refine zD ?_ | refine zH ?_ | refine zV ?_ | refine zF ?_ | refine zA (by decide) ?_ | refine zP ?_ | refine zO ?_ | refine zK ?_ | refine yB ?_ | refine yC ?_ | refine zW (by assumption) ?_ | refine zY (by assumption) ?_) | (refine zI rfl ?_) | (simp -implicitDefEqProofs only [push_cast, sevalprocAttr, eq_self, e0, e1, e2, e3, e8, e9, e10, e11, hr]) | (simp -implicitDefEqProofs (disch := omega) only [zR, zZ, zS, zQ, e0, e1, e2, e3, e8, e9, e10, e11, hr]) | (with_reducible refine yE ?_ ?_) | (refine zN rfl (fun bb => ?_) (fun bb => ?_) <;> (first | have bp := of_decide_eq_true bb | have bp := of_decide_eq_false bb | skip) <;> simp only [bb]) | (with_reducible refine zX (fun bb => ?_) (fun bb => ?_) <;> (first | have bp := of_decide_eq_true bb | have bp := of_decide_eq_false bb | skip)) | ((with_reducible refine And.intro ?_ ?_); omega) | (refine call_own (qS rfl) (f89 o ho) ?_) | fail)
  refine yF fun env hE => ?_; have n : _ ∧ _ ∧ _ ∧ _ ∧ _ ∧ _ ∧ _ ∧ _ := ⟨hE 0, hE 1, hE 2, hE 3, hE 8, hE 9, hE 10, hE 11⟩; simp -implicitDefEqProofs only [push_cast, reduceIte, Nat.reduceEqDiff, e0, e1, e2, e3, e8, e9, e10, e11] at n; clear hE e0 e1 e2 e3 e8 e9 e10 e11; obtain ⟨e0, e1, e2, e3, e8, e9, e10, e11⟩ := n; have E92_0_0 := e0; have E92_0_1 := e1; have E92_0_2 := e2; have E92_0_3 := e3; have E92_0_9 := e9
  refine yN (fun nn σ => ∃ (k : Nat), nn = (rdS o).length - k ∧ σ.env 0 = env 0 ∧ σ.env 1 = env 1 ∧ σ.env 2 = env 2 ∧ σ.env 3 = env 3 ∧ σ.env 9 = env 9 ∧ σ.env 10 = i64 k ∧ (k ≤ (rdS o).length ∧ ∀ (q : Nat) (hq : q < k) (h : q < (rdS o).length), openL l j ((rdS o)[q]).toNat ≠ (i : Int) + 1)) _ ⟨0, rfl, rfl, rfl, rfl, rfl, rfl, by refine e10.trans ?_; first | rfl | exact yG (by omega) | (simp -implicitDefEqProofs (disch := omega) only [zQ]; first | rfl | exact yG (by omega)), ?_⟩ ?_
  · exact ⟨by omega, fun j hj => by omega⟩
  clear e0 e1 e2 e3 e8 e9 e10 e11; rintro nn ⟨env, h⟩ ⟨k, rfl, q0, q1, q2, q3, q9, e10, hI⟩; simp only at q0 q1 q2 q3 q9 e10 hI; (first | have e0 := q0.trans E92_0_0 | have e0 := True.intro); (first | have e1 := q1.trans E92_0_1 | have e1 := True.intro); (first | have e2 := q2.trans E92_0_2 | have e2 := True.intro); (first | have e3 := q3.trans E92_0_3 | have e3 := True.intro); (first | have e9 := q9.trans E92_0_9 | have e9 := True.intro); clear q0 q1 q2 q3 q9; have e8 := True.intro; have e11 := True.intro
  obtain ⟨hk, hall⟩ := hI
  unfold l92_0
  have hrl := rdS_len o
  by_cases hlt : k < (rdS o).length
  · have hd : decide ((k : Int) < ((rdS o).length : Int)) = true := decide_eq_true (by omega)
    have hr := regs_at hlt .i64
    have hm := rdS_mem ho (List.getElem_mem hlt)
    have hcall := f112 l j (rdS o)[k] hm.1 (by omega) hl hb
    have hcall2 := f112 l l.length (rdS o)[k] hm.1 (by omega) hl hb
    have hrng := lastL_rng l j ((rdS o)[k]).toNat
    have hrng2 := lastL_rng l l.length ((rdS o)[k]).toNat
    have hno := fun h => any_of (L := openL l j) (i := i) hlt h
    generalize hx : (rdS o)[k] = x at *
    have ho1 : openL l j x.toNat = if yY l j x.toNat = 0 then yY l l.length x.toNat else 0 := rfl
    by_cases h0 : yY l j x.toNat = 0
    · rw [if_pos h0] at ho1
      have d1 : decide (yY l j x.toNat - 1 < 0) = true := decide_eq_true (by omega)
      by_cases hc : yY l l.length x.toNat = (i : Int) + 1
      · have d2 : decide (yY l l.length x.toNat - 1 = (i : Int)) = true := decide_eq_true (by omega)
        repeat' (first | ((try clear hf); with_reducible refine zM fun env K hE hK hf => ?_; have n : _ ∧ _ ∧ _ ∧ _ ∧ _ ∧ _ ∧ _ ∧ _ := ⟨hE 0, hE 1, hE 2, hE 3, hE 8, hE 9, hE 10, hE 11⟩; simp -implicitDefEqProofs only [push_cast, reduceIte, Nat.reduceEqDiff, e0, e1, e2, e3, e8, e9, e10, e11] at n; clear hE e0 e1 e2 e3 e8 e9 e10 e11; obtain ⟨e0, e1, e2, e3, e8, e9, e10, e11⟩ := n) | (with_reducible refine hK _ _ ?_; clear hK K) | (with_reducible first | refine zJ ?_ | refine zU ?_ | refine zB ?_ | refine zG ?_ | refine zE ?_ | refine zL ?_ | refine zT ?_ | refine zD ?_ | refine zH ?_ | refine zV ?_ | refine zF ?_ | refine zA (by decide) ?_ | refine zP ?_ | refine zO ?_ | refine zK ?_ | refine yB ?_ | refine yC ?_ | refine zW (by assumption) ?_ | refine zY (by assumption) ?_) | (refine zI rfl ?_) | (simp -implicitDefEqProofs only [push_cast, sevalprocAttr, eq_self, e0, e1, e2, e3, e8, e9, e10, e11, hd, hr, qC, d1, d2]) | (simp -implicitDefEqProofs (disch := omega) only [zR, zZ, zS, zQ, e0, e1, e2, e3, e8, e9, e10, e11, hd, hr, qC, d1, d2]) | (with_reducible refine yE ?_ ?_) | (refine zN rfl (fun bb => ?_) (fun bb => ?_) <;> (first | have bp := of_decide_eq_true bb | have bp := of_decide_eq_false bb | skip) <;> simp only [bb]) | (with_reducible refine zX (fun bb => ?_) (fun bb => ?_) <;> (first | have bp := of_decide_eq_true bb | have bp := of_decide_eq_false bb | skip)) | ((with_reducible refine And.intro ?_ ?_); omega) | (refine yD hcall ?_) | (refine yD hcall2 ?_) | fail)
        rw [hno (by rw [ho1]; exact hc)]
      · have d2 : decide (yY l l.length x.toNat - 1 = (i : Int)) = false := decide_eq_false (by omega)
        repeat' (first | ((try clear hf); with_reducible refine zM fun env K hE hK hf => ?_; have n : _ ∧ _ ∧ _ ∧ _ ∧ _ ∧ _ ∧ _ ∧ _ := ⟨hE 0, hE 1, hE 2, hE 3, hE 8, hE 9, hE 10, hE 11⟩; simp -implicitDefEqProofs only [push_cast, reduceIte, Nat.reduceEqDiff, e0, e1, e2, e3, e8, e9, e10, e11] at n; clear hE e0 e1 e2 e3 e8 e9 e10 e11; obtain ⟨e0, e1, e2, e3, e8, e9, e10, e11⟩ := n) | (with_reducible refine hK _ _ ?_; clear hK K) | (with_reducible first | refine zJ ?_ | refine zU ?_ | refine zB ?_ | refine zG ?_ | refine zE ?_ | refine zL ?_ | refine zT ?_ | refine zD ?_ | refine zH ?_ | refine zV ?_ | refine zF ?_ | refine zA (by decide) ?_ | refine zP ?_ | refine zO ?_ | refine zK ?_ | refine yB ?_ | refine yC ?_ | refine zW (by assumption) ?_ | refine zY (by assumption) ?_) | (refine zI rfl ?_) | (simp -implicitDefEqProofs only [push_cast, sevalprocAttr, eq_self, e0, e1, e2, e3, e8, e9, e10, e11, hd, hr, qC, d1, d2]) | (simp -implicitDefEqProofs (disch := omega) only [zR, zZ, zS, zQ, e0, e1, e2, e3, e8, e9, e10, e11, hd, hr, qC, d1, d2]) | (with_reducible refine yE ?_ ?_) | (refine zN rfl (fun bb => ?_) (fun bb => ?_) <;> (first | have bp := of_decide_eq_true bb | have bp := of_decide_eq_false bb | skip) <;> simp only [bb]) | (with_reducible refine zX (fun bb => ?_) (fun bb => ?_) <;> (first | have bp := of_decide_eq_true bb | have bp := of_decide_eq_false bb | skip)) | ((with_reducible refine And.intro ?_ ?_); omega) | (refine yD hcall ?_) | (refine yD hcall2 ?_) | fail)
        refine ⟨_, ?_, k + 1, rfl, E92_0_0.symm, E92_0_1.symm, E92_0_2.symm, E92_0_3.symm, E92_0_9.symm, by first | rfl | exact yG (by omega) | (simp -implicitDefEqProofs (disch := omega) only [zQ]; first | rfl | exact yG (by omega)), ?_⟩
        · omega
        · refine ⟨by omega, fun q hq h => ?_⟩
          by_cases e : q < k
          · exact hall q e h
          · obtain rfl : q = k := by omega
            rw [hx, ho1]; exact hc
    · rw [if_neg h0] at ho1
      have d1 : decide (yY l j x.toNat - 1 < 0) = false := decide_eq_false (by omega)
      repeat' (first | ((try clear hf); with_reducible refine zM fun env K hE hK hf => ?_; have n : _ ∧ _ ∧ _ ∧ _ ∧ _ ∧ _ ∧ _ ∧ _ := ⟨hE 0, hE 1, hE 2, hE 3, hE 8, hE 9, hE 10, hE 11⟩; simp -implicitDefEqProofs only [push_cast, reduceIte, Nat.reduceEqDiff, e0, e1, e2, e3, e8, e9, e10, e11] at n; clear hE e0 e1 e2 e3 e8 e9 e10 e11; obtain ⟨e0, e1, e2, e3, e8, e9, e10, e11⟩ := n) | (with_reducible refine hK _ _ ?_; clear hK K) | (with_reducible first | refine zJ ?_ | refine zU ?_ | refine zB ?_ | refine zG ?_ | refine zE ?_ | refine zL ?_ | refine zT ?_ | refine zD ?_ | refine zH ?_ | refine zV ?_ | refine zF ?_ | refine zA (by decide) ?_ | refine zP ?_ | refine zO ?_ | refine zK ?_ | refine yB ?_ | refine yC ?_ | refine zW (by assumption) ?_ | refine zY (by assumption) ?_) | (refine zI rfl ?_) | (simp -implicitDefEqProofs only [push_cast, sevalprocAttr, eq_self, e0, e1, e2, e3, e8, e9, e10, e11, hd, hr, qC, d1]) | (simp -implicitDefEqProofs (disch := omega) only [zR, zZ, zS, zQ, e0, e1, e2, e3, e8, e9, e10, e11, hd, hr, qC, d1]) | (with_reducible refine yE ?_ ?_) | (refine zN rfl (fun bb => ?_) (fun bb => ?_) <;> (first | have bp := of_decide_eq_true bb | have bp := of_decide_eq_false bb | skip) <;> simp only [bb]) | (with_reducible refine zX (fun bb => ?_) (fun bb => ?_) <;> (first | have bp := of_decide_eq_true bb | have bp := of_decide_eq_false bb | skip)) | ((with_reducible refine And.intro ?_ ?_); omega) | (refine yD hcall ?_) | fail)
      refine ⟨_, ?_, k + 1, rfl, E92_0_0.symm, E92_0_1.symm, E92_0_2.symm, E92_0_3.symm, E92_0_9.symm, by first | rfl | exact yG (by omega) | (simp -implicitDefEqProofs (disch := omega) only [zQ]; first | rfl | exact yG (by omega)), ?_⟩
      · omega
      · refine ⟨by omega, fun q hq h => ?_⟩
        by_cases e : q < k
        · exact hall q e h
        · obtain rfl : q = k := by omega
          rw [hx, ho1]; omega
  · have hd : decide ((k : Int) < ((rdS o).length : Int)) = false := decide_eq_false (by omega)
    repeat' (first | ((try clear hf); with_reducible refine zM fun env K hE hK hf => ?_; have n : _ ∧ _ ∧ _ ∧ _ ∧ _ ∧ _ ∧ _ ∧ _ := ⟨hE 0, hE 1, hE 2, hE 3, hE 8, hE 9, hE 10, hE 11⟩; simp -implicitDefEqProofs only [push_cast, reduceIte, Nat.reduceEqDiff, e0, e1, e2, e3, e8, e9, e10, e11] at n; clear hE e0 e1 e2 e3 e8 e9 e10 e11; obtain ⟨e0, e1, e2, e3, e8, e9, e10, e11⟩ := n) | (with_reducible refine hK _ _ ?_; clear hK K) | (with_reducible first | refine zJ ?_ | refine zU ?_ | refine zB ?_ | refine zG ?_ | refine zE ?_ | refine zL ?_ | refine zT ?_ | refine zD ?_ | refine zH ?_ | refine zV ?_ | refine zF ?_ | refine zA (by decide) ?_ | refine zP ?_ | refine zO ?_ | refine zK ?_ | refine yB ?_ | refine yC ?_ | refine zW (by assumption) ?_ | refine zY (by assumption) ?_) | (refine zI rfl ?_) | (simp -implicitDefEqProofs only [push_cast, sevalprocAttr, eq_self, e0, e1, e2, e3, e8, e9, e10, e11, hd, qC]) | (simp -implicitDefEqProofs (disch := omega) only [zR, zZ, zS, zQ, e0, e1, e2, e3, e8, e9, e10, e11, hd, qC]) | (with_reducible refine yE ?_ ?_) | (refine zN rfl (fun bb => ?_) (fun bb => ?_) <;> (first | have bp := of_decide_eq_true bb | have bp := of_decide_eq_false bb | skip) <;> simp only [bb]) | (with_reducible refine zX (fun bb => ?_) (fun bb => ?_) <;> (first | have bp := of_decide_eq_true bb | have bp := of_decide_eq_false bb | skip)) | ((with_reducible refine And.intro ?_ ?_); omega) | fail)
    rw [any_no fun q hq => hall q (by omega) hq]
end Go.Proofs.Hx

set_option linter.unusedVariables false
set_option linter.unusedSimpArgs false
namespace Go.Proofs.Hx
open Go Go.Proofs
attribute [local irreducible] yM awp opK goV goM yV yZ qF yQ HV HVF HC
def rp1 : ACode := .seq (.ops r94_3 []) (.cond (.t 33) (.ops r94_4 []) .skip)
def rp2 : ACode := .seq (.ops r94_5 []) (.cond (.t 49) (.ops r94_6 []) .skip)
def rp3 : ACode := .seq (.ops r94_7 []) (.cond (.t 88) (.seq (.ops r94_8 []) (.seq (.block 0 (.seq (.ops r94_9 []) (.cond (.t 93) (.ops r94_10 []) (.seq (.ops r94_11 []) (.cond (.t 112) (.ops r94_12 []) .skip))))) (.ops r94_13 []))) .skip)
def rp4 : ACode := .seq (.ops r94_14 []) (.cond (.t 135) (.ops r94_15 []) .skip)
def rpT : ACode := .seq rp1 (.seq rp2 (.seq rp3 (.seq rp4 (.seq (.ops r94_16 []) .ret))))
theorem rp_code : ac94 = .seq (.ops r94_0 []) (.seq (.ops r94_1 []) (.seq (.ops r94_2 []) rpT)) := rfl
/-- The reference's pair, with the edges so far. -/
def MR (l : List Opn) (t : Tab) (i j : Nat) (dist : Int) (meet : Bool) (E : List Edg) (σ : St) : Prop := ∃ a, σ.env 0 = .row (l.map opC) ∧ σ.env 2 = i64 i ∧ σ.env 3 = i64 j ∧ σ.env 4 = i64 dist ∧ σ.env 5 = bl meet ∧ σ.env 7 = .ptr (2, 7) 0 ∧ σ.env 13 = a ∧ σ.env 14 = u8 (wrS (opAt l j)).1 ∧ σ.env 15 = bl (wrS (opAt l j)).2 ∧
  SlO edC 5 σ.h a E ∧ σ.h.hp (2, 7) = some ⟨true, tabC t⟩ ∧ 2 ≤ σ.h.ep ∧ ∀ x, idOf a = some x → 2 < x.1
theorem MR.done {l : List Opn} {t : Tab} {i j : Nat} {dist : Int} {meet : Bool} {E E' : List Edg} {env : Nat → AV} {h g : Hp} {a : AV} (e0 : env 0 = .row (l.map opC)) (e2 : env 2 = i64 i) (e3 : env 3 = i64 j) (e4 : env 4 = i64 dist) (e5 : env 5 = bl meet) (e7 : env 7 = .ptr (2, 7) 0) (e13 : env 13 = a) (e14 : env 14 = u8 (wrS (opAt l j)).1) (e15 : env 15 = bl (wrS (opAt l j)).2)
    (hs : SlO edC 5 g a E) (hb : g.hp (2, 7) = some ⟨true, tabC t⟩) (he : 2 ≤ g.ep) (hi : ∀ x, idOf a = some x → 2 < x.1) (hx : Ext g h) (hE : E = E') : MR l t i j dist meet E' ⟨env, h⟩ :=
  ⟨a, e0, e2, e3, e4, e5, e7, e13, e14, e15, hE ▸ hs.ext hx, (hx.2 _ (by simpa using he)).trans hb, Nat.le_trans he hx.1, hi⟩
attribute [local irreducible] rpT MR
def rpI (l : List Opn) (t : Tab) (i j : Nat) : Prop := i < l.length ∧ j < l.length ∧ (∀ o ∈ l, o.ok) ∧ qM t
set_option maxHeartbeats 1000000 in
theorem f94'1 {l : List Opn} {t : Tab} {i j : Nat} {dist : Int} {meet : Bool} {E : List Edg} (hI : rpI l t i j) (hE : E.length ≤ 1000) {σ : St} (hM : MR l t i j dist meet E σ) {Q : AEx → St → Prop} : awp Try.prog rp1 (seqK Try.prog (MR l t i j dist meet (E ++ pair1 (opAt l i) (opAt l j) i j dist)) Q) σ := by
  unfold MR at hM
  obtain ⟨env, h⟩ := σ
  obtain ⟨a, e0, e2, e3, e4, e5, e7, e13, e14, e15, hs, hb, he, hi⟩ := hM
  simp only at e0 e2 e3 e4 e5 e7 e13 e14 e15 hs hb he
  obtain ⟨hil, hjl, hl, ht⟩ := hI
  have e1 : True := trivial; have e12 : True := trivial; have e16 : True := trivial
  unfold rp1
  refine yI fun hF => ?_
  have hri := qJ hil .i64
  have hoi := hl _ (List.getElem_mem hil)
  have hoj := hl _ (List.getElem_mem hjl)
  rw [qD hil] at hri hoi
  rw [qD hjl] at hoj
  generalize opAt l i = x at *
  generalize hyq : opAt l j = y at *
  have hid := fun x hx => hs.id_le (x := x) hx
  have hnn : (wrS y).2 = true → dS y = (wrS y).1 ∧ 0 ≤ dS y := fun h => by
    have hy := hoj
    unfold Opn.ok at hy
    unfold dS; rw [if_pos h]; refine ⟨rfl, ?_⟩
    unfold wrS; split <;> simp; omega
  by_cases h1 : (wrS y).2 = true
  · obtain ⟨g1, g2⟩ := hnn h1
    by_cases h2 : seesS x (wrS y).1 = true
    · have hp : pair1 x y i j dist = [⟨i, j, 0, dist, 1⟩] := by unfold pair1; rw [if_pos ⟨g2, by rw [g1]; exact h2⟩]
      rw [hp]
      repeat' (first | ((try clear hf); with_reducible refine zM fun env K hE hK hf => ?_; have n : _ ∧ _ ∧ _ ∧ _ ∧ _ ∧ _ ∧ _ ∧ _ ∧ _ ∧ _ ∧ _ ∧ _ := ⟨hE 0, hE 1, hE 2, hE 3, hE 4, hE 5, hE 7, hE 12, hE 13, hE 14, hE 15, hE 16⟩; simp -implicitDefEqProofs only [push_cast, reduceIte, Nat.reduceEqDiff, e0, e1, e2, e3, e4, e5, e7, e12, e13, e14, e15, e16] at n; clear hE e0 e1 e2 e3 e4 e5 e7 e12 e13 e14 e15 e16; obtain ⟨e0, e1, e2, e3, e4, e5, e7, e12, e13, e14, e15, e16⟩ := n) | (with_reducible refine hK _ _ ?_; clear hK K) | (with_reducible first | refine zJ ?_ | refine zU ?_ | refine zB ?_ | refine zG ?_ | refine zE ?_ | refine zL ?_ | refine zT ?_ | refine zD ?_ | refine zH ?_ | refine zV ?_ | refine zF ?_ | refine zA (by decide) ?_ | refine zP ?_ | refine zO ?_ | refine zK ?_ | refine yB ?_ | refine yC ?_ | refine zW (by assumption) ?_ | refine zY (by assumption) ?_) | (refine zI rfl ?_) | (simp -implicitDefEqProofs only [push_cast, sevalprocAttr, eq_self, e0, e1, e2, e3, e4, e5, e7, e12, e13, e14, e15, e16, hF.at, hri, h1, h2]) | (simp -implicitDefEqProofs (disch := omega) only [zR, zZ, zS, zQ, e0, e1, e2, e3, e4, e5, e7, e12, e13, e14, e15, e16, hF.at, hri, h1, h2]) | (with_reducible refine yE ?_ ?_) | (refine zN rfl (fun bb => ?_) (fun bb => ?_) <;> (first | have bp := of_decide_eq_true bb | have bp := of_decide_eq_false bb | skip) <;> simp only [bb]) | (with_reducible refine zX (fun bb => ?_) (fun bb => ?_) <;> (first | have bp := of_decide_eq_true bb | have bp := of_decide_eq_false bb | skip)) | ((with_reducible refine And.intro ?_ ?_); omega) | (refine yD (f56 x hoi _) ?_) | (refine goM_app1 (e := ⟨i, j, 0, dist, 1⟩) (hs.ext (by repeat (first | exact Ext.refl _ | assumption | refine Ext.tick ?_ | refine Ext.push ?_ (by omega) _ | refine Ext.put ?_ (by omega) _ | refine Ext.kill ?_ (by omega) | refine Ext.killA ?_ (by assumption)))) edC_len rfl (by omega) (fun e => by have := hid _ e; simp at this; omega) (by first | omega | (simp -implicitDefEqProofs only [push_cast, sevalprocAttr, eq_self]; first | done | omega)) ?_; intro g a' hs' ha' hep hfr) | fail)
      refine MR.done (g := g) e0 e2 e3 e4 e5 e7 rfl (by rw [hyq]; exact e14) (by rw [hyq]; exact e15) hs' ?_ ?_ ?_ (by repeat (first | exact Ext.refl _ | assumption | refine Ext.tick ?_ | refine Ext.push ?_ (by omega) _ | refine Ext.put ?_ (by omega) _ | refine Ext.kill ?_ (by omega) | refine Ext.killA ?_ (by assumption))) rfl
      · rw [hfr (2, 7) (by first | (simp; done) | (simp; omega)) (fun e => by have := hi _ e; simp at this)]; simp -implicitDefEqProofs only [push_cast, sevalprocAttr, eq_self, hb]
      · rw [hep]; exact (by first | omega | (simp -implicitDefEqProofs only [push_cast, sevalprocAttr, eq_self]; first | done | omega))
      · intro q hq; have := ha' q hq; rw [this]; simp only; omega
    · have hp : pair1 x y i j dist = [] := by unfold pair1; rw [if_neg (fun h => h2 (by rw [← g1]; exact h.2))]
      rw [hp, List.append_nil]
      rw [Bool.not_eq_true] at h2
      repeat' (first | ((try clear hf); with_reducible refine zM fun env K hE hK hf => ?_; have n : _ ∧ _ ∧ _ ∧ _ ∧ _ ∧ _ ∧ _ ∧ _ ∧ _ ∧ _ ∧ _ ∧ _ := ⟨hE 0, hE 1, hE 2, hE 3, hE 4, hE 5, hE 7, hE 12, hE 13, hE 14, hE 15, hE 16⟩; simp -implicitDefEqProofs only [push_cast, reduceIte, Nat.reduceEqDiff, e0, e1, e2, e3, e4, e5, e7, e12, e13, e14, e15, e16] at n; clear hE e0 e1 e2 e3 e4 e5 e7 e12 e13 e14 e15 e16; obtain ⟨e0, e1, e2, e3, e4, e5, e7, e12, e13, e14, e15, e16⟩ := n) | (with_reducible refine hK _ _ ?_; clear hK K) | (with_reducible first | refine zJ ?_ | refine zU ?_ | refine zB ?_ | refine zG ?_ | refine zE ?_ | refine zL ?_ | refine zT ?_ | refine zD ?_ | refine zH ?_ | refine zV ?_ | refine zF ?_ | refine zA (by decide) ?_ | refine zP ?_ | refine zO ?_ | refine zK ?_ | refine yB ?_ | refine yC ?_ | refine zW (by assumption) ?_ | refine zY (by assumption) ?_) | (refine zI rfl ?_) | (simp -implicitDefEqProofs only [push_cast, sevalprocAttr, eq_self, e0, e1, e2, e3, e4, e5, e7, e12, e13, e14, e15, e16, hF.at, hri, h1, h2]) | (simp -implicitDefEqProofs (disch := omega) only [zR, zZ, zS, zQ, e0, e1, e2, e3, e4, e5, e7, e12, e13, e14, e15, e16, hF.at, hri, h1, h2]) | (with_reducible refine yE ?_ ?_) | (refine zN rfl (fun bb => ?_) (fun bb => ?_) <;> (first | have bp := of_decide_eq_true bb | have bp := of_decide_eq_false bb | skip) <;> simp only [bb]) | (with_reducible refine zX (fun bb => ?_) (fun bb => ?_) <;> (first | have bp := of_decide_eq_true bb | have bp := of_decide_eq_false bb | skip)) | ((with_reducible refine And.intro ?_ ?_); omega) | (refine yD (f56 x hoi _) ?_) | fail)
      exact MR.done (g := h) e0 e2 e3 e4 e5 e7 e13 (by rw [hyq]; exact e14) (by rw [hyq]; exact e15) hs hb he hi (by repeat (first | exact Ext.refl _ | assumption | refine Ext.tick ?_ | refine Ext.push ?_ (by omega) _ | refine Ext.put ?_ (by omega) _ | refine Ext.kill ?_ (by omega) | refine Ext.killA ?_ (by assumption))) rfl
  · have hp : pair1 x y i j dist = [] := by
      unfold pair1
      rw [if_neg (fun h => h1 (by
        have := h.1
        unfold dS at this
        by_cases g : (wrS y).2 = true
        · exact g
        · rw [if_neg g] at this; omega))]
    rw [hp, List.append_nil]
    rw [Bool.not_eq_true] at h1
    repeat' (first | ((try clear hf); with_reducible refine zM fun env K hE hK hf => ?_; have n : _ ∧ _ ∧ _ ∧ _ ∧ _ ∧ _ ∧ _ ∧ _ ∧ _ ∧ _ ∧ _ ∧ _ := ⟨hE 0, hE 1, hE 2, hE 3, hE 4, hE 5, hE 7, hE 12, hE 13, hE 14, hE 15, hE 16⟩; simp -implicitDefEqProofs only [push_cast, reduceIte, Nat.reduceEqDiff, e0, e1, e2, e3, e4, e5, e7, e12, e13, e14, e15, e16] at n; clear hE e0 e1 e2 e3 e4 e5 e7 e12 e13 e14 e15 e16; obtain ⟨e0, e1, e2, e3, e4, e5, e7, e12, e13, e14, e15, e16⟩ := n) | (with_reducible refine hK _ _ ?_; clear hK K) | (with_reducible first | refine zJ ?_ | refine zU ?_ | refine zB ?_ | refine zG ?_ | refine zE ?_ | refine zL ?_ | refine zT ?_ | refine zD ?_ | refine zH ?_ | refine zV ?_ | refine zF ?_ | refine zA (by decide) ?_ | refine zP ?_ | refine zO ?_ | refine zK ?_ | refine yB ?_ | refine yC ?_ | refine zW (by assumption) ?_ | refine zY (by assumption) ?_) | (refine zI rfl ?_) | (simp -implicitDefEqProofs only [push_cast, sevalprocAttr, eq_self, e0, e1, e2, e3, e4, e5, e7, e12, e13, e14, e15, e16, hF.at, hri, h1]) | (simp -implicitDefEqProofs (disch := omega) only [zR, zZ, zS, zQ, e0, e1, e2, e3, e4, e5, e7, e12, e13, e14, e15, e16, hF.at, hri, h1]) | (with_reducible refine yE ?_ ?_) | (refine zN rfl (fun bb => ?_) (fun bb => ?_) <;> (first | have bp := of_decide_eq_true bb | have bp := of_decide_eq_false bb | skip) <;> simp only [bb]) | (with_reducible refine zX (fun bb => ?_) (fun bb => ?_) <;> (first | have bp := of_decide_eq_true bb | have bp := of_decide_eq_false bb | skip)) | ((with_reducible refine And.intro ?_ ?_); omega) | fail)
    exact MR.done (g := h) e0 e2 e3 e4 e5 e7 e13 (by rw [hyq]; exact e14) (by rw [hyq]; exact e15) hs hb he hi (by repeat (first | exact Ext.refl _ | assumption | refine Ext.tick ?_ | refine Ext.push ?_ (by omega) _ | refine Ext.put ?_ (by omega) _ | refine Ext.kill ?_ (by omega) | refine Ext.killA ?_ (by assumption))) rfl
set_option maxHeartbeats 1000000 in
theorem f94'2 {l : List Opn} {t : Tab} {i j : Nat} {dist : Int} {meet : Bool} {E : List Edg} (hI : rpI l t i j) (hE : E.length ≤ 1000) {σ : St} (hM : MR l t i j dist meet E σ) {Q : AEx → St → Prop} : awp Try.prog rp2 (seqK Try.prog (MR l t i j dist meet (E ++ pair2 t (opAt l i) (opAt l j) i j dist)) Q) σ := by
  unfold MR at hM
  obtain ⟨env, h⟩ := σ
  obtain ⟨a, e0, e2, e3, e4, e5, e7, e13, e14, e15, hs, hb, he, hi⟩ := hM
  simp only at e0 e2 e3 e4 e5 e7 e13 e14 e15 hs hb he
  obtain ⟨hil, hjl, hl, ht⟩ := hI
  have e1 : True := trivial; have e12 : True := trivial; have e16 : True := trivial
  unfold rp2
  refine yI fun hF => ?_
  have hri := qJ hil .i64
  have hrj := qJ hjl .i64
  have hoi := hl _ (List.getElem_mem hil)
  have hoj := hl _ (List.getElem_mem hjl)
  rw [qD hil] at hri hoi
  rw [qD hjl] at hrj hoj
  have l1 := latS_ok ht (opAt l i)
  have l2 := latS_ok ht (opAt l j)
  have l3 := ht.1 2 (by omega)
  unfold okC at l3
  generalize opAt l i = x at *
  generalize hyq : opAt l j = y at *
  have hid := fun x hx => hs.id_le (x := x) hx
  by_cases h1 : (wrS y).2 = true
  · have g1 : dS y = (wrS y).1 := by unfold dS; rw [if_pos h1]
    have g2 : 0 ≤ (wrS y).1 := by
      have hy := hoj
      unfold Opn.ok at hy
      unfold wrS; split <;> simp; omega
    have hw := wr_dS hoi g2
    have hxd := (dS_lt hoi).1
    by_cases h2 : ((wrS x).2 && decide ((wrS x).1 = (wrS y).1)) = true
    · have hd := hw.1 h2
      have hp : pair2 t x y i j dist = [⟨i, j, if latS t x - latS t y + 1 > 0 then latS t x - latS t y + 1 else 0, dist, 2⟩] := by unfold pair2; rw [if_pos ⟨by omega, by omega⟩]
      rw [hp]
      repeat' (first | ((try clear hf); with_reducible refine zM fun env K hE hK hf => ?_; have n : _ ∧ _ ∧ _ ∧ _ ∧ _ ∧ _ ∧ _ ∧ _ ∧ _ ∧ _ ∧ _ ∧ _ := ⟨hE 0, hE 1, hE 2, hE 3, hE 4, hE 5, hE 7, hE 12, hE 13, hE 14, hE 15, hE 16⟩; simp -implicitDefEqProofs only [push_cast, reduceIte, Nat.reduceEqDiff, e0, e1, e2, e3, e4, e5, e7, e12, e13, e14, e15, e16] at n; clear hE e0 e1 e2 e3 e4 e5 e7 e12 e13 e14 e15 e16; obtain ⟨e0, e1, e2, e3, e4, e5, e7, e12, e13, e14, e15, e16⟩ := n) | (with_reducible refine hK _ _ ?_; clear hK K) | (with_reducible first | refine zJ ?_ | refine zU ?_ | refine zB ?_ | refine zG ?_ | refine zE ?_ | refine zL ?_ | refine zT ?_ | refine zD ?_ | refine zH ?_ | refine zV ?_ | refine zF ?_ | refine zA (by decide) ?_ | refine zP ?_ | refine zO ?_ | refine zK ?_ | refine yB ?_ | refine yC ?_ | refine zW (by assumption) ?_ | refine zY (by assumption) ?_) | (refine zI rfl ?_) | (simp -implicitDefEqProofs only [push_cast, sevalprocAttr, eq_self, e0, e1, e2, e3, e4, e5, e7, e12, e13, e14, e15, e16, hF.at, hri, hrj, h1, h2, hb]) | (simp -implicitDefEqProofs (disch := omega) only [zR, zZ, zS, zQ, e0, e1, e2, e3, e4, e5, e7, e12, e13, e14, e15, e16, hF.at, hri, hrj, h1, h2, hb]) | (with_reducible refine yE ?_ ?_) | (refine zN rfl (fun bb => ?_) (fun bb => ?_) <;> (first | have bp := of_decide_eq_true bb | have bp := of_decide_eq_false bb | skip) <;> simp only [bb]) | (with_reducible refine zX (fun bb => ?_) (fun bb => ?_) <;> (first | have bp := of_decide_eq_true bb | have bp := of_decide_eq_false bb | skip)) | ((with_reducible refine And.intro ?_ ?_); omega) | (refine yD (f113 x hoi _) ?_) | (refine call_immq (f93 x t) ?_) | (refine call_immq (f93 y t) ?_) | (refine goM_app1 (e := ⟨i, j, if latS t x - latS t y + 1 > 0 then latS t x - latS t y + 1 else 0, dist, 2⟩) (hs.ext (by repeat (first | exact Ext.refl _ | assumption | refine Ext.tick ?_ | refine Ext.push ?_ (by omega) _ | refine Ext.put ?_ (by omega) _ | refine Ext.kill ?_ (by omega) | refine Ext.killA ?_ (by assumption)))) edC_len rfl (by omega) (fun e => by have := hid _ e; simp at this; omega) (by first | omega | (simp -implicitDefEqProofs only [push_cast, sevalprocAttr, eq_self]; first | done | omega)) ?_; intro g a' hs' ha' hep hfr) | fail)
      refine MR.done (g := g) e0 e2 e3 e4 e5 e7 rfl (by rw [hyq]; exact e14) (by rw [hyq]; exact e15) hs' ?_ ?_ ?_ (by repeat (first | exact Ext.refl _ | assumption | refine Ext.tick ?_ | refine Ext.push ?_ (by omega) _ | refine Ext.put ?_ (by omega) _ | refine Ext.kill ?_ (by omega) | refine Ext.killA ?_ (by assumption))) rfl
      · rw [hfr (2, 7) (by first | (simp; done) | (simp; omega)) (fun e => by have := hi _ e; simp at this)]; simp -implicitDefEqProofs (disch := omega) only [zR, zZ, zS, zQ, hb, tick_hp]
      · rw [hep]; exact (by first | omega | (simp -implicitDefEqProofs only [push_cast, sevalprocAttr, eq_self]; first | done | omega))
      · intro q hq; have := ha' q hq; rw [this]; simp only; omega
    · have hp : pair2 t x y i j dist = [] := by
        unfold pair2
        rw [if_neg (fun h => h2 (hw.2 ⟨by omega, by omega⟩))]
      rw [hp, List.append_nil]
      rw [Bool.not_eq_true] at h2
      repeat' (first | ((try clear hf); with_reducible refine zM fun env K hE hK hf => ?_; have n : _ ∧ _ ∧ _ ∧ _ ∧ _ ∧ _ ∧ _ ∧ _ ∧ _ ∧ _ ∧ _ ∧ _ := ⟨hE 0, hE 1, hE 2, hE 3, hE 4, hE 5, hE 7, hE 12, hE 13, hE 14, hE 15, hE 16⟩; simp -implicitDefEqProofs only [push_cast, reduceIte, Nat.reduceEqDiff, e0, e1, e2, e3, e4, e5, e7, e12, e13, e14, e15, e16] at n; clear hE e0 e1 e2 e3 e4 e5 e7 e12 e13 e14 e15 e16; obtain ⟨e0, e1, e2, e3, e4, e5, e7, e12, e13, e14, e15, e16⟩ := n) | (with_reducible refine hK _ _ ?_; clear hK K) | (with_reducible first | refine zJ ?_ | refine zU ?_ | refine zB ?_ | refine zG ?_ | refine zE ?_ | refine zL ?_ | refine zT ?_ | refine zD ?_ | refine zH ?_ | refine zV ?_ | refine zF ?_ | refine zA (by decide) ?_ | refine zP ?_ | refine zO ?_ | refine zK ?_ | refine yB ?_ | refine yC ?_ | refine zW (by assumption) ?_ | refine zY (by assumption) ?_) | (refine zI rfl ?_) | (simp -implicitDefEqProofs only [push_cast, sevalprocAttr, eq_self, e0, e1, e2, e3, e4, e5, e7, e12, e13, e14, e15, e16, hF.at, hri, hrj, h1, h2]) | (simp -implicitDefEqProofs (disch := omega) only [zR, zZ, zS, zQ, e0, e1, e2, e3, e4, e5, e7, e12, e13, e14, e15, e16, hF.at, hri, hrj, h1, h2]) | (with_reducible refine yE ?_ ?_) | (refine zN rfl (fun bb => ?_) (fun bb => ?_) <;> (first | have bp := of_decide_eq_true bb | have bp := of_decide_eq_false bb | skip) <;> simp only [bb]) | (with_reducible refine zX (fun bb => ?_) (fun bb => ?_) <;> (first | have bp := of_decide_eq_true bb | have bp := of_decide_eq_false bb | skip)) | ((with_reducible refine And.intro ?_ ?_); omega) | (refine yD (f113 x hoi _) ?_) | fail)
      exact MR.done (g := h) e0 e2 e3 e4 e5 e7 e13 (by rw [hyq]; exact e14) (by rw [hyq]; exact e15) hs hb he hi (by repeat (first | exact Ext.refl _ | assumption | refine Ext.tick ?_ | refine Ext.push ?_ (by omega) _ | refine Ext.put ?_ (by omega) _ | refine Ext.kill ?_ (by omega) | refine Ext.killA ?_ (by assumption))) rfl
  · have hp : pair2 t x y i j dist = [] := by
      unfold pair2
      rw [if_neg (fun h => h1 (by
        have := h.1
        unfold dS at this
        by_cases g : (wrS y).2 = true
        · exact g
        · rw [if_neg g] at this; omega))]
    rw [hp, List.append_nil]
    rw [Bool.not_eq_true] at h1
    repeat' (first | ((try clear hf); with_reducible refine zM fun env K hE hK hf => ?_; have n : _ ∧ _ ∧ _ ∧ _ ∧ _ ∧ _ ∧ _ ∧ _ ∧ _ ∧ _ ∧ _ ∧ _ := ⟨hE 0, hE 1, hE 2, hE 3, hE 4, hE 5, hE 7, hE 12, hE 13, hE 14, hE 15, hE 16⟩; simp -implicitDefEqProofs only [push_cast, reduceIte, Nat.reduceEqDiff, e0, e1, e2, e3, e4, e5, e7, e12, e13, e14, e15, e16] at n; clear hE e0 e1 e2 e3 e4 e5 e7 e12 e13 e14 e15 e16; obtain ⟨e0, e1, e2, e3, e4, e5, e7, e12, e13, e14, e15, e16⟩ := n) | (with_reducible refine hK _ _ ?_; clear hK K) | (with_reducible first | refine zJ ?_ | refine zU ?_ | refine zB ?_ | refine zG ?_ | refine zE ?_ | refine zL ?_ | refine zT ?_ | refine zD ?_ | refine zH ?_ | refine zV ?_ | refine zF ?_ | refine zA (by decide) ?_ | refine zP ?_ | refine zO ?_ | refine zK ?_ | refine yB ?_ | refine yC ?_ | refine zW (by assumption) ?_ | refine zY (by assumption) ?_) | (refine zI rfl ?_) | (simp -implicitDefEqProofs only [push_cast, sevalprocAttr, eq_self, e0, e1, e2, e3, e4, e5, e7, e12, e13, e14, e15, e16, hF.at, hri, h1]) | (simp -implicitDefEqProofs (disch := omega) only [zR, zZ, zS, zQ, e0, e1, e2, e3, e4, e5, e7, e12, e13, e14, e15, e16, hF.at, hri, h1]) | (with_reducible refine yE ?_ ?_) | (refine zN rfl (fun bb => ?_) (fun bb => ?_) <;> (first | have bp := of_decide_eq_true bb | have bp := of_decide_eq_false bb | skip) <;> simp only [bb]) | (with_reducible refine zX (fun bb => ?_) (fun bb => ?_) <;> (first | have bp := of_decide_eq_true bb | have bp := of_decide_eq_false bb | skip)) | ((with_reducible refine And.intro ?_ ?_); omega) | fail)
    exact MR.done (g := h) e0 e2 e3 e4 e5 e7 e13 (by rw [hyq]; exact e14) (by rw [hyq]; exact e15) hs hb he hi (by repeat (first | exact Ext.refl _ | assumption | refine Ext.tick ?_ | refine Ext.push ?_ (by omega) _ | refine Ext.put ?_ (by omega) _ | refine Ext.kill ?_ (by omega) | refine Ext.killA ?_ (by assumption))) rfl
set_option maxHeartbeats 1000000 in
theorem f94'3 {l : List Opn} {t : Tab} {i j : Nat} {dist : Int} {meet : Bool} {E : List Edg} (hI : rpI l t i j) (hE : E.length ≤ 1000) (hmt : meet = true → (opAt l j).k = 15 ∨ (opAt l j).k = 16) {σ : St} (hM : MR l t i j dist meet E σ) {Q : AEx → St → Prop} : awp Try.prog rp3 (seqK Try.prog (MR l t i j dist meet (E ++ pair3 t (opAt l i) (opAt l j) i j dist meet)) Q) σ := by
  unfold MR at hM
  obtain ⟨env, h⟩ := σ
  obtain ⟨a, e0, e2, e3, e4, e5, e7, e13, e14, e15, hs, hb, he, hi⟩ := hM
  simp only at e0 e2 e3 e4 e5 e7 e13 e14 e15 hs hb he
  obtain ⟨hil, hjl, hl, ht⟩ := hI
  have e1 : True := trivial; have e12 : True := trivial; have e16 : True := trivial
  unfold rp3
  refine yI fun hF => ?_
  have hri := qJ hil .i64
  have hrj := qJ hjl .i64
  have hoi := hl _ (List.getElem_mem hil)
  have hoj := hl _ (List.getElem_mem hjl)
  rw [qD hil] at hri hoi
  rw [qD hjl] at hrj hoj
  have l1 := latS_ok ht (opAt l i)
  have l2 := latS_ok ht (opAt l j)
  have l3 := ht.1 2 (by omega)
  unfold okC at l3
  generalize opAt l i = x at *
  generalize hyq : opAt l j = y at *
  have hid := fun x hx => hs.id_le (x := x) hx
  have q2 : (tabC t)[4 + 2]? = some (i64 (t.l 2)) := rfl
  have q3 : (tabC t)[6]? = some (i64 (t.l 2)) := rfl
  by_cases h0 : meet = true
  rotate_left
  · rw [Bool.not_eq_true] at h0
    subst h0
    have hp : pair3 t x y i j dist false = [] := by unfold pair3; rw [if_neg (fun h => by cases h.1)]
    rw [hp, List.append_nil]
    repeat' (first | ((try clear hf); with_reducible refine zM fun env K hE hK hf => ?_; have n : _ ∧ _ ∧ _ ∧ _ ∧ _ ∧ _ ∧ _ ∧ _ ∧ _ ∧ _ ∧ _ ∧ _ := ⟨hE 0, hE 1, hE 2, hE 3, hE 4, hE 5, hE 7, hE 12, hE 13, hE 14, hE 15, hE 16⟩; simp -implicitDefEqProofs only [push_cast, reduceIte, Nat.reduceEqDiff, e0, e1, e2, e3, e4, e5, e7, e12, e13, e14, e15, e16] at n; clear hE e0 e1 e2 e3 e4 e5 e7 e12 e13 e14 e15 e16; obtain ⟨e0, e1, e2, e3, e4, e5, e7, e12, e13, e14, e15, e16⟩ := n) | (with_reducible refine hK _ _ ?_; clear hK K) | (with_reducible first | refine zJ ?_ | refine zU ?_ | refine zB ?_ | refine zG ?_ | refine zE ?_ | refine zL ?_ | refine zT ?_ | refine zD ?_ | refine zH ?_ | refine zV ?_ | refine zF ?_ | refine zA (by decide) ?_ | refine zP ?_ | refine zO ?_ | refine zK ?_ | refine yB ?_ | refine yC ?_ | refine zW (by assumption) ?_ | refine zY (by assumption) ?_) | (refine zI rfl ?_) | (simp -implicitDefEqProofs only [push_cast, sevalprocAttr, eq_self, e0, e1, e2, e3, e4, e5, e7, e12, e13, e14, e15, e16, hF.at]) | (simp -implicitDefEqProofs (disch := omega) only [zR, zZ, zS, zQ, e0, e1, e2, e3, e4, e5, e7, e12, e13, e14, e15, e16, hF.at]) | (with_reducible refine yE ?_ ?_) | (refine zN rfl (fun bb => ?_) (fun bb => ?_) <;> (first | have bp := of_decide_eq_true bb | have bp := of_decide_eq_false bb | skip) <;> simp only [bb]) | (with_reducible refine zX (fun bb => ?_) (fun bb => ?_) <;> (first | have bp := of_decide_eq_true bb | have bp := of_decide_eq_false bb | skip)) | ((with_reducible refine And.intro ?_ ?_); omega) | fail)
    exact MR.done (g := h) e0 e2 e3 e4 e5 e7 e13 (by rw [hyq]; exact e14) (by rw [hyq]; exact e15) hs hb he hi (by repeat (first | exact Ext.refl _ | assumption | refine Ext.tick ?_ | refine Ext.push ?_ (by omega) _ | refine Ext.put ?_ (by omega) _ | refine Ext.kill ?_ (by omega) | refine Ext.killA ?_ (by assumption))) rfl
  have hmt2 := hmt h0
  subst h0
  by_cases h1 : x.k = 16
  · have d1 : decide (x.k = 16) = true := decide_eq_true h1
    have s1 : stS x = true := d1
    by_cases h2 : y.k = 15
    · have d2 : decide (y.k = 15) = true := decide_eq_true h2
      have s2 : stS y = false := decide_eq_false (by omega)
      have hp : pair3 t x y i j dist true = [⟨i, j, t.l 2, dist, 3⟩] := by unfold pair3; rw [s1, s2, if_pos ⟨rfl, .inl rfl⟩]; simp
      rw [hp]
      repeat' (first | ((try clear hf); with_reducible refine zM fun env K hE hK hf => ?_; have n : _ ∧ _ ∧ _ ∧ _ ∧ _ ∧ _ ∧ _ ∧ _ ∧ _ ∧ _ ∧ _ ∧ _ := ⟨hE 0, hE 1, hE 2, hE 3, hE 4, hE 5, hE 7, hE 12, hE 13, hE 14, hE 15, hE 16⟩; simp -implicitDefEqProofs only [push_cast, reduceIte, Nat.reduceEqDiff, e0, e1, e2, e3, e4, e5, e7, e12, e13, e14, e15, e16] at n; clear hE e0 e1 e2 e3 e4 e5 e7 e12 e13 e14 e15 e16; obtain ⟨e0, e1, e2, e3, e4, e5, e7, e12, e13, e14, e15, e16⟩ := n) | (with_reducible refine hK _ _ ?_; clear hK K) | (with_reducible first | refine zJ ?_ | refine zU ?_ | refine zB ?_ | refine zG ?_ | refine zE ?_ | refine zL ?_ | refine zT ?_ | refine zD ?_ | refine zH ?_ | refine zV ?_ | refine zF ?_ | refine zA (by decide) ?_ | refine zP ?_ | refine zO ?_ | refine zK ?_ | refine yB ?_ | refine yC ?_ | refine zW (by assumption) ?_ | refine zY (by assumption) ?_) | (refine zI rfl ?_) | (simp -implicitDefEqProofs only [push_cast, sevalprocAttr, eq_self, e0, e1, e2, e3, e4, e5, e7, e12, e13, e14, e15, e16, hF.at, hri, hrj, d1, d2, hb, q2, q3, op_0]) | (simp -implicitDefEqProofs (disch := omega) only [zR, zZ, zS, zQ, e0, e1, e2, e3, e4, e5, e7, e12, e13, e14, e15, e16, hF.at, hri, hrj, d1, d2, hb, q2, q3, op_0]) | (with_reducible refine yE ?_ ?_) | (refine zN rfl (fun bb => ?_) (fun bb => ?_) <;> (first | have bp := of_decide_eq_true bb | have bp := of_decide_eq_false bb | skip) <;> simp only [bb]) | (with_reducible refine zX (fun bb => ?_) (fun bb => ?_) <;> (first | have bp := of_decide_eq_true bb | have bp := of_decide_eq_false bb | skip)) | ((with_reducible refine And.intro ?_ ?_); omega) | (refine goM_app1 (e := ⟨i, j, t.l 2, dist, 3⟩) (hs.ext (by repeat (first | exact Ext.refl _ | assumption | refine Ext.tick ?_ | refine Ext.push ?_ (by omega) _ | refine Ext.put ?_ (by omega) _ | refine Ext.kill ?_ (by omega) | refine Ext.killA ?_ (by assumption)))) edC_len rfl (by omega) (fun e => by have := hid _ e; simp at this; omega) (by first | omega | (simp -implicitDefEqProofs only [push_cast, sevalprocAttr, eq_self]; first | done | omega)) ?_; intro g a' hs' ha' hep hfr) | fail)
      refine MR.done (g := g) e0 e2 e3 e4 e5 e7 rfl (by rw [hyq]; exact e14) (by rw [hyq]; exact e15) hs' ?_ ?_ ?_ (by repeat (first | exact Ext.refl _ | assumption | refine Ext.tick ?_ | refine Ext.push ?_ (by omega) _ | refine Ext.put ?_ (by omega) _ | refine Ext.kill ?_ (by omega) | refine Ext.killA ?_ (by assumption))) rfl
      · rw [hfr (2, 7) (by first | (simp; done) | (simp; omega)) (fun e => by have := hi _ e; simp at this)]; simp -implicitDefEqProofs (disch := omega) only [zR, zZ, zS, zQ, hb, tick_hp]
      · rw [hep]; exact (by first | omega | (simp -implicitDefEqProofs only [push_cast, sevalprocAttr, eq_self]; first | done | omega))
      · intro q hq; have := ha' q hq; rw [this]; simp only; omega
    · have d2 : decide (y.k = 15) = false := decide_eq_false h2
      have s2 : stS y = true := decide_eq_true (by omega)
      have hp : pair3 t x y i j dist true = [⟨i, j, 1, dist, 3⟩] := by unfold pair3; rw [s1, s2, if_pos ⟨rfl, .inl rfl⟩]; simp
      rw [hp]
      repeat' (first | ((try clear hf); with_reducible refine zM fun env K hE hK hf => ?_; have n : _ ∧ _ ∧ _ ∧ _ ∧ _ ∧ _ ∧ _ ∧ _ ∧ _ ∧ _ ∧ _ ∧ _ := ⟨hE 0, hE 1, hE 2, hE 3, hE 4, hE 5, hE 7, hE 12, hE 13, hE 14, hE 15, hE 16⟩; simp -implicitDefEqProofs only [push_cast, reduceIte, Nat.reduceEqDiff, e0, e1, e2, e3, e4, e5, e7, e12, e13, e14, e15, e16] at n; clear hE e0 e1 e2 e3 e4 e5 e7 e12 e13 e14 e15 e16; obtain ⟨e0, e1, e2, e3, e4, e5, e7, e12, e13, e14, e15, e16⟩ := n) | (with_reducible refine hK _ _ ?_; clear hK K) | (with_reducible first | refine zJ ?_ | refine zU ?_ | refine zB ?_ | refine zG ?_ | refine zE ?_ | refine zL ?_ | refine zT ?_ | refine zD ?_ | refine zH ?_ | refine zV ?_ | refine zF ?_ | refine zA (by decide) ?_ | refine zP ?_ | refine zO ?_ | refine zK ?_ | refine yB ?_ | refine yC ?_ | refine zW (by assumption) ?_ | refine zY (by assumption) ?_) | (refine zI rfl ?_) | (simp -implicitDefEqProofs only [push_cast, sevalprocAttr, eq_self, e0, e1, e2, e3, e4, e5, e7, e12, e13, e14, e15, e16, hF.at, hri, hrj, d1, d2, hb, q2, q3, op_0]) | (simp -implicitDefEqProofs (disch := omega) only [zR, zZ, zS, zQ, e0, e1, e2, e3, e4, e5, e7, e12, e13, e14, e15, e16, hF.at, hri, hrj, d1, d2, hb, q2, q3, op_0]) | (with_reducible refine yE ?_ ?_) | (refine zN rfl (fun bb => ?_) (fun bb => ?_) <;> (first | have bp := of_decide_eq_true bb | have bp := of_decide_eq_false bb | skip) <;> simp only [bb]) | (with_reducible refine zX (fun bb => ?_) (fun bb => ?_) <;> (first | have bp := of_decide_eq_true bb | have bp := of_decide_eq_false bb | skip)) | ((with_reducible refine And.intro ?_ ?_); omega) | (refine goM_app1 (e := ⟨i, j, 1, dist, 3⟩) (hs.ext (by repeat (first | exact Ext.refl _ | assumption | refine Ext.tick ?_ | refine Ext.push ?_ (by omega) _ | refine Ext.put ?_ (by omega) _ | refine Ext.kill ?_ (by omega) | refine Ext.killA ?_ (by assumption)))) edC_len rfl (by omega) (fun e => by have := hid _ e; simp at this; omega) (by first | omega | (simp -implicitDefEqProofs only [push_cast, sevalprocAttr, eq_self]; first | done | omega)) ?_; intro g a' hs' ha' hep hfr) | fail)
      refine MR.done (g := g) e0 e2 e3 e4 e5 e7 rfl (by rw [hyq]; exact e14) (by rw [hyq]; exact e15) hs' ?_ ?_ ?_ (by repeat (first | exact Ext.refl _ | assumption | refine Ext.tick ?_ | refine Ext.push ?_ (by omega) _ | refine Ext.put ?_ (by omega) _ | refine Ext.kill ?_ (by omega) | refine Ext.killA ?_ (by assumption))) rfl
      · rw [hfr (2, 7) (by first | (simp; done) | (simp; omega)) (fun e => by have := hi _ e; simp at this)]; simp -implicitDefEqProofs (disch := omega) only [zR, zZ, zS, zQ, hb, tick_hp]
      · rw [hep]; exact (by first | omega | (simp -implicitDefEqProofs only [push_cast, sevalprocAttr, eq_self]; first | done | omega))
      · intro q hq; have := ha' q hq; rw [this]; simp only; omega
  · have d1 : decide (x.k = 16) = false := decide_eq_false h1
    have s1 : stS x = false := d1
    by_cases h2 : y.k = 16
    · have d2 : decide (y.k = 16) = true := decide_eq_true h2
      have s2 : stS y = true := d2
      have hp : pair3 t x y i j dist true = [⟨i, j, 0, dist, 3⟩] := by unfold pair3; rw [s1, s2, if_pos ⟨rfl, .inr rfl⟩]; simp
      rw [hp]
      repeat' (first | ((try clear hf); with_reducible refine zM fun env K hE hK hf => ?_; have n : _ ∧ _ ∧ _ ∧ _ ∧ _ ∧ _ ∧ _ ∧ _ ∧ _ ∧ _ ∧ _ ∧ _ := ⟨hE 0, hE 1, hE 2, hE 3, hE 4, hE 5, hE 7, hE 12, hE 13, hE 14, hE 15, hE 16⟩; simp -implicitDefEqProofs only [push_cast, reduceIte, Nat.reduceEqDiff, e0, e1, e2, e3, e4, e5, e7, e12, e13, e14, e15, e16] at n; clear hE e0 e1 e2 e3 e4 e5 e7 e12 e13 e14 e15 e16; obtain ⟨e0, e1, e2, e3, e4, e5, e7, e12, e13, e14, e15, e16⟩ := n) | (with_reducible refine hK _ _ ?_; clear hK K) | (with_reducible first | refine zJ ?_ | refine zU ?_ | refine zB ?_ | refine zG ?_ | refine zE ?_ | refine zL ?_ | refine zT ?_ | refine zD ?_ | refine zH ?_ | refine zV ?_ | refine zF ?_ | refine zA (by decide) ?_ | refine zP ?_ | refine zO ?_ | refine zK ?_ | refine yB ?_ | refine yC ?_ | refine zW (by assumption) ?_ | refine zY (by assumption) ?_) | (refine zI rfl ?_) | (simp -implicitDefEqProofs only [push_cast, sevalprocAttr, eq_self, e0, e1, e2, e3, e4, e5, e7, e12, e13, e14, e15, e16, hF.at, hri, hrj, d1, d2, hb, q2, q3, op_0]) | (simp -implicitDefEqProofs (disch := omega) only [zR, zZ, zS, zQ, e0, e1, e2, e3, e4, e5, e7, e12, e13, e14, e15, e16, hF.at, hri, hrj, d1, d2, hb, q2, q3, op_0]) | (with_reducible refine yE ?_ ?_) | (refine zN rfl (fun bb => ?_) (fun bb => ?_) <;> (first | have bp := of_decide_eq_true bb | have bp := of_decide_eq_false bb | skip) <;> simp only [bb]) | (with_reducible refine zX (fun bb => ?_) (fun bb => ?_) <;> (first | have bp := of_decide_eq_true bb | have bp := of_decide_eq_false bb | skip)) | ((with_reducible refine And.intro ?_ ?_); omega) | (refine goM_app1 (e := ⟨i, j, 0, dist, 3⟩) (hs.ext (by repeat (first | exact Ext.refl _ | assumption | refine Ext.tick ?_ | refine Ext.push ?_ (by omega) _ | refine Ext.put ?_ (by omega) _ | refine Ext.kill ?_ (by omega) | refine Ext.killA ?_ (by assumption)))) edC_len rfl (by omega) (fun e => by have := hid _ e; simp at this; omega) (by first | omega | (simp -implicitDefEqProofs only [push_cast, sevalprocAttr, eq_self]; first | done | omega)) ?_; intro g a' hs' ha' hep hfr) | fail)
      refine MR.done (g := g) e0 e2 e3 e4 e5 e7 rfl (by rw [hyq]; exact e14) (by rw [hyq]; exact e15) hs' ?_ ?_ ?_ (by repeat (first | exact Ext.refl _ | assumption | refine Ext.tick ?_ | refine Ext.push ?_ (by omega) _ | refine Ext.put ?_ (by omega) _ | refine Ext.kill ?_ (by omega) | refine Ext.killA ?_ (by assumption))) rfl
      · rw [hfr (2, 7) (by first | (simp; done) | (simp; omega)) (fun e => by have := hi _ e; simp at this)]; simp -implicitDefEqProofs (disch := omega) only [zR, zZ, zS, zQ, hb, tick_hp]
      · rw [hep]; exact (by first | omega | (simp -implicitDefEqProofs only [push_cast, sevalprocAttr, eq_self]; first | done | omega))
      · intro q hq; have := ha' q hq; rw [this]; simp only; omega
    · have d2 : decide (y.k = 16) = false := decide_eq_false h2
      have s2 : stS y = false := d2
      have hp : pair3 t x y i j dist true = [] := by unfold pair3; rw [s1, s2, if_neg (by simp)]
      rw [hp, List.append_nil]
      repeat' (first | ((try clear hf); with_reducible refine zM fun env K hE hK hf => ?_; have n : _ ∧ _ ∧ _ ∧ _ ∧ _ ∧ _ ∧ _ ∧ _ ∧ _ ∧ _ ∧ _ ∧ _ := ⟨hE 0, hE 1, hE 2, hE 3, hE 4, hE 5, hE 7, hE 12, hE 13, hE 14, hE 15, hE 16⟩; simp -implicitDefEqProofs only [push_cast, reduceIte, Nat.reduceEqDiff, e0, e1, e2, e3, e4, e5, e7, e12, e13, e14, e15, e16] at n; clear hE e0 e1 e2 e3 e4 e5 e7 e12 e13 e14 e15 e16; obtain ⟨e0, e1, e2, e3, e4, e5, e7, e12, e13, e14, e15, e16⟩ := n) | (with_reducible refine hK _ _ ?_; clear hK K) | (with_reducible first | refine zJ ?_ | refine zU ?_ | refine zB ?_ | refine zG ?_ | refine zE ?_ | refine zL ?_ | refine zT ?_ | refine zD ?_ | refine zH ?_ | refine zV ?_ | refine zF ?_ | refine zA (by decide) ?_ | refine zP ?_ | refine zO ?_ | refine zK ?_ | refine yB ?_ | refine yC ?_ | refine zW (by assumption) ?_ | refine zY (by assumption) ?_) | (refine zI rfl ?_) | (simp -implicitDefEqProofs only [push_cast, sevalprocAttr, eq_self, e0, e1, e2, e3, e4, e5, e7, e12, e13, e14, e15, e16, hF.at, hri, hrj, d1, d2, hb, q2, q3, op_0]) | (simp -implicitDefEqProofs (disch := omega) only [zR, zZ, zS, zQ, e0, e1, e2, e3, e4, e5, e7, e12, e13, e14, e15, e16, hF.at, hri, hrj, d1, d2, hb, q2, q3, op_0]) | (with_reducible refine yE ?_ ?_) | (refine zN rfl (fun bb => ?_) (fun bb => ?_) <;> (first | have bp := of_decide_eq_true bb | have bp := of_decide_eq_false bb | skip) <;> simp only [bb]) | (with_reducible refine zX (fun bb => ?_) (fun bb => ?_) <;> (first | have bp := of_decide_eq_true bb | have bp := of_decide_eq_false bb | skip)) | ((with_reducible refine And.intro ?_ ?_); omega) | fail)
      exact MR.done (g := h) e0 e2 e3 e4 e5 e7 e13 (by rw [hyq]; exact e14) (by rw [hyq]; exact e15) hs hb he hi (by repeat (first | exact Ext.refl _ | assumption | refine Ext.tick ?_ | refine Ext.push ?_ (by omega) _ | refine Ext.put ?_ (by omega) _ | refine Ext.kill ?_ (by omega) | refine Ext.killA ?_ (by assumption))) rfl
set_option maxHeartbeats 1000000 in
theorem f94'4 {l : List Opn} {t : Tab} {i j : Nat} {dist : Int} {meet : Bool} {E : List Edg} (hI : rpI l t i j) (hE : E.length ≤ 1000) {σ : St} (hM : MR l t i j dist meet E σ) {Q : AEx → St → Prop} : awp Try.prog rp4 (seqK Try.prog (MR l t i j dist meet (E ++ pair4 (opAt l i) (opAt l j) i j dist)) Q) σ := by
  unfold MR at hM
  obtain ⟨env, h⟩ := σ
  obtain ⟨a, e0, e2, e3, e4, e5, e7, e13, e14, e15, hs, hb, he, hi⟩ := hM
  simp only at e0 e2 e3 e4 e5 e7 e13 e14 e15 hs hb he
  obtain ⟨hil, hjl, hl, ht⟩ := hI
  have e1 : True := trivial; have e12 : True := trivial; have e16 : True := trivial
  unfold rp4
  refine yI fun hF => ?_
  have hri := qJ hil .i64
  have hrj := qJ hjl .i64
  have hoi := hl _ (List.getElem_mem hil)
  have hoj := hl _ (List.getElem_mem hjl)
  rw [qD hil] at hri hoi
  rw [qD hjl] at hrj hoj
  have l1 := latS_ok ht (opAt l i)
  have l2 := latS_ok ht (opAt l j)
  have l3 := ht.1 2 (by omega)
  unfold okC at l3
  generalize opAt l i = x at *
  generalize hyq : opAt l j = y at *
  have hid := fun x hx => hs.id_le (x := x) hx
  by_cases h1 : effS x = true
  · by_cases h2 : effS y = true
    · have hp : pair4 x y i j dist = [⟨i, j, 1, dist, 4⟩] := by unfold pair4; rw [if_pos ⟨h1, h2⟩]
      rw [hp]
      repeat' (first | ((try clear hf); with_reducible refine zM fun env K hE hK hf => ?_; have n : _ ∧ _ ∧ _ ∧ _ ∧ _ ∧ _ ∧ _ ∧ _ ∧ _ ∧ _ ∧ _ ∧ _ := ⟨hE 0, hE 1, hE 2, hE 3, hE 4, hE 5, hE 7, hE 12, hE 13, hE 14, hE 15, hE 16⟩; simp -implicitDefEqProofs only [push_cast, reduceIte, Nat.reduceEqDiff, e0, e1, e2, e3, e4, e5, e7, e12, e13, e14, e15, e16] at n; clear hE e0 e1 e2 e3 e4 e5 e7 e12 e13 e14 e15 e16; obtain ⟨e0, e1, e2, e3, e4, e5, e7, e12, e13, e14, e15, e16⟩ := n) | (with_reducible refine hK _ _ ?_; clear hK K) | (with_reducible first | refine zJ ?_ | refine zU ?_ | refine zB ?_ | refine zG ?_ | refine zE ?_ | refine zL ?_ | refine zT ?_ | refine zD ?_ | refine zH ?_ | refine zV ?_ | refine zF ?_ | refine zA (by decide) ?_ | refine zP ?_ | refine zO ?_ | refine zK ?_ | refine yB ?_ | refine yC ?_ | refine zW (by assumption) ?_ | refine zY (by assumption) ?_) | (refine zI rfl ?_) | (simp -implicitDefEqProofs only [push_cast, sevalprocAttr, eq_self, e0, e1, e2, e3, e4, e5, e7, e12, e13, e14, e15, e16, hF.at, hri, hrj, h1, h2]) | (simp -implicitDefEqProofs (disch := omega) only [zR, zZ, zS, zQ, e0, e1, e2, e3, e4, e5, e7, e12, e13, e14, e15, e16, hF.at, hri, hrj, h1, h2]) | (with_reducible refine yE ?_ ?_) | (refine zN rfl (fun bb => ?_) (fun bb => ?_) <;> (first | have bp := of_decide_eq_true bb | have bp := of_decide_eq_false bb | skip) <;> simp only [bb]) | (with_reducible refine zX (fun bb => ?_) (fun bb => ?_) <;> (first | have bp := of_decide_eq_true bb | have bp := of_decide_eq_false bb | skip)) | ((with_reducible refine And.intro ?_ ?_); omega) | (refine yD (f114 x) ?_) | (refine yD (f114 y) ?_) | (refine goM_app1 (e := ⟨i, j, 1, dist, 4⟩) (hs.ext (by repeat (first | exact Ext.refl _ | assumption | refine Ext.tick ?_ | refine Ext.push ?_ (by omega) _ | refine Ext.put ?_ (by omega) _ | refine Ext.kill ?_ (by omega) | refine Ext.killA ?_ (by assumption)))) edC_len rfl (by omega) (fun e => by have := hid _ e; simp at this; omega) (by first | omega | (simp -implicitDefEqProofs only [push_cast, sevalprocAttr, eq_self]; first | done | omega)) ?_; intro g a' hs' ha' hep hfr) | fail)
      refine MR.done (g := g) e0 e2 e3 e4 e5 e7 rfl (by rw [hyq]; exact e14) (by rw [hyq]; exact e15) hs' ?_ ?_ ?_ (by repeat (first | exact Ext.refl _ | assumption | refine Ext.tick ?_ | refine Ext.push ?_ (by omega) _ | refine Ext.put ?_ (by omega) _ | refine Ext.kill ?_ (by omega) | refine Ext.killA ?_ (by assumption))) rfl
      · rw [hfr (2, 7) (by first | (simp; done) | (simp; omega)) (fun e => by have := hi _ e; simp at this)]; simp -implicitDefEqProofs (disch := omega) only [zR, zZ, zS, zQ, hb, tick_hp]
      · rw [hep]; exact (by first | omega | (simp -implicitDefEqProofs only [push_cast, sevalprocAttr, eq_self]; first | done | omega))
      · intro q hq; have := ha' q hq; rw [this]; simp only; omega
    · have hp : pair4 x y i j dist = [] := by unfold pair4; rw [if_neg (fun h => h2 h.2)]
      rw [hp, List.append_nil]
      rw [Bool.not_eq_true] at h2
      repeat' (first | ((try clear hf); with_reducible refine zM fun env K hE hK hf => ?_; have n : _ ∧ _ ∧ _ ∧ _ ∧ _ ∧ _ ∧ _ ∧ _ ∧ _ ∧ _ ∧ _ ∧ _ := ⟨hE 0, hE 1, hE 2, hE 3, hE 4, hE 5, hE 7, hE 12, hE 13, hE 14, hE 15, hE 16⟩; simp -implicitDefEqProofs only [push_cast, reduceIte, Nat.reduceEqDiff, e0, e1, e2, e3, e4, e5, e7, e12, e13, e14, e15, e16] at n; clear hE e0 e1 e2 e3 e4 e5 e7 e12 e13 e14 e15 e16; obtain ⟨e0, e1, e2, e3, e4, e5, e7, e12, e13, e14, e15, e16⟩ := n) | (with_reducible refine hK _ _ ?_; clear hK K) | (with_reducible first | refine zJ ?_ | refine zU ?_ | refine zB ?_ | refine zG ?_ | refine zE ?_ | refine zL ?_ | refine zT ?_ | refine zD ?_ | refine zH ?_ | refine zV ?_ | refine zF ?_ | refine zA (by decide) ?_ | refine zP ?_ | refine zO ?_ | refine zK ?_ | refine yB ?_ | refine yC ?_ | refine zW (by assumption) ?_ | refine zY (by assumption) ?_) | (refine zI rfl ?_) | (simp -implicitDefEqProofs only [push_cast, sevalprocAttr, eq_self, e0, e1, e2, e3, e4, e5, e7, e12, e13, e14, e15, e16, hF.at, hri, hrj, h1, h2]) | (simp -implicitDefEqProofs (disch := omega) only [zR, zZ, zS, zQ, e0, e1, e2, e3, e4, e5, e7, e12, e13, e14, e15, e16, hF.at, hri, hrj, h1, h2]) | (with_reducible refine yE ?_ ?_) | (refine zN rfl (fun bb => ?_) (fun bb => ?_) <;> (first | have bp := of_decide_eq_true bb | have bp := of_decide_eq_false bb | skip) <;> simp only [bb]) | (with_reducible refine zX (fun bb => ?_) (fun bb => ?_) <;> (first | have bp := of_decide_eq_true bb | have bp := of_decide_eq_false bb | skip)) | ((with_reducible refine And.intro ?_ ?_); omega) | (refine yD (f114 x) ?_) | (refine yD (f114 y) ?_) | fail)
      exact MR.done (g := h) e0 e2 e3 e4 e5 e7 e13 (by rw [hyq]; exact e14) (by rw [hyq]; exact e15) hs hb he hi (by repeat (first | exact Ext.refl _ | assumption | refine Ext.tick ?_ | refine Ext.push ?_ (by omega) _ | refine Ext.put ?_ (by omega) _ | refine Ext.kill ?_ (by omega) | refine Ext.killA ?_ (by assumption))) rfl
  · have hp : pair4 x y i j dist = [] := by unfold pair4; rw [if_neg (fun h => h1 h.1)]
    rw [hp, List.append_nil]
    rw [Bool.not_eq_true] at h1
    repeat' (first | ((try clear hf); with_reducible refine zM fun env K hE hK hf => ?_; have n : _ ∧ _ ∧ _ ∧ _ ∧ _ ∧ _ ∧ _ ∧ _ ∧ _ ∧ _ ∧ _ ∧ _ := ⟨hE 0, hE 1, hE 2, hE 3, hE 4, hE 5, hE 7, hE 12, hE 13, hE 14, hE 15, hE 16⟩; simp -implicitDefEqProofs only [push_cast, reduceIte, Nat.reduceEqDiff, e0, e1, e2, e3, e4, e5, e7, e12, e13, e14, e15, e16] at n; clear hE e0 e1 e2 e3 e4 e5 e7 e12 e13 e14 e15 e16; obtain ⟨e0, e1, e2, e3, e4, e5, e7, e12, e13, e14, e15, e16⟩ := n) | (with_reducible refine hK _ _ ?_; clear hK K) | (with_reducible first | refine zJ ?_ | refine zU ?_ | refine zB ?_ | refine zG ?_ | refine zE ?_ | refine zL ?_ | refine zT ?_ | refine zD ?_ | refine zH ?_ | refine zV ?_ | refine zF ?_ | refine zA (by decide) ?_ | refine zP ?_ | refine zO ?_ | refine zK ?_ | refine yB ?_ | refine yC ?_ | refine zW (by assumption) ?_ | refine zY (by assumption) ?_) | (refine zI rfl ?_) | (simp -implicitDefEqProofs only [push_cast, sevalprocAttr, eq_self, e0, e1, e2, e3, e4, e5, e7, e12, e13, e14, e15, e16, hF.at, hri, hrj, h1]) | (simp -implicitDefEqProofs (disch := omega) only [zR, zZ, zS, zQ, e0, e1, e2, e3, e4, e5, e7, e12, e13, e14, e15, e16, hF.at, hri, hrj, h1]) | (with_reducible refine yE ?_ ?_) | (refine zN rfl (fun bb => ?_) (fun bb => ?_) <;> (first | have bp := of_decide_eq_true bb | have bp := of_decide_eq_false bb | skip) <;> simp only [bb]) | (with_reducible refine zX (fun bb => ?_) (fun bb => ?_) <;> (first | have bp := of_decide_eq_true bb | have bp := of_decide_eq_false bb | skip)) | ((with_reducible refine And.intro ?_ ?_); omega) | (refine yD (f114 x) ?_) | fail)
    exact MR.done (g := h) e0 e2 e3 e4 e5 e7 e13 (by rw [hyq]; exact e14) (by rw [hyq]; exact e15) hs hb he hi (by repeat (first | exact Ext.refl _ | assumption | refine Ext.tick ?_ | refine Ext.push ?_ (by omega) _ | refine Ext.put ?_ (by omega) _ | refine Ext.kill ?_ (by omega) | refine Ext.killA ?_ (by assumption))) rfl
set_option maxHeartbeats 1000000 in
theorem f94 {l : List Opn} {t : Tab} {i j : Nat} (hi : i < l.length) (hj : j < l.length) (hl : ∀ o ∈ l, o.ok) (ht : qM t) (dist : Int) (meet : Bool) (hmt : meet = true → (opAt l j).k = 15 ∨ (opAt l j).k = 16) :
    HVF Try.prog 94 [.row (l.map opC), .agg (tabC t), i64 i, i64 j, i64 dist, bl meet] (.row ((pairE t (opAt l i) (opAt l j) i j dist meet).map edC)) := by
  refine HVF_of_awp yL cf94 (by simp) (by simp [imms, imm, yR, tab_imms]) ?_ (by simp only [imm]; exact edrows_imms _)
  rw [rp_code]
  unfold re94
  refine yF fun env hE => ?_; have e0 := hE 0; have e1 := hE 1; have e2 := hE 2; have e3 := hE 3; have e4 := hE 4; have e5 := hE 5; have e7 := hE 7; have e12 := hE 12; have e13 := hE 13; have e14 := hE 14; have e15 := hE 15; have e16 := hE 16; simp -implicitDefEqProofs only [push_cast] at e0 e1 e2 e3 e4 e5 e7 e12 e13 e14 e15 e16; clear hE
  have hrj := qJ hj .i64
  have hoj := hl _ (List.getElem_mem hj)
  rw [qD hj] at hrj hoj
  have hI : rpI l t i j := ⟨hi, hj, hl, ht⟩
  obtain ⟨n1, n2, n3, n4⟩ := pair_lens t (opAt l i) (opAt l j) i j dist meet
  rw [pairE_eq]
  have main : ∀ σ, MR l t i j dist meet [] σ → awp Try.prog rpT (PostF [.mv (.t 12)] fun r' h' => lendF fuelL h' r' = some (.row ((pair1 (opAt l i) (opAt l j) i j dist ++ pair2 t (opAt l i) (opAt l j) i j dist ++ pair3 t (opAt l i) (opAt l j) i j dist meet ++ pair4 (opAt l i) (opAt l j) i j dist).map edC))) σ := by
    intro σ hM
    unfold rpT
    refine awp_cut _ (f94'1 hI (by simp) hM) fun σ hM => ?_
    refine awp_cut _ (f94'2 hI (by simp; omega) hM) fun σ hM => ?_
    refine awp_cut _ (f94'3 hI (by simp; omega) hmt hM) fun σ hM => ?_
    refine awp_cut _ (f94'4 hI (by simp; omega) hM) fun σ hM => ?_
    unfold MR at hM
    obtain ⟨env, h⟩ := σ
    obtain ⟨a, e0, e2, e3, e4, e5, e7, e13, e14, e15, hs, hb, he, hi⟩ := hM
    simp only at e0 e2 e3 e4 e5 e7 e13 e14 e15 hs hb he
    have hlf := (hs.ext (Ext.tick (Ext.refl h))).lendF edC_len edC_atom 7
    rw [List.nil_append] at hlf
    have e1 : True := trivial; have e12 : True := trivial; have e16 : True := trivial
    repeat' (first | ((try clear hf); with_reducible refine zM fun env K hE hK hf => ?_; have n : _ ∧ _ ∧ _ ∧ _ ∧ _ ∧ _ ∧ _ ∧ _ ∧ _ ∧ _ ∧ _ ∧ _ := ⟨hE 0, hE 1, hE 2, hE 3, hE 4, hE 5, hE 7, hE 12, hE 13, hE 14, hE 15, hE 16⟩; simp -implicitDefEqProofs only [push_cast, reduceIte, Nat.reduceEqDiff, e0, e1, e2, e3, e4, e5, e7, e12, e13, e14, e15, e16] at n; clear hE e0 e1 e2 e3 e4 e5 e7 e12 e13 e14 e15 e16; obtain ⟨e0, e1, e2, e3, e4, e5, e7, e12, e13, e14, e15, e16⟩ := n) | (with_reducible refine hK _ _ ?_; clear hK K) | (with_reducible first | refine zJ ?_ | refine zU ?_ | refine zB ?_ | refine zG ?_ | refine zE ?_ | refine zL ?_ | refine zT ?_ | refine zD ?_ | refine zH ?_ | refine zV ?_ | refine zF ?_ | refine zA (by decide) ?_ | refine zP ?_ | refine zO ?_ | refine zK ?_ | refine yB ?_ | refine yC ?_ | refine zW (by assumption) ?_ | refine zY (by assumption) ?_) | (refine zI rfl ?_) | (simp -implicitDefEqProofs only [push_cast, sevalprocAttr, eq_self, e0, e1, e2, e3, e4, e5, e7, e12, e13, e14, e15, e16]) | (simp -implicitDefEqProofs (disch := omega) only [zR, zZ, zS, zQ, e0, e1, e2, e3, e4, e5, e7, e12, e13, e14, e15, e16]) | (with_reducible refine yE ?_ ?_) | (refine zN rfl (fun bb => ?_) (fun bb => ?_) <;> (first | have bp := of_decide_eq_true bb | have bp := of_decide_eq_false bb | skip) <;> simp only [bb]) | (with_reducible refine zX (fun bb => ?_) (fun bb => ?_) <;> (first | have bp := of_decide_eq_true bb | have bp := of_decide_eq_false bb | skip)) | ((with_reducible refine And.intro ?_ ?_); omega) | fail)
    exact hlf
  repeat' (first | ((try clear hf); with_reducible refine zM fun env K hE hK hf => ?_; have n : _ ∧ _ ∧ _ ∧ _ ∧ _ ∧ _ ∧ _ ∧ _ ∧ _ ∧ _ ∧ _ ∧ _ := ⟨hE 0, hE 1, hE 2, hE 3, hE 4, hE 5, hE 7, hE 12, hE 13, hE 14, hE 15, hE 16⟩; simp -implicitDefEqProofs only [push_cast, reduceIte, Nat.reduceEqDiff, e0, e1, e2, e3, e4, e5, e7, e12, e13, e14, e15, e16] at n; clear hE e0 e1 e2 e3 e4 e5 e7 e12 e13 e14 e15 e16; obtain ⟨e0, e1, e2, e3, e4, e5, e7, e12, e13, e14, e15, e16⟩ := n) | (with_reducible refine hK _ _ ?_; clear hK K) | (with_reducible first | refine zJ ?_ | refine zU ?_ | refine zB ?_ | refine zG ?_ | refine zE ?_ | refine zL ?_ | refine zT ?_ | refine zD ?_ | refine zH ?_ | refine zV ?_ | refine zF ?_ | refine zA (by decide) ?_ | refine zP ?_ | refine zO ?_ | refine zK ?_ | refine yB ?_ | refine yC ?_ | refine zW (by assumption) ?_ | refine zY (by assumption) ?_) | (refine zI rfl ?_) | (simp -implicitDefEqProofs only [push_cast, sevalprocAttr, eq_self, e0, e1, e2, e3, e4, e5, e7, e12, e13, e14, e15, e16, hrj]) | (simp -implicitDefEqProofs (disch := omega) only [zR, zZ, zS, zQ, e0, e1, e2, e3, e4, e5, e7, e12, e13, e14, e15, e16, hrj]) | (with_reducible refine yE ?_ ?_) | (refine zN rfl (fun bb => ?_) (fun bb => ?_) <;> (first | have bp := of_decide_eq_true bb | have bp := of_decide_eq_false bb | skip) <;> simp only [bb]) | (with_reducible refine zX (fun bb => ?_) (fun bb => ?_) <;> (first | have bp := of_decide_eq_true bb | have bp := of_decide_eq_false bb | skip)) | ((with_reducible refine And.intro ?_ ?_); omega) | (refine yD (f88 _ hoj) ?_) | (refine main _ ?_) | fail)
  exact MR.done (g := _) e0 e2 e3 e4 e5 e7 e13 rfl rfl (SlO.nil _ _ _) (by simp -implicitDefEqProofs only [push_cast, sevalprocAttr, eq_self]) (by first | omega | (simp -implicitDefEqProofs only [push_cast, sevalprocAttr, eq_self]; first | done | omega)) (fun x hx => by simp [idOf] at hx) (Ext.refl _) rfl
end Go.Proofs.Hx

set_option linter.unusedVariables false
set_option linter.unusedSimpArgs false
namespace Go.Proofs.Hx
open Go Go.Proofs
attribute [local irreducible] yM awp opK goV goM yV yZ qF yQ HV HVF HC
/-- The reference's edges under way: in slot 'o', beside the table's box; 'ex': what else is known of the slots. -/
def MO (h0 : Hp) (o : Nat) (l : List Opn) (t : Tab) (E : List Edg) (ex : (Nat → AV) → Prop) (σ : St) : Prop := ∃ a, σ.env 0 = .row (l.map opC) ∧ σ.env 3 = .ptr (h0.ep + 1 + 1, 3) 0 ∧ σ.env o = a ∧ ex σ.env ∧
  SlO edC 5 σ.h a E ∧ σ.h.hp (h0.ep + 1 + 1, 3) = some ⟨true, tabC t⟩ ∧ Ext h0 σ.h ∧ h0.ep + 2 ≤ σ.h.ep ∧ ∀ x, idOf a = some x → h0.ep + 2 < x.1
theorem MO.mk {h0 : Hp} {o : Nat} {l : List Opn} {t : Tab} {E E' : List Edg} {ex : (Nat → AV) → Prop} {env : Nat → AV} {g h : Hp} {a : AV} (e0 : env 0 = .row (l.map opC)) (e3 : env 3 = .ptr (h0.ep + 1 + 1, 3) 0) (eo : env o = a) (he : ex env) (hs : SlO edC 5 g a E) (hb : g.hp (h0.ep + 1 + 1, 3) = some ⟨true, tabC t⟩)
    (hX : Ext h0 g) (hp : h0.ep + 2 ≤ g.ep) (hi : ∀ x, idOf a = some x → h0.ep + 2 < x.1) (hx : Ext g h) (hE : E = E') : MO h0 o l t E' ex ⟨env, h⟩ :=
  ⟨a, e0, e3, eo, he, hE ▸ hs.ext hx, (hx.2 _ (by simpa using hp)).trans hb, hX.tr hx, Nat.le_trans hp hx.1, hi⟩
theorem MO.imp {h0 : Hp} {o : Nat} {l : List Opn} {t : Tab} {E : List Edg} {ex ex' : (Nat → AV) → Prop} {σ : St} (h : MO h0 o l t E ex σ) (k : ∀ env, ex env → ex' env) : MO h0 o l t E ex' σ := by
  obtain ⟨a, e0, e3, eo, he, r⟩ := h
  exact ⟨a, e0, e3, eo, k _ he, r⟩
/-- The frame behind an append. -/
theorem MO.app {h0 g h : Hp} {a : AV} {id : Id} (hX : Ext h0 h) (hp : h0.ep + 2 ≤ h.ep) (hi : ∀ x, idOf a = some x → h0.ep + 2 < x.1) (hid : h0.ep + 2 < id.1) (hep : g.ep = h.ep) (hfr : ∀ x, x ≠ id → idOf a ≠ some x → g.hp x = h.hp x) :
    Ext h0 g ∧ g.hp (h0.ep + 1 + 1, 3) = h.hp (h0.ep + 1 + 1, 3) := by
  refine ⟨⟨by rw [hep]; exact hX.1, fun x hx => ?_⟩, hfr _ (fun e => by have := congrArg Prod.fst e; simp at this; omega) (fun e => by have := hi _ e; simp at this)⟩
  rw [hfr x (fun e => by rw [e] at hx; omega) (fun e => by have := hi _ e; omega)]
  exact hX.2 x hx
def exIJ (i j : Nat) (env : Nat → AV) : Prop := env 8 = i64 j ∧ env 9 = i64 i
def exJ (j : Nat) (env : Nat → AV) : Prop := env 8 = i64 j
/-- From round to round: the dependences of i and j. -/
def ijR (l : List Opn) (t : Tab) (i j : Nat) : List Edg :=
  (if fromS (openL l j) (opAt l j) i = true then [⟨i, j, latS t (opAt l i), 1, 0⟩] else []) ++ pairE t (opAt l i) (opAt l j) i j 1 (meetS (opAt l i) (opAt l j) l)
def toR (l : List Opn) (t : Tab) (j : Nat) : Nat → List Edg
  | 0 => []
  | i + 1 => toR l t j i ++ ijR l t i j
def arndE (l : List Opn) (t : Tab) : Nat → List Edg
  | 0 => []
  | j + 1 => arndE l t j ++ toR l t j l.length
def loopE (l : List Opn) (t : Tab) : List Edg := onceE l t l.length ++ arndE l t l.length
theorem ijR_len (l : List Opn) (t : Tab) (i j : Nat) : (ijR l t i j).length ≤ 5 := by
  have := pair_lens t (opAt l i) (opAt l j) i j 1 (meetS (opAt l i) (opAt l j) l)
  unfold ijR
  rw [pairE_eq]
  simp only [List.length_append]
  split <;> simp <;> omega
theorem toR_len (l : List Opn) (t : Tab) (j : Nat) : ∀ i, (toR l t j i).length ≤ 5 * i
  | 0 => by simp [toR]
  | i + 1 => by
    have := toR_len l t j i
    have := ijR_len l t i j
    simp only [toR, List.length_append]; omega
theorem arndE_len (l : List Opn) (t : Tab) : ∀ j, (arndE l t j).length ≤ 5 * l.length * j
  | 0 => by simp [arndE]
  | j + 1 => by
    have h1 := arndE_len l t j
    have h2 := toR_len l t j l.length
    simp only [arndE, List.length_append]
    have : 5 * l.length * (j + 1) = 5 * l.length * j + 5 * l.length := by rw [Nat.mul_add, Nat.mul_one]
    omega
theorem meet_mem {a b : Opn} {s : List Opn} (h : meetS a b s = true) : b.k = 15 ∨ b.k = 16 := by
  unfold meetS memS at h
  simp only [Bool.and_eq_true, Bool.or_eq_true, decide_eq_true_eq] at h
  exact h.1.1.2.1

set_option maxHeartbeats 1000000 in
theorem f72'1 {h0 : Hp} {l : List Opn} {t : Tab} {i j : Nat} {E : List Edg} (hil : i < l.length) (hjl : j < l.length) (hl : ∀ o ∈ l, o.ok) (ht : qM t) (hn : l.length ≤ 1024) (hE : E.length ≤ 30000000) {σ : St} (hM : MO h0 7 l t E (exIJ i j) σ) {Q : AEx → St → Prop} :
    awp Try.prog (.seq (.ops r72_9 []) (.cond (.t 30) (.ops r72_10 []) .skip)) (seqK Try.prog (MO h0 7 l t (E ++ if fromS (yY l j) (opAt l j) i = true then [⟨i, j, latS t (opAt l i), 0, 0⟩] else []) (exIJ i j)) Q) σ := by
  obtain ⟨env, h⟩ := σ
  obtain ⟨a, e0, e3, e7, ⟨e8, e9⟩, hs, hb, hX, hp, hi⟩ := hM
  simp only at e0 e3 e7 e8 e9 hs hb hX hp
  have e1 : True := trivial; have e4 : True := trivial; have e5 : True := trivial; have e6 : True := trivial
  refine yI fun hF => ?_
  have hri := qJ hil .i64
  have hfl := f92'n l i j (by omega) hjl hl (by omega)
  rw [qD hil] at hri
  rw [qD hjl] at hfl
  have l1 := latS_ok ht (opAt l i)
  generalize opAt l i = x at *
  generalize opAt l j = y at *
  have hid := fun x hx => hs.id_le (x := x) hx
  by_cases h1 : fromS (yY l j) y i = true
  · rw [if_pos h1]
    rw [h1] at hfl
    repeat' (first | ((try clear hf); with_reducible refine zM fun env K hE hK hf => ?_; have n : _ ∧ _ ∧ _ ∧ _ ∧ _ ∧ _ ∧ _ ∧ _ ∧ _ := ⟨hE 0, hE 1, hE 3, hE 4, hE 5, hE 6, hE 7, hE 8, hE 9⟩; simp -implicitDefEqProofs only [push_cast, reduceIte, Nat.reduceEqDiff, e0, e1, e3, e4, e5, e6, e7, e8, e9] at n; clear hE e0 e1 e3 e4 e5 e6 e7 e8 e9; obtain ⟨e0, e1, e3, e4, e5, e6, e7, e8, e9⟩ := n) | (with_reducible refine hK _ _ ?_; clear hK K) | (with_reducible first | refine zJ ?_ | refine zU ?_ | refine zB ?_ | refine zG ?_ | refine zE ?_ | refine zL ?_ | refine zT ?_ | refine zD ?_ | refine zH ?_ | refine zV ?_ | refine zF ?_ | refine zA (by decide) ?_ | refine zP ?_ | refine zO ?_ | refine zK ?_ | refine yB ?_ | refine yC ?_ | refine zW (by assumption) ?_ | refine zY (by assumption) ?_) | (refine zI rfl ?_) | (simp -implicitDefEqProofs only [push_cast, sevalprocAttr, eq_self, e0, e1, e3, e4, e5, e6, e7, e8, e9, hF.at, hri, hb]) | (simp -implicitDefEqProofs (disch := omega) only [zR, zZ, zS, zQ, e0, e1, e3, e4, e5, e6, e7, e8, e9, hF.at, hri, hb]) | (with_reducible refine yE ?_ ?_) | (refine zN rfl (fun bb => ?_) (fun bb => ?_) <;> (first | have bp := of_decide_eq_true bb | have bp := of_decide_eq_false bb | skip) <;> simp only [bb]) | (with_reducible refine zX (fun bb => ?_) (fun bb => ?_) <;> (first | have bp := of_decide_eq_true bb | have bp := of_decide_eq_false bb | skip)) | ((with_reducible refine And.intro ?_ ?_); omega) | (refine yD hfl ?_) | (refine call_immq (f93 x t) ?_) | (refine goM_app1 (e := ⟨i, j, latS t x, 0, 0⟩) (hs.ext (by repeat (first | exact Ext.refl _ | assumption | refine Ext.tick ?_ | refine Ext.push ?_ (by omega) _ | refine Ext.put ?_ (by omega) _ | refine Ext.kill ?_ (by omega) | refine Ext.killA ?_ (by assumption)))) edC_len rfl (by omega) (fun e => by have := hid _ e; simp at this; omega) (by first | omega | (simp -implicitDefEqProofs only [push_cast, sevalprocAttr, eq_self]; first | done | omega)) ?_; intro g a' hs' ha' hep hfr) | fail)
    obtain ⟨q1, q2⟩ := MO.app (h0 := h0) (Ext.tr hX (by repeat (first | exact Ext.refl _ | assumption | refine Ext.tick ?_ | refine Ext.push ?_ (by omega) _ | refine Ext.put ?_ (by omega) _ | refine Ext.kill ?_ (by omega) | refine Ext.killA ?_ (by assumption)))) (by simp -implicitDefEqProofs only [push_cast, sevalprocAttr, eq_self]; omega) hi (by simp only; omega) hep hfr
    exact MO.mk (g := g) e0 e3 rfl ⟨e8, e9⟩ hs' (by rw [q2]; simp -implicitDefEqProofs (disch := omega) only [zR, zZ, zS, zQ, hb, tick_hp]) q1 (by rw [hep]; exact (by first | omega | (simp -implicitDefEqProofs only [push_cast, sevalprocAttr, eq_self]; first | done | omega))) (fun q hq => by have := ha' q hq; rw [this]; simp only; omega) (by repeat (first | exact Ext.refl _ | assumption | refine Ext.tick ?_ | refine Ext.push ?_ (by omega) _ | refine Ext.put ?_ (by omega) _ | refine Ext.kill ?_ (by omega) | refine Ext.killA ?_ (by assumption))) rfl
  · rw [if_neg h1, List.append_nil]
    rw [Bool.not_eq_true] at h1
    rw [h1] at hfl
    repeat' (first | ((try clear hf); with_reducible refine zM fun env K hE hK hf => ?_; have n : _ ∧ _ ∧ _ ∧ _ ∧ _ ∧ _ ∧ _ ∧ _ ∧ _ := ⟨hE 0, hE 1, hE 3, hE 4, hE 5, hE 6, hE 7, hE 8, hE 9⟩; simp -implicitDefEqProofs only [push_cast, reduceIte, Nat.reduceEqDiff, e0, e1, e3, e4, e5, e6, e7, e8, e9] at n; clear hE e0 e1 e3 e4 e5 e6 e7 e8 e9; obtain ⟨e0, e1, e3, e4, e5, e6, e7, e8, e9⟩ := n) | (with_reducible refine hK _ _ ?_; clear hK K) | (with_reducible first | refine zJ ?_ | refine zU ?_ | refine zB ?_ | refine zG ?_ | refine zE ?_ | refine zL ?_ | refine zT ?_ | refine zD ?_ | refine zH ?_ | refine zV ?_ | refine zF ?_ | refine zA (by decide) ?_ | refine zP ?_ | refine zO ?_ | refine zK ?_ | refine yB ?_ | refine yC ?_ | refine zW (by assumption) ?_ | refine zY (by assumption) ?_) | (refine zI rfl ?_) | (simp -implicitDefEqProofs only [push_cast, sevalprocAttr, eq_self, e0, e1, e3, e4, e5, e6, e7, e8, e9, hF.at, hri, hb]) | (simp -implicitDefEqProofs (disch := omega) only [zR, zZ, zS, zQ, e0, e1, e3, e4, e5, e6, e7, e8, e9, hF.at, hri, hb]) | (with_reducible refine yE ?_ ?_) | (refine zN rfl (fun bb => ?_) (fun bb => ?_) <;> (first | have bp := of_decide_eq_true bb | have bp := of_decide_eq_false bb | skip) <;> simp only [bb]) | (with_reducible refine zX (fun bb => ?_) (fun bb => ?_) <;> (first | have bp := of_decide_eq_true bb | have bp := of_decide_eq_false bb | skip)) | ((with_reducible refine And.intro ?_ ?_); omega) | (refine yD hfl ?_) | fail)
    exact MO.mk (g := h) e0 e3 e7 ⟨e8, e9⟩ hs hb hX hp hi (by repeat (first | exact Ext.refl _ | assumption | refine Ext.tick ?_ | refine Ext.push ?_ (by omega) _ | refine Ext.put ?_ (by omega) _ | refine Ext.kill ?_ (by omega) | refine Ext.killA ?_ (by assumption))) rfl
set_option maxHeartbeats 1000000 in
theorem f72'2 {h0 : Hp} {l : List Opn} {t : Tab} {i j : Nat} {E : List Edg} (hil : i < l.length) (hjl : j < l.length) (hij : i < j) (hl : ∀ o ∈ l, o.ok) (ht : qM t) (hn : l.length ≤ 1024) (hE : E.length ≤ 30000000) {σ : St} (hM : MO h0 7 l t E (exIJ i j) σ) {Q : AEx → St → Prop}
    (hQ : ∀ σ', MO h0 7 l t (E ++ pairE t (opAt l i) (opAt l j) i j 0 (meetS (opAt l i) (opAt l j) ((l.drop i).take (j - i)))) (exIJ i j) σ' → Q .normal σ') : awp Try.prog (.ops r72_11 []) Q σ := by
  obtain ⟨env, h⟩ := σ
  obtain ⟨a, e0, e3, e7, ⟨e8, e9⟩, hs, hb, hX, hp, hi⟩ := hM
  simp only at e0 e3 e7 e8 e9 hs hb hX hp
  have e1 : True := trivial; have e4 : True := trivial; have e5 : True := trivial; have e6 : True := trivial
  have hF : qQ h → qQ h := id
  have hmt : HV Try.prog 102 [.row (l.map opC), i64 i, i64 j] (bl (meetS (opAt l i) (opAt l j) ((l.drop i).take (j - i)))) := by
    have := f102 l i j hij hjl hl (by omega)
    unfold meetL at this; rw [qD hil, qD hjl] at this
    exact this
  have hpr := f94 hil hjl hl ht 0 (meetS (opAt l i) (opAt l j) ((l.drop i).take (j - i))) (fun h => meet_mem h)
  obtain ⟨n1, n2, n3, n4⟩ := pair_lens t (opAt l i) (opAt l j) i j 0 (meetS (opAt l i) (opAt l j) ((l.drop i).take (j - i)))
  have hpl : (pairE t (opAt l i) (opAt l j) i j 0 (meetS (opAt l i) (opAt l j) ((l.drop i).take (j - i)))).length ≤ 4 := by rw [pairE_eq]; simp only [List.length_append]; omega
  generalize pairE t (opAt l i) (opAt l j) i j 0 (meetS (opAt l i) (opAt l j) ((l.drop i).take (j - i))) = pe at *
  have hid := fun x hx => hs.id_le (x := x) hx
  repeat' (first | ((try clear hf); with_reducible refine zM fun env K hE hK hf => ?_; have n : _ ∧ _ ∧ _ ∧ _ ∧ _ ∧ _ ∧ _ ∧ _ ∧ _ := ⟨hE 0, hE 1, hE 3, hE 4, hE 5, hE 6, hE 7, hE 8, hE 9⟩; simp -implicitDefEqProofs only [push_cast, reduceIte, Nat.reduceEqDiff, e0, e1, e3, e4, e5, e6, e7, e8, e9] at n; clear hE e0 e1 e3 e4 e5 e6 e7 e8 e9; obtain ⟨e0, e1, e3, e4, e5, e6, e7, e8, e9⟩ := n) | (with_reducible refine hK _ _ ?_; clear hK K) | (with_reducible first | refine zJ ?_ | refine zU ?_ | refine zB ?_ | refine zG ?_ | refine zE ?_ | refine zL ?_ | refine zT ?_ | refine zD ?_ | refine zH ?_ | refine zV ?_ | refine zF ?_ | refine zA (by decide) ?_ | refine zP ?_ | refine zO ?_ | refine zK ?_ | refine yB ?_ | refine yC ?_ | refine zW (by assumption) ?_ | refine zY (by assumption) ?_) | (refine zI rfl ?_) | (simp -implicitDefEqProofs only [push_cast, sevalprocAttr, eq_self, e0, e1, e3, e4, e5, e6, e7, e8, e9, hb, app_src edC 5 edC_len]) | (simp -implicitDefEqProofs (disch := omega) only [zR, zZ, zS, zQ, e0, e1, e3, e4, e5, e6, e7, e8, e9, hb, app_src edC 5 edC_len]) | (with_reducible refine yE ?_ ?_) | (refine zN rfl (fun bb => ?_) (fun bb => ?_) <;> (first | have bp := of_decide_eq_true bb | have bp := of_decide_eq_false bb | skip) <;> simp only [bb]) | (with_reducible refine zX (fun bb => ?_) (fun bb => ?_) <;> (first | have bp := of_decide_eq_true bb | have bp := of_decide_eq_false bb | skip)) | ((with_reducible refine And.intro ?_ ?_); omega) | (refine call_immq hmt ?_) | (refine call_ownq (qS (by simp [imms, imm, yR, tab_imms])) hpr ?_) | (refine goM_appN (fs := pe) (hs.ext (by repeat (first | exact Ext.refl _ | assumption | refine Ext.tick ?_ | refine Ext.push ?_ (by omega) _ | refine Ext.put ?_ (by omega) _ | refine Ext.kill ?_ (by omega) | refine Ext.killA ?_ (by assumption)))) edC_len (flat_one edC_one pe) (by omega) (fun e => by have := hid _ e; simp at this; omega) (by first | omega | (simp -implicitDefEqProofs only [push_cast, sevalprocAttr, eq_self]; first | done | omega)) ?_; intro g a' hs' ha' hep hfr) | fail)
  obtain ⟨q1, q2⟩ := MO.app (h0 := h0) (Ext.tr hX (by repeat (first | exact Ext.refl _ | assumption | refine Ext.tick ?_ | refine Ext.push ?_ (by omega) _ | refine Ext.put ?_ (by omega) _ | refine Ext.kill ?_ (by omega) | refine Ext.killA ?_ (by assumption)))) (by simp -implicitDefEqProofs only [push_cast, sevalprocAttr, eq_self]; omega) hi (by simp only; omega) hep hfr
  exact hQ _ (MO.mk (g := g) e0 e3 rfl ⟨e8, e9⟩ hs' (by rw [q2]; simp -implicitDefEqProofs (disch := omega) only [zR, zZ, zS, zQ, hb, tick_hp]) q1 (by rw [hep]; exact (by first | omega | (simp -implicitDefEqProofs only [push_cast, sevalprocAttr, eq_self]; first | done | omega))) (fun q hq => by have := ha' q hq; rw [this]; simp only; omega) (by repeat (first | exact Ext.refl _ | assumption | refine Ext.tick ?_ | refine Ext.push ?_ (by omega) _ | refine Ext.put ?_ (by omega) _ | refine Ext.kill ?_ (by omega) | refine Ext.killA ?_ (by assumption))) rfl)

set_option maxHeartbeats 1000000 in
theorem f62'1 {h0 : Hp} {l : List Opn} {t : Tab} {i j : Nat} {E : List Edg} (hil : i < l.length) (hjl : j < l.length) (hl : ∀ o ∈ l, o.ok) (ht : qM t) (hn : l.length ≤ 1024) (hE : E.length ≤ 30000000) {σ : St} (hM : MO h0 6 l t E (exIJ i j) σ) {Q : AEx → St → Prop} :
    awp Try.prog (.seq (.ops r62_8 []) (.cond (.t 34) (.ops r62_9 []) .skip)) (seqK Try.prog (MO h0 6 l t (E ++ if fromS (openL l j) (opAt l j) i = true then [⟨i, j, latS t (opAt l i), 1, 0⟩] else []) (exIJ i j)) Q) σ := by
  obtain ⟨env, h⟩ := σ
  obtain ⟨a, e0, e3, e6, ⟨e8, e9⟩, hs, hb, hX, hp, hi⟩ := hM
  simp only at e0 e3 e6 e8 e9 hs hb hX hp
  have e1 : True := trivial; have e4 : True := trivial; have e5 : True := trivial; have e7 : True := trivial
  refine yI fun hF => ?_
  have hri := qJ hil .i64
  have hfl := f92'a l i j (by omega) hjl hl (by omega)
  rw [qD hil] at hri
  rw [qD hjl] at hfl
  have l1 := latS_ok ht (opAt l i)
  generalize opAt l i = x at *
  generalize opAt l j = y at *
  have hid := fun x hx => hs.id_le (x := x) hx
  by_cases h1 : fromS (openL l j) y i = true
  · rw [if_pos h1]
    rw [h1] at hfl
    repeat' (first | ((try clear hf); with_reducible refine zM fun env K hE hK hf => ?_; have n : _ ∧ _ ∧ _ ∧ _ ∧ _ ∧ _ ∧ _ ∧ _ ∧ _ := ⟨hE 0, hE 1, hE 3, hE 4, hE 5, hE 6, hE 7, hE 8, hE 9⟩; simp -implicitDefEqProofs only [push_cast, reduceIte, Nat.reduceEqDiff, e0, e1, e3, e4, e5, e6, e7, e8, e9] at n; clear hE e0 e1 e3 e4 e5 e6 e7 e8 e9; obtain ⟨e0, e1, e3, e4, e5, e6, e7, e8, e9⟩ := n) | (with_reducible refine hK _ _ ?_; clear hK K) | (with_reducible first | refine zJ ?_ | refine zU ?_ | refine zB ?_ | refine zG ?_ | refine zE ?_ | refine zL ?_ | refine zT ?_ | refine zD ?_ | refine zH ?_ | refine zV ?_ | refine zF ?_ | refine zA (by decide) ?_ | refine zP ?_ | refine zO ?_ | refine zK ?_ | refine yB ?_ | refine yC ?_ | refine zW (by assumption) ?_ | refine zY (by assumption) ?_) | (refine zI rfl ?_) | (simp -implicitDefEqProofs only [push_cast, sevalprocAttr, eq_self, e0, e1, e3, e4, e5, e6, e7, e8, e9, hF.at, hri, hb]) | (simp -implicitDefEqProofs (disch := omega) only [zR, zZ, zS, zQ, e0, e1, e3, e4, e5, e6, e7, e8, e9, hF.at, hri, hb]) | (with_reducible refine yE ?_ ?_) | (refine zN rfl (fun bb => ?_) (fun bb => ?_) <;> (first | have bp := of_decide_eq_true bb | have bp := of_decide_eq_false bb | skip) <;> simp only [bb]) | (with_reducible refine zX (fun bb => ?_) (fun bb => ?_) <;> (first | have bp := of_decide_eq_true bb | have bp := of_decide_eq_false bb | skip)) | ((with_reducible refine And.intro ?_ ?_); omega) | (refine yD hfl ?_) | (refine call_immq (f93 x t) ?_) | (refine goM_app1 (e := ⟨i, j, latS t x, 1, 0⟩) (hs.ext (by repeat (first | exact Ext.refl _ | assumption | refine Ext.tick ?_ | refine Ext.push ?_ (by omega) _ | refine Ext.put ?_ (by omega) _ | refine Ext.kill ?_ (by omega) | refine Ext.killA ?_ (by assumption)))) edC_len rfl (by omega) (fun e => by have := hid _ e; simp at this; omega) (by first | omega | (simp -implicitDefEqProofs only [push_cast, sevalprocAttr, eq_self]; first | done | omega)) ?_; intro g a' hs' ha' hep hfr) | fail)
    obtain ⟨q1, q2⟩ := MO.app (h0 := h0) (Ext.tr hX (by repeat (first | exact Ext.refl _ | assumption | refine Ext.tick ?_ | refine Ext.push ?_ (by omega) _ | refine Ext.put ?_ (by omega) _ | refine Ext.kill ?_ (by omega) | refine Ext.killA ?_ (by assumption)))) (by simp -implicitDefEqProofs only [push_cast, sevalprocAttr, eq_self]; omega) hi (by simp only; omega) hep hfr
    exact MO.mk (g := g) e0 e3 rfl ⟨e8, e9⟩ hs' (by rw [q2]; simp -implicitDefEqProofs (disch := omega) only [zR, zZ, zS, zQ, hb, tick_hp]) q1 (by rw [hep]; exact (by first | omega | (simp -implicitDefEqProofs only [push_cast, sevalprocAttr, eq_self]; first | done | omega))) (fun q hq => by have := ha' q hq; rw [this]; simp only; omega) (by repeat (first | exact Ext.refl _ | assumption | refine Ext.tick ?_ | refine Ext.push ?_ (by omega) _ | refine Ext.put ?_ (by omega) _ | refine Ext.kill ?_ (by omega) | refine Ext.killA ?_ (by assumption))) rfl
  · rw [if_neg h1, List.append_nil]
    rw [Bool.not_eq_true] at h1
    rw [h1] at hfl
    repeat' (first | ((try clear hf); with_reducible refine zM fun env K hE hK hf => ?_; have n : _ ∧ _ ∧ _ ∧ _ ∧ _ ∧ _ ∧ _ ∧ _ ∧ _ := ⟨hE 0, hE 1, hE 3, hE 4, hE 5, hE 6, hE 7, hE 8, hE 9⟩; simp -implicitDefEqProofs only [push_cast, reduceIte, Nat.reduceEqDiff, e0, e1, e3, e4, e5, e6, e7, e8, e9] at n; clear hE e0 e1 e3 e4 e5 e6 e7 e8 e9; obtain ⟨e0, e1, e3, e4, e5, e6, e7, e8, e9⟩ := n) | (with_reducible refine hK _ _ ?_; clear hK K) | (with_reducible first | refine zJ ?_ | refine zU ?_ | refine zB ?_ | refine zG ?_ | refine zE ?_ | refine zL ?_ | refine zT ?_ | refine zD ?_ | refine zH ?_ | refine zV ?_ | refine zF ?_ | refine zA (by decide) ?_ | refine zP ?_ | refine zO ?_ | refine zK ?_ | refine yB ?_ | refine yC ?_ | refine zW (by assumption) ?_ | refine zY (by assumption) ?_) | (refine zI rfl ?_) | (simp -implicitDefEqProofs only [push_cast, sevalprocAttr, eq_self, e0, e1, e3, e4, e5, e6, e7, e8, e9, hF.at, hri, hb]) | (simp -implicitDefEqProofs (disch := omega) only [zR, zZ, zS, zQ, e0, e1, e3, e4, e5, e6, e7, e8, e9, hF.at, hri, hb]) | (with_reducible refine yE ?_ ?_) | (refine zN rfl (fun bb => ?_) (fun bb => ?_) <;> (first | have bp := of_decide_eq_true bb | have bp := of_decide_eq_false bb | skip) <;> simp only [bb]) | (with_reducible refine zX (fun bb => ?_) (fun bb => ?_) <;> (first | have bp := of_decide_eq_true bb | have bp := of_decide_eq_false bb | skip)) | ((with_reducible refine And.intro ?_ ?_); omega) | (refine yD hfl ?_) | fail)
    exact MO.mk (g := h) e0 e3 e6 ⟨e8, e9⟩ hs hb hX hp hi (by repeat (first | exact Ext.refl _ | assumption | refine Ext.tick ?_ | refine Ext.push ?_ (by omega) _ | refine Ext.put ?_ (by omega) _ | refine Ext.kill ?_ (by omega) | refine Ext.killA ?_ (by assumption))) rfl
set_option maxHeartbeats 1000000 in
theorem f62'2 {h0 : Hp} {l : List Opn} {t : Tab} {i j : Nat} {E : List Edg} (hil : i < l.length) (hjl : j < l.length) (hl : ∀ o ∈ l, o.ok) (ht : qM t) (hn : l.length ≤ 1024) (hE : E.length ≤ 30000000) {σ : St} (hM : MO h0 6 l t E (exIJ i j) σ) {Q : AEx → St → Prop}
    (hQ : ∀ σ', MO h0 6 l t (E ++ pairE t (opAt l i) (opAt l j) i j 1 (meetS (opAt l i) (opAt l j) l)) (exIJ i j) σ' → Q .normal σ') : awp Try.prog (.ops r62_10 []) Q σ := by
  obtain ⟨env, h⟩ := σ
  obtain ⟨a, e0, e3, e6, ⟨e8, e9⟩, hs, hb, hX, hp, hi⟩ := hM
  simp only at e0 e3 e6 e8 e9 hs hb hX hp
  have e1 : True := trivial; have e4 : True := trivial; have e5 : True := trivial; have e7 : True := trivial
  have hF : qQ h → qQ h := id
  have hmt : HV Try.prog 95 [.row (l.map opC), i64 i, i64 j] (bl (meetS (opAt l i) (opAt l j) l)) := by
    have := f95 l i j hil hjl hl (by omega)
    rw [qD hil, qD hjl] at this
    exact this
  have hpr := f94 hil hjl hl ht 1 (meetS (opAt l i) (opAt l j) l) (fun h => meet_mem h)
  obtain ⟨n1, n2, n3, n4⟩ := pair_lens t (opAt l i) (opAt l j) i j 1 (meetS (opAt l i) (opAt l j) l)
  have hpl : (pairE t (opAt l i) (opAt l j) i j 1 (meetS (opAt l i) (opAt l j) l)).length ≤ 4 := by rw [pairE_eq]; simp only [List.length_append]; omega
  generalize pairE t (opAt l i) (opAt l j) i j 1 (meetS (opAt l i) (opAt l j) l) = pe at *
  have hid := fun x hx => hs.id_le (x := x) hx
  repeat' (first | ((try clear hf); with_reducible refine zM fun env K hE hK hf => ?_; have n : _ ∧ _ ∧ _ ∧ _ ∧ _ ∧ _ ∧ _ ∧ _ ∧ _ := ⟨hE 0, hE 1, hE 3, hE 4, hE 5, hE 6, hE 7, hE 8, hE 9⟩; simp -implicitDefEqProofs only [push_cast, reduceIte, Nat.reduceEqDiff, e0, e1, e3, e4, e5, e6, e7, e8, e9] at n; clear hE e0 e1 e3 e4 e5 e6 e7 e8 e9; obtain ⟨e0, e1, e3, e4, e5, e6, e7, e8, e9⟩ := n) | (with_reducible refine hK _ _ ?_; clear hK K) | (with_reducible first | refine zJ ?_ | refine zU ?_ | refine zB ?_ | refine zG ?_ | refine zE ?_ | refine zL ?_ | refine zT ?_ | refine zD ?_ | refine zH ?_ | refine zV ?_ | refine zF ?_ | refine zA (by decide) ?_ | refine zP ?_ | refine zO ?_ | refine zK ?_ | refine yB ?_ | refine yC ?_ | refine zW (by assumption) ?_ | refine zY (by assumption) ?_) | (refine zI rfl ?_) | (simp -implicitDefEqProofs only [push_cast, sevalprocAttr, eq_self, e0, e1, e3, e4, e5, e6, e7, e8, e9, hb, app_src edC 5 edC_len]) | (simp -implicitDefEqProofs (disch := omega) only [zR, zZ, zS, zQ, e0, e1, e3, e4, e5, e6, e7, e8, e9, hb, app_src edC 5 edC_len]) | (with_reducible refine yE ?_ ?_) | (refine zN rfl (fun bb => ?_) (fun bb => ?_) <;> (first | have bp := of_decide_eq_true bb | have bp := of_decide_eq_false bb | skip) <;> simp only [bb]) | (with_reducible refine zX (fun bb => ?_) (fun bb => ?_) <;> (first | have bp := of_decide_eq_true bb | have bp := of_decide_eq_false bb | skip)) | ((with_reducible refine And.intro ?_ ?_); omega) | (refine call_immq hmt ?_) | (refine call_ownq (qS (by simp [imms, imm, yR, tab_imms])) hpr ?_) | (refine goM_appN (fs := pe) (hs.ext (by repeat (first | exact Ext.refl _ | assumption | refine Ext.tick ?_ | refine Ext.push ?_ (by omega) _ | refine Ext.put ?_ (by omega) _ | refine Ext.kill ?_ (by omega) | refine Ext.killA ?_ (by assumption)))) edC_len (flat_one edC_one pe) (by omega) (fun e => by have := hid _ e; simp at this; omega) (by first | omega | (simp -implicitDefEqProofs only [push_cast, sevalprocAttr, eq_self]; first | done | omega)) ?_; intro g a' hs' ha' hep hfr) | fail)
  obtain ⟨q1, q2⟩ := MO.app (h0 := h0) (Ext.tr hX (by repeat (first | exact Ext.refl _ | assumption | refine Ext.tick ?_ | refine Ext.push ?_ (by omega) _ | refine Ext.put ?_ (by omega) _ | refine Ext.kill ?_ (by omega) | refine Ext.killA ?_ (by assumption)))) (by simp -implicitDefEqProofs only [push_cast, sevalprocAttr, eq_self]; omega) hi (by simp only; omega) hep hfr
  exact hQ _ (MO.mk (g := g) e0 e3 rfl ⟨e8, e9⟩ hs' (by rw [q2]; simp -implicitDefEqProofs (disch := omega) only [zR, zZ, zS, zQ, hb, tick_hp]) q1 (by rw [hep]; exact (by first | omega | (simp -implicitDefEqProofs only [push_cast, sevalprocAttr, eq_self]; first | done | omega))) (fun q hq => by have := ha' q hq; rw [this]; simp only; omega) (by repeat (first | exact Ext.refl _ | assumption | refine Ext.tick ?_ | refine Ext.push ?_ (by omega) _ | refine Ext.put ?_ (by omega) _ | refine Ext.kill ?_ (by omega) | refine Ext.killA ?_ (by assumption))) rfl)
end Go.Proofs.Hx

set_option linter.unusedVariables false
set_option linter.unusedSimpArgs false
namespace Go.Proofs.Hx
open Go Go.Proofs
attribute [local irreducible] yM awp opK goV goM yV yZ qF yQ HV HVF HC
theorem minV_two (k k' : IntKind) (a b : Int) : minV [.lit (.int k a), .lit (.int k' b)] = some (.lit (.int k (if b < a then b else a))) := rfl
theorem f101 (l : List Opn) (i j : Nat) (hi : i < l.length) (hj : j < l.length) (hl : ∀ o ∈ l, o.ok) (hn : l.length ≤ 1000000) :
    HV Try.prog 101 [.row (l.map opC), i64 i, i64 j] (bl (meetS l[i] l[j] l)) := by
  refine yJ yL cf101 (by simp) (by simp [imms, imm, yR]) ?_ rfl
  unfold ac101 re101
  refine yF fun env hE => ?_; have e0 := hE 0; have e1 := hE 1; have e2 := hE 2; have e6 := hE 6; simp -implicitDefEqProofs only [push_cast] at e0 e1 e2 e6; clear hE
  have hd1 : decide (0 ≤ if (j : Int) < i then (j : Int) else i) = true := decide_eq_true (by split <;> omega)
  have hd2 : decide ((if (j : Int) > i then (j : Int) else i) < (l.length : Int)) = true := decide_eq_true (by split <;> omega)
  have hc := f119 l l i j hi hj hl hl hn
  repeat' (first | ((try clear hf); with_reducible refine zM fun env K hE hK hf => ?_; have n : _ ∧ _ ∧ _ ∧ _ := ⟨hE 0, hE 1, hE 2, hE 6⟩; simp -implicitDefEqProofs only [push_cast, reduceIte, Nat.reduceEqDiff, e0, e1, e2, e6] at n; clear hE e0 e1 e2 e6; obtain ⟨e0, e1, e2, e6⟩ := n) | (with_reducible refine hK _ _ ?_; clear hK K) | (with_reducible first | refine zJ ?_ | refine zU ?_ | refine zB ?_ | refine zG ?_ | refine zE ?_ | refine zL ?_ | refine zT ?_ | refine zD ?_ | refine zH ?_ | refine zV ?_ | refine zF ?_ | refine zA (by decide) ?_ | refine zP ?_ | refine zO ?_ | refine zK ?_ | refine yB ?_ | refine yC ?_ | refine zW (by assumption) ?_ | refine zY (by assumption) ?_) | (refine zI rfl ?_) | (simp -implicitDefEqProofs only [push_cast, sevalprocAttr, eq_self, e0, e1, e2, e6, yK, minV_two, qR, hd1, hd2]) | (simp -implicitDefEqProofs (disch := omega) only [zR, zZ, zS, zQ, e0, e1, e2, e6, yK, minV_two, qR, hd1, hd2]) | (with_reducible refine yE ?_ ?_) | (refine zN rfl (fun bb => ?_) (fun bb => ?_) <;> simp only [bb]) | (with_reducible refine zX (fun bb => ?_) (fun bb => ?_)) | ((with_reducible refine And.intro ?_ ?_); omega) | (refine yD hc ?_) | fail)
theorem onceE_len2 (l : List Opn) (t : Tab) : ∀ j, 2 * (onceE l t j).length ≤ 5 * j * j
  | 0 => by simp [onceE]
  | j + 1 => by
    have h1 := onceE_len2 l t j
    have h2 := toE_len l t j j
    simp only [onceE, List.length_append]
    have : 5 * (j + 1) * (j + 1) = 5 * j * j + 5 * j + (5 * j + 5) := by rw [Nat.mul_add 5, Nat.mul_add, Nat.add_mul, Nat.mul_one, Nat.mul_one]
    omega
end Go.Proofs.Hx

set_option linter.unusedVariables false
set_option linter.unusedSimpArgs false
namespace Go.Proofs.Hx
open Go Go.Proofs
attribute [local irreducible] yM awp opK goV goM yV yZ qF yQ HV HVF HC
theorem lastC_take (L : Nat → Int) : (qN L).take 32 = qN L := List.take_of_length_le (by rw [lastC_len]; omega)
theorem lastC_one (L : Nat → Int) : (qN L).all one = true := by simp [qN, one]; intros; rfl
theorem openL_succ (l : List Opn) (j r : Nat) : openL l (j + 1) r = if 0 ≤ dS (opAt l j) ∧ r = (dS (opAt l j)).toNat then 0 else openL l j r := by
  unfold openL
  rw [show yY l (j + 1) r = if 0 ≤ dS (opAt l j) ∧ r = (dS (opAt l j)).toNat then (j : Int) + 1 else yY l j r from rfl]
  by_cases h : 0 ≤ dS (opAt l j) ∧ r = (dS (opAt l j)).toNat
  · rw [if_pos h, if_pos h, if_neg (by omega)]
  · rw [if_neg h, if_neg h]
set_option maxHeartbeats 1000000 in
theorem f67 {h0 : Hp} {F : Id} {l : List Opn} {t : Tab} {es : List Edg} {rid did : Id} {out0 : AV} (hX : FinH h0 F l t es rid did out0) (ho0 : ∀ x, idOf out0 = some x → x.1 ≤ h0.ep) (hl : ∀ o ∈ l, o.ok) (ht : qM t) (hn : l.length ≤ 1024) (hes : es.length ≤ 4000000) :
    HC Try.prog 67 [.ptr F 0] h0 fun r h' => r = .tup [] ∧ ∃ out', FinH h' F l t (es ++ arndE l t l.length) rid did out' ∧ FS h0 F out0 h' out' := by
  refine HC_of_awp yL cf67 (by simp) fun hF => ?_
  unfold ac67 re67
  refine yF fun env hE => ?_; have e0 := hE 0; have e2 := hE 2; have e3 := hE 3; have e4 := hE 4; have e5 := hE 5; have e6 := hE 6; have e11 := hE 11; have e12 := hE 12; have e13 := hE 13; have e39 := hE 39; have e40 := hE 40; have e41 := hE 41; have e47 := hE 47; have e48 := hE 48; have e49 := hE 49; simp -implicitDefEqProofs only [push_cast] at e0 e2 e3 e4 e5 e6 e11 e12 e13 e39 e40 e41 e47 e48 e49; clear hE
  obtain ⟨Fe, Fs⟩ := F
  obtain ⟨re, rs⟩ := rid
  obtain ⟨de, ds⟩ := did
  have hb := hX.fin
  have hFe : Fe ≤ h0.ep := hX.eF
  repeat' (first | ((try clear hf); with_reducible refine zM fun env K hE hK hf => ?_; have n : _ ∧ _ ∧ _ ∧ _ ∧ _ ∧ _ ∧ _ ∧ _ ∧ _ ∧ _ ∧ _ ∧ _ ∧ _ ∧ _ ∧ _ := ⟨hE 0, hE 2, hE 3, hE 4, hE 5, hE 6, hE 11, hE 12, hE 13, hE 39, hE 40, hE 41, hE 47, hE 48, hE 49⟩; simp -implicitDefEqProofs only [push_cast, reduceIte, Nat.reduceEqDiff, e0, e2, e3, e4, e5, e6, e11, e12, e13, e39, e40, e41, e47, e48, e49] at n; clear hE e0 e2 e3 e4 e5 e6 e11 e12 e13 e39 e40 e41 e47 e48 e49; obtain ⟨e0, e2, e3, e4, e5, e6, e11, e12, e13, e39, e40, e41, e47, e48, e49⟩ := n) | (with_reducible refine hK _ _ ?_; clear hK K) | (with_reducible first | refine zJ ?_ | refine zU ?_ | refine zB ?_ | refine zG ?_ | refine zE ?_ | refine zL ?_ | refine zT ?_ | refine zD ?_ | refine zH ?_ | refine zV ?_ | refine zF ?_ | refine zA (by decide) ?_ | refine zP ?_ | refine zO ?_ | refine zK ?_ | refine yB ?_ | refine yC ?_ | refine zW (by assumption) ?_ | refine zY (by assumption) ?_) | (refine zI rfl ?_) | (simp -implicitDefEqProofs only [push_cast, sevalprocAttr, eq_self, e0, e2, e3, e4, e5, e6, e11, e12, e13, e39, e40, e41, e47, e48, e49, hb, hF.at, finC_0, yK]) | (simp -implicitDefEqProofs (disch := omega) only [zR, zZ, zS, zQ, e0, e2, e3, e4, e5, e6, e11, e12, e13, e39, e40, e41, e47, e48, e49, hb, hF.at, finC_0, yK]) | (with_reducible refine yE ?_ ?_) | (refine zN rfl (fun bb => ?_) (fun bb => ?_) <;> (first | have bp := of_decide_eq_true bb | have bp := of_decide_eq_false bb | skip) <;> simp only [bb]) | (with_reducible refine zX (fun bb => ?_) (fun bb => ?_) <;> (first | have bp := of_decide_eq_true bb | have bp := of_decide_eq_false bb | skip)) | ((with_reducible refine And.intro ?_ ?_); omega) | fail)
  generalize hL0 : (h0.ep + 1 + 1, 2) = L
  rw [hL0] at e2
  have hre : re ≤ h0.ep := hX.er
  have hde0 : de ≤ h0.ep := hX.ed
  have hLF : L ≠ (Fe, Fs) := by rw [← hL0]; intro e; cases e; omega
  have hLr : L ≠ (re, rs) := by rw [← hL0]; intro e; cases e; omega
  have hLd : L ≠ (de, ds) := by rw [← hL0]; intro e; cases e; omega
  have hLe : h0.ep < L.1 := by rw [← hL0]; show h0.ep < h0.ep + 1 + 1; omega
  have hLo : idOf out0 ≠ some L := fun e => by have := ho0 _ e; omega
  refine yF fun env hE => ?_; have n : _ ∧ _ ∧ _ ∧ _ ∧ _ ∧ _ ∧ _ ∧ _ ∧ _ ∧ _ ∧ _ ∧ _ ∧ _ ∧ _ ∧ _ := ⟨hE 0, hE 2, hE 3, hE 4, hE 5, hE 6, hE 11, hE 12, hE 13, hE 39, hE 40, hE 41, hE 47, hE 48, hE 49⟩; simp -implicitDefEqProofs only [push_cast, reduceIte, Nat.reduceEqDiff, e0, e2, e3, e4, e5, e6, e11, e12, e13, e39, e40, e41, e47, e48, e49] at n; clear hE e0 e2 e3 e4 e5 e6 e11 e12 e13 e39 e40 e41 e47 e48 e49; obtain ⟨e0, e2, e3, e4, e5, e6, e11, e12, e13, e39, e40, e41, e47, e48, e49⟩ := n; have E67_0_0 := e0; have E67_0_2 := e2; have E67_0_11 := e11
  refine yN (fun nn σ => ∃ (k : Nat), nn = l.length - k ∧ σ.env 0 = env 0 ∧ σ.env 2 = env 2 ∧ σ.env 11 = env 11 ∧ σ.env 12 = i64 k ∧ (k ≤ l.length ∧ FinH σ.h (Fe, Fs) l t es (re, rs) (de, ds) out0 ∧ FS h0 (Fe, Fs) out0 σ.h out0 ∧ σ.h.hp L = some ⟨true, qN (yY l k)⟩ ∧ L.1 ≤ σ.h.ep)) _ ⟨0, rfl, rfl, rfl, rfl, by refine e12.trans ?_; first | rfl | exact yG (by omega) | (simp -implicitDefEqProofs (disch := omega) only [zQ]; first | rfl | exact yG (by omega)), ?_⟩ ?_
  · refine ⟨by omega, hX.ext (by repeat (first | exact Ext.refl _ | assumption | refine Ext.tick ?_ | refine Ext.push ?_ (by omega) _ | refine Ext.put ?_ (by omega) _ | refine Ext.kill ?_ (by omega) | refine Ext.killA ?_ (by assumption))), (FS.refl h0 (Fe, Fs) out0).ext (by repeat (first | exact Ext.refl _ | assumption | refine Ext.tick ?_ | refine Ext.push ?_ (by omega) _ | refine Ext.put ?_ (by omega) _ | refine Ext.kill ?_ (by omega) | refine Ext.killA ?_ (by assumption))), ?_, ?_⟩
    · rw [← hL0]; simp -implicitDefEqProofs only [push_cast, sevalprocAttr, eq_self]; rfl
    · rw [← hL0]; simp -implicitDefEqProofs only [push_cast, sevalprocAttr, eq_self]; omega
  clear hX hb hF hFe
  clear e0 e2 e3 e4 e5 e6 e11 e12 e13 e39 e40 e41 e47 e48 e49; rintro nn ⟨env, h⟩ ⟨k, rfl, q0, q2, q11, e12, hI⟩; simp only at q0 q2 q11 e12 hI; (first | have e0 := q0.trans E67_0_0 | have e0 := True.intro); (first | have e2 := q2.trans E67_0_2 | have e2 := True.intro); (first | have e11 := q11.trans E67_0_11 | have e11 := True.intro); clear q0 q2 q11; have e3 := True.intro; have e4 := True.intro; have e5 := True.intro; have e6 := True.intro; have e13 := True.intro; have e39 := True.intro; have e40 := True.intro; have e41 := True.intro; have e47 := True.intro; have e48 := True.intro; have e49 := True.intro
  obtain ⟨hk, hX, hS, hL, eL⟩ := hI
  unfold l67_0
  (first | refine yI fun hF => ?_ | refine yX fun hF => ?_ | refine yW fun hF => ?_)
  have hb := hX.fin
  have hd := hX.ds
  by_cases hlt : k < l.length
  · have hdk : decide ((k : Int) < (l.length : Int)) = true := decide_eq_true (by omega)
    have hdj2 := dS_at hlt
    obtain ⟨d1, d2⟩ := dS_lt (hl _ (List.getElem_mem hlt))
    by_cases h9 : 0 ≤ dS l[k]
    · have hd9 : decide (0 ≤ dS l[k]) = true := decide_eq_true h9
      have hk2 : (dS l[k]).toNat < 32 := by omega
      have hfun : (fun r => if r = (dS l[k]).toNat then ((k : Int) + 1) else yY l k r) = yY l (k + 1) := by
        funext r
        rw [show yY l (k + 1) r = _ from rfl]
        simp only [yY, ← qD hlt]
        by_cases hr : r = (dS l[k]).toNat
        · rw [if_pos hr, if_pos ⟨h9, hr⟩]
        · rw [if_neg hr, if_neg (fun h => hr h.2)]
      have hp := (lastC_put (yY l k) hk2 ((k : Int) + 1)).trans (congrArg qN hfun)
      have hle : (dS l[k]).toNat + 1 ≤ (qN (yY l k)).length := by rw [lastC_len]; omega
      repeat' (first | ((try clear hf); with_reducible refine zM fun env K hE hK hf => ?_; have n : _ ∧ _ ∧ _ ∧ _ ∧ _ ∧ _ ∧ _ ∧ _ ∧ _ ∧ _ ∧ _ ∧ _ ∧ _ ∧ _ ∧ _ := ⟨hE 0, hE 2, hE 3, hE 4, hE 5, hE 6, hE 11, hE 12, hE 13, hE 39, hE 40, hE 41, hE 47, hE 48, hE 49⟩; simp -implicitDefEqProofs only [push_cast, reduceIte, Nat.reduceEqDiff, e0, e2, e3, e4, e5, e6, e11, e12, e13, e39, e40, e41, e47, e48, e49] at n; clear hE e0 e2 e3 e4 e5 e6 e11 e12 e13 e39 e40 e41 e47 e48 e49; obtain ⟨e0, e2, e3, e4, e5, e6, e11, e12, e13, e39, e40, e41, e47, e48, e49⟩ := n) | (with_reducible refine hK _ _ ?_; clear hK K) | (with_reducible first | refine zJ ?_ | refine zU ?_ | refine zB ?_ | refine zG ?_ | refine zE ?_ | refine zL ?_ | refine zT ?_ | refine zD ?_ | refine zH ?_ | refine zV ?_ | refine zF ?_ | refine zA (by decide) ?_ | refine zP ?_ | refine zO ?_ | refine zK ?_ | refine yB ?_ | refine yC ?_ | refine zW (by assumption) ?_ | refine zY (by assumption) ?_) | (refine zI rfl ?_) | (simp -implicitDefEqProofs only [push_cast, sevalprocAttr, eq_self, e0, e2, e3, e4, e5, e6, e11, e12, e13, e39, e40, e41, e47, e48, e49, hdk, hb, hd, hF.at, finC_15, yP, hdj2, idxAddr_ptr, hL, hd9, hp]) | (simp -implicitDefEqProofs (disch := omega) only [zR, zZ, zS, zQ, e0, e2, e3, e4, e5, e6, e11, e12, e13, e39, e40, e41, e47, e48, e49, hdk, hb, hd, hF.at, finC_15, yP, hdj2, idxAddr_ptr, hL, hd9, hp]) | (with_reducible refine yE ?_ ?_) | (refine zN rfl (fun bb => ?_) (fun bb => ?_) <;> (first | have bp := of_decide_eq_true bb | have bp := of_decide_eq_false bb | skip) <;> simp only [bb]) | (with_reducible refine zX (fun bb => ?_) (fun bb => ?_) <;> (first | have bp := of_decide_eq_true bb | have bp := of_decide_eq_false bb | skip)) | ((with_reducible refine And.intro ?_ ?_); omega) | fail)
      refine ⟨_, ?_, k + 1, rfl, E67_0_0.symm, E67_0_2.symm, E67_0_11.symm, by first | rfl | exact yG (by omega) | (simp -implicitDefEqProofs (disch := omega) only [zQ]; first | rfl | exact yG (by omega)), ?_⟩
      · omega
      · exact ⟨by omega, ((hX.ext (by repeat (first | exact Ext.refl _ | assumption | refine Ext.tick ?_ | refine Ext.push ?_ (by omega) _ | refine Ext.put ?_ (by omega) _ | refine Ext.kill ?_ (by omega) | refine Ext.killA ?_ (by assumption)))).putL _ hLF hLr hLd hLo).tick, ((hS.ext (by repeat (first | exact Ext.refl _ | assumption | refine Ext.tick ?_ | refine Ext.push ?_ (by omega) _ | refine Ext.put ?_ (by omega) _ | refine Ext.kill ?_ (by omega) | refine Ext.killA ?_ (by assumption)))).putL hLe _).tick, by simp -implicitDefEqProofs only [push_cast, sevalprocAttr, eq_self], (by first | omega | (simp -implicitDefEqProofs only [push_cast, sevalprocAttr, eq_self]; first | done | omega))⟩
    · have hd9 : decide (0 ≤ dS l[k]) = false := decide_eq_false h9
      have hp : qN (yY l (k + 1)) = qN (yY l k) := by
        unfold qN
        apply List.map_congr_left
        intro r _
        simp only [yY, ← qD hlt]
        rw [if_neg (fun h => h9 h.1)]
      repeat' (first | ((try clear hf); with_reducible refine zM fun env K hE hK hf => ?_; have n : _ ∧ _ ∧ _ ∧ _ ∧ _ ∧ _ ∧ _ ∧ _ ∧ _ ∧ _ ∧ _ ∧ _ ∧ _ ∧ _ ∧ _ := ⟨hE 0, hE 2, hE 3, hE 4, hE 5, hE 6, hE 11, hE 12, hE 13, hE 39, hE 40, hE 41, hE 47, hE 48, hE 49⟩; simp -implicitDefEqProofs only [push_cast, reduceIte, Nat.reduceEqDiff, e0, e2, e3, e4, e5, e6, e11, e12, e13, e39, e40, e41, e47, e48, e49] at n; clear hE e0 e2 e3 e4 e5 e6 e11 e12 e13 e39 e40 e41 e47 e48 e49; obtain ⟨e0, e2, e3, e4, e5, e6, e11, e12, e13, e39, e40, e41, e47, e48, e49⟩ := n) | (with_reducible refine hK _ _ ?_; clear hK K) | (with_reducible first | refine zJ ?_ | refine zU ?_ | refine zB ?_ | refine zG ?_ | refine zE ?_ | refine zL ?_ | refine zT ?_ | refine zD ?_ | refine zH ?_ | refine zV ?_ | refine zF ?_ | refine zA (by decide) ?_ | refine zP ?_ | refine zO ?_ | refine zK ?_ | refine yB ?_ | refine yC ?_ | refine zW (by assumption) ?_ | refine zY (by assumption) ?_) | (refine zI rfl ?_) | (simp -implicitDefEqProofs only [push_cast, sevalprocAttr, eq_self, e0, e2, e3, e4, e5, e6, e11, e12, e13, e39, e40, e41, e47, e48, e49, hdk, hb, hd, hF.at, finC_15, yP, hdj2, idxAddr_ptr, hL, hd9]) | (simp -implicitDefEqProofs (disch := omega) only [zR, zZ, zS, zQ, e0, e2, e3, e4, e5, e6, e11, e12, e13, e39, e40, e41, e47, e48, e49, hdk, hb, hd, hF.at, finC_15, yP, hdj2, idxAddr_ptr, hL, hd9]) | (with_reducible refine yE ?_ ?_) | (refine zN rfl (fun bb => ?_) (fun bb => ?_) <;> (first | have bp := of_decide_eq_true bb | have bp := of_decide_eq_false bb | skip) <;> simp only [bb]) | (with_reducible refine zX (fun bb => ?_) (fun bb => ?_) <;> (first | have bp := of_decide_eq_true bb | have bp := of_decide_eq_false bb | skip)) | ((with_reducible refine And.intro ?_ ?_); omega) | fail)
      refine ⟨_, ?_, k + 1, rfl, E67_0_0.symm, E67_0_2.symm, E67_0_11.symm, by first | rfl | exact yG (by omega) | (simp -implicitDefEqProofs (disch := omega) only [zQ]; first | rfl | exact yG (by omega)), ?_⟩
      · omega
      · exact ⟨by omega, hX.ext (by repeat (first | exact Ext.refl _ | assumption | refine Ext.tick ?_ | refine Ext.push ?_ (by omega) _ | refine Ext.put ?_ (by omega) _ | refine Ext.kill ?_ (by omega) | refine Ext.killA ?_ (by assumption))), hS.ext (by repeat (first | exact Ext.refl _ | assumption | refine Ext.tick ?_ | refine Ext.push ?_ (by omega) _ | refine Ext.put ?_ (by omega) _ | refine Ext.kill ?_ (by omega) | refine Ext.killA ?_ (by assumption))), by simp -implicitDefEqProofs only [push_cast, sevalprocAttr, eq_self, hL, hp], (by first | omega | (simp -implicitDefEqProofs only [push_cast, sevalprocAttr, eq_self]; first | done | omega))⟩
  have hdk : decide ((k : Int) < (l.length : Int)) = false := decide_eq_false (by omega)
  obtain rfl : k = l.length := by omega
  have hFe : Fe ≤ h.ep := hX.eF
  repeat' (first | ((try clear hf); with_reducible refine zM fun env K hE hK hf => ?_; have n : _ ∧ _ ∧ _ ∧ _ ∧ _ ∧ _ ∧ _ ∧ _ ∧ _ ∧ _ ∧ _ ∧ _ ∧ _ ∧ _ ∧ _ := ⟨hE 0, hE 2, hE 3, hE 4, hE 5, hE 6, hE 11, hE 12, hE 13, hE 39, hE 40, hE 41, hE 47, hE 48, hE 49⟩; simp -implicitDefEqProofs only [push_cast, reduceIte, Nat.reduceEqDiff, e0, e2, e3, e4, e5, e6, e11, e12, e13, e39, e40, e41, e47, e48, e49] at n; clear hE e0 e2 e3 e4 e5 e6 e11 e12 e13 e39 e40 e41 e47 e48 e49; obtain ⟨e0, e2, e3, e4, e5, e6, e11, e12, e13, e39, e40, e41, e47, e48, e49⟩ := n) | (with_reducible refine hK _ _ ?_; clear hK K) | (with_reducible first | refine zJ ?_ | refine zU ?_ | refine zB ?_ | refine zG ?_ | refine zE ?_ | refine zL ?_ | refine zT ?_ | refine zD ?_ | refine zH ?_ | refine zV ?_ | refine zF ?_ | refine zA (by decide) ?_ | refine zP ?_ | refine zO ?_ | refine zK ?_ | refine yB ?_ | refine yC ?_ | refine zW (by assumption) ?_ | refine zY (by assumption) ?_) | (refine zI rfl ?_) | (simp -implicitDefEqProofs only [push_cast, sevalprocAttr, eq_self, e0, e2, e3, e4, e5, e6, e11, e12, e13, e39, e40, e41, e47, e48, e49, hdk, hb, hL, hF.at, lastC_len, lastC_take, finC_0, yK, lastC_one]) | (simp -implicitDefEqProofs (disch := omega) only [zR, zZ, zS, zQ, e0, e2, e3, e4, e5, e6, e11, e12, e13, e39, e40, e41, e47, e48, e49, hdk, hb, hL, hF.at, lastC_len, lastC_take, finC_0, yK, lastC_one]) | (with_reducible refine yE ?_ ?_) | (refine zN rfl (fun bb => ?_) (fun bb => ?_) <;> (first | have bp := of_decide_eq_true bb | have bp := of_decide_eq_false bb | skip) <;> simp only [bb]) | (with_reducible refine zX (fun bb => ?_) (fun bb => ?_) <;> (first | have bp := of_decide_eq_true bb | have bp := of_decide_eq_false bb | skip)) | ((with_reducible refine And.intro ?_ ?_); omega) | fail)
  generalize hM0 : (h.ep + 1 + 1, 4) = M
  have hSe := hS.1
  have hMe : h.ep < M.1 := by rw [← hM0]; show h.ep < h.ep + 1 + 1; omega
  have hMF : M ≠ (Fe, Fs) := fun e => by have := hX.eF; rw [e] at hMe; simp only at hMe this; omega
  have hMr : M ≠ (re, rs) := fun e => by have := hX.er; rw [e] at hMe; simp only at hMe this; omega
  have hMd : M ≠ (de, ds) := fun e => by have := hX.ed; rw [e] at hMe; simp only at hMe this; omega
  have hMo : idOf out0 ≠ some M := fun e => by have := ho0 _ e; omega
  rw [hM0] at e4
  have hop0 : qN (openL l 0) = qN (yY l l.length) := by
    congr 1
  have hM1 : h0.ep < M.1 := by omega
  refine yF fun env hE => ?_; have n : _ ∧ _ ∧ _ ∧ _ ∧ _ ∧ _ ∧ _ ∧ _ ∧ _ ∧ _ ∧ _ ∧ _ ∧ _ ∧ _ ∧ _ := ⟨hE 0, hE 2, hE 3, hE 4, hE 5, hE 6, hE 11, hE 12, hE 13, hE 39, hE 40, hE 41, hE 47, hE 48, hE 49⟩; simp -implicitDefEqProofs only [push_cast, reduceIte, Nat.reduceEqDiff, e0, e2, e3, e4, e5, e6, e11, e12, e13, e39, e40, e41, e47, e48, e49] at n; clear hE e0 e2 e3 e4 e5 e6 e11 e12 e13 e39 e40 e41 e47 e48 e49; obtain ⟨e0, e2, e3, e4, e5, e6, e11, e12, e13, e39, e40, e41, e47, e48, e49⟩ := n; have E67_2_0 := e0; have E67_2_2 := e2; have E67_2_3 := e3; have E67_2_4 := e4; have E67_2_11 := e11; have E67_2_12 := e12; have E67_2_13 := e13; have E67_2_39 := e39
  refine yN (fun nn σ => ∃ (j : Nat) (out : AV), nn = l.length - j ∧ σ.env 0 = env 0 ∧ σ.env 2 = env 2 ∧ σ.env 3 = env 3 ∧ σ.env 4 = env 4 ∧ σ.env 11 = env 11 ∧ σ.env 12 = env 12 ∧ σ.env 13 = env 13 ∧ σ.env 39 = env 39 ∧ σ.env 40 = i64 j ∧ (j ≤ l.length ∧ FinH σ.h (Fe, Fs) l t (es ++ arndE l t j) (re, rs) (de, ds) out ∧ FS h0 (Fe, Fs) out0 σ.h out ∧ idOf out ≠ some M ∧ σ.h.hp M = some ⟨true, qN (openL l j)⟩ ∧ M.1 ≤ σ.h.ep)) _ ⟨0, out0, rfl, rfl, rfl, rfl, rfl, rfl, rfl, rfl, rfl, by refine e40.trans ?_; first | rfl | exact yG (by omega) | (simp -implicitDefEqProofs (disch := omega) only [zQ]; first | rfl | exact yG (by omega)), ?_⟩ ?_
  · refine ⟨by omega, es_yes (E := es) (by simp [arndE]) ?_, ?_, hMo, ?_, ?_⟩
    · rw [← hM0]; exact hX.ext (by repeat (first | exact Ext.refl _ | assumption | refine Ext.tick ?_ | refine Ext.push ?_ (by omega) _ | refine Ext.put ?_ (by omega) _ | refine Ext.kill ?_ (by omega) | refine Ext.killA ?_ (by assumption)))
    · rw [← hM0]; exact hS.ext (by repeat (first | exact Ext.refl _ | assumption | refine Ext.tick ?_ | refine Ext.push ?_ (by omega) _ | refine Ext.put ?_ (by omega) _ | refine Ext.kill ?_ (by omega) | refine Ext.killA ?_ (by assumption)))
    · rw [← hM0]; rw [hop0]; simp -implicitDefEqProofs only [push_cast, sevalprocAttr, eq_self]
    · rw [← hM0]; simp -implicitDefEqProofs only [push_cast, sevalprocAttr, eq_self]; omega
  clear hX hS hL eL hF hb hd hSe hMe hM0 hMo
  clear e0 e2 e3 e4 e5 e6 e11 e12 e13 e39 e40 e41 e47 e48 e49; rintro nn ⟨env, h⟩ ⟨j, out, rfl, q0, q2, q3, q4, q11, q12, q13, q39, e40, hI⟩; simp only at q0 q2 q3 q4 q11 q12 q13 q39 e40 hI; (first | have e0 := q0.trans E67_2_0 | have e0 := True.intro); (first | have e2 := q2.trans E67_2_2 | have e2 := True.intro); (first | have e3 := q3.trans E67_2_3 | have e3 := True.intro); (first | have e4 := q4.trans E67_2_4 | have e4 := True.intro); (first | have e11 := q11.trans E67_2_11 | have e11 := True.intro); (first | have e12 := q12.trans E67_2_12 | have e12 := True.intro); (first | have e13 := q13.trans E67_2_13 | have e13 := True.intro); (first | have e39 := q39.trans E67_2_39 | have e39 := True.intro); clear q0 q2 q3 q4 q11 q12 q13 q39; have e5 := True.intro; have e6 := True.intro; have e41 := True.intro; have e47 := True.intro; have e48 := True.intro; have e49 := True.intro
  obtain ⟨hj', hX, hS, hMo, hM, eM⟩ := hI
  unfold l67_2
  (first | refine yI fun hF => ?_ | refine yX fun hF => ?_ | refine yW fun hF => ?_)
  have hb := hX.fin
  have hd := hX.ds
  by_cases hj : j < l.length
  · have hdj : decide ((j : Int) < (l.length : Int)) = true := decide_eq_true (by omega)
    repeat' (first | ((try clear hf); with_reducible refine zM fun env K hE hK hf => ?_; have n : _ ∧ _ ∧ _ ∧ _ ∧ _ ∧ _ ∧ _ ∧ _ ∧ _ ∧ _ ∧ _ ∧ _ ∧ _ ∧ _ ∧ _ := ⟨hE 0, hE 2, hE 3, hE 4, hE 5, hE 6, hE 11, hE 12, hE 13, hE 39, hE 40, hE 41, hE 47, hE 48, hE 49⟩; simp -implicitDefEqProofs only [push_cast, reduceIte, Nat.reduceEqDiff, e0, e2, e3, e4, e5, e6, e11, e12, e13, e39, e40, e41, e47, e48, e49] at n; clear hE e0 e2 e3 e4 e5 e6 e11 e12 e13 e39 e40 e41 e47 e48 e49; obtain ⟨e0, e2, e3, e4, e5, e6, e11, e12, e13, e39, e40, e41, e47, e48, e49⟩ := n) | (with_reducible refine hK _ _ ?_; clear hK K) | (with_reducible first | refine zJ ?_ | refine zU ?_ | refine zB ?_ | refine zG ?_ | refine zE ?_ | refine zL ?_ | refine zT ?_ | refine zD ?_ | refine zH ?_ | refine zV ?_ | refine zF ?_ | refine zA (by decide) ?_ | refine zP ?_ | refine zO ?_ | refine zK ?_ | refine yB ?_ | refine yC ?_ | refine zW (by assumption) ?_ | refine zY (by assumption) ?_) | (refine zI rfl ?_) | (simp -implicitDefEqProofs only [push_cast, sevalprocAttr, eq_self, e0, e2, e3, e4, e5, e6, e11, e12, e13, e39, e40, e41, e47, e48, e49, hdj, hb, hF.at, finC_0, yK]) | (simp -implicitDefEqProofs (disch := omega) only [zR, zZ, zS, zQ, e0, e2, e3, e4, e5, e6, e11, e12, e13, e39, e40, e41, e47, e48, e49, hdj, hb, hF.at, finC_0, yK]) | (with_reducible refine yE ?_ ?_) | (refine zN rfl (fun bb => ?_) (fun bb => ?_) <;> (first | have bp := of_decide_eq_true bb | have bp := of_decide_eq_false bb | skip) <;> simp only [bb]) | (with_reducible refine zX (fun bb => ?_) (fun bb => ?_) <;> (first | have bp := of_decide_eq_true bb | have bp := of_decide_eq_false bb | skip)) | ((with_reducible refine And.intro ?_ ?_); omega) | fail)
    have hlc : ∀ h, mapO (lend 7 h) (qN (openL l j)) = some (qN (openL l j)) := fun h => qS (lastC_imms _)
    have hol := arndE_len l t j
    have hmul : 5 * l.length * j ≤ 5 * 1024 * 1024 := Nat.mul_le_mul (by omega) (by omega)
    refine yF fun env hE => ?_; have n : _ ∧ _ ∧ _ ∧ _ ∧ _ ∧ _ ∧ _ ∧ _ ∧ _ ∧ _ ∧ _ ∧ _ ∧ _ ∧ _ ∧ _ := ⟨hE 0, hE 2, hE 3, hE 4, hE 5, hE 6, hE 11, hE 12, hE 13, hE 39, hE 40, hE 41, hE 47, hE 48, hE 49⟩; simp -implicitDefEqProofs only [push_cast, reduceIte, Nat.reduceEqDiff, e0, e2, e3, e4, e5, e6, e11, e12, e13, e39, e40, e41, e47, e48, e49] at n; clear hE e0 e2 e3 e4 e5 e6 e11 e12 e13 e39 e40 e41 e47 e48 e49; obtain ⟨e0, e2, e3, e4, e5, e6, e11, e12, e13, e39, e40, e41, e47, e48, e49⟩ := n; have E67_1_0 := e0; have E67_1_2 := e2; have E67_1_3 := e3; have E67_1_4 := e4; have E67_1_5 := e5; have E67_1_11 := e11; have E67_1_12 := e12; have E67_1_13 := e13; have E67_1_39 := e39; have E67_1_40 := e40; have E67_1_41 := e41; have E67_1_47 := e47
    refine yN (fun nn σ => ∃ (i : Nat) (out2 : AV), nn = l.length - i ∧ σ.env 0 = env 0 ∧ σ.env 2 = env 2 ∧ σ.env 3 = env 3 ∧ σ.env 4 = env 4 ∧ σ.env 5 = env 5 ∧ σ.env 11 = env 11 ∧ σ.env 12 = env 12 ∧ σ.env 13 = env 13 ∧ σ.env 39 = env 39 ∧ σ.env 40 = env 40 ∧ σ.env 41 = env 41 ∧ σ.env 47 = env 47 ∧ σ.env 48 = i64 i ∧ (i ≤ l.length ∧ FinH σ.h (Fe, Fs) l t (es ++ arndE l t j ++ toR l t j i) (re, rs) (de, ds) out2 ∧ FS h0 (Fe, Fs) out0 σ.h out2 ∧ idOf out2 ≠ some M ∧ σ.h.hp M = some ⟨true, qN (openL l j)⟩ ∧ M.1 ≤ σ.h.ep)) _ ⟨0, out, rfl, rfl, rfl, rfl, rfl, rfl, rfl, rfl, rfl, rfl, rfl, rfl, rfl, by refine e48.trans ?_; first | rfl | exact yG (by omega) | (simp -implicitDefEqProofs (disch := omega) only [zQ]; first | rfl | exact yG (by omega)), ?_⟩ ?_
    · exact ⟨by omega, es_yes (by simp [toR]) (hX.ext (by repeat (first | exact Ext.refl _ | assumption | refine Ext.tick ?_ | refine Ext.push ?_ (by omega) _ | refine Ext.put ?_ (by omega) _ | refine Ext.kill ?_ (by omega) | refine Ext.killA ?_ (by assumption)))), hS.ext (by repeat (first | exact Ext.refl _ | assumption | refine Ext.tick ?_ | refine Ext.push ?_ (by omega) _ | refine Ext.put ?_ (by omega) _ | refine Ext.kill ?_ (by omega) | refine Ext.killA ?_ (by assumption))), hMo, by simp -implicitDefEqProofs only [push_cast, sevalprocAttr, eq_self, hM], (by first | omega | (simp -implicitDefEqProofs only [push_cast, sevalprocAttr, eq_self]; first | done | omega))⟩
    clear hX hS hMo hM eM hF hb hd
    clear e0 e2 e3 e4 e5 e6 e11 e12 e13 e39 e40 e41 e47 e48 e49; rintro nn ⟨env, h⟩ ⟨i, out2, rfl, q0, q2, q3, q4, q5, q11, q12, q13, q39, q40, q41, q47, e48, hI⟩; simp only at q0 q2 q3 q4 q5 q11 q12 q13 q39 q40 q41 q47 e48 hI; (first | have e0 := q0.trans E67_1_0 | have e0 := True.intro); (first | have e2 := q2.trans E67_1_2 | have e2 := True.intro); (first | have e3 := q3.trans E67_1_3 | have e3 := True.intro); (first | have e4 := q4.trans E67_1_4 | have e4 := True.intro); (first | have e5 := q5.trans E67_1_5 | have e5 := True.intro); (first | have e11 := q11.trans E67_1_11 | have e11 := True.intro); (first | have e12 := q12.trans E67_1_12 | have e12 := True.intro); (first | have e13 := q13.trans E67_1_13 | have e13 := True.intro); (first | have e39 := q39.trans E67_1_39 | have e39 := True.intro); (first | have e40 := q40.trans E67_1_40 | have e40 := True.intro); (first | have e41 := q41.trans E67_1_41 | have e41 := True.intro); (first | have e47 := q47.trans E67_1_47 | have e47 := True.intro); clear q0 q2 q3 q4 q5 q11 q12 q13 q39 q40 q41 q47; have e6 := True.intro; have e49 := True.intro
    obtain ⟨hi', hX, hS, hMo, hM, eM⟩ := hI
    unfold l67_1
    (first | refine yI fun hF => ?_ | refine yX fun hF => ?_ | refine yW fun hF => ?_)
    have hb := hX.fin
    have hd := hX.ds
    have hFe : Fe ≤ h.ep := hX.eF
    have hde : de ≤ h.ep := hX.ed
    have hlen := toR_len l t j i
    have hlen2 : (es ++ arndE l t j ++ toR l t j i).length ≤ 9400000 := by rw [List.length_append, List.length_append]; omega
    by_cases hi : i < l.length
    · have hdi : decide ((i : Int) < (l.length : Int)) = true := decide_eq_true (by omega)
      repeat' (first | ((try clear hf); with_reducible refine zM fun env K hE hK hf => ?_; have n : _ ∧ _ ∧ _ ∧ _ ∧ _ ∧ _ ∧ _ ∧ _ ∧ _ ∧ _ ∧ _ ∧ _ ∧ _ ∧ _ ∧ _ := ⟨hE 0, hE 2, hE 3, hE 4, hE 5, hE 6, hE 11, hE 12, hE 13, hE 39, hE 40, hE 41, hE 47, hE 48, hE 49⟩; simp -implicitDefEqProofs only [push_cast, reduceIte, Nat.reduceEqDiff, e0, e2, e3, e4, e5, e6, e11, e12, e13, e39, e40, e41, e47, e48, e49] at n; clear hE e0 e2 e3 e4 e5 e6 e11 e12 e13 e39 e40 e41 e47 e48 e49; obtain ⟨e0, e2, e3, e4, e5, e6, e11, e12, e13, e39, e40, e41, e47, e48, e49⟩ := n) | (with_reducible refine hK _ _ ?_; clear hK K) | (with_reducible first | refine zJ ?_ | refine zU ?_ | refine zB ?_ | refine zG ?_ | refine zE ?_ | refine zL ?_ | refine zT ?_ | refine zD ?_ | refine zH ?_ | refine zV ?_ | refine zF ?_ | refine zA (by decide) ?_ | refine zP ?_ | refine zO ?_ | refine zK ?_ | refine yB ?_ | refine yC ?_ | refine zW (by assumption) ?_ | refine zY (by assumption) ?_) | (refine zI rfl ?_) | (simp -implicitDefEqProofs only [push_cast, sevalprocAttr, eq_self, e0, e2, e3, e4, e5, e6, e11, e12, e13, e39, e40, e41, e47, e48, e49, hdi, hb, hd, hF.at, finC_0]) | (simp -implicitDefEqProofs (disch := omega) only [zR, zZ, zS, zQ, e0, e2, e3, e4, e5, e6, e11, e12, e13, e39, e40, e41, e47, e48, e49, hdi, hb, hd, hF.at, finC_0]) | (with_reducible refine yE ?_ ?_) | (refine zN rfl (fun bb => ?_) (fun bb => ?_) <;> simp only [bb]) | (with_reducible refine zX (fun bb => ?_) (fun bb => ?_)) | ((with_reducible refine And.intro ?_ ?_); omega) | (refine call_fin2 hX (by repeat (first | exact Ext.refl _ | assumption | refine Ext.tick ?_ | refine Ext.push ?_ (by omega) _ | refine Ext.put ?_ (by omega) _ | refine Ext.kill ?_ (by omega) | refine Ext.killA ?_ (by assumption))) (by simp -implicitDefEqProofs only [push_cast, sevalprocAttr, eq_self, lend_ptrF, hM, hlc]) (fun o ho => f96 l t o ho (openL l j) i j hj (by omega) hl) ?_) | (refine call_fin hX (by repeat (first | exact Ext.refl _ | assumption | refine Ext.tick ?_ | refine Ext.push ?_ (by omega) _ | refine Ext.put ?_ (by omega) _ | refine Ext.kill ?_ (by omega) | refine Ext.killA ?_ (by assumption))) (fun o ho => f98 l t o ho i hi) rfl ?_) | (refine yD (f101 l i j hi hj hl (by omega)) ?_) | (refine call_put (e := ⟨0, 0, latS t l[i], 0, 0⟩) hX (by repeat (first | exact Ext.refl _ | assumption | refine Ext.tick ?_ | refine Ext.push ?_ (by omega) _ | refine Ext.put ?_ (by omega) _ | refine Ext.kill ?_ (by omega) | refine Ext.killA ?_ (by assumption))) (by simp -implicitDefEqProofs only [push_cast, sevalprocAttr, eq_self]; rfl) (by first | omega | (dsimp only; omega)) (by first | (simp -implicitDefEqProofs only [push_cast, sevalprocAttr, eq_self]; done) | (simp -implicitDefEqProofs only [push_cast, sevalprocAttr, eq_self]; omega)) (by first | omega | (simp only [List.length_append, List.length_cons, List.length_nil]; omega)) ?_; intro h out2 hX hF hs; have q := hs.2 _ eM hMF hMo; replace hM := q.1.trans hM; replace hMo := q.2; replace eM := Nat.le_trans eM hs.1; replace hS := FS.trans hS hs; have hb := hX.fin; have hd := hX.ds; have hFe : Fe ≤ h.ep := hX.eF; have hde : de ≤ h.ep := hX.ed) | (refine call_pair hX (by repeat (first | exact Ext.refl _ | assumption | refine Ext.tick ?_ | refine Ext.push ?_ (by omega) _ | refine Ext.put ?_ (by omega) _ | refine Ext.kill ?_ (by omega) | refine Ext.killA ?_ (by assumption))) hi hj hl ht (by first | omega | (simp only [List.length_append, List.length_cons, List.length_nil] at hlen2 ⊢; omega)) ?_; intro h out2 hX hF hs; have q := hs.2 _ eM hMF hMo; replace hM := q.1.trans hM; replace hMo := q.2; replace eM := Nat.le_trans eM hs.1; replace hS := FS.trans hS hs; have hb := hX.fin; have hd := hX.ds; have hFe : Fe ≤ h.ep := hX.eF; have hde : de ≤ h.ep := hX.ed) | fail)
      all_goals
        refine ⟨_, ?_, i + 1, out2, rfl, E67_1_0.symm, E67_1_2.symm, E67_1_3.symm, E67_1_4.symm, E67_1_5.symm, E67_1_11.symm, E67_1_12.symm, E67_1_13.symm, E67_1_39.symm, E67_1_40.symm, E67_1_41.symm, E67_1_47.symm, by first | rfl | exact yG (by omega) | (simp -implicitDefEqProofs (disch := omega) only [zQ]; first | rfl | exact yG (by omega)), ?_⟩
        · omega
        · refine ⟨by omega, es_yes ?_ (hX.ext (by repeat (first | exact Ext.refl _ | assumption | refine Ext.tick ?_ | refine Ext.push ?_ (by omega) _ | refine Ext.put ?_ (by omega) _ | refine Ext.kill ?_ (by omega) | refine Ext.killA ?_ (by assumption)))), hS.ext (by repeat (first | exact Ext.refl _ | assumption | refine Ext.tick ?_ | refine Ext.push ?_ (by omega) _ | refine Ext.put ?_ (by omega) _ | refine Ext.kill ?_ (by omega) | refine Ext.killA ?_ (by assumption))), hMo, by simp -implicitDefEqProofs only [push_cast, sevalprocAttr, eq_self, hM], (by first | omega | (simp -implicitDefEqProofs only [push_cast, sevalprocAttr, eq_self]; first | done | omega))⟩
          simp only [toR, ijR, ← qD hi, ← qD hj]
          first
            | (rw [if_pos (by assumption)]; simp; done)
            | (rw [if_neg (by simp [*])]; simp; done)
    · have hdi : decide ((i : Int) < (l.length : Int)) = false := decide_eq_false (by omega)
      obtain rfl : i = l.length := by omega
      have hdj2 := dS_at hj
      obtain ⟨d1, d2⟩ := dS_lt (hl _ (List.getElem_mem hj))
      by_cases h9 : 0 ≤ dS l[j]
      · have hd9 : decide (0 ≤ dS l[j]) = true := decide_eq_true h9
        have hk2 : (dS l[j]).toNat < 32 := by omega
        have hfun : (fun r => if r = (dS l[j]).toNat then (0 : Int) else openL l j r) = openL l (j + 1) := by
          funext r
          rw [openL_succ, ← qD hj]
          by_cases hr : r = (dS l[j]).toNat
          · rw [if_pos hr, if_pos ⟨h9, hr⟩]
          · rw [if_neg hr, if_neg (fun h => hr h.2)]
        have hp := (lastC_put (openL l j) hk2 0).trans (congrArg qN hfun)
        have hle : (dS l[j]).toNat + 1 ≤ (qN (openL l j)).length := by rw [lastC_len]; omega
        repeat' (first | ((try clear hf); with_reducible refine zM fun env K hE hK hf => ?_; have n : _ ∧ _ ∧ _ ∧ _ ∧ _ ∧ _ ∧ _ ∧ _ ∧ _ ∧ _ ∧ _ ∧ _ ∧ _ ∧ _ ∧ _ := ⟨hE 0, hE 2, hE 3, hE 4, hE 5, hE 6, hE 11, hE 12, hE 13, hE 39, hE 40, hE 41, hE 47, hE 48, hE 49⟩; simp -implicitDefEqProofs only [push_cast, reduceIte, Nat.reduceEqDiff, e0, e2, e3, e4, e5, e6, e11, e12, e13, e39, e40, e41, e47, e48, e49] at n; clear hE e0 e2 e3 e4 e5 e6 e11 e12 e13 e39 e40 e41 e47 e48 e49; obtain ⟨e0, e2, e3, e4, e5, e6, e11, e12, e13, e39, e40, e41, e47, e48, e49⟩ := n) | (with_reducible refine hK _ _ ?_; clear hK K) | (with_reducible first | refine zJ ?_ | refine zU ?_ | refine zB ?_ | refine zG ?_ | refine zE ?_ | refine zL ?_ | refine zT ?_ | refine zD ?_ | refine zH ?_ | refine zV ?_ | refine zF ?_ | refine zA (by decide) ?_ | refine zP ?_ | refine zO ?_ | refine zK ?_ | refine yB ?_ | refine yC ?_ | refine zW (by assumption) ?_ | refine zY (by assumption) ?_) | (refine zI rfl ?_) | (simp -implicitDefEqProofs only [push_cast, sevalprocAttr, eq_self, e0, e2, e3, e4, e5, e6, e11, e12, e13, e39, e40, e41, e47, e48, e49, hdi, hb, hd, hF.at, finC_15, yP, hdj2, idxAddr_ptr, hM, hp]) | (simp -implicitDefEqProofs (disch := omega) only [zR, zZ, zS, zQ, e0, e2, e3, e4, e5, e6, e11, e12, e13, e39, e40, e41, e47, e48, e49, hdi, hb, hd, hF.at, finC_15, yP, hdj2, idxAddr_ptr, hM, hp]) | (with_reducible refine yE ?_ ?_) | (refine zN rfl (fun bb => ?_) (fun bb => ?_) <;> (first | have bp := of_decide_eq_true bb | have bp := of_decide_eq_false bb | skip) <;> simp only [bb]) | (with_reducible refine zX (fun bb => ?_) (fun bb => ?_) <;> (first | have bp := of_decide_eq_true bb | have bp := of_decide_eq_false bb | skip)) | ((with_reducible refine And.intro ?_ ?_); omega) | fail)
        refine ⟨_, ?_, j + 1, out2, rfl, E67_2_0.symm, E67_2_2.symm, E67_2_3.symm, E67_2_4.symm, E67_2_11.symm, E67_2_12.symm, E67_2_13.symm, E67_2_39.symm, by first | rfl | exact yG (by omega) | (simp -implicitDefEqProofs (disch := omega) only [zQ]; first | rfl | exact yG (by omega)), ?_⟩
        · omega
        · exact ⟨by omega, es_yes (by simp [arndE]) ((hX.ext (by repeat (first | exact Ext.refl _ | assumption | refine Ext.tick ?_ | refine Ext.push ?_ (by omega) _ | refine Ext.put ?_ (by omega) _ | refine Ext.kill ?_ (by omega) | refine Ext.killA ?_ (by assumption)))).putL _ hMF hMr hMd hMo).tick, ((hS.ext (by repeat (first | exact Ext.refl _ | assumption | refine Ext.tick ?_ | refine Ext.push ?_ (by omega) _ | refine Ext.put ?_ (by omega) _ | refine Ext.kill ?_ (by omega) | refine Ext.killA ?_ (by assumption)))).putL hM1 _).tick, hMo, by simp -implicitDefEqProofs only [push_cast, sevalprocAttr, eq_self], (by first | omega | (simp -implicitDefEqProofs only [push_cast, sevalprocAttr, eq_self]; first | done | omega))⟩
      · have hd9 : decide (0 ≤ dS l[j]) = false := decide_eq_false h9
        have hp : qN (openL l (j + 1)) = qN (openL l j) := by
          unfold qN
          apply List.map_congr_left
          intro r _
          rw [openL_succ, ← qD hj, if_neg (fun h => h9 h.1)]
        repeat' (first | ((try clear hf); with_reducible refine zM fun env K hE hK hf => ?_; have n : _ ∧ _ ∧ _ ∧ _ ∧ _ ∧ _ ∧ _ ∧ _ ∧ _ ∧ _ ∧ _ ∧ _ ∧ _ ∧ _ ∧ _ := ⟨hE 0, hE 2, hE 3, hE 4, hE 5, hE 6, hE 11, hE 12, hE 13, hE 39, hE 40, hE 41, hE 47, hE 48, hE 49⟩; simp -implicitDefEqProofs only [push_cast, reduceIte, Nat.reduceEqDiff, e0, e2, e3, e4, e5, e6, e11, e12, e13, e39, e40, e41, e47, e48, e49] at n; clear hE e0 e2 e3 e4 e5 e6 e11 e12 e13 e39 e40 e41 e47 e48 e49; obtain ⟨e0, e2, e3, e4, e5, e6, e11, e12, e13, e39, e40, e41, e47, e48, e49⟩ := n) | (with_reducible refine hK _ _ ?_; clear hK K) | (with_reducible first | refine zJ ?_ | refine zU ?_ | refine zB ?_ | refine zG ?_ | refine zE ?_ | refine zL ?_ | refine zT ?_ | refine zD ?_ | refine zH ?_ | refine zV ?_ | refine zF ?_ | refine zA (by decide) ?_ | refine zP ?_ | refine zO ?_ | refine zK ?_ | refine yB ?_ | refine yC ?_ | refine zW (by assumption) ?_ | refine zY (by assumption) ?_) | (refine zI rfl ?_) | (simp -implicitDefEqProofs only [push_cast, sevalprocAttr, eq_self, e0, e2, e3, e4, e5, e6, e11, e12, e13, e39, e40, e41, e47, e48, e49, hdi, hb, hd, hF.at, finC_15, yP, hdj2, idxAddr_ptr, hM]) | (simp -implicitDefEqProofs (disch := omega) only [zR, zZ, zS, zQ, e0, e2, e3, e4, e5, e6, e11, e12, e13, e39, e40, e41, e47, e48, e49, hdi, hb, hd, hF.at, finC_15, yP, hdj2, idxAddr_ptr, hM]) | (with_reducible refine yE ?_ ?_) | (refine zN rfl (fun bb => ?_) (fun bb => ?_) <;> (first | have bp := of_decide_eq_true bb | have bp := of_decide_eq_false bb | skip) <;> simp only [bb]) | (with_reducible refine zX (fun bb => ?_) (fun bb => ?_) <;> (first | have bp := of_decide_eq_true bb | have bp := of_decide_eq_false bb | skip)) | ((with_reducible refine And.intro ?_ ?_); omega) | fail)
        refine ⟨_, ?_, j + 1, out2, rfl, E67_2_0.symm, E67_2_2.symm, E67_2_3.symm, E67_2_4.symm, E67_2_11.symm, E67_2_12.symm, E67_2_13.symm, E67_2_39.symm, by first | rfl | exact yG (by omega) | (simp -implicitDefEqProofs (disch := omega) only [zQ]; first | rfl | exact yG (by omega)), ?_⟩
        · omega
        · exact ⟨by omega, es_yes (by simp [arndE]) (hX.ext (by repeat (first | exact Ext.refl _ | assumption | refine Ext.tick ?_ | refine Ext.push ?_ (by omega) _ | refine Ext.put ?_ (by omega) _ | refine Ext.kill ?_ (by omega) | refine Ext.killA ?_ (by assumption)))), hS.ext (by repeat (first | exact Ext.refl _ | assumption | refine Ext.tick ?_ | refine Ext.push ?_ (by omega) _ | refine Ext.put ?_ (by omega) _ | refine Ext.kill ?_ (by omega) | refine Ext.killA ?_ (by assumption))), hMo, by simp -implicitDefEqProofs only [push_cast, sevalprocAttr, eq_self, hM, hp], (by first | omega | (simp -implicitDefEqProofs only [push_cast, sevalprocAttr, eq_self]; first | done | omega))⟩
  · have hdj : decide ((j : Int) < (l.length : Int)) = false := decide_eq_false (by omega)
    obtain rfl : j = l.length := by omega
    repeat' (first | ((try clear hf); with_reducible refine zM fun env K hE hK hf => ?_; have n : _ ∧ _ ∧ _ ∧ _ ∧ _ ∧ _ ∧ _ ∧ _ ∧ _ ∧ _ ∧ _ ∧ _ ∧ _ ∧ _ ∧ _ := ⟨hE 0, hE 2, hE 3, hE 4, hE 5, hE 6, hE 11, hE 12, hE 13, hE 39, hE 40, hE 41, hE 47, hE 48, hE 49⟩; simp -implicitDefEqProofs only [push_cast, reduceIte, Nat.reduceEqDiff, e0, e2, e3, e4, e5, e6, e11, e12, e13, e39, e40, e41, e47, e48, e49] at n; clear hE e0 e2 e3 e4 e5 e6 e11 e12 e13 e39 e40 e41 e47 e48 e49; obtain ⟨e0, e2, e3, e4, e5, e6, e11, e12, e13, e39, e40, e41, e47, e48, e49⟩ := n) | (with_reducible refine hK _ _ ?_; clear hK K) | (with_reducible first | refine zJ ?_ | refine zU ?_ | refine zB ?_ | refine zG ?_ | refine zE ?_ | refine zL ?_ | refine zT ?_ | refine zD ?_ | refine zH ?_ | refine zV ?_ | refine zF ?_ | refine zA (by decide) ?_ | refine zP ?_ | refine zO ?_ | refine zK ?_ | refine yB ?_ | refine yC ?_ | refine zW (by assumption) ?_ | refine zY (by assumption) ?_) | (refine zI rfl ?_) | (simp -implicitDefEqProofs only [push_cast, sevalprocAttr, eq_self, e0, e2, e3, e4, e5, e6, e11, e12, e13, e39, e40, e41, e47, e48, e49, hdj]) | (simp -implicitDefEqProofs (disch := omega) only [zR, zZ, zS, zQ, e0, e2, e3, e4, e5, e6, e11, e12, e13, e39, e40, e41, e47, e48, e49, hdj]) | (with_reducible refine yE ?_ ?_) | (refine zN rfl (fun bb => ?_) (fun bb => ?_) <;> (first | have bp := of_decide_eq_true bb | have bp := of_decide_eq_false bb | skip) <;> simp only [bb]) | (with_reducible refine zX (fun bb => ?_) (fun bb => ?_) <;> (first | have bp := of_decide_eq_true bb | have bp := of_decide_eq_false bb | skip)) | ((with_reducible refine And.intro ?_ ?_); omega) | fail)
    exact ⟨out, hX.ext (by repeat (first | exact Ext.refl _ | assumption | refine Ext.tick ?_ | refine Ext.push ?_ (by omega) _ | refine Ext.put ?_ (by omega) _ | refine Ext.kill ?_ (by omega) | refine Ext.killA ?_ (by assumption))), hS.ext (by repeat (first | exact Ext.refl _ | assumption | refine Ext.tick ?_ | refine Ext.push ?_ (by omega) _ | refine Ext.put ?_ (by omega) _ | refine Ext.kill ?_ (by omega) | refine Ext.killA ?_ (by assumption)))⟩
end Go.Proofs.Hx

set_option linter.unusedVariables false
set_option linter.unusedSimpArgs false
namespace Go.Proofs.Hx
open Go Go.Proofs
attribute [local irreducible] yM awp opK goV goM yV yZ qF yQ HV HVF HC
theorem call_arnd {d : Option Nat} {K : St → Prop} {env : Nat → AV} {g : Hp} {F : Id} {l : List Opn} {t : Tab} {es : List Edg} {rid did : Id} {out : AV} (hX : FinH g F l t es rid did out) (ho : ∀ x, idOf out = some x → x.1 ≤ g.ep) (hl : ∀ o ∈ l, o.ok) (ht : qM t) (hn : l.length ≤ 1024) (hes : es.length ≤ 4000000)
    (k : ∀ h' out', FinH h' F l t (es ++ arndE l t l.length) rid did out' → qQ h' → FS g F out h' out' → K ⟨putA env d (.tup []), h'.tick⟩) :
    yV Try.prog d K env g false (.fn 67 []) [.ptr F 0] :=
  call_hc (HC.mono (f67 hX ho hl ht hn hes) fun r h' ⟨hr, out', h1, h2⟩ hf => by rw [hr]; exact k h' out' h1 hf h2)
theorem FinH.out_le {h : Hp} {F : Id} {l : List Opn} {t : Tab} {es : List Edg} {rid did : Id} {out : AV} (hX : FinH h F l t es rid did out) : ∀ x, idOf out = some x → x.1 ≤ h.ep := by
  intro x hx
  rcases hX.outr with ⟨rfl, _⟩ | ⟨id, rfl, _, h3⟩
  · simp [idOf] at hx
  · simp only [idOf, Option.some.injEq] at hx; rw [← hx]; exact h3
set_option maxHeartbeats 1000000 in
theorem f27 {h0 : Hp} {l : List Opn} {t : Tab} (hl : ∀ o ∈ l, o.ok) (ht : qM t) (hn : l.length ≤ 1024) (hp : 0 < l.length) (hR : errR l t = 0) :
    HC Try.prog 27 [.row (l.map opC), .agg (tabC t)] h0 fun r h' => ∃ out, r = .tup [out, i64 0] ∧ OutR h' out (loopE l t) ∧ Ext h0 h' := by
  refine HC_of_awp yL cf27 (by simp) fun hF => ?_
  unfold ac27 re27
  refine yF fun env hE => ?_; have e0 := hE 0; have e1 := hE 1; have e3 := hE 3; have e4 := hE 4; have e5 := hE 5; have e6 := hE 6; have e7 := hE 7; simp -implicitDefEqProofs only [push_cast] at e0 e1 e3 e4 e5 e6 e7; clear hE
  have hr := f64 l t hl
  rw [hR] at hr
  have hb := hR
  have h16 : ∀ l t a b o, (finC l t a b o)[16]? = some o := fun _ _ _ _ _ => rfl
  have hlen := onceE_len2 l t l.length
  have hmul : 5 * l.length * l.length ≤ 5 * 1024 * 1024 := Nat.mul_le_mul (by omega) (by omega)
  repeat' (first | ((try clear hf); with_reducible refine zM fun env K hE hK hf => ?_; have n : _ ∧ _ ∧ _ ∧ _ ∧ _ ∧ _ ∧ _ := ⟨hE 0, hE 1, hE 3, hE 4, hE 5, hE 6, hE 7⟩; simp -implicitDefEqProofs only [push_cast, reduceIte, Nat.reduceEqDiff, e0, e1, e3, e4, e5, e6, e7] at n; clear hE e0 e1 e3 e4 e5 e6 e7; obtain ⟨e0, e1, e3, e4, e5, e6, e7⟩ := n) | (with_reducible refine hK _ _ ?_; clear hK K) | (with_reducible first | refine zJ ?_ | refine zU ?_ | refine zB ?_ | refine zG ?_ | refine zE ?_ | refine zL ?_ | refine zT ?_ | refine zD ?_ | refine zH ?_ | refine zV ?_ | refine zF ?_ | refine zA (by decide) ?_ | refine zP ?_ | refine zO ?_ | refine zK ?_ | refine yB ?_ | refine yC ?_ | refine zW (by assumption) ?_ | refine zY (by assumption) ?_) | (refine zI rfl ?_) | (simp -implicitDefEqProofs only [push_cast, sevalprocAttr, eq_self, e0, e1, e3, e4, e5, e6, e7, hF.at, hb, h16]) | (simp -implicitDefEqProofs (disch := omega) only [zR, zZ, zS, zQ, e0, e1, e3, e4, e5, e6, e7, hF.at, hb, h16]) | (with_reducible refine yE ?_ ?_) | (refine zN rfl (fun bb => ?_) (fun bb => ?_) <;> simp only [bb]) | (with_reducible refine zX (fun bb => ?_) (fun bb => ?_)) | ((with_reducible refine And.intro ?_ ?_); omega) | (refine yD hr ?_) | (refine call_nf hl hn ?_; intro h F a b w hF; have hx0 : Ext h0 h := Ext.tr (by repeat (first | exact Ext.refl _ | refine Ext.tick ?_ | refine Ext.push ?_ (by omega) _)) w.ex; have lF : h0.ep < F.1 := Nat.lt_of_le_of_lt (Ext.le (by repeat (first | exact Ext.refl _ | refine Ext.tick ?_ | refine Ext.push ?_ (by omega) _))) w.lF; obtain ⟨rid, did, hX⟩ := w.finH hp; have hb := hX.fin) | (refine call_once (hX.ext (by repeat (first | exact Ext.refl _ | refine Ext.tick ?_))) hl ht hn ?_; intro h out hX hF hS; have hb := hX.fin) | (refine call_arnd (hX.ext (by repeat (first | exact Ext.refl _ | assumption | refine Ext.tick ?_ | refine Ext.push ?_ (by omega) _ | refine Ext.put ?_ (by omega) _ | refine Ext.kill ?_ (by omega) | refine Ext.killA ?_ (by assumption)))) (hX.ext (by repeat (first | exact Ext.refl _ | assumption | refine Ext.tick ?_ | refine Ext.push ?_ (by omega) _ | refine Ext.put ?_ (by omega) _ | refine Ext.kill ?_ (by omega) | refine Ext.killA ?_ (by assumption)))).out_le hl ht hn (by omega) ?_; intro h out hX hF hS2; replace hS := FS.trans (hS.ext (by repeat (first | exact Ext.refl _ | assumption | refine Ext.tick ?_ | refine Ext.push ?_ (by omega) _ | refine Ext.put ?_ (by omega) _ | refine Ext.kill ?_ (by omega) | refine Ext.killA ?_ (by assumption)))) hS2; have hb := hX.fin) | fail)
  refine ⟨out, rfl, (hX.ext (by repeat (first | exact Ext.refl _ | refine Ext.tick ?_))).outr, ?_⟩
  have hE : Ext h0 h := ⟨Nat.le_trans hx0.1 (Nat.le_trans (Nat.le_trans (Nat.le_succ _) (Nat.le_succ _)) hS.1), fun x hx => ((hS.2 x (Nat.le_trans hx (Nat.le_trans hx0.1 (Nat.le_trans (Nat.le_succ _) (Nat.le_succ _)))) (fun e => by rw [e] at hx; omega) (by simp [idOf])).1).trans (hx0.2 x hx)⟩
  repeat (first | exact hE | refine Ext.tick ?_)
theorem f27'e {h0 : Hp} {l : List Opn} {t : Tab} (hl : ∀ o ∈ l, o.ok) (hR : errR l t ≠ 0) :
    HC Try.prog 27 [.row (l.map opC), .agg (tabC t)] h0 fun r h' => r = .tup [.nil, i64 (errR l t)] ∧ Ext h0 h' := by
  refine HC_of_awp yL cf27 (by simp) fun hF => ?_
  unfold ac27 re27
  refine yF fun env hE => ?_; have e0 := hE 0; have e1 := hE 1; have e3 := hE 3; have e4 := hE 4; have e5 := hE 5; have e6 := hE 6; have e7 := hE 7; simp -implicitDefEqProofs only [push_cast] at e0 e1 e3 e4 e5 e6 e7; clear hE
  have hr := f64 l t hl
  have hb : decide (errR l t = 0) = false := by simpa using hR
  have hb2 : decide (errR l t ≠ 0) = true := by simpa using hR
  repeat' (first | ((try clear hf); with_reducible refine zM fun env K hE hK hf => ?_; have n : _ ∧ _ ∧ _ ∧ _ ∧ _ ∧ _ ∧ _ := ⟨hE 0, hE 1, hE 3, hE 4, hE 5, hE 6, hE 7⟩; simp -implicitDefEqProofs only [push_cast, reduceIte, Nat.reduceEqDiff, e0, e1, e3, e4, e5, e6, e7] at n; clear hE e0 e1 e3 e4 e5 e6 e7; obtain ⟨e0, e1, e3, e4, e5, e6, e7⟩ := n) | (with_reducible refine hK _ _ ?_; clear hK K) | (with_reducible first | refine zJ ?_ | refine zU ?_ | refine zB ?_ | refine zG ?_ | refine zE ?_ | refine zL ?_ | refine zT ?_ | refine zD ?_ | refine zH ?_ | refine zV ?_ | refine zF ?_ | refine zA (by decide) ?_ | refine zP ?_ | refine zO ?_ | refine zK ?_ | refine yB ?_ | refine yC ?_ | refine zW (by assumption) ?_ | refine zY (by assumption) ?_) | (refine zI rfl ?_) | (simp -implicitDefEqProofs only [push_cast, sevalprocAttr, eq_self, e0, e1, e3, e4, e5, e6, e7, hF.at, hb, hb2]) | (simp -implicitDefEqProofs (disch := omega) only [zR, zZ, zS, zQ, e0, e1, e3, e4, e5, e6, e7, hF.at, hb, hb2]) | (with_reducible refine yE ?_ ?_) | (refine zN rfl (fun bb => ?_) (fun bb => ?_) <;> simp only [bb]) | (with_reducible refine zX (fun bb => ?_) (fun bb => ?_)) | ((with_reducible refine And.intro ?_ ?_); omega) | (refine yD hr ?_) | fail)
  exact (show Ext h0 _ from (by repeat (first | exact Ext.refl _ | assumption | refine Ext.tick ?_ | refine Ext.push ?_ (by omega) _ | refine Ext.put ?_ (by omega) _)))
end Go.Proofs.Hx
