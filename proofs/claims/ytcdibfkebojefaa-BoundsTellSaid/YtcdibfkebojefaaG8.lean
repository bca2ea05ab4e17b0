import Derived.Test.YtcdibfkebojefaaG7
set_option linter.unusedVariables false
set_option linter.unusedSimpArgs false
namespace Go.Proofs.Hx
open Go Go.Proofs
attribute [local irreducible] yM awp opK goV goM yV yZ qF yQ HV HVF HC
theorem f60 (E : AV) (es : List Edg) (l : List Opn) (n : Int) (hE : EdV E es) (hs : l.length ≤ 64) (hn : 0 ≤ n ∧ n ≤ 100000) (he : edgOK l.length es) (hl : es.length ≤ 100000000) :
    HV Try.prog 60 [i64 n, .ip [E], .ip [.row (l.map opC)]] (bl (goesP es l.length n)) := by
  refine yJ yL cf60 (by simp) (by simp [imms, imm, yR, hE.imm]) ?_ rfl
  unfold ac60 re60
  refine yF fun env hE => ?_; have e0 := hE 0; have e1 := hE 1; have e2 := hE 2; have e4 := hE 4; simp -implicitDefEqProofs only [push_cast] at e0 e1 e2 e4; clear hE
  repeat' (first | ((try clear hf); with_reducible refine zM fun env K hE hK hf => ?_; have n : _ ∧ _ ∧ _ ∧ _ := ⟨hE 0, hE 1, hE 2, hE 4⟩; simp -implicitDefEqProofs only [push_cast, reduceIte, Nat.reduceEqDiff, e0, e1, e2, e4] at n; clear hE e0 e1 e2 e4; obtain ⟨e0, e1, e2, e4⟩ := n) | (with_reducible refine hK _ _ ?_; clear hK K) | (with_reducible first | refine zJ ?_ | refine zU ?_ | refine zB ?_ | refine zG ?_ | refine zE ?_ | refine zL ?_ | refine zT ?_ | refine zD ?_ | refine zH ?_ | refine zV ?_ | refine zF ?_ | refine zA (by decide) ?_ | refine zP ?_ | refine zO ?_ | refine zK ?_ | refine yB ?_ | refine yC ?_ | refine zW (by assumption) ?_ | refine zY (by assumption) ?_) | (refine zI rfl ?_) | (simp -implicitDefEqProofs only [push_cast, sevalprocAttr, eq_self, e0, e1, e2, e4, yK]) | (simp -implicitDefEqProofs (disch := omega) only [zR, zZ, zS, zQ, e0, e1, e2, e4, yK]) | (with_reducible refine yE ?_ ?_) | (refine zN rfl (fun bb => ?_) (fun bb => ?_) <;> (first | have bp := of_decide_eq_true bb | have bp := of_decide_eq_false bb | skip) <;> simp only [bb]) | (with_reducible refine zX (fun bb => ?_) (fun bb => ?_) <;> (first | have bp := of_decide_eq_true bb | have bp := of_decide_eq_false bb | skip)) | ((with_reducible refine And.intro ?_ ?_); omega) | (refine yD (f61 E es l.length n hE hs hn he hl) ?_) | fail)
end Go.Proofs.Hx

set_option linter.unusedVariables false
set_option linter.unusedSimpArgs false
namespace Go.Proofs.Hx
open Go Go.Proofs
attribute [local irreducible] yM awp opK goV goM yV yZ qF yQ HV HVF HC
theorem loopE_len {l : List Opn} {t : Tab} (hl : l.length ≤ 64) : (loopE l t).length ≤ 100000000 := by
  have h1 := onceE_len l t l.length l.length (Nat.le_refl _)
  have h2 := arndE_len l t l.length
  have : 5 * l.length * l.length ≤ 5 * 64 * 64 := Nat.mul_le_mul (by omega) (by omega)
  unfold loopE
  rw [List.length_append]
  omega
theorem rndPr {h0 : Hp} {A B : Id} {out : AV} {l : List Opn} {t : Tab} (ht : qM t) (hl : l.length ≤ 64) (hA : h0.hp A = some ⟨true, [out]⟩) (hAe : A.1 ≤ h0.ep) (hB : h0.hp B = some ⟨true, [.row (l.map opC)]⟩) (hBe : B.1 ≤ h0.ep) (ho : OutR h0 out (loopE l t)) :
    PrAt Try.prog (.fn 60 [.ptr A 0, .ptr B 0]) (goesP (loopE l t) l.length) (fun x => 1 ≤ x ∧ x < 513) h0 := by
  intro g hg d K env x hx k
  obtain ⟨E, hE, hl1⟩ : ∃ E, EdV E (loopE l t) ∧ lend fuelL g (.ptr A 0) = some (.ip [E]) := by
    have ha := (hg.2 A hAe).trans hA
    rcases ho with ⟨rfl, h2⟩ | ⟨id, rfl, h2, h3⟩
    · refine ⟨.nil, .inr ⟨rfl, h2⟩, ?_⟩
      rw [lend_ptrF, ha]
      rfl
    · refine ⟨.row ((loopE l t).map edC), .inl rfl, ?_⟩
      have hi := (hg.2 id h3).trans h2
      rw [lend_ptrF, ha]
      have h7 := lend_rows_d 6 (f := edC) (sz := 5) edC_len edC_imms hi (eflat_len _)
      simp only [Option.bind_some, List.drop_zero, mapO_cons, h7]
      rfl
  have hl2 : lend fuelL g (.ptr B 0) = some (.ip [.row (l.map opC)]) := by
    have hb := (hg.2 B hBe).trans hB
    rw [lend_ptrF, hb]
    simp only [Option.bind_some, List.drop_zero, qS (show imms [.row (l.map opC)] = true by simp [imms, imm, yR]), Option.map_some]
  refine call_lend (args' := [i64 x, .ip [E], .ip [.row (l.map opC)]]) ?_ (f60 E _ l x hE hl ⟨by omega, by omega⟩ (loopE_edg ht) (loopE_len hl)) rfl k
  show mapO (lend fuelL g) [i64 x, .ptr A 0, .ptr B 0] = _
  rw [mapO_cons, mapO_cons, mapO_cons, hl1, hl2]
  rfl
theorem OutR.ext {h g : Hp} {a : AV} {es : List Edg} (o : OutR h a es) (hg : Ext h g) : OutR g a es := by
  rcases o with h1 | ⟨id, h1, h2, h3⟩
  · exact .inl h1
  · exact .inr ⟨id, h1, (hg.2 id h3).trans h2, Nat.le_trans h3 hg.1⟩
theorem least513 {h0 : Hp} {f : AV} {p : Int → Bool} (hc : PrAt Try.prog f p (fun x => 1 ≤ x ∧ x < 513) h0) :
    HC Try.prog 59 [.lit (.int .i64 1), .lit (.int .i64 513), f] h0 fun r h' => Ext h0 h' ∧ ∃ c : Nat, r = i64 c ∧ 1 ≤ c ∧ c ≤ 513 ∧ (c = 1 ∨ p ((c : Int) - 1) = false) ∧ (c = 513 ∨ p c = true) :=
  f59 (a := 1) (b := 513) hc (by omega) (by omega)
theorem f22 (l : List Opn) (t : Tab) (hl : ∀ o ∈ l, o.ok) (hn : l.length ≤ 24 ∨ errB l t ≠ 0) :
    HV Try.prog 22 [.row (l.map opC), .agg (tabC t)] (.tup [i64 (if errB l t ≠ 0 then 0 else (rndN l t : Int)), i64 (errB l t)]) := by
  refine yJ yL cf22 (by simp) (by simp [imms, imm, yR, tab_imms]) ?_ (by simp [imm, imms])
  unfold ac22 re22
  refine yF fun env hE => ?_; have e0 := hE 0; have e1 := hE 1; have e2 := hE 2; have e3 := hE 3; have e4 := hE 4; have e5 := hE 5; have e7 := hE 7; have e8 := hE 8; have e9 := hE 9; simp -implicitDefEqProofs only [push_cast] at e0 e1 e2 e3 e4 e5 e7 e8 e9; clear hE
  by_cases hz : errB l t ≠ 0
  · have hd : decide (¬ errB l t = 0) = true := decide_eq_true hz
    rw [if_pos hz]
    repeat' (first | ((try clear hf); with_reducible refine zM fun env K hE hK hf => ?_; have n : _ ∧ _ ∧ _ ∧ _ ∧ _ ∧ _ ∧ _ ∧ _ ∧ _ := ⟨hE 0, hE 1, hE 2, hE 3, hE 4, hE 5, hE 7, hE 8, hE 9⟩; simp -implicitDefEqProofs only [push_cast, reduceIte, Nat.reduceEqDiff, e0, e1, e2, e3, e4, e5, e7, e8, e9] at n; clear hE e0 e1 e2 e3 e4 e5 e7 e8 e9; obtain ⟨e0, e1, e2, e3, e4, e5, e7, e8, e9⟩ := n) | (with_reducible refine hK _ _ ?_; clear hK K) | (with_reducible first | refine zJ ?_ | refine zU ?_ | refine zB ?_ | refine zG ?_ | refine zE ?_ | refine zL ?_ | refine zT ?_ | refine zD ?_ | refine zH ?_ | refine zV ?_ | refine zF ?_ | refine zA (by decide) ?_ | refine zP ?_ | refine zO ?_ | refine zK ?_ | refine yB ?_ | refine yC ?_ | refine zW (by assumption) ?_ | refine zY (by assumption) ?_) | (refine zI rfl ?_) | (simp -implicitDefEqProofs only [push_cast, sevalprocAttr, eq_self, e0, e1, e2, e3, e4, e5, e7, e8, e9, hd]) | (simp -implicitDefEqProofs (disch := omega) only [zR, zZ, zS, zQ, e0, e1, e2, e3, e4, e5, e7, e8, e9, hd]) | (with_reducible refine yE ?_ ?_) | (refine zN rfl (fun bb => ?_) (fun bb => ?_) <;> (first | have bp := of_decide_eq_true bb | have bp := of_decide_eq_false bb | skip) <;> simp only [bb]) | (with_reducible refine zX (fun bb => ?_) (fun bb => ?_) <;> (first | have bp := of_decide_eq_true bb | have bp := of_decide_eq_false bb | skip)) | ((with_reducible refine And.intro ?_ ?_); omega) | (refine yD (f57 l t hl) ?_) | fail)
  have hz0 : errB l t = 0 := Classical.byContradiction hz
  have hd : decide (¬ errB l t = 0) = false := decide_eq_false hz
  rw [if_neg hz]
  obtain ⟨g2, g4⟩ := errB_ok hz0
  obtain ⟨g1, g0⟩ := preB_ok g2
  have hl24 := hn.resolve_right hz
  have hRe : errR l t = 0 := by
    unfold preB at g2
    rw [if_neg (by rw [tabE_ok g1]; simp), if_neg (by omega)] at g2
    exact g2
  repeat' (first | ((try clear hf); with_reducible refine zM fun env K hE hK hf => ?_; have n : _ ∧ _ ∧ _ ∧ _ ∧ _ ∧ _ ∧ _ ∧ _ ∧ _ := ⟨hE 0, hE 1, hE 2, hE 3, hE 4, hE 5, hE 7, hE 8, hE 9⟩; simp -implicitDefEqProofs only [push_cast, reduceIte, Nat.reduceEqDiff, e0, e1, e2, e3, e4, e5, e7, e8, e9] at n; clear hE e0 e1 e2 e3 e4 e5 e7 e8 e9; obtain ⟨e0, e1, e2, e3, e4, e5, e7, e8, e9⟩ := n) | (with_reducible refine hK _ _ ?_; clear hK K) | (with_reducible first | refine zJ ?_ | refine zU ?_ | refine zB ?_ | refine zG ?_ | refine zE ?_ | refine zL ?_ | refine zT ?_ | refine zD ?_ | refine zH ?_ | refine zV ?_ | refine zF ?_ | refine zA (by decide) ?_ | refine zP ?_ | refine zO ?_ | refine zK ?_ | refine yB ?_ | refine yC ?_ | refine zW (by assumption) ?_ | refine zY (by assumption) ?_) | (refine zI rfl ?_) | (simp -implicitDefEqProofs only [push_cast, sevalprocAttr, eq_self, e0, e1, e2, e3, e4, e5, e7, e8, e9, hd]) | (simp -implicitDefEqProofs (disch := omega) only [zR, zZ, zS, zQ, e0, e1, e2, e3, e4, e5, e7, e8, e9, hd]) | (with_reducible refine yE ?_ ?_) | (refine zN rfl (fun bb => ?_) (fun bb => ?_) <;> (first | have bp := of_decide_eq_true bb | have bp := of_decide_eq_false bb | skip) <;> simp only [bb]) | (with_reducible refine zX (fun bb => ?_) (fun bb => ?_) <;> (first | have bp := of_decide_eq_true bb | have bp := of_decide_eq_false bb | skip)) | ((with_reducible refine And.intro ?_ ?_); omega) | (refine yD (f57 l t hl) ?_) | (refine call_hc (HC.mono (loop_all hl) ?_); rintro r g ⟨hg, (⟨hR, rfl⟩ | ⟨hR, out, rfl, ho⟩)⟩ hF'; exact absurd hRe hR) | fail)
  have hc1 : qK out = some [out] := by rcases ho with ⟨rfl, _⟩ | ⟨id, rfl, _⟩ <;> rfl
  have hc2 : one out = true := by rcases ho with ⟨rfl, _⟩ | ⟨id, rfl, _⟩ <;> rfl
  have hc3 : [out].all one = true := by simp [hc2]
  have hge := hg.1
  have hb2 := (hg.2 (2, 2) (by simp only [qO, push_ep, put_ep, emp_ep]; omega)).trans (show _ = some ⟨true, [.row (l.map opC)]⟩ by simp -implicitDefEqProofs only [push_cast, sevalprocAttr, eq_self])
  simp only [qO, push_ep, put_ep, emp_ep] at hge
  clear hg
  repeat' (first | ((try clear hf); with_reducible refine zM fun env K hE hK hf => ?_; have n : _ ∧ _ ∧ _ ∧ _ ∧ _ ∧ _ ∧ _ ∧ _ ∧ _ := ⟨hE 0, hE 1, hE 2, hE 3, hE 4, hE 5, hE 7, hE 8, hE 9⟩; simp -implicitDefEqProofs only [push_cast, reduceIte, Nat.reduceEqDiff, e0, e1, e2, e3, e4, e5, e7, e8, e9] at n; clear hE e0 e1 e2 e3 e4 e5 e7 e8 e9; obtain ⟨e0, e1, e2, e3, e4, e5, e7, e8, e9⟩ := n) | (with_reducible refine hK _ _ ?_; clear hK K) | (with_reducible first | refine zJ ?_ | refine zU ?_ | refine zB ?_ | refine zG ?_ | refine zE ?_ | refine zL ?_ | refine zT ?_ | refine zD ?_ | refine zH ?_ | refine zV ?_ | refine zF ?_ | refine zA (by decide) ?_ | refine zP ?_ | refine zO ?_ | refine zK ?_ | refine yB ?_ | refine yC ?_ | refine zW (by assumption) ?_ | refine zY (by assumption) ?_) | (refine zI rfl ?_) | (simp -implicitDefEqProofs only [push_cast, sevalprocAttr, eq_self, e0, e1, e2, e3, e4, e5, e7, e8, e9, hF'.at, hc1, hc2, hc3]) | (simp -implicitDefEqProofs (disch := omega) only [zR, zZ, zS, zQ, e0, e1, e2, e3, e4, e5, e7, e8, e9, hF'.at, hc1, hc2, hc3]) | (with_reducible refine yE ?_ ?_) | (refine zN rfl (fun bb => ?_) (fun bb => ?_) <;> (first | have bp := of_decide_eq_true bb | have bp := of_decide_eq_false bb | skip) <;> simp only [bb]) | (with_reducible refine zX (fun bb => ?_) (fun bb => ?_) <;> (first | have bp := of_decide_eq_true bb | have bp := of_decide_eq_false bb | skip)) | ((with_reducible refine And.intro ?_ ?_); omega) | fail)
  have hb8 : ((g.tick.push (g.ep + 1, 8) [AV.nil]).put (g.ep + 1, 8) [out]).tick.tick.hp (g.ep + 1, 8) = some ⟨true, [out]⟩ := by simp -implicitDefEqProofs only [push_cast, sevalprocAttr, eq_self]
  have hE2 : Ext g ((g.tick.push (g.ep + 1, 8) [AV.nil]).put (g.ep + 1, 8) [out]).tick.tick := (by repeat (first | exact Ext.refl _ | assumption | refine Ext.tick ?_ | refine Ext.push ?_ (by omega) _ | refine Ext.put ?_ (by omega) _ | refine Ext.kill ?_ (by omega) | refine Ext.killA ?_ (by assumption)))
  have hb22 := (hE2.2 (2, 2) (by simp only; omega)).trans hb2
  have hP := rndPr (A := (g.ep + 1, 8)) (B := (2, 2)) (l := l) (t := t) (out := out) g1 (by omega) hb8 (by simp only [qO, push_ep, put_ep]; omega) hb22 (by simp only [qO, push_ep, put_ep]; omega) (ho.ext hE2)
  repeat' (first | ((try clear hf); with_reducible refine zM fun env K hE hK hf => ?_; have n : _ ∧ _ ∧ _ ∧ _ ∧ _ ∧ _ ∧ _ ∧ _ ∧ _ := ⟨hE 0, hE 1, hE 2, hE 3, hE 4, hE 5, hE 7, hE 8, hE 9⟩; simp -implicitDefEqProofs only [push_cast, reduceIte, Nat.reduceEqDiff, e0, e1, e2, e3, e4, e5, e7, e8, e9] at n; clear hE e0 e1 e2 e3 e4 e5 e7 e8 e9; obtain ⟨e0, e1, e2, e3, e4, e5, e7, e8, e9⟩ := n) | (with_reducible refine hK _ _ ?_; clear hK K) | (with_reducible first | refine zJ ?_ | refine zU ?_ | refine zB ?_ | refine zG ?_ | refine zE ?_ | refine zL ?_ | refine zT ?_ | refine zD ?_ | refine zH ?_ | refine zV ?_ | refine zF ?_ | refine zA (by decide) ?_ | refine zP ?_ | refine zO ?_ | refine zK ?_ | refine yB ?_ | refine yC ?_ | refine zW (by assumption) ?_ | refine zY (by assumption) ?_) | (refine zI rfl ?_) | (simp -implicitDefEqProofs only [push_cast, sevalprocAttr, eq_self, e0, e1, e2, e3, e4, e5, e7, e8, e9]) | (simp -implicitDefEqProofs (disch := omega) only [zR, zZ, zS, zQ, e0, e1, e2, e3, e4, e5, e7, e8, e9]) | (with_reducible refine yE ?_ ?_) | (refine zN rfl (fun bb => ?_) (fun bb => ?_) <;> (first | have bp := of_decide_eq_true bb | have bp := of_decide_eq_false bb | skip) <;> simp only [bb]) | (with_reducible refine zX (fun bb => ?_) (fun bb => ?_) <;> (first | have bp := of_decide_eq_true bb | have bp := of_decide_eq_false bb | skip)) | ((with_reducible refine And.intro ?_ ?_); omega) | (refine call_hc (HC.mono (least513 hP) ?_); rintro r g2 ⟨hg2, c, rfl, h1, h2, h3, h4⟩ hF2) | fail)
  have hge2 : ∀ n : Int, 0 ≤ n → n ≤ 513 → goesP (loopE l t) l.length n = endsP (loopE l t) l.length n := fun n h1 h2 =>
    goes_ends ⟨h1, by omega⟩ (loopE_edg g1) (loopE_w g1 ⟨h1, by omega⟩) hl24
  rw [hge2 _ (by omega) (by omega)] at h3
  rw [hge2 _ (by omega) (by omega)] at h4
  rw [hz0, rndN_of g1 hl24 h1 h2 h3 (h4.elim (fun e => by rw [e]; exact ends_513 g1 hl24) id)]
end Go.Proofs.Hx

set_option linter.unusedVariables false
set_option linter.unusedSimpArgs false
namespace Go.Proofs.Hx
open Go Go.Proofs
attribute [local irreducible] yM awp opK goV goM yV yZ qF yQ HV HVF HC
/-! The values stay small. -/
def inB (B : Int) (A : Nat → Int) : Prop := ∀ i, 0 ≤ A i ∧ A i ≤ B
theorem fStep_inB {n B : Int} {A : (Nat → Int) × Bool} {e : Edg} (h : inB B A.1) (hw : wgt n e ≤ 8) : inB (B + 8) (fStep n A e).1 := by
  have hx : A.1 e.f.toNat + e.l - n * e.d = A.1 e.f.toNat + wgt n e := by unfold wgt; omega
  intro i
  have := h i
  have h1 := h e.f.toNat
  have h2 := h e.t.toNat
  unfold fStep
  rw [hx]
  split
  · simp only [fset]; split <;> omega
  · omega
theorem fold_inB {n : Int} : ∀ (r : List Edg) (A : (Nat → Int) × Bool) (B : Int), (∀ e ∈ r, wgt n e ≤ 8) → inB B A.1 → inB (B + 8 * r.length) (r.foldl (fStep n) A).1
  | [], A, B, _, h => by simpa using h
  | e :: r, A, B, hr, h => by
    rw [List.foldl_cons]
    have := fold_inB r _ (B + 8) (fun x hx => hr x (List.mem_cons_of_mem _ hx)) (fStep_inB h (hr e List.mem_cons_self))
    rw [List.length_cons]
    rw [show B + 8 * ((r.length + 1 : Nat) : Int) = B + 8 + 8 * r.length by omega]
    exact this
/-- What has been reached behind r rounds, none of them the last. -/
def rnds (n : Int) (es : List Edg) : Nat → (Nat → Int)
  | 0 => zeroD
  | r + 1 => (fRound n es (rnds n es r)).1
theorem rnds_inB {n : Int} {es : List Edg} (h : ∀ e ∈ es, wgt n e ≤ 8) : ∀ r : Nat, inB (8 * es.length * (r : Int)) (rnds n es r)
  | 0 => fun i => by simp [rnds, zeroD]
  | r + 1 => by
    have := fold_inB es (rnds n es r, true) _ h (rnds_inB h r)
    rw [show (8 * es.length * ((r + 1 : Nat) : Int) : Int) = 8 * es.length * r + 8 * es.length by rw [Int.natCast_add, Int.mul_add]; omega]
    exact this
theorem ends_at {n : Int} {es : List Edg} : ∀ (r m : Nat), (∀ q < r, (fRound n es (rnds n es q)).2 = false) → endsN n es zeroD (r + m) = endsN n es (rnds n es r) m
  | 0, m, _ => by rw [Nat.zero_add]; rfl
  | r + 1, m, h => by
    rw [Nat.add_assoc, Nat.add_comm 1 m, ends_at r (m + 1) fun q hq => h q (by omega)]
    rw [endsN, if_neg (by rw [h r (by omega)]; simp)]
    rfl
theorem zero_arr (s : Nat) : List.replicate s (AV.lit (.int .i64 0)) = arrC s zeroD := by
  apply List.ext_getElem?
  intro r
  by_cases hr : r < s
  · rw [arrC_at _ hr]; simp [hr, zeroD]
  · rw [List.getElem?_eq_none (by simp; omega), List.getElem?_eq_none (by simp [arrC_len]; omega)]
set_option maxRecDepth 20000 in
set_option maxHeartbeats 4000000 in
theorem f63 (E : AV) (es : List Edg) (s : Nat) (n : Int) (hE : EdV E es) (hs : s ≤ 64) (hn : 0 ≤ n ∧ n ≤ 100000) (he : edgOK s es) (hw : ∀ e ∈ es, wgt n e ≤ 8) (hl : es.length ≤ 100000000) :
    HV Try.prog 63 [E, i64 s, i64 n] (bl (endsP es s n)) := by
  refine yJ yL cf63 (by simp) (by simp [imms, imm, hE.imm]) ?_ rfl
  unfold ac63 re63
  refine yF fun env hE => ?_; have e0 := hE 0; have e1 := hE 1; have e2 := hE 2; have e6 := hE 6; have e7 := hE 7; have e8 := hE 8; have e9 := hE 9; have e10 := hE 10; have e11 := hE 11; have e12 := hE 12; simp -implicitDefEqProofs only [push_cast] at e0 e1 e2 e6 e7 e8 e9 e10 e11 e12; clear hE
  repeat' (first | ((try clear hf); with_reducible refine zM fun env K hE hK hf => ?_; have n : _ ∧ _ ∧ _ ∧ _ ∧ _ ∧ _ ∧ _ ∧ _ ∧ _ ∧ _ := ⟨hE 0, hE 1, hE 2, hE 6, hE 7, hE 8, hE 9, hE 10, hE 11, hE 12⟩; simp -implicitDefEqProofs only [push_cast, reduceIte, Nat.reduceEqDiff, e0, e1, e2, e6, e7, e8, e9, e10, e11, e12] at n; clear hE e0 e1 e2 e6 e7 e8 e9 e10 e11 e12; obtain ⟨e0, e1, e2, e6, e7, e8, e9, e10, e11, e12⟩ := n) | (with_reducible refine hK _ _ ?_; clear hK K) | (with_reducible first | refine zJ ?_ | refine zU ?_ | refine zB ?_ | refine zG ?_ | refine zE ?_ | refine zL ?_ | refine zT ?_ | refine zD ?_ | refine zH ?_ | refine zV ?_ | refine zF ?_ | refine zA (by decide) ?_ | refine zP ?_ | refine zO ?_ | refine zK ?_ | refine yB ?_ | refine yC ?_ | refine zW (by assumption) ?_ | refine zY (by assumption) ?_) | (refine zI rfl ?_) | (simp -implicitDefEqProofs only [push_cast, sevalprocAttr, eq_self, e0, e1, e2, e6, e7, e8, e9, e10, e11, e12, rep1, zero_arr]) | (simp -implicitDefEqProofs (disch := omega) only [zR, zZ, zS, zQ, e0, e1, e2, e6, e7, e8, e9, e10, e11, e12, rep1, zero_arr]) | (with_reducible refine yE ?_ ?_) | (refine zN rfl (fun bb => ?_) (fun bb => ?_) <;> (first | have bp := of_decide_eq_true bb | have bp := of_decide_eq_false bb | skip) <;> simp only [bb]) | (with_reducible refine zX (fun bb => ?_) (fun bb => ?_) <;> (first | have bp := of_decide_eq_true bb | have bp := of_decide_eq_false bb | skip)) | ((with_reducible refine And.intro ?_ ?_); omega) | fail)
  refine yF fun env hE => ?_; have n : _ ∧ _ ∧ _ ∧ _ ∧ _ ∧ _ ∧ _ ∧ _ ∧ _ ∧ _ := ⟨hE 0, hE 1, hE 2, hE 6, hE 7, hE 8, hE 9, hE 10, hE 11, hE 12⟩; simp -implicitDefEqProofs only [push_cast, reduceIte, Nat.reduceEqDiff, e0, e1, e2, e6, e7, e8, e9, e10, e11, e12] at n; clear hE e0 e1 e2 e6 e7 e8 e9 e10 e11 e12; obtain ⟨e0, e1, e2, e6, e7, e8, e9, e10, e11, e12⟩ := n; have E63_1_0 := e0; have E63_1_1 := e1; have E63_1_2 := e2; have E63_1_7 := e7
  refine yN (fun nn σ => ∃ (r : Nat), nn = s + 1 - r ∧ σ.env 0 = env 0 ∧ σ.env 1 = env 1 ∧ σ.env 2 = env 2 ∧ σ.env 7 = env 7 ∧ σ.env 8 = i64 r ∧ (r ≤ s + 1 ∧ (∀ q < r, (fRound n es (rnds n es q)).2 = false) ∧ σ.h.hp (3, 14) = some ⟨true, arrC s (rnds n es r)⟩ ∧ 3 ≤ σ.h.ep)) _ ⟨0, rfl, rfl, rfl, rfl, rfl, by refine e8.trans ?_; first | rfl | exact yG (by omega) | (simp -implicitDefEqProofs (disch := omega) only [zQ]; first | rfl | exact yG (by omega)), ?_⟩ ?_
  · exact ⟨by omega, fun q h => absurd h (by omega), by simp -implicitDefEqProofs only [push_cast, sevalprocAttr, eq_self]; rfl, (by first | omega | (simp -implicitDefEqProofs only [push_cast, sevalprocAttr, eq_self]; first | done | omega))⟩
  clear e0 e1 e2 e6 e7 e8 e9 e10 e11 e12; rintro nn ⟨env, h⟩ ⟨r, rfl, q0, q1, q2, q7, e8, hI⟩; simp only at q0 q1 q2 q7 e8 hI; (first | have e0 := q0.trans E63_1_0 | have e0 := True.intro); (first | have e1 := q1.trans E63_1_1 | have e1 := True.intro); (first | have e2 := q2.trans E63_1_2 | have e2 := True.intro); (first | have e7 := q7.trans E63_1_7 | have e7 := True.intro); clear q0 q1 q2 q7; have e6 := True.intro; have e9 := True.intro; have e10 := True.intro; have e11 := True.intro; have e12 := True.intro
  obtain ⟨hr, hq, hb7, hep⟩ := hI
  unfold l63_1
  (first | refine yI fun hF => ?_ | refine yX fun hF => ?_ | refine yW fun hF => ?_)
  by_cases hlt : r < s + 1
  · have hd : decide ((r : Int) ≤ (s : Int)) = true := decide_eq_true (by omega)
    repeat' (first | ((try clear hf); with_reducible refine zM fun env K hE hK hf => ?_; have n : _ ∧ _ ∧ _ ∧ _ ∧ _ ∧ _ ∧ _ ∧ _ ∧ _ ∧ _ := ⟨hE 0, hE 1, hE 2, hE 6, hE 7, hE 8, hE 9, hE 10, hE 11, hE 12⟩; simp -implicitDefEqProofs only [push_cast, reduceIte, Nat.reduceEqDiff, e0, e1, e2, e6, e7, e8, e9, e10, e11, e12] at n; clear hE e0 e1 e2 e6 e7 e8 e9 e10 e11 e12; obtain ⟨e0, e1, e2, e6, e7, e8, e9, e10, e11, e12⟩ := n) | (with_reducible refine hK _ _ ?_; clear hK K) | (with_reducible first | refine zJ ?_ | refine zU ?_ | refine zB ?_ | refine zG ?_ | refine zE ?_ | refine zL ?_ | refine zT ?_ | refine zD ?_ | refine zH ?_ | refine zV ?_ | refine zF ?_ | refine zA (by decide) ?_ | refine zP ?_ | refine zO ?_ | refine zK ?_ | refine yB ?_ | refine yC ?_ | refine zW (by assumption) ?_ | refine zY (by assumption) ?_) | (refine zI rfl ?_) | (simp -implicitDefEqProofs only [push_cast, sevalprocAttr, eq_self, e0, e1, e2, e6, e7, e8, e9, e10, e11, e12, hd, hE.len]) | (simp -implicitDefEqProofs (disch := omega) only [zR, zZ, zS, zQ, e0, e1, e2, e6, e7, e8, e9, e10, e11, e12, hd, hE.len]) | (with_reducible refine yE ?_ ?_) | (refine zN rfl (fun bb => ?_) (fun bb => ?_) <;> (first | have bp := of_decide_eq_true bb | have bp := of_decide_eq_false bb | skip) <;> simp only [bb]) | (with_reducible refine zX (fun bb => ?_) (fun bb => ?_) <;> (first | have bp := of_decide_eq_true bb | have bp := of_decide_eq_false bb | skip)) | ((with_reducible refine And.intro ?_ ?_); omega) | fail)
    refine yF fun env hE => ?_; have n : _ ∧ _ ∧ _ ∧ _ ∧ _ ∧ _ ∧ _ ∧ _ ∧ _ ∧ _ := ⟨hE 0, hE 1, hE 2, hE 6, hE 7, hE 8, hE 9, hE 10, hE 11, hE 12⟩; simp -implicitDefEqProofs only [push_cast, reduceIte, Nat.reduceEqDiff, e0, e1, e2, e6, e7, e8, e9, e10, e11, e12] at n; clear hE e0 e1 e2 e6 e7 e8 e9 e10 e11 e12; obtain ⟨e0, e1, e2, e6, e7, e8, e9, e10, e11, e12⟩ := n; have E63_0_0 := e0; have E63_0_1 := e1; have E63_0_2 := e2; have E63_0_6 := e6; have E63_0_7 := e7; have E63_0_8 := e8
    refine yN (fun nn σ => ∃ (m : Nat) (D : Nat → Int) (fl : Bool), nn = es.length - m ∧ σ.env 0 = env 0 ∧ σ.env 1 = env 1 ∧ σ.env 2 = env 2 ∧ σ.env 6 = env 6 ∧ σ.env 7 = env 7 ∧ σ.env 8 = env 8 ∧ σ.env 10 = i64 m ∧ σ.env 9 = bl fl ∧ (m ≤ es.length ∧ σ.h.hp (3, 14) = some ⟨true, arrC s D⟩ ∧ (es.take m).foldl (fStep n) (rnds n es r, true) = (D, fl) ∧ 3 ≤ σ.h.ep)) _ ⟨0, rnds n es r, true, rfl, rfl, rfl, rfl, rfl, rfl, rfl, by refine e10.trans ?_; first | rfl | exact yG (by omega) | (simp -implicitDefEqProofs (disch := omega) only [zQ]; first | rfl | exact yG (by omega)), by refine e9.trans ?_; first | rfl | exact yG (by omega) | (simp -implicitDefEqProofs (disch := omega) only [zQ]; first | rfl | exact yG (by omega)), ?_⟩ ?_
    · exact ⟨by omega, by simp -implicitDefEqProofs only [push_cast, sevalprocAttr, eq_self, hb7], rfl, (by first | omega | (simp -implicitDefEqProofs only [push_cast, sevalprocAttr, eq_self]; first | done | omega))⟩
    clear hb7 hep hF
    clear e0 e1 e2 e6 e7 e8 e9 e10 e11 e12; rintro nn ⟨env, h⟩ ⟨m, D, fl, rfl, q0, q1, q2, q6, q7, q8, e10, e9, hI⟩; simp only at q0 q1 q2 q6 q7 q8 e10 e9 hI; (first | have e0 := q0.trans E63_0_0 | have e0 := True.intro); (first | have e1 := q1.trans E63_0_1 | have e1 := True.intro); (first | have e2 := q2.trans E63_0_2 | have e2 := True.intro); (first | have e6 := q6.trans E63_0_6 | have e6 := True.intro); (first | have e7 := q7.trans E63_0_7 | have e7 := True.intro); (first | have e8 := q8.trans E63_0_8 | have e8 := True.intro); clear q0 q1 q2 q6 q7 q8; have e11 := True.intro; have e12 := True.intro
    obtain ⟨hm, hb7, hS, hep⟩ := hI
    unfold l63_0
    (first | refine yI fun hF => ?_ | refine yX fun hF => ?_ | refine yW fun hF => ?_)
    by_cases hltm : m < es.length
    · have hdm : decide ((m : Int) < (es.length : Int)) = true := decide_eq_true (by omega)
      have hr' := hE.at hltm .i64
      have hm1 := he es[m] (List.getElem_mem hltm)
      have hinB := fold_inB (n := n) (es.take m) (rnds n es r, true) _ (fun e h => hw e (List.mem_of_mem_take h)) (rnds_inB hw r)
      have hst : (es.take (m + 1)).foldl (fStep n) (rnds n es r, true) = fStep n ((es.take m).foldl (fStep n) (rnds n es r, true)) es[m] := by
        rw [List.take_succ_eq_append_getElem hltm, List.foldl_append]; rfl
      rw [hS] at hinB hst
      simp only at hinB
      obtain ⟨f, hf'⟩ : ∃ f : Nat, es[m].f = f := ⟨es[m].f.toNat, by omega⟩
      obtain ⟨t, ht'⟩ : ∃ t : Nat, es[m].t = t := ⟨es[m].t.toNat, by omega⟩
      have h0 : (edC es[m])[0]? = some (i64 f) := by rw [← hf']; rfl
      have h1 : (edC es[m])[1]? = some (i64 t) := by rw [← ht']; rfl
      have h2 : (edC es[m])[2]? = some (i64 es[m].l) := rfl
      have h3 : (edC es[m])[3]? = some (i64 es[m].d) := rfl
      have hnd := nd_le hn.1 hn.2 hm1.2.2.2.2.2.2.1 hm1.2.2.2.2.2.2.2
      have hbf := hinB f
      have hlr : (8 * es.length * (r : Int) : Int) ≤ 8 * 100000000 * 65 := Int.mul_le_mul (by omega) (by omega) (by omega) (by omega)
      have hlm : (es.take m).length ≤ es.length := by rw [List.length_take]; omega
      have hw1 : IntKind.i64.wrap (D f + es[m].l) = D f + es[m].l := wrap64 (by omega) (by omega)
      have hw2 : IntKind.i64.wrap (n * es[m].d) = n * es[m].d := wrap64 (by omega) (by omega)
      have hw3 : IntKind.i64.wrap (D f + es[m].l - n * es[m].d) = D f + es[m].l - n * es[m].d := wrap64 (by omega) (by omega)
      have haf := arrC_at (n := s) D (k := f) (by omega)
      have hat := arrC_at (n := s) D (k := t) (by omega)
      have hpt := fun v => arrC_put (n := s) D (k := t) (by omega) v
      by_cases hgt : D t < D f + es[m].l - n * es[m].d
      · have hdg : decide (D t < D f + es[m].l - n * es[m].d) = true := decide_eq_true hgt
        repeat' (first | ((try clear hf); with_reducible refine zM fun env K hE hK hf => ?_; have n : _ ∧ _ ∧ _ ∧ _ ∧ _ ∧ _ ∧ _ ∧ _ ∧ _ ∧ _ := ⟨hE 0, hE 1, hE 2, hE 6, hE 7, hE 8, hE 9, hE 10, hE 11, hE 12⟩; simp -implicitDefEqProofs only [push_cast, reduceIte, Nat.reduceEqDiff, e0, e1, e2, e6, e7, e8, e9, e10, e11, e12] at n; clear hE e0 e1 e2 e6 e7 e8 e9 e10 e11 e12; obtain ⟨e0, e1, e2, e6, e7, e8, e9, e10, e11, e12⟩ := n) | (with_reducible refine hK _ _ ?_; clear hK K) | (with_reducible first | refine zJ ?_ | refine zU ?_ | refine zB ?_ | refine zG ?_ | refine zE ?_ | refine zL ?_ | refine zT ?_ | refine zD ?_ | refine zH ?_ | refine zV ?_ | refine zF ?_ | refine zA (by decide) ?_ | refine zP ?_ | refine zO ?_ | refine zK ?_ | refine yB ?_ | refine yC ?_ | refine zW (by assumption) ?_ | refine zY (by assumption) ?_) | (refine zI rfl ?_) | (simp -implicitDefEqProofs only [push_cast, sevalprocAttr, eq_self, e0, e1, e2, e6, e7, e8, e9, e10, e11, e12, hdm, hE.len, hb7, hr', hF.at, h0, h1, h2, h3, hw1, hw2, hw3, haf, hat, hpt, hdg]) | (simp -implicitDefEqProofs (disch := omega) only [zR, zZ, zS, zQ, e0, e1, e2, e6, e7, e8, e9, e10, e11, e12, hdm, hE.len, hb7, hr', hF.at, h0, h1, h2, h3, hw1, hw2, hw3, haf, hat, hpt, hdg]) | (with_reducible refine yE ?_ ?_) | (refine zN rfl (fun bb => ?_) (fun bb => ?_) <;> (first | have bp := of_decide_eq_true bb | have bp := of_decide_eq_false bb | skip) <;> simp only [bb]) | (with_reducible refine zX (fun bb => ?_) (fun bb => ?_) <;> (first | have bp := of_decide_eq_true bb | have bp := of_decide_eq_false bb | skip)) | ((with_reducible refine And.intro ?_ ?_); omega) | fail)
        refine ⟨_, ?_, m + 1, fset D t (D f + es[m].l - n * es[m].d), false, rfl, E63_0_0.symm, E63_0_1.symm, E63_0_2.symm, E63_0_6.symm, E63_0_7.symm, E63_0_8.symm, by first | rfl | exact yG (by omega) | (simp -implicitDefEqProofs (disch := omega) only [zQ]; first | rfl | exact yG (by omega)), by first | rfl | exact yG (by omega) | (simp -implicitDefEqProofs (disch := omega) only [zQ]; first | rfl | exact yG (by omega)), ?_⟩
        · omega
        · refine ⟨by omega, rfl, ?_⟩
          rw [hst, fStep, hf', ht', Int.toNat_natCast, Int.toNat_natCast, if_pos hgt]
      · have hdg : decide (D t < D f + es[m].l - n * es[m].d) = false := decide_eq_false hgt
        repeat' (first | ((try clear hf); with_reducible refine zM fun env K hE hK hf => ?_; have n : _ ∧ _ ∧ _ ∧ _ ∧ _ ∧ _ ∧ _ ∧ _ ∧ _ ∧ _ := ⟨hE 0, hE 1, hE 2, hE 6, hE 7, hE 8, hE 9, hE 10, hE 11, hE 12⟩; simp -implicitDefEqProofs only [push_cast, reduceIte, Nat.reduceEqDiff, e0, e1, e2, e6, e7, e8, e9, e10, e11, e12] at n; clear hE e0 e1 e2 e6 e7 e8 e9 e10 e11 e12; obtain ⟨e0, e1, e2, e6, e7, e8, e9, e10, e11, e12⟩ := n) | (with_reducible refine hK _ _ ?_; clear hK K) | (with_reducible first | refine zJ ?_ | refine zU ?_ | refine zB ?_ | refine zG ?_ | refine zE ?_ | refine zL ?_ | refine zT ?_ | refine zD ?_ | refine zH ?_ | refine zV ?_ | refine zF ?_ | refine zA (by decide) ?_ | refine zP ?_ | refine zO ?_ | refine zK ?_ | refine yB ?_ | refine yC ?_ | refine zW (by assumption) ?_ | refine zY (by assumption) ?_) | (refine zI rfl ?_) | (simp -implicitDefEqProofs only [push_cast, sevalprocAttr, eq_self, e0, e1, e2, e6, e7, e8, e9, e10, e11, e12, hdm, hE.len, hb7, hr', hF.at, h0, h1, h2, h3, hw1, hw2, hw3, haf, hat, hpt, hdg]) | (simp -implicitDefEqProofs (disch := omega) only [zR, zZ, zS, zQ, e0, e1, e2, e6, e7, e8, e9, e10, e11, e12, hdm, hE.len, hb7, hr', hF.at, h0, h1, h2, h3, hw1, hw2, hw3, haf, hat, hpt, hdg]) | (with_reducible refine yE ?_ ?_) | (refine zN rfl (fun bb => ?_) (fun bb => ?_) <;> (first | have bp := of_decide_eq_true bb | have bp := of_decide_eq_false bb | skip) <;> simp only [bb]) | (with_reducible refine zX (fun bb => ?_) (fun bb => ?_) <;> (first | have bp := of_decide_eq_true bb | have bp := of_decide_eq_false bb | skip)) | ((with_reducible refine And.intro ?_ ?_); omega) | fail)
        refine ⟨_, ?_, m + 1, D, fl, rfl, E63_0_0.symm, E63_0_1.symm, E63_0_2.symm, E63_0_6.symm, E63_0_7.symm, E63_0_8.symm, by first | rfl | exact yG (by omega) | (simp -implicitDefEqProofs (disch := omega) only [zQ]; first | rfl | exact yG (by omega)), by first | rfl | exact yG (by omega) | (simp -implicitDefEqProofs (disch := omega) only [zQ]; first | rfl | exact yG (by omega)), ?_⟩
        · omega
        · refine ⟨by omega, rfl, ?_⟩
          rw [hst, fStep, hf', ht', Int.toNat_natCast, Int.toNat_natCast, if_neg hgt]
    have hdm : decide ((m : Int) < (es.length : Int)) = false := decide_eq_false (by omega)
    have hme : m = es.length := by omega
    rw [hme, List.take_length] at hS
    have hfR : fRound n es (rnds n es r) = (D, fl) := hS
    cases fl with
    | true =>
      have hgo : endsP es s n = true := by
        unfold endsP
        rw [show s + 1 = r + (s - r + 1) by omega, ends_at r _ hq, endsN, if_pos (by rw [hfR])]
      repeat' (first | ((try clear hf); with_reducible refine zM fun env K hE hK hf => ?_; have n : _ ∧ _ ∧ _ ∧ _ ∧ _ ∧ _ ∧ _ ∧ _ ∧ _ ∧ _ := ⟨hE 0, hE 1, hE 2, hE 6, hE 7, hE 8, hE 9, hE 10, hE 11, hE 12⟩; simp -implicitDefEqProofs only [push_cast, reduceIte, Nat.reduceEqDiff, e0, e1, e2, e6, e7, e8, e9, e10, e11, e12] at n; clear hE e0 e1 e2 e6 e7 e8 e9 e10 e11 e12; obtain ⟨e0, e1, e2, e6, e7, e8, e9, e10, e11, e12⟩ := n) | (with_reducible refine hK _ _ ?_; clear hK K) | (with_reducible first | refine zJ ?_ | refine zU ?_ | refine zB ?_ | refine zG ?_ | refine zE ?_ | refine zL ?_ | refine zT ?_ | refine zD ?_ | refine zH ?_ | refine zV ?_ | refine zF ?_ | refine zA (by decide) ?_ | refine zP ?_ | refine zO ?_ | refine zK ?_ | refine yB ?_ | refine yC ?_ | refine zW (by assumption) ?_ | refine zY (by assumption) ?_) | (refine zI rfl ?_) | (simp -implicitDefEqProofs only [push_cast, sevalprocAttr, eq_self, e0, e1, e2, e6, e7, e8, e9, e10, e11, e12, hdm, hgo, hE.len]) | (simp -implicitDefEqProofs (disch := omega) only [zR, zZ, zS, zQ, e0, e1, e2, e6, e7, e8, e9, e10, e11, e12, hdm, hgo, hE.len]) | (with_reducible refine yE ?_ ?_) | (refine zN rfl (fun bb => ?_) (fun bb => ?_) <;> (first | have bp := of_decide_eq_true bb | have bp := of_decide_eq_false bb | skip) <;> simp only [bb]) | (with_reducible refine zX (fun bb => ?_) (fun bb => ?_) <;> (first | have bp := of_decide_eq_true bb | have bp := of_decide_eq_false bb | skip)) | ((with_reducible refine And.intro ?_ ?_); omega) | fail)
    | false =>
      repeat' (first | ((try clear hf); with_reducible refine zM fun env K hE hK hf => ?_; have n : _ ∧ _ ∧ _ ∧ _ ∧ _ ∧ _ ∧ _ ∧ _ ∧ _ ∧ _ := ⟨hE 0, hE 1, hE 2, hE 6, hE 7, hE 8, hE 9, hE 10, hE 11, hE 12⟩; simp -implicitDefEqProofs only [push_cast, reduceIte, Nat.reduceEqDiff, e0, e1, e2, e6, e7, e8, e9, e10, e11, e12] at n; clear hE e0 e1 e2 e6 e7 e8 e9 e10 e11 e12; obtain ⟨e0, e1, e2, e6, e7, e8, e9, e10, e11, e12⟩ := n) | (with_reducible refine hK _ _ ?_; clear hK K) | (with_reducible first | refine zJ ?_ | refine zU ?_ | refine zB ?_ | refine zG ?_ | refine zE ?_ | refine zL ?_ | refine zT ?_ | refine zD ?_ | refine zH ?_ | refine zV ?_ | refine zF ?_ | refine zA (by decide) ?_ | refine zP ?_ | refine zO ?_ | refine zK ?_ | refine yB ?_ | refine yC ?_ | refine zW (by assumption) ?_ | refine zY (by assumption) ?_) | (refine zI rfl ?_) | (simp -implicitDefEqProofs only [push_cast, sevalprocAttr, eq_self, e0, e1, e2, e6, e7, e8, e9, e10, e11, e12, hdm, hE.len]) | (simp -implicitDefEqProofs (disch := omega) only [zR, zZ, zS, zQ, e0, e1, e2, e6, e7, e8, e9, e10, e11, e12, hdm, hE.len]) | (with_reducible refine yE ?_ ?_) | (refine zN rfl (fun bb => ?_) (fun bb => ?_) <;> (first | have bp := of_decide_eq_true bb | have bp := of_decide_eq_false bb | skip) <;> simp only [bb]) | (with_reducible refine zX (fun bb => ?_) (fun bb => ?_) <;> (first | have bp := of_decide_eq_true bb | have bp := of_decide_eq_false bb | skip)) | ((with_reducible refine And.intro ?_ ?_); omega) | fail)
      refine ⟨_, ?_, r + 1, rfl, E63_1_0.symm, E63_1_1.symm, E63_1_2.symm, E63_1_7.symm, by first | rfl | exact yG (by omega) | (simp -implicitDefEqProofs (disch := omega) only [zQ]; first | rfl | exact yG (by omega)), ?_⟩
      · omega
      · refine ⟨by omega, fun q hq' => ?_, by rw [hb7, rnds, hfR]⟩
        by_cases e : q = r
        · subst e; rw [hfR]
        · exact hq q (by omega)
  · have hd : decide ((r : Int) ≤ (s : Int)) = false := decide_eq_false (by omega)
    have hgo : endsP es s n = false := by
      have hre : s + 1 = r + 0 := by omega
      unfold endsP
      rw [hre, ends_at r 0 hq]; rfl
    repeat' (first | ((try clear hf); with_reducible refine zM fun env K hE hK hf => ?_; have n : _ ∧ _ ∧ _ ∧ _ ∧ _ ∧ _ ∧ _ ∧ _ ∧ _ ∧ _ := ⟨hE 0, hE 1, hE 2, hE 6, hE 7, hE 8, hE 9, hE 10, hE 11, hE 12⟩; simp -implicitDefEqProofs only [push_cast, reduceIte, Nat.reduceEqDiff, e0, e1, e2, e6, e7, e8, e9, e10, e11, e12] at n; clear hE e0 e1 e2 e6 e7 e8 e9 e10 e11 e12; obtain ⟨e0, e1, e2, e6, e7, e8, e9, e10, e11, e12⟩ := n) | (with_reducible refine hK _ _ ?_; clear hK K) | (with_reducible first | refine zJ ?_ | refine zU ?_ | refine zB ?_ | refine zG ?_ | refine zE ?_ | refine zL ?_ | refine zT ?_ | refine zD ?_ | refine zH ?_ | refine zV ?_ | refine zF ?_ | refine zA (by decide) ?_ | refine zP ?_ | refine zO ?_ | refine zK ?_ | refine yB ?_ | refine yC ?_ | refine zW (by assumption) ?_ | refine zY (by assumption) ?_) | (refine zI rfl ?_) | (simp -implicitDefEqProofs only [push_cast, sevalprocAttr, eq_self, e0, e1, e2, e6, e7, e8, e9, e10, e11, e12, hd, hgo]) | (simp -implicitDefEqProofs (disch := omega) only [zR, zZ, zS, zQ, e0, e1, e2, e6, e7, e8, e9, e10, e11, e12, hd, hgo]) | (with_reducible refine yE ?_ ?_) | (refine zN rfl (fun bb => ?_) (fun bb => ?_) <;> (first | have bp := of_decide_eq_true bb | have bp := of_decide_eq_false bb | skip) <;> simp only [bb]) | (with_reducible refine zX (fun bb => ?_) (fun bb => ?_) <;> (first | have bp := of_decide_eq_true bb | have bp := of_decide_eq_false bb | skip)) | ((with_reducible refine And.intro ?_ ?_); omega) | fail)
end Go.Proofs.Hx
