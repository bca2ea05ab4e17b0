import Derived.Test.YtcdibfkebojefaaG6
import Derived.Test.YtcdibfkebojefaaG5
set_option linter.unusedVariables false
set_option linter.unusedSimpArgs false
namespace Go.Proofs.Hx
open Go Go.Proofs
attribute [local irreducible] yS awp opK goV goM qC qD qI yY HV HVF HC
theorem sepV_new {a : AV} {i : Id} {o : Nat} {E : Nat} (ha : ∀ x, idOf a = some x → E < x.1) (hi : i.1 ≤ E) : sepV (.ptr i o) a = True := by
 simp only [sepV, eq_iff_iff, iff_true]
 split
 · rename_i x y h1 h2
   intro e
   have := ha y h2
   simp [idOf] at h1
   rw [h1, e] at hi
   omega
 · trivial
def jobD (l : List Opn) (t : Tab) (E : Nat) (x : AV) : List AV := .row (l.map opC) :: (tabC t ++ [.sl (E, 15) 0 l.length 1, .sl (E, 18) 0 l.length 1, x])
theorem jobD_14 (l : List Opn) (t : Tab) (E : Nat) (x : AV) : (jobD l t E x)[14]? = some (.sl (E, 15) 0 l.length 1) := rfl
theorem jobD_15 (l : List Opn) (t : Tab) (E : Nat) (x : AV) : (jobD l t E x)[15]? = some (.sl (E, 18) 0 l.length 1) := rfl
theorem jobD_len (l : List Opn) (t : Tab) (E : Nat) (x : AV) : (jobD l t E x).length = 17 := rfl
theorem jobD_one (l : List Opn) (t : Tab) (E : Nat) (x : AV) (hx : one x = true) : (jobD l t E x).all one = true := by
 show (true && (true && (true && (true && (true && (true && (true && (true && (true && (true && (true && (true && (true && (true && (true && (true && (one x && true)))))))))))))))))  = true
 rw [hx]; rfl
theorem jobD_set (l : List Opn) (t : Tab) (E : Nat) (x : AV) (y : AV) : (jobD l t E x).take 16 ++ [y] ++ (jobD l t E x).drop 17 = jobD l t E y := rfl
theorem inE_next (E : List Edg) (k : Nat) (x : Edg) {i : Nat} (hi : x.t = i) (htk : E.take (k + 1) = E.take k ++ [x]) : inE (E.take (k + 1)) = fun j => if j = i then inE (E.take k) i ++ [x] else inE (E.take k) j := by
 funext j
 rw [htk]
 unfold inE
 rw [List.filter_append]
 by_cases e : j = i
 · subst e
   simp [hi]
 · rw [if_neg e]
   have : ¬ (x.t = (j : Int)) := by omega
   simp [this]
set_option maxHeartbeats 1000000 in
theorem f78 {h0 : Hp} {l : List Opn} {t : Tab} (hl : ∀ o ∈ l, o.ok) (hR : errR l t = 0) :
 HC Try.prog 78 [.row (l.map opC), .agg (tabC t)] h0 fun r h' => ∃ E c R B, r = .ptr (E, 20) 0 ∧ h0.ep < E ∧ JobH h' E c R B l t (YF l t l.length) (List.replicate l.length (-1)) [] ∧ Ext h0 h' := by
 refine qH yZ cf78 (by simp) fun hF => ?_
 unfold ac78 re78
 refine yN fun env hE => ?_; have ee := cj15 hE 0 1 3 4 5 6 9 10 27 28 29 30 56 57 58; simp -implicitDefEqProofs only [push_cast] at ee; clear hE
 obtain ⟨ht, hn, hop⟩ := WP hR
 have hE := UO (l := l) ht l.length
 have hEl := WC l t l.length l.length (Nat.le_refl _)
 generalize hEq : YF l t l.length = E at hE hEl
 have hmul : 5 * l.length * l.length ≤ 5 * 1024 * 1024 := Nat.mul_le_mul (by omega) (by omega)
 repeat' (first | ((try clear hf); with_reducible refine yD fun env K hE hK hf => ?_; have n := cj15 hE 0 1 3 4 5 6 9 10 27 28 29 30 56 57 58; simp -implicitDefEqProofs only [push_cast, reduceIte, Nat.reduceEqDiff, ee] at n; clear hE ee; have ee := n; clear n) | (with_reducible first | (refine hK _ _ ?_; clear hK K) | (refine Zi ?_; constructor) | refine yB (by decide) ?_ | refine yH (by assumption) ?_ | refine yJ (by assumption) ?_) | (refine yC rfl ?_) | (simp -implicitDefEqProofs only [push_cast, sevalprocAttr, eq_self, ee, hF.at, qM, rep1]) | (simp (disch := omega) only [yF, yK, yG, yL, hF.at, rep1]) | ((first | refine yE rfl (fun bb => ?_) (fun bb => ?_) | with_reducible refine yI (fun bb => ?_) (fun bb => ?_)) <;> (first | have bp := oT bb | have bp := oF bb | skip) <;> try simp only [bb]) | ((with_reducible refine And.intro ?_ ?_); omega) | (with_reducible refine yM ?_ ?_))
 refine Eq.mpr (goV_congr (r' := some (.agg (jobD l t (h0.ep + 1 + 1 + 1) (.lit (.pointer none))))) (by rfl)) ?_
 repeat' (first | ((try clear hf); with_reducible refine yD fun env K hE hK hf => ?_; have n := cj15 hE 0 1 3 4 5 6 9 10 27 28 29 30 56 57 58; simp -implicitDefEqProofs only [push_cast, reduceIte, Nat.reduceEqDiff, ee] at n; clear hE ee; have ee := n; clear n) | (with_reducible first | (refine hK _ _ ?_; clear hK K) | (refine Zi ?_; constructor) | refine yB (by decide) ?_ | refine yH (by assumption) ?_ | refine yJ (by assumption) ?_) | (refine yC rfl ?_) | (simp -implicitDefEqProofs only [push_cast, sevalprocAttr, eq_self, ee, hF.at, qM, rep1, jobD_len, jobD_one]) | (simp (disch := omega) only [yF, yK, yG, yL, hF.at, rep1, jobD_len, jobD_one]) | ((first | refine yE rfl (fun bb => ?_) (fun bb => ?_) | with_reducible refine yI (fun bb => ?_) (fun bb => ?_)) <;> (first | have bp := oT bb | have bp := oF bb | skip) <;> try simp only [bb]) | ((with_reducible refine And.intro ?_ ?_); omega) | (refine qB (HC.mono (of_all hl) ?_); rintro r h1 ⟨hx, hr⟩ hF1; rcases hr with ⟨hr, _⟩ | ⟨_, out, hr, hO⟩; exact absurd hR hr; subst hr; rw [hEq] at hO; have hOl := hO.slo.len) | (with_reducible refine yM ?_ ?_))
 generalize hH : h0.ep + 1 + 1 + 1 = H at *
 have hx1 := hx.1
 simp only [qE, YJ, hH] at hx1
 have hbT : h1.hp (h0.ep + 1 + 1, 3) = some ⟨true, tabC t⟩ := by
  rw [hx.2 _ (by simp only [qE, YJ]; omega)]
  simp -implicitDefEqProofs only [push_cast, sevalprocAttr, eq_self]
 have hb15 : h1.hp (H, 15) = some ⟨true, List.replicate l.length AV.nil⟩ := by
  rw [hx.2 _ (by simp only [qE, YJ]; omega)]
  simp -implicitDefEqProofs only [push_cast, sevalprocAttr, eq_self]
 have hb18 : h1.hp (H, 18) = some ⟨true, List.replicate l.length (i64 0)⟩ := by
  rw [hx.2 _ (by simp only [qE, YJ]; omega)]
  simp -implicitDefEqProofs only [push_cast, sevalprocAttr, eq_self]
 have hb20 : h1.hp (H, 20) = some ⟨true, jobD l t H (.lit (.pointer none))⟩ := by
  rw [hx.2 _ (by simp only [qE, YJ]; omega)]
  simp -implicitDefEqProofs only [push_cast, sevalprocAttr, eq_self]
 have hx0 : Ext h0 h1 := Ext.tr (by repeat (first | exact Ext.refl _ | refine Ext.tick ?_ | refine Ext.push ?_ (by omega) _)) hx
 repeat' (first | ((try clear hf); with_reducible refine yD fun env K hE hK hf => ?_; have n := cj15 hE 0 1 3 4 5 6 9 10 27 28 29 30 56 57 58; simp -implicitDefEqProofs only [push_cast, reduceIte, Nat.reduceEqDiff, ee] at n; clear hE ee; have ee := n; clear n) | (with_reducible first | (refine hK _ _ ?_; clear hK K) | (refine Zi ?_; constructor) | refine yB (by decide) ?_ | refine yH (by assumption) ?_ | refine yJ (by assumption) ?_) | (refine yC rfl ?_) | (simp -implicitDefEqProofs only [push_cast, sevalprocAttr, eq_self, ee, hOl]) | (simp (disch := omega) only [yF, yK, yG, yL, hOl]) | ((first | refine yE rfl (fun bb => ?_) (fun bb => ?_) | with_reducible refine yI (fun bb => ?_) (fun bb => ?_)) <;> (first | have bp := oT bb | have bp := oF bb | skip) <;> try simp only [bb]) | ((with_reducible refine And.intro ?_ ?_); omega) | (with_reducible refine yM ?_ ?_))
 refine yN fun env hE => ?_; have n := cj15 hE 0 1 3 4 5 6 9 10 27 28 29 30 56 57 58; simp -implicitDefEqProofs only [push_cast, reduceIte, Nat.reduceEqDiff, ee] at n; clear hE ee; have ee := n; clear n; have E78_0 := ee; obtain ⟨e0, e1, e3, e4, e5, e6, e9, e10, e27, e28, e29, e30, e56, e57, e58⟩ := ee
 refine yT (fun nn σ => ∃ (k : Nat) (c : List AV), nn = E.length - k ∧ kp [0, 1, 3, 4, 5, 6, 27, 28] σ.env env ∧ σ.env 29 = i64 k ∧ (k ≤ E.length ∧ σ.h.hp (H, 15) = some ⟨true, c⟩ ∧ c.length = l.length ∧ RowsO edC 5 σ.h h1.ep c (inE (E.take k)) ∧ Fr1 (H, 15) h1 σ.h)) _ ⟨0, List.replicate l.length AV.nil, rfl, qG _ _, by refine e29.trans ?_; first | rfl | exact yO (by omega) | exact i64w (by omega), ?_⟩ ?_
 · refine ⟨by omega, hb15, by simp, ⟨fun i a hi => ?_, fun i j a b x hi hj hij hx => ?_⟩, (by repeat (first | assumption | exact Fr1.refl _ _ | refine Fr1.tick ?_ | refine Fr1.put ?_ _ | refine Fr1.push ?_ (by omega) _))⟩
   · rw [List.getElem?_replicate] at hi
     split at hi
     · cases hi; exact ⟨SlO.nil _ _ _, fun x hx => by simp [idOf] at hx⟩
     · cases hi
   · rw [List.getElem?_replicate] at hi
     split at hi
     · cases hi; simp [idOf] at hx
     · cases hi
 have hone : ∀ e, idOf out = some e → 0 < E.length → e ≠ (H, 15) := fun e he hp e2 => by
  obtain ⟨oe, os, hoe, hob, hol⟩ := hO.slo.blk hp
  rw [hoe] at he
  simp only [idOf, oI] at he
  rw [he, e2, hb15] at hob
  have h1 : List.replicate l.length AV.nil = E.flatMap edC := by injection (Option.some.inj hob)
  cases E with
  | nil => simp at hp
  | cons x E' =>
    have : i64 x.f ∈ List.replicate l.length AV.nil := by rw [h1]; simp [edC]
    rw [List.mem_replicate] at this
    exact AV.noConfusion this.2
 clear e0 e1 e3 e4 e5 e6 e9 e10 e27 e28 e29 e30 e56 e57 e58; rintro nn ⟨env, h2⟩ ⟨k, c, rfl, q, e29, hI⟩; simp only at e29 hI; simp only [kp, and_true, E78_0] at q; have ee : _ ∧ _ := ⟨e29, q⟩; clear e29 q
 obtain ⟨hk, hb, hcl, hrw, hfr⟩ := hI
 unfold l78_0
 (first | refine yQ fun hF => ?_ | refine yW fun hF => ?_ | refine yV fun hF => ?_)
 have hxe := hfr.ep
 have h14 := jobD_14 l t H (.lit (.pointer none))
 have h15 := jobD_15 l t H (.lit (.pointer none))
 by_cases hlt : k < E.length
 · have hd : decide ((k : Int) < (E.length : Int)) = true := by simp; omega
   obtain ⟨oe, os, hoe, hob, hol⟩ := hO.slo.blk (by omega)
   subst hoe
   have hon := hone (oe, os) rfl (by omega)
   replace hob := (hfr.hp _ hol hon).trans hob
   replace hb20 := (hfr.hp (H, 20) (by simp only; omega) (by simp)).trans hb20
   have hfl := uB qT E
   have hft := flat_take qT E hlt
   have hle : k * 5 + 5 ≤ (E.flatMap edC).length := by rw [hfl]; omega
   have hxo := hE _ (List.getElem_mem hlt)
   have htk : E.take (k + 1) = E.take k ++ [E[k]] := by rw [List.take_succ_eq_append_getElem hlt]
   generalize E[k] = x at *
   obtain ⟨x1, x2, x3, x4, x5⟩ := hxo
   obtain ⟨i, hi⟩ : ∃ i : Nat, x.t = i := ⟨x.t.toNat, by omega⟩
   have hca : c[i]? = some (c.getD i .nil) := by rw [gD, List.getElem?_eq_getElem (by omega)]; rfl
   generalize c.getD i .nil = a at hca
   obtain ⟨hra, hrx⟩ := hrw.get i a hca
   have hb40 : ((inE (E.take k) i).length + 1 + ((inE (E.take k) i).length + 1) / 4 + 512) * 40 ≤ 281474976710656 := by
    have h1 : (inE (E.take k) i).length ≤ (E.take k).length := by simpa [inE] using List.length_filter_le (fun e : Edg => decide (e.t = (i : Int))) (E.take k)
    have h2 := List.length_take_le k E
    omega
   have hk8 : ∀ (g : Hp) (s : Nat), (killA g a).hp (H, s) = g.hp (H, s) := fun g s => UQ _ _ (fun e => by have := hrx _ e; simp at this; omega)
   have hsp : sepV (.ptr (h2.ep + 1 + 1, 9) 1) a = True := sepV_old (E := h2.ep) (fun x hx => hra.id_le hx) (by show h2.ep < h2.ep + 1 + 1; omega)
   have hsq : sepV (.ptr (H, 20) 14) a = True := sepV_new hrx (by show H ≤ h1.ep; omega)
   have hset : ∀ v, c.take i ++ [v] ++ c.drop (i + 1) = c.set i v := fun v => set_cell c (by omega : i < c.length) v
   repeat' (first | ((try clear hf); with_reducible refine yD fun env K hE hK hf => ?_; have n := cj15 hE 0 1 3 4 5 6 9 10 27 28 29 30 56 57 58; simp -implicitDefEqProofs only [push_cast, reduceIte, Nat.reduceEqDiff, ee] at n; clear hE ee; have ee := n; clear n) | (with_reducible first | (refine hK _ _ ?_; clear hK K) | (refine Zi ?_; constructor) | refine yB (by decide) ?_ | refine yH (by assumption) ?_ | refine yJ (by assumption) ?_) | (refine yC rfl ?_) | (simp -implicitDefEqProofs only [push_cast, sevalprocAttr, eq_self, ee, hd, hF.at, qA, hob, hft, hb20, h14, hb, hca, hi, hk8, hset, one_sl, hsp, hsq]) | (simp (disch := omega) only [yF, yK, yG, yL, hF.at, qA, hb, hca, hi, hk8, hset, one_sl, hsp, hsq]) | (refine yE rfl (fun bb => ?_) (fun bb => ?_) <;> simp only [bb]) | (with_reducible refine yI (fun bb => ?_) (fun bb => ?_)) | ((with_reducible refine And.intro ?_ ?_); omega) | (refine goM_of _ _ ((hra.ext (by repeat' (first | exact Ext.refl _ | assumption | omega | (with_reducible (refine Eg ?_; constructor))))).app qT _ (by decide) (edC_one _) hb40) ?_) | (with_reducible refine yM ?_ ?_))
   refine ⟨_, ?_, k + 1, c.set i (.sl (h2.ep + 1 + 1 + 1, 49) 0 ((inE (E.take k) i).length + 1) 5), rfl, by simp -implicitDefEqProofs only [kp, push_cast, reduceIte, Nat.reduceEqDiff, ee, E78_0, and_self], by first | rfl | exact yO (by omega) | exact i64w (by omega), ?_⟩
   · omega
   · have hold : ∀ (p q : List AV) (y : Id), y.1 ≤ h2.ep → y ≠ (H, 15) → idOf a ≠ some y → ((((killA (((h2.tick.tick.push (h2.ep + 1 + 1, 9) p).put (h2.ep + 1 + 1, 9) (edC x)).tick.push (h2.ep + 1 + 1 + 1, 48) (edC x)) a).push (h2.ep + 1 + 1 + 1, 49) (List.flatMap edC (inE (List.take k E) i) ++ edC x)).put (H, 15) q).tick).hp y = h2.hp y := fun p q y hy hn ha => by
      rw [qK, YM _ _ _ _ hn, wE _ _ _ _ (fun e => by rw [e] at hy; simp only at hy; omega), UQ _ _ ha, wE _ _ _ _ (fun e => by rw [e] at hy; simp only at hy; omega), qK, YM _ _ _ _ (fun e => by rw [e] at hy; simp only at hy; omega), wE _ _ _ _ (fun e => by rw [e] at hy; simp only at hy; omega)]
      rfl
     refine ⟨by omega, rfl, by simpa using hcl, ?_, (by first | omega | (simp -implicitDefEqProofs only [push_cast, sevalprocAttr, eq_self]; first | done | omega)), fun y hy hn => (hold _ _ y (by omega) hn fun e => by have := hrx _ e; omega).trans (hfr.hp y hy hn)⟩
     rw [inE_next E k x hi htk]
     refine hrw.app hca (by show h2.ep < h2.ep + 1 + 1 + 1; omega) (by omega) x ?_ ?_ ?_ ?_
     · rw [qK, YM _ _ _ _ (by simp), qY]
     · exact (by first | omega | (simp -implicitDefEqProofs only [push_cast, sevalprocAttr, eq_self]; first | done | omega))
     · exact (by first | omega | (simp -implicitDefEqProofs only [push_cast, sevalprocAttr, eq_self]; first | done | omega))
     · rintro ⟨xe, xs⟩ hx1' hx2' hx3'
       simp only at hx1' hx2'
       exact hold _ _ (xe, xs) hx2' (fun e => by cases e; omega) hx3'
 · have hd : decide ((k : Int) < (E.length : Int)) = false := by simp; omega
   obtain rfl : k = E.length := by omega
   rw [List.take_length] at hrw
   have hb18 := (hfr.hp (H, 18) (by simp only; omega) (by simp)).trans hb18
   have hb20 := (hfr.hp (H, 20) (by simp only; omega) (by simp)).trans hb20
   have hbT := (hfr.hp (h0.ep + 1 + 1, 3) (by simp only; omega) (by simp)).trans hbT
   have hl18 := lenV_sl (H, 18) 0 l.length 1
   repeat' (first | ((try clear hf); with_reducible refine yD fun env K hE hK hf => ?_; have n := cj15 hE 0 1 3 4 5 6 9 10 27 28 29 30 56 57 58; simp -implicitDefEqProofs only [push_cast, reduceIte, Nat.reduceEqDiff, ee] at n; clear hE ee; have ee := n; clear n) | (with_reducible first | (refine hK _ _ ?_; clear hK K) | (refine Zi ?_; constructor) | refine yB (by decide) ?_ | refine yH (by assumption) ?_ | refine yJ (by assumption) ?_) | (refine yC rfl ?_) | (simp -implicitDefEqProofs only [push_cast, sevalprocAttr, eq_self, ee, hd, hF.at, hb20, h15, hl18]) | (simp (disch := omega) only [yF, yK, yG, yL, hF.at, hl18]) | ((first | refine yE rfl (fun bb => ?_) (fun bb => ?_) | with_reducible refine yI (fun bb => ?_) (fun bb => ?_)) <;> (first | have bp := oT bb | have bp := oF bb | skip) <;> try simp only [bb]) | ((with_reducible refine And.intro ?_ ?_); omega) | (with_reducible refine yM ?_ ?_))
   refine yN fun env hE => ?_; have n := cj15 hE 0 1 3 4 5 6 9 10 27 28 29 30 56 57 58; simp -implicitDefEqProofs only [push_cast, reduceIte, Nat.reduceEqDiff, ee] at n; clear hE ee; have ee := n; clear n; have E78_1 := ee; obtain ⟨e0, e1, e3, e4, e5, e6, e9, e10, e27, e28, e29, e30, e56, e57, e58⟩ := ee
   refine yT (fun nn σ => ∃ (k : Nat), nn = l.length - k ∧ kp [0, 1, 3, 4, 5, 6, 9, 27, 28, 29, 30, 56] σ.env env ∧ σ.env 57 = i64 k ∧ (k ≤ l.length ∧ σ.h.hp (H, 18) = some ⟨true, (List.replicate k (-1) ++ List.replicate (l.length - k) 0).map iC⟩ ∧ Fr1 (H, 18) h2 σ.h)) _ ⟨0, rfl, qG _ _, by refine e57.trans ?_; first | rfl | exact yO (by omega) | exact i64w (by omega), ?_⟩ ?_
   · refine ⟨by omega, ?_, (by repeat (first | assumption | exact Fr1.refl _ _ | refine Fr1.tick ?_ | refine Fr1.put ?_ _ | refine Fr1.push ?_ (by omega) _))⟩
     rw [List.replicate_zero, List.nil_append, ← rep_map]
     exact hb18
   clear e0 e1 e3 e4 e5 e6 e9 e10 e27 e28 e29 e30 e56 e57 e58; rintro nn ⟨env, h3⟩ ⟨k, rfl, q, e57, hI⟩; simp only at e57 hI; simp only [kp, and_true, E78_1] at q; have ee : _ ∧ _ := ⟨e57, q⟩; clear e57 q
   obtain ⟨hk, hb3, hfr3⟩ := hI
   unfold l78_1
   (first | refine yQ fun hF => ?_ | refine yW fun hF => ?_ | refine yV fun hF => ?_)
   have hxe3 := hfr3.ep
   have hb20 := (hfr3.hp (H, 20) (by simp only; omega) (by simp)).trans hb20
   have hbT := (hfr3.hp (h0.ep + 1 + 1, 3) (by simp only; omega) (by simp)).trans hbT
   by_cases hlt : k < l.length
   · have hd : decide ((k : Int) < (l.length : Int)) = true := by simp; omega
     have hset : ∀ v, ((List.replicate k (-1) ++ List.replicate (l.length - k) 0).map iC).take k ++ [AV.lit (.int .i64 v)] ++ ((List.replicate k (-1) ++ List.replicate (l.length - k) 0).map iC).drop (k + 1) = ((List.replicate k (-1) ++ List.replicate (l.length - k) 0).set k v).map iC := fun v => set_at iC _ (by simp; omega) v
     have hlen : ((List.replicate k (-1 : Int) ++ List.replicate (l.length - k) 0).map iC).length = l.length := by simp; omega
     repeat' (first | ((try clear hf); with_reducible refine yD fun env K hE hK hf => ?_; have n := cj15 hE 0 1 3 4 5 6 9 10 27 28 29 30 56 57 58; simp -implicitDefEqProofs only [push_cast, reduceIte, Nat.reduceEqDiff, ee] at n; clear hE ee; have ee := n; clear n) | (with_reducible first | (refine hK _ _ ?_; clear hK K) | (refine Zi ?_; constructor) | refine yB (by decide) ?_ | refine yH (by assumption) ?_ | refine yJ (by assumption) ?_) | (refine yC rfl ?_) | (simp -implicitDefEqProofs only [push_cast, sevalprocAttr, eq_self, ee, hd, hF.at, hb20, h15, hb3, hset, hlen]) | (simp (disch := omega) only [yF, yK, yG, yL, hF.at, hset]) | ((first | refine yE rfl (fun bb => ?_) (fun bb => ?_) | with_reducible refine yI (fun bb => ?_) (fun bb => ?_)) <;> (first | have bp := oT bb | have bp := oF bb | skip) <;> try simp only [bb]) | ((with_reducible refine And.intro ?_ ?_); omega) | (with_reducible refine yM ?_ ?_))
     refine ⟨_, ?_, k + 1, rfl, by simp -implicitDefEqProofs only [kp, push_cast, reduceIte, Nat.reduceEqDiff, ee, E78_1, and_self], by first | rfl | exact yO (by omega) | exact i64w (by omega), ?_⟩
     · omega
     · have hsetk : (List.replicate k (-1 : Int) ++ List.replicate (l.length - k) 0).set k (-1) = List.replicate (k + 1) (-1) ++ List.replicate (l.length - (k + 1)) 0 := by
        rw [List.set_append_right _ _ (by simp), List.length_replicate, Nat.sub_self, List.replicate_succ', List.append_assoc]
        congr 1
        rw [show l.length - k = (l.length - (k + 1)) + 1 by omega, List.replicate_succ]
        rfl
       exact ⟨by omega, by rw [hsetk], (((hfr3.tick.tick.tick).put _).tick)⟩
   · have hd : decide ((k : Int) < (l.length : Int)) = false := by simp; omega
     obtain rfl : k = l.length := by omega
     repeat' (first | ((try clear hf); with_reducible refine yD fun env K hE hK hf => ?_; have n := cj15 hE 0 1 3 4 5 6 9 10 27 28 29 30 56 57 58; simp -implicitDefEqProofs only [push_cast, reduceIte, Nat.reduceEqDiff, ee] at n; clear hE ee; have ee := n; clear n) | (with_reducible first | (refine hK _ _ ?_; clear hK K) | (refine Zi ?_; constructor) | refine yB (by decide) ?_ | refine yH (by assumption) ?_ | refine yJ (by assumption) ?_) | (refine yC rfl ?_) | (simp -implicitDefEqProofs only [push_cast, sevalprocAttr, eq_self, ee, hd, hF.at, hb20, hbT]) | (simp (disch := omega) only [yF, yK, yG, yL, hF.at]) | ((first | refine yE rfl (fun bb => ?_) (fun bb => ?_) | with_reducible refine yI (fun bb => ?_) (fun bb => ?_)) <;> (first | have bp := oT bb | have bp := oF bb | skip) <;> try simp only [bb]) | ((with_reducible refine And.intro ?_ ?_); omega) | (refine qB (HC.mono (f106 t ht) ?_); rintro r h4 ⟨R, B, rfl, hrs, hRl, hBl, hx4⟩ hF4) | (with_reducible refine yM ?_ ?_))
     have hx4' : Ext h3 h4 := ⟨by have := hx4.1; simp only [qE] at this; omega, fun y hy => hx4.2 y (by simp only [qE]; omega)⟩
     have hb20' := (hx4'.2 (H, 20) (by simp only; omega)).trans hb20
     have hle : ∀ x, (jobD l t H x).length = 17 := jobD_len l t H
     repeat' (first | ((try clear hf); with_reducible refine yD fun env K hE hK hf => ?_; have n := cj15 hE 0 1 3 4 5 6 9 10 27 28 29 30 56 57 58; simp -implicitDefEqProofs only [push_cast, reduceIte, Nat.reduceEqDiff, ee] at n; clear hE ee; have ee := n; clear n) | (with_reducible first | (refine hK _ _ ?_; clear hK K) | (refine Zi ?_; constructor) | refine yB (by decide) ?_ | refine yH (by assumption) ?_ | refine yJ (by assumption) ?_) | (refine yC rfl ?_) | (simp -implicitDefEqProofs only [push_cast, sevalprocAttr, eq_self, ee, hb20', jobD_set, hle]) | (simp (disch := omega) only [yF, yK, yG, yL, hb20', jobD_set, hle]) | ((first | refine yE rfl (fun bb => ?_) (fun bb => ?_) | with_reducible refine yI (fun bb => ?_) (fun bb => ?_)) <;> (first | have bp := oT bb | have bp := oF bb | skip) <;> try simp only [bb]) | ((with_reducible refine And.intro ?_ ?_); omega) | (with_reducible refine yM ?_ ?_))
     have hall : ∀ y : Id, y.1 ≤ h1.ep → y ≠ (H, 15) → y ≠ (H, 18) → y ≠ (H, 20) → h4.hp y = h1.hp y := fun y h1' h2' h3' h4'' => by
      rw [hx4'.2 y (by omega), hfr3.hp y (by omega) h3', hfr.hp y h1' h2']
     have h4e : h3.ep ≤ h4.ep := hx4'.1
     have hRl' : h3.ep < R.1 := by simp only [qE] at hRl; omega
     have hBl' : h3.ep < B.1 := by simp only [qE] at hBl; omega
     have hn20 : ∀ y : Id, y ≠ (H, 20) → ((h4.tick.put (H, 20) (jobD l t H (.ptr R 0))).tick).hp y = h4.hp y := fun y hy => by rw [qK, YM _ _ _ _ hy, qK]
     have hge : ((h4.tick.put (H, 20) (jobD l t H (.ptr R 0))).tick).ep = h4.ep + 1 + 1 := rfl
     refine ⟨H, c, R, B, rfl, by omega, ⟨by rw [qK, wS]; rfl, ?_, ?_, hcl, by simp, ?_, ?_, by omega, by omega⟩, ⟨by omega, fun y hy => ?_⟩⟩
     · rw [hn20 _ (by simp), hx4'.2 (H, 15) (by simp only; omega), hfr3.hp (H, 15) (by simp only; omega) (by simp)]
       exact hb
     · rw [hn20 _ (by simp), hx4'.2 (H, 18) (by simp only; omega), hb3]
       simp
     · have := hrw.keep (g := (h4.tick.put (H, 20) (jobD l t H (.ptr R 0))).tick) (fun x hx1 hx2 => by
        rw [hn20 _ (fun e => by rw [e] at hx1; simp only at hx1; omega), hx4'.2 x (by omega), hfr3.hp x hx2 (fun e => by rw [e] at hx1; simp only at hx1; omega)]) (by omega)
       exact ⟨fun i a hi => ⟨(this.get i a hi).1, fun x hx => by have := (this.get i a hi).2 x hx; omega⟩, this.sep⟩
     · exact hrs.keep (hn20 _ (fun e => by rw [e] at hRl'; simp only at hRl'; omega)) rfl (by omega)
     · rw [hn20 _ (fun e => by rw [e] at hy; simp only at hy; omega), hall y (by omega) (fun e => by rw [e] at hy; simp only at hy; omega) (fun e => by rw [e] at hy; simp only at hy; omega) (fun e => by rw [e] at hy; simp only at hy; omega)]
       exact hx0.2 y hy
def useN (l : List Opn) (t : Tab) (cs : List Int) : Nat → Int → Int → Int
 | 0, _, _ => 0
 | k + 1, c, y => useN l t cs k c y + if c = (clsN (opAt l k) : Int) ∧ cs.getD k 0 ≤ y ∧ y < cs.getD k 0 + t.b (clsN (opAt l k)) then 1 else 0
theorem useN_bnd (l : List Opn) (t : Tab) (cs : List Int) : ∀ (k : Nat) (c y : Int), 0 ≤ useN l t cs k c y ∧ useN l t cs k c y ≤ k
 | 0, c, y => by simp [useN]
 | k + 1, c, y => by
   have := useN_bnd l t cs k c y
   simp only [useN]
   split <;> omega
def roomK (l : List Opn) (t : Tab) (cs : List Int) (k : Nat) : Prop := ∀ j : Nat, (j : Int) < t.b (clsN (opAt l k)) → useN l t cs k (clsN (opAt l k)) (cs.getD k 0 + j) + 1 ≤ t.u (clsN (opAt l k))
def checkP (l : List Opn) (t : Tab) (cs : List Int) : Prop := errR l t = 0 ∧ WW l t = false ∧ cs.length = l.length ∧ (∀ x ∈ cs, 0 ≤ x ∧ x ≤ 65536) ∧ ∀ k < l.length, YK (inE (YF l t l.length) k) cs (cs.getD k 0) = true ∧ roomK l t cs k
open Classical in
noncomputable def WH (l : List Opn) (t : Tab) (cs : List Int) : Bool := decide (checkP l t cs)
open Classical in
theorem checkB_t {l : List Opn} {t : Tab} {cs : List Int} (h : checkP l t cs) : WH l t cs = true := by unfold WH; exact dT h
open Classical in
theorem UV {l : List Opn} {t : Tab} {cs : List Int} (h : ¬ checkP l t cs) : WH l t cs = false := by unfold WH; exact dF h
theorem JobH.setc {h g : Hp} {E : Nat} {c : List AV} {R B : Id} {l : List Opn} {t : Tab} {ES : List Edg} {cs cs' : List Int} {m : List ((Int × Int) × Int)} (j : JobH h E c R B l t ES cs m) (hg : g.hp (E, 18) = some ⟨true, cs'.map iC⟩) (hl : cs'.length = cs.length)
 (hx : ∀ y : Id, y.1 ≤ h.ep → y ≠ (E, 18) → g.hp y = h.hp y) (hm : g.mp B = h.mp B) (he : h.ep ≤ g.ep) : JobH g E c R B l t ES cs' m :=
 ⟨(hx _ j.lE (by simp)).trans j.hj, (hx _ j.lE (by simp)).trans j.hr, hg, j.lc, hl.trans j.ls, j.rw.keep (fun x h1 h2 => hx x h2 (fun e => by rw [e] at h1; simp only at h1; omega)) he,
   j.rs.keep (hx _ j.rs.le (fun e => by have := j.lR; rw [e] at this; simp only at this; omega)) hm he, j.lR, Nat.le_trans j.lE he⟩
theorem JobH.took {h g : Hp} {E : Nat} {c : List AV} {R B : Id} {l : List Opn} {t : Tab} {ES : List Edg} {cs : List Int} {m m' : List ((Int × Int) × Int)} (j : JobH h E c R B l t ES cs m) (he : Ext h g) (hr : RsvH g R B t m') : JobH g E c R B l t ES cs m' :=
 ⟨(he.2 _ j.lE).trans j.hj, (he.2 _ j.lE).trans j.hr, (he.2 _ j.lE).trans j.hc, j.lc, j.ls, j.rw.ext he, hr, j.lR, Nat.le_trans j.lE he.1⟩
def CycA (a : AV) (cs : List Int) : Prop := a = .row (cs.map intC) ∨ (a = .nil ∧ cs = [])
theorem CycA.row (cs : List Int) : CycA (.row (cs.map intC)) cs := .inl rfl
theorem CycA.imm {a : AV} {cs : List Int} (h : CycA a cs) : imm a = true := by
 rcases h with rfl | ⟨rfl, rfl⟩
 · simp [Hx.imm, uL]
 · rfl
theorem CycA.len {a : AV} {cs : List Int} (h : CycA a cs) : lenV a = some (.lit (.int .i64 (cs.length : Int))) := by
 rcases h with rfl | ⟨rfl, rfl⟩
 · exact qM _ _
 · exact lenV_nil
theorem CycA.at {a : AV} {cs : List Int} (h : CycA a cs) {k : Nat} (hk : k < cs.length) : YI none 1 a (i64 k) = some (.ip [i64 (cs.getD k 0)]) := by
 rcases h with rfl | ⟨rfl, rfl⟩
 · exact int_at hk .i64
 · simp at hk
theorem chk_T (t : Tab) {h1 : Hp} (hx : Ext (emp.tick.tick.push (2, 4) (tabC t)).tick h1) : h1.hp (2, 4) = some ⟨true, tabC t⟩ := by
 rw [hx.2 (2, 4) (Nat.le_succ 2), qK, qY]
set_option maxHeartbeats 1000000 in
theorem f46 (l : List Opn) (t : Tab) (cs : List Int) (hl : ∀ o ∈ l, o.ok) (hcn : cs.length ≤ 100000000000000) {ca : AV} (hca : CycA ca cs) :
 HV Try.prog 46 [.row (l.map opC), .agg (tabC t), ca] (bl (WH l t cs)) := by
 refine yX yZ cf46 (by simp) (by simp [imms, imm, wJ, qO, hca.imm]) ?_ rfl
 have hcl := hca.len
 unfold ac46 re46
 refine yN fun env hE => ?_; have ee := cj19 hE 0 1 2 4 6 8 9 10 11 12 13 37 38 39 40 58 59 60 61; simp -implicitDefEqProofs only [push_cast] at ee; clear hE
 by_cases hR : errR l t = 0
 · obtain ⟨ht, hn, hop⟩ := WP hR
   have hbT := hR
   by_cases hlk : WW l t = false
   · by_cases hln : cs.length = l.length
     · have hE := UO (l := l) ht l.length
       have hEl := WC l t l.length l.length (Nat.le_refl _)
       have hdn : decide (¬ (cs.length : Int) = (l.length : Int)) = false := dF (by omega)
       repeat' (first | ((try clear hf); with_reducible refine yD fun env K hE hK hf => ?_; have n := cj19 hE 0 1 2 4 6 8 9 10 11 12 13 37 38 39 40 58 59 60 61; simp -implicitDefEqProofs only [push_cast, reduceIte, Nat.reduceEqDiff, ee] at n; clear hE ee; have ee := n; clear n) | (with_reducible first | (refine hK _ _ ?_; clear hK K) | (refine Zi ?_; constructor) | refine yB (by decide) ?_ | refine yH (by assumption) ?_ | refine yJ (by assumption) ?_) | (refine yC rfl ?_) | (simp -implicitDefEqProofs only [push_cast, sevalprocAttr, eq_self, ee, qM, hcl, hbT, hlk, hdn]) | (simp (disch := omega) only [yF, yK, yG, yL, hdn]) | ((first | refine yE rfl (fun bb => ?_) (fun bb => ?_) | with_reducible refine yI (fun bb => ?_) (fun bb => ?_)) <;> (first | have bp := oT bb | have bp := oF bb | skip) <;> try simp only [bb]) | ((with_reducible refine And.intro ?_ ?_); omega) | (refine qB (HC.mono (of_all hl) ?_); rintro r h1 ⟨hx, hr⟩ hF1; obtain ⟨_, out, hr, hO⟩ := hr.resolve_left (fun h => h.1 hR); subst hr; have hbT := chk_T t hx) | (refine yP (f77 l t hn) ?_) | (refine qB (HC.mono (f78 hl hR) ?_); rintro r h2 ⟨E, c, R, B, rfl, hEp, j, hx2⟩ hF2) | (with_reducible refine yM ?_ ?_))
       generalize hES : YF l t l.length = ES at *
       refine yN fun env hE => ?_; have n := cj19 hE 0 1 2 4 6 8 9 10 11 12 13 37 38 39 40 58 59 60 61; simp -implicitDefEqProofs only [push_cast, reduceIte, Nat.reduceEqDiff, ee] at n; clear hE ee; have ee := n; clear n; have E46_0 := ee; obtain ⟨e0, e1, e2, e4, e6, e8, e9, e10, e11, e12, e13, e37, e38, e39, e40, e58, e59, e60, e61⟩ := ee
       refine yT (fun nn σ => ∃ (k : Nat), nn = cs.length - k ∧ kp [0, 1, 2, 4, 8, 9, 37, 38] σ.env env ∧ σ.env 39 = i64 k ∧ (k ≤ cs.length ∧ (∀ x ∈ cs.take k, 0 ≤ x ∧ x ≤ 65536) ∧ JobH σ.h E c R B l t ES (cs.take k ++ List.replicate (l.length - k) (-1)) [])) _ ⟨0, rfl, qG _ _, by refine e39.trans ?_; first | rfl | exact yO (by omega) | exact i64w (by omega), ?_⟩ ?_
       · refine ⟨by omega, by simp, ?_⟩
         rw [List.take_zero, List.nil_append, Nat.sub_zero]
         exact j.ext (by repeat' (first | exact Ext.refl _ | assumption | omega | (with_reducible (refine Eg ?_; constructor)))) rfl
       clear hF1 hF2 hx2 hx
       clear j
       clear e0 e1 e2 e4 e6 e8 e9 e10 e11 e12 e13 e37 e38 e39 e40 e58 e59 e60 e61; rintro nn ⟨env, h3⟩ ⟨k, rfl, q, e39, hI⟩; simp only at e39 hI; simp only [kp, and_true, E46_0] at q; have ee : _ ∧ _ := ⟨e39, q⟩; clear e39 q
       obtain ⟨hk, hin, j⟩ := hI
       unfold l46_0
       (first | refine yQ fun hF => ?_ | refine yW fun hF => ?_ | refine yV fun hF => ?_)
       by_cases hlt : k < cs.length
       · have hd : decide ((k : Int) < (cs.length : Int)) = true := dT (by omega)
         have hr := hca.at hlt
         have htk : cs.take (k + 1) = cs.take k ++ [cs.getD k 0] := by rw [List.take_succ_eq_append_getElem hlt, gD, List.getElem?_eq_getElem hlt]; rfl
         have hmem : cs.getD k 0 ∈ cs := by rw [gD, List.getElem?_eq_getElem hlt]; exact List.getElem_mem hlt
         generalize hv : cs.getD k 0 = v at *
         by_cases hok : 0 ≤ v ∧ v ≤ 65536
         · have d1 : decide (v < 0) = false := dF (by omega)
           have d2 : decide (65536 < v) = false := dF (by omega)
           have hj := j.hj
           have hc := j.hc
           have h15 := jobC_15 l t E R
           have hset : ∀ v, ((cs.take k ++ List.replicate (l.length - k) (-1)).map iC).take k ++ [AV.lit (.int .i64 v)] ++ ((cs.take k ++ List.replicate (l.length - k) (-1)).map iC).drop (k + 1) = ((cs.take k ++ List.replicate (l.length - k) (-1)).set k v).map iC := fun v => set_at iC _ (by simp; omega) v
           have hlen : ((cs.take k ++ List.replicate (l.length - k) (-1)).map iC).length = l.length := by simp; omega
           have hkl : (k : Int) < (l.length : Int) := by omega
           repeat' (first | ((try clear hf); with_reducible refine yD fun env K hE hK hf => ?_; have n := cj19 hE 0 1 2 4 6 8 9 10 11 12 13 37 38 39 40 58 59 60 61; simp -implicitDefEqProofs only [push_cast, reduceIte, Nat.reduceEqDiff, ee] at n; clear hE ee; have ee := n; clear n) | (with_reducible first | (refine hK _ _ ?_; clear hK K) | (refine Zi ?_; constructor) | refine yB (by decide) ?_ | refine yH (by assumption) ?_ | refine yJ (by assumption) ?_) | (refine yC rfl ?_) | (simp -implicitDefEqProofs only [push_cast, sevalprocAttr, eq_self, ee, hd, hF.at, hr, d1, d2, hj, h15, hc, hset, hlen]) | (simp (disch := omega) only [yF, yK, yG, yL, hF.at, hset]) | ((first | refine yE rfl (fun bb => ?_) (fun bb => ?_) | with_reducible refine yI (fun bb => ?_) (fun bb => ?_)) <;> (first | have bp := oT bb | have bp := oF bb | skip) <;> try simp only [bb]) | ((with_reducible refine And.intro ?_ ?_); omega) | (with_reducible refine yM ?_ ?_))
           refine ⟨_, ?_, k + 1, rfl, by simp -implicitDefEqProofs only [kp, push_cast, reduceIte, Nat.reduceEqDiff, ee, E46_0, and_self], by first | rfl | exact yO (by omega) | exact i64w (by omega), ?_⟩
           · omega
           · have hsetk : (cs.take k ++ List.replicate (l.length - k) (-1)).set k v = cs.take (k + 1) ++ List.replicate (l.length - (k + 1)) (-1) := by
              rw [List.set_append_right _ _ (by simp; omega), htk, List.append_assoc, List.length_take, show k - min k cs.length = 0 by omega]
              congr 1
              rw [show l.length - k = (l.length - (k + 1)) + 1 by omega, List.replicate_succ]
              rfl
             refine ⟨by omega, ?_, ?_⟩
             · rw [htk]
               intro x hx
               simp only [List.mem_append, List.mem_singleton] at hx
               rcases hx with hx | hx
               · exact hin x hx
               · subst hx; exact hok
             · rw [← hsetk]
               refine j.setc ?_ (by simp) (fun y hy hn => ?_) rfl (by first | omega | (simp -implicitDefEqProofs only [push_cast, sevalprocAttr, eq_self]; first | done | omega))
               · rw [qK, wS]
               · rw [qK, YM _ _ _ _ hn]
                 rfl
         · have hE : WH l t cs = false := UV fun h => hok (h.2.2.2.1 v hmem)
           by_cases hv0 : v < 0
           · have d1 : decide (v < 0) = true := dT hv0
             repeat' (first | ((try clear hf); with_reducible refine yD fun env K hE hK hf => ?_; have n := cj19 hE 0 1 2 4 6 8 9 10 11 12 13 37 38 39 40 58 59 60 61; simp -implicitDefEqProofs only [push_cast, reduceIte, Nat.reduceEqDiff, ee] at n; clear hE ee; have ee := n; clear n) | (with_reducible first | (refine hK _ _ ?_; clear hK K) | (refine Zi ?_; constructor) | refine yB (by decide) ?_ | refine yH (by assumption) ?_ | refine yJ (by assumption) ?_) | (refine yC rfl ?_) | (simp -implicitDefEqProofs only [push_cast, sevalprocAttr, eq_self, ee, hd, hF.at, hr, d1, hE]) | (simp (disch := omega) only [yF, yK, yG, yL, hF.at]) | ((first | refine yE rfl (fun bb => ?_) (fun bb => ?_) | with_reducible refine yI (fun bb => ?_) (fun bb => ?_)) <;> (first | have bp := oT bb | have bp := oF bb | skip) <;> try simp only [bb]) | ((with_reducible refine And.intro ?_ ?_); omega) | (with_reducible refine yM ?_ ?_))
           · have d1 : decide (v < 0) = false := dF hv0
             have d2 : decide (65536 < v) = true := dT (by omega)
             repeat' (first | ((try clear hf); with_reducible refine yD fun env K hE hK hf => ?_; have n := cj19 hE 0 1 2 4 6 8 9 10 11 12 13 37 38 39 40 58 59 60 61; simp -implicitDefEqProofs only [push_cast, reduceIte, Nat.reduceEqDiff, ee] at n; clear hE ee; have ee := n; clear n) | (with_reducible first | (refine hK _ _ ?_; clear hK K) | (refine Zi ?_; constructor) | refine yB (by decide) ?_ | refine yH (by assumption) ?_ | refine yJ (by assumption) ?_) | (refine yC rfl ?_) | (simp -implicitDefEqProofs only [push_cast, sevalprocAttr, eq_self, ee, hd, hF.at, hr, d1, d2, hE]) | (simp (disch := omega) only [yF, yK, yG, yL, hF.at]) | ((first | refine yE rfl (fun bb => ?_) (fun bb => ?_) | with_reducible refine yI (fun bb => ?_) (fun bb => ?_)) <;> (first | have bp := oT bb | have bp := oF bb | skip) <;> try simp only [bb]) | ((with_reducible refine And.intro ?_ ?_); omega) | (with_reducible refine yM ?_ ?_))
       · have hd : decide ((k : Int) < (cs.length : Int)) = false := dF (by omega)
         obtain rfl : k = cs.length := by omega
         rw [List.take_length] at hin
         rw [List.take_length, hln, Nat.sub_self, List.replicate_zero, List.append_nil] at j
         have hu := useN_bnd l t cs
         repeat' (first | ((try clear hf); with_reducible refine yD fun env K hE hK hf => ?_; have n := cj19 hE 0 1 2 4 6 8 9 10 11 12 13 37 38 39 40 58 59 60 61; simp -implicitDefEqProofs only [push_cast, reduceIte, Nat.reduceEqDiff, ee] at n; clear hE ee; have ee := n; clear n) | (with_reducible first | (refine hK _ _ ?_; clear hK K) | (refine Zi ?_; constructor) | refine yB (by decide) ?_ | refine yH (by assumption) ?_ | refine yJ (by assumption) ?_) | (refine yC rfl ?_) | (simp -implicitDefEqProofs only [push_cast, sevalprocAttr, eq_self, ee, hd, hF.at, qM, hcl]) | (simp (disch := omega) only [yF, yK, yG, yL, hF.at]) | ((first | refine yE rfl (fun bb => ?_) (fun bb => ?_) | with_reducible refine yI (fun bb => ?_) (fun bb => ?_)) <;> (first | have bp := oT bb | have bp := oF bb | skip) <;> try simp only [bb]) | ((with_reducible refine And.intro ?_ ?_); omega) | (with_reducible refine yM ?_ ?_))
         refine yN fun env hE => ?_; have n := cj19 hE 0 1 2 4 6 8 9 10 11 12 13 37 38 39 40 58 59 60 61; simp -implicitDefEqProofs only [push_cast, reduceIte, Nat.reduceEqDiff, ee] at n; clear hE ee; have ee := n; clear n; have E46_1 := ee; obtain ⟨e0, e1, e2, e4, e6, e8, e9, e10, e11, e12, e13, e37, e38, e39, e40, e58, e59, e60, e61⟩ := ee
         refine yT (fun nn σ => ∃ (k : Nat) (m : List ((Int × Int) × Int)), nn = l.length - k ∧ kp [0, 1, 2, 4, 8, 9, 10, 11, 37, 38, 39, 40, 58, 59] σ.env env ∧ σ.env 60 = i64 k ∧ (k ≤ l.length ∧ (∀ i < k, YK (inE ES i) cs (cs.getD i 0) = true ∧ roomK l t cs i) ∧ (∀ c y, cntM m c y = useN l t cs k c y) ∧ JobH σ.h E c R B l t ES cs m)) _ ⟨0, [], rfl, qG _ _, by refine e60.trans ?_; first | rfl | exact yO (by omega) | exact i64w (by omega), ?_⟩ ?_
         · exact ⟨by omega, fun i hi => by omega, fun _ _ => rfl, j.ext (by repeat' (first | exact Ext.refl _ | assumption | omega | (with_reducible (refine Eg ?_; constructor)))) rfl⟩
         clear j
         clear e0 e1 e2 e4 e6 e8 e9 e10 e11 e12 e13 e37 e38 e39 e40 e58 e59 e60 e61; rintro nn ⟨env, h4⟩ ⟨k, m, rfl, q, e60, hI⟩; simp only at e60 hI; simp only [kp, and_true, E46_1] at q; have ee : _ ∧ _ := ⟨e60, q⟩; clear e60 q
         obtain ⟨hk, hall, hcnt, j⟩ := hI
         unfold l46_1
         (first | refine yQ fun hF => ?_ | refine yW fun hF => ?_ | refine yV fun hF => ?_)
         by_cases hlt : k < l.length
         · have hd : decide ((k : Int) < (cs.length : Int)) = true := dT (by omega)
           have hr := hca.at (k := k) (by omega)
           have hro := qS hlt .i64
           have hc4 := wF l[k]
           have hop := qR hlt
           have hmul : 5 * l.length * l.length ≤ 5 * 1024 * 1024 := Nat.mul_le_mul (by omega) (by omega)
           have hj := j.hj
           have h16 := jobC_16 l t E R
           have hmem : cs.getD k 0 ∈ cs := by rw [gD, List.getElem?_eq_getElem (by omega)]; exact List.getElem_mem _
           have hroom : roomP t m (clsN l[k]) (cs.getD k 0) ↔ roomK l t cs k := by
            have := hin _ hmem
            unfold roomP roomK
            rw [hop]
            simp only [hcnt]
            exact ⟨fun h => h.2.2, fun h => ⟨this.1, this.2, h⟩⟩
           by_cases hth : YK (inE ES k) cs (cs.getD k 0) = true
           · by_cases hrm : roomP t m (clsN l[k]) (cs.getD k 0)
             · have hrb := roomB_t hrm
               repeat' (first | ((try clear hf); with_reducible refine yD fun env K hE hK hf => ?_; have n := cj19 hE 0 1 2 4 6 8 9 10 11 12 13 37 38 39 40 58 59 60 61; simp -implicitDefEqProofs only [push_cast, reduceIte, Nat.reduceEqDiff, ee] at n; clear hE ee; have ee := n; clear n) | (with_reducible first | (refine hK _ _ ?_; clear hK K) | (refine Zi ?_; constructor) | refine yB (by decide) ?_ | refine yH (by assumption) ?_ | refine yJ (by assumption) ?_) | (refine yC rfl ?_) | (simp -implicitDefEqProofs only [push_cast, sevalprocAttr, eq_self, ee, hd, hF.at, hr, hro, hj, h16, hth, hrb]) | (simp (disch := omega) only [yF, yK, yG, yL, hF.at]) | ((first | refine yE rfl (fun bb => ?_) (fun bb => ?_) | with_reducible refine yI (fun bb => ?_) (fun bb => ?_)) <;> (first | have bp := oT bb | have bp := oF bb | skip) <;> try simp only [bb]) | ((with_reducible refine And.intro ?_ ?_); omega) | (refine qB (HC.mono (f79 (R := R) (B := B) (c := c) (ES := ES) (cs := cs) (m := m) (i := k) (y := cs.getD k 0) (by exact j.ext (by repeat' (first | exact Ext.refl _ | assumption | omega | (with_reducible (refine Eg ?_; constructor)))) rfl) hlt hE (fun x hx => by have := hin x hx; omega) (by omega)) ?_); rintro r g ⟨rfl, j2, hx2⟩ hF2; have hj := j2.hj) | (refine WF (f81 _) ?_) | (refine qB (HC.mono (f80 (R := R) (B := B) (t := t) (m := m) (c := clsN l[k]) (y := cs.getD k 0) (by exact j2.rs.ext (by repeat' (first | exact Ext.refl _ | assumption | omega | (with_reducible (refine Eg ?_; constructor)))) rfl) ht hc4 (fun c y => by rw [hcnt]; have := hu k c y; omega)) ?_); rintro r g2 ⟨rfl, ⟨m', hr2, hm1, hm2⟩, hx3⟩ hF3) | (with_reducible refine yM ?_ ?_))
               refine ⟨_, ?_, k + 1, m', rfl, by simp -implicitDefEqProofs only [kp, push_cast, reduceIte, Nat.reduceEqDiff, ee, E46_1, and_self], by first | rfl | exact yO (by omega) | exact i64w (by omega), ?_⟩
               · omega
               · have hx4 : Ext g g2 := ⟨by have := hx3.1; simp only [qE] at this; omega, fun y hy => hx3.2 y (by simp only [qE]; omega)⟩
                 refine ⟨by omega, fun i hi => ?_, fun c' y' => ?_, (j2.took hx4 hr2).ext (by repeat' (first | exact Ext.refl _ | assumption | omega | (with_reducible (refine Eg ?_; constructor)))) rfl⟩
                 · by_cases e : i = k
                   · subst e; exact ⟨hth, hroom.1 hrm⟩
                   · exact hall i (by omega)
                 · rw [hm1 hrm c' y', hcnt, useN, hop]
             · have hrb := roomB_f hrm
               have hEc : WH l t cs = false := UV fun h => hrm (hroom.2 (h.2.2.2.2 k hlt).2)
               repeat' (first | ((try clear hf); with_reducible refine yD fun env K hE hK hf => ?_; have n := cj19 hE 0 1 2 4 6 8 9 10 11 12 13 37 38 39 40 58 59 60 61; simp -implicitDefEqProofs only [push_cast, reduceIte, Nat.reduceEqDiff, ee] at n; clear hE ee; have ee := n; clear n) | (with_reducible first | (refine hK _ _ ?_; clear hK K) | (refine Zi ?_; constructor) | refine yB (by decide) ?_ | refine yH (by assumption) ?_ | refine yJ (by assumption) ?_) | (refine yC rfl ?_) | (simp -implicitDefEqProofs only [push_cast, sevalprocAttr, eq_self, ee, hd, hF.at, hr, hro, hj, h16, hth, hrb, hEc]) | (simp (disch := omega) only [yF, yK, yG, yL, hF.at, hEc]) | ((first | refine yE rfl (fun bb => ?_) (fun bb => ?_) | with_reducible refine yI (fun bb => ?_) (fun bb => ?_)) <;> (first | have bp := oT bb | have bp := oF bb | skip) <;> try simp only [bb]) | ((with_reducible refine And.intro ?_ ?_); omega) | (refine qB (HC.mono (f79 (R := R) (B := B) (c := c) (ES := ES) (cs := cs) (m := m) (i := k) (y := cs.getD k 0) (by exact j.ext (by repeat' (first | exact Ext.refl _ | assumption | omega | (with_reducible (refine Eg ?_; constructor)))) rfl) hlt hE (fun x hx => by have := hin x hx; omega) (by omega)) ?_); rintro r g ⟨rfl, j2, hx2⟩ hF2; have hj := j2.hj) | (refine WF (f81 _) ?_) | (refine qB (HC.mono (f80 (R := R) (B := B) (t := t) (m := m) (c := clsN l[k]) (y := cs.getD k 0) (by exact j2.rs.ext (by repeat' (first | exact Ext.refl _ | assumption | omega | (with_reducible (refine Eg ?_; constructor)))) rfl) ht hc4 (fun c y => by rw [hcnt]; have := hu k c y; omega)) ?_); rintro r g2 ⟨rfl, ⟨m', hr2, hm1, hm2⟩, hx3⟩ hF3) | (with_reducible refine yM ?_ ?_))
           · have hthf : YK (inE ES k) cs (cs.getD k 0) = false := by simpa using hth
             have hEc : WH l t cs = false := UV fun h => hth (by have := (h.2.2.2.2 k hlt).1; rw [hES] at this; exact this)
             repeat' (first | ((try clear hf); with_reducible refine yD fun env K hE hK hf => ?_; have n := cj19 hE 0 1 2 4 6 8 9 10 11 12 13 37 38 39 40 58 59 60 61; simp -implicitDefEqProofs only [push_cast, reduceIte, Nat.reduceEqDiff, ee] at n; clear hE ee; have ee := n; clear n) | (with_reducible first | (refine hK _ _ ?_; clear hK K) | (refine Zi ?_; constructor) | refine yB (by decide) ?_ | refine yH (by assumption) ?_ | refine yJ (by assumption) ?_) | (refine yC rfl ?_) | (simp -implicitDefEqProofs only [push_cast, sevalprocAttr, eq_self, ee, hd, hF.at, hr, hro, hj, h16, hthf, hEc]) | (simp (disch := omega) only [yF, yK, yG, yL, hF.at, hEc]) | ((first | refine yE rfl (fun bb => ?_) (fun bb => ?_) | with_reducible refine yI (fun bb => ?_) (fun bb => ?_)) <;> (first | have bp := oT bb | have bp := oF bb | skip) <;> try simp only [bb]) | ((with_reducible refine And.intro ?_ ?_); omega) | (refine qB (HC.mono (f79 (R := R) (B := B) (c := c) (ES := ES) (cs := cs) (m := m) (i := k) (y := cs.getD k 0) (by exact j.ext (by repeat' (first | exact Ext.refl _ | assumption | omega | (with_reducible (refine Eg ?_; constructor)))) rfl) hlt hE (fun x hx => by have := hin x hx; omega) (by omega)) ?_); rintro r g ⟨rfl, j2, hx2⟩ hF2; have hj := j2.hj) | (with_reducible refine yM ?_ ?_))
         · have hd : decide ((k : Int) < (cs.length : Int)) = false := dF (by omega)
           have hE : WH l t cs = true := checkB_t ⟨hR, hlk, hln, hin, fun i hi => by rw [hES]; exact hall i (by omega)⟩
           repeat' (first | ((try clear hf); with_reducible refine yD fun env K hE hK hf => ?_; have n := cj19 hE 0 1 2 4 6 8 9 10 11 12 13 37 38 39 40 58 59 60 61; simp -implicitDefEqProofs only [push_cast, reduceIte, Nat.reduceEqDiff, ee] at n; clear hE ee; have ee := n; clear n) | (with_reducible first | (refine hK _ _ ?_; clear hK K) | (refine Zi ?_; constructor) | refine yB (by decide) ?_ | refine yH (by assumption) ?_ | refine yJ (by assumption) ?_) | (refine yC rfl ?_) | (simp -implicitDefEqProofs only [push_cast, sevalprocAttr, eq_self, ee, hd, hE]) | (simp (disch := omega) only [yF, yK, yG, yL]) | ((first | refine yE rfl (fun bb => ?_) (fun bb => ?_) | with_reducible refine yI (fun bb => ?_) (fun bb => ?_)) <;> (first | have bp := oT bb | have bp := oF bb | skip) <;> try simp only [bb]) | ((with_reducible refine And.intro ?_ ?_); omega) | (with_reducible refine yM ?_ ?_))
     · have hdn : decide (¬ (cs.length : Int) = (l.length : Int)) = true := dT (by omega)
       have hE : WH l t cs = false := UV fun h => hln h.2.2.1
       repeat' (first | ((try clear hf); with_reducible refine yD fun env K hE hK hf => ?_; have n := cj19 hE 0 1 2 4 6 8 9 10 11 12 13 37 38 39 40 58 59 60 61; simp -implicitDefEqProofs only [push_cast, reduceIte, Nat.reduceEqDiff, ee] at n; clear hE ee; have ee := n; clear n) | (with_reducible first | (refine hK _ _ ?_; clear hK K) | (refine Zi ?_; constructor) | refine yB (by decide) ?_ | refine yH (by assumption) ?_ | refine yJ (by assumption) ?_) | (refine yC rfl ?_) | (simp -implicitDefEqProofs only [push_cast, sevalprocAttr, eq_self, ee, qM, hcl, hbT, hlk, hdn, hE]) | (simp (disch := omega) only [yF, yK, yG, yL, hdn]) | ((first | refine yE rfl (fun bb => ?_) (fun bb => ?_) | with_reducible refine yI (fun bb => ?_) (fun bb => ?_)) <;> (first | have bp := oT bb | have bp := oF bb | skip) <;> try simp only [bb]) | ((with_reducible refine And.intro ?_ ?_); omega) | (refine qB (HC.mono (of_all hl) ?_); rintro r h1 ⟨hx, hr⟩ hF1; obtain ⟨_, out, hr, hO⟩ := hr.resolve_left (fun h => h.1 hR); subst hr; have hbT := chk_T t hx) | (refine yP (f77 l t hn) ?_) | (with_reducible refine yM ?_ ?_))
   · have hlk : WW l t = true := by simpa using hlk
     have hE : WH l t cs = false := UV fun h => by have := h.2.1; rw [hlk] at this; exact absurd this (by decide)
     repeat' (first | ((try clear hf); with_reducible refine yD fun env K hE hK hf => ?_; have n := cj19 hE 0 1 2 4 6 8 9 10 11 12 13 37 38 39 40 58 59 60 61; simp -implicitDefEqProofs only [push_cast, reduceIte, Nat.reduceEqDiff, ee] at n; clear hE ee; have ee := n; clear n) | (with_reducible first | (refine hK _ _ ?_; clear hK K) | (refine Zi ?_; constructor) | refine yB (by decide) ?_ | refine yH (by assumption) ?_ | refine yJ (by assumption) ?_) | (refine yC rfl ?_) | (simp -implicitDefEqProofs only [push_cast, sevalprocAttr, eq_self, ee, qM, hcl, hbT, hlk, hE]) | (simp (disch := omega) only [yF, yK, yG, yL]) | ((first | refine yE rfl (fun bb => ?_) (fun bb => ?_) | with_reducible refine yI (fun bb => ?_) (fun bb => ?_)) <;> (first | have bp := oT bb | have bp := oF bb | skip) <;> try simp only [bb]) | ((with_reducible refine And.intro ?_ ?_); omega) | (refine qB (HC.mono (of_all hl) ?_); rintro r h1 ⟨hx, hr⟩ hF1; obtain ⟨_, out, hr, hO⟩ := hr.resolve_left (fun h => h.1 hR); subst hr; have hbT := chk_T t hx) | (refine yP (f77 l t hn) ?_) | (with_reducible refine yM ?_ ?_))
 · have hE : WH l t cs = false := UV fun h => hR h.1
   have hd : decide (¬ errR l t = 0) = true := dT hR
   repeat' (first | ((try clear hf); with_reducible refine yD fun env K hE hK hf => ?_; have n := cj19 hE 0 1 2 4 6 8 9 10 11 12 13 37 38 39 40 58 59 60 61; simp -implicitDefEqProofs only [push_cast, reduceIte, Nat.reduceEqDiff, ee] at n; clear hE ee; have ee := n; clear n) | (with_reducible first | (refine hK _ _ ?_; clear hK K) | (refine Zi ?_; constructor) | refine yB (by decide) ?_ | refine yH (by assumption) ?_ | refine yJ (by assumption) ?_) | (refine yC rfl ?_) | (simp -implicitDefEqProofs only [push_cast, sevalprocAttr, eq_self, ee, qM, hcl, hd, hE]) | (simp (disch := omega) only [yF, yK, yG, yL]) | ((first | refine yE rfl (fun bb => ?_) (fun bb => ?_) | with_reducible refine yI (fun bb => ?_) (fun bb => ?_)) <;> (first | have bp := oT bb | have bp := oF bb | skip) <;> try simp only [bb]) | ((with_reducible refine And.intro ?_ ?_); omega) | (refine qB (HC.mono (of_all hl) ?_); rintro r h1 ⟨hx, hr⟩ hF1; replace hr := (hr.resolve_right (fun h => hR h.1)).2; subst hr) | (with_reducible refine yM ?_ ?_))
theorem op_d0 (o : Opn) : ((opC o).drop 0)[0]? = some (.lit (.int .i8 o.k)) := rfl
theorem op_d1 (o : Opn) : ((opC o).drop 1)[0]? = some (u8 o.d) := rfl
theorem op_d2 (o : Opn) : ((opC o).drop 2)[0]? = some (u8 o.a) := rfl
theorem op_d3 (o : Opn) : ((opC o).drop 3)[0]? = some (u8 o.b) := rfl
theorem op_d4 (o : Opn) : ((opC o).drop 4)[0]? = some (i64 o.im) := rfl
attribute [push_cast] op_d0 op_d1 op_d2 op_d3 op_d4 op_1 op_2 op_3 op_4 opC_take uA opC_one
theorem tmod_zero (z : Int) : z.tmod 256 = 0 ↔ z % 256 = 0 := by
 constructor
 · intro h; exact Int.emod_eq_zero_of_dvd (Int.dvd_of_tmod_eq_zero h)
 · intro h; exact Int.tmod_eq_zero_of_dvd (Int.dvd_of_emod_eq_zero h)
theorem im_eq (x y : Int) : decide ((IntKind.i64.wrap (x - y)).tmod 256 = 0) = decide (IntKind.wrap .u8 x = IntKind.wrap .u8 y) := by
 apply decide_eq_decide.2
 rw [tmod_zero]
 simp only [IntKind.wrap, IntKind.bits, IntKind.signed, Bool.true_and, Bool.false_and, decide_eq_true_eq, ge_iff_le, Bool.false_eq_true, if_false]
 split <;> omega
def twoS (a b : Opn) : Bool := memS a && memS b && (decide (a.k = 16) || decide (b.k = 16))
theorem f115 (l : List Opn) (i j : Nat) (hi : i < l.length) (hj : j < l.length) (hl : ∀ o ∈ l, o.ok) : HV Try.prog 115 [.row (l.map opC), i64 i, i64 j] (bl (twoS l[i] l[j])) := by
 refine yX yZ cf115 (by simp) (by simp [imms, imm, qO]) ?_ rfl
 unfold ac115 re115
 refine yN fun env hE => ?_; have ee := cj7 hE 0 1 2 6 7 8 9; simp -implicitDefEqProofs only [push_cast] at ee; clear hE
 have hr := qS hi .i64
 have hq := qS hj .i64
 have ho := hl _ (List.getElem_mem hi)
 have hp := hl _ (List.getElem_mem hj)
 generalize l[i] = a at *
 generalize l[j] = b at *
 have d1 : decide ((i : Int) < 0) = false := dF (by omega)
 have d2 : decide ((j : Int) < 0) = false := dF (by omega)
 have d3 : decide ((l.length : Int) ≤ (i : Int)) = false := dF (by omega)
 have d4 : decide ((l.length : Int) ≤ (j : Int)) = false := dF (by omega)
 repeat' (first | ((try clear hf); with_reducible refine yD fun env K hE hK hf => ?_; have n := cj7 hE 0 1 2 6 7 8 9; simp -implicitDefEqProofs only [push_cast, reduceIte, Nat.reduceEqDiff, ee] at n; clear hE ee; have ee := n; clear n) | (with_reducible first | (refine hK _ _ ?_; clear hK K) | (refine Zi ?_; constructor) | refine yB (by decide) ?_ | refine yH (by assumption) ?_ | refine yJ (by assumption) ?_) | (refine yC rfl ?_) | (simp -implicitDefEqProofs only [push_cast, sevalprocAttr, eq_self, ee, hr, hq, d1, d2, d3, d4, opC_take, uA, opC_one]) | (simp (disch := omega) only [yF, yK, yG, yL, hq, opC_take, uA, opC_one]) | ((first | refine yE rfl (fun bb => ?_) (fun bb => ?_) | with_reducible refine yI (fun bb => ?_) (fun bb => ?_)) <;> (first | have bp := oT bb | have bp := oF bb | skip) <;> try simp only [bb]) | ((with_reducible refine And.intro ?_ ?_); omega) | (refine yP (f111 a ho) ?_) | (refine yP (f111 b hp) ?_) | (with_reducible refine yM ?_ ?_))
 all_goals ((try clear hf); (try clear ee); clear hr hq ho hp hl; simp only [twoS, memS]; simp_all)
theorem written_iff {l : List Opn} {f t : Nat} {r : Int} (ht : t ≤ l.length) : wR ((l.drop f).take (t - f)) r = true ↔ ∃ q, f ≤ q ∧ q < t ∧ ((wrS (opAt l q)).2 && decide ((wrS (opAt l q)).1 = r)) = true := by
 unfold wR
 rw [List.any_eq_true]
 constructor
 · rintro ⟨x, hx, h⟩
   obtain ⟨q, hq, rfl⟩ := List.getElem_of_mem hx
   simp only [List.length_take, List.length_drop] at hq
   refine ⟨f + q, by omega, by omega, ?_⟩
   rw [← qR (by omega)]
   simpa using h
 · rintro ⟨q, h1, h2, h⟩
   rw [← qR (by omega)] at h
   refine ⟨l[q]'(by omega), ?_, h⟩
   have : ((l.drop f).take (t - f))[q - f]? = some (l[q]'(by omega)) := by
    rw [List.getElem?_take_of_lt (by omega), List.getElem?_drop, show f + (q - f) = q by omega, List.getElem?_eq_getElem]
   exact List.mem_of_getElem? this
def apS (a b : Opn) (s : List Opn) : Bool := !(decide (a.a ≠ b.a) || decide (IntKind.wrap .u8 a.im = IntKind.wrap .u8 b.im)) && !(wR s a.a)
set_option maxHeartbeats 1000000 in
theorem f116 (l : List Opn) (i j f t : Nat) (hi : i < l.length) (hj : j < l.length) (hl : ∀ o ∈ l, o.ok) (h1 : f ≤ t) (h2 : t ≤ l.length) (hn : l.length ≤ 1000000) :
 HV Try.prog 116 [.row (l.map opC), i64 i, i64 j, i64 f, i64 t] (bl (apS l[i] l[j] ((l.drop f).take (t - f)))) := by
 refine yX yZ cf116 (by simp) (by simp [imms, imm, qO]) ?_ rfl
 unfold ac116 re116
 refine yN fun env hE => ?_; have ee := cj9 hE 0 1 2 3 4 10 11 12 13; simp -implicitDefEqProofs only [push_cast] at ee; clear hE
 have hr := qS hi .i64
 have hq := qS hj .i64
 have hwi := written_iff (l := l) (f := f) (t := t) (r := l[i].a) h2
 generalize hai : l[i] = a at *
 generalize l[j] = b at *
 by_cases hc : (decide (a.a ≠ b.a) || decide (IntKind.wrap .u8 a.im = IntKind.wrap .u8 b.im)) = true
 · have hs : apS a b ((l.drop f).take (t - f)) = false := by unfold apS; rw [hc]; rfl
   rw [hs]
   by_cases h3 : a.a = b.a
   · have d1 : decide (a.a ≠ b.a) = false := dF (fun h => h h3)
     have d2 : decide (IntKind.wrap .u8 a.im = IntKind.wrap .u8 b.im) = true := by rw [d1, Bool.false_or] at hc; exact hc
     repeat' (first | ((try clear hf); with_reducible refine yD fun env K hE hK hf => ?_; have n := cj9 hE 0 1 2 3 4 10 11 12 13; simp -implicitDefEqProofs only [push_cast, reduceIte, Nat.reduceEqDiff, ee] at n; clear hE ee; have ee := n; clear n) | (with_reducible first | (refine hK _ _ ?_; clear hK K) | (refine Zi ?_; constructor) | refine yB (by decide) ?_ | refine yH (by assumption) ?_ | refine yJ (by assumption) ?_) | (refine yC rfl ?_) | (simp -implicitDefEqProofs only [push_cast, sevalprocAttr, eq_self, ee, hr, hq, d1, d2, op_2, op_4, im_eq]) | (simp (disch := omega) only [yF, yK, yG, yL, hq, im_eq]) | ((first | refine yE rfl (fun bb => ?_) (fun bb => ?_) | with_reducible refine yI (fun bb => ?_) (fun bb => ?_)) <;> (first | have bp := oT bb | have bp := oF bb | skip) <;> try simp only [bb]) | ((with_reducible refine And.intro ?_ ?_); omega) | (with_reducible refine yM ?_ ?_))
   · have d1 : decide (a.a ≠ b.a) = true := dT h3
     repeat' (first | ((try clear hf); with_reducible refine yD fun env K hE hK hf => ?_; have n := cj9 hE 0 1 2 3 4 10 11 12 13; simp -implicitDefEqProofs only [push_cast, reduceIte, Nat.reduceEqDiff, ee] at n; clear hE ee; have ee := n; clear n) | (with_reducible first | (refine hK _ _ ?_; clear hK K) | (refine Zi ?_; constructor) | refine yB (by decide) ?_ | refine yH (by assumption) ?_ | refine yJ (by assumption) ?_) | (refine yC rfl ?_) | (simp -implicitDefEqProofs only [push_cast, sevalprocAttr, eq_self, ee, hr, hq, d1, op_2, op_4, im_eq]) | (simp (disch := omega) only [yF, yK, yG, yL, hq, im_eq]) | ((first | refine yE rfl (fun bb => ?_) (fun bb => ?_) | with_reducible refine yI (fun bb => ?_) (fun bb => ?_)) <;> (first | have bp := oT bb | have bp := oF bb | skip) <;> try simp only [bb]) | ((with_reducible refine And.intro ?_ ?_); omega) | (with_reducible refine yM ?_ ?_))
 · rw [Bool.not_eq_true, Bool.or_eq_false_iff] at hc
   obtain ⟨d1, d2⟩ := hc
   have hs : apS a b ((l.drop f).take (t - f)) = !(wR ((l.drop f).take (t - f)) a.a) := by unfold apS; rw [d1, d2]; rfl
   repeat' (first | ((try clear hf); with_reducible refine yD fun env K hE hK hf => ?_; have n := cj9 hE 0 1 2 3 4 10 11 12 13; simp -implicitDefEqProofs only [push_cast, reduceIte, Nat.reduceEqDiff, ee] at n; clear hE ee; have ee := n; clear n) | (with_reducible first | (refine hK _ _ ?_; clear hK K) | (refine Zi ?_; constructor) | refine yB (by decide) ?_ | refine yH (by assumption) ?_ | refine yJ (by assumption) ?_) | (refine yC rfl ?_) | (simp -implicitDefEqProofs only [push_cast, sevalprocAttr, eq_self, ee, hr, hq, d1, d2, op_2, op_4, im_eq]) | (simp (disch := omega) only [yF, yK, yG, yL, hq, im_eq]) | ((first | refine yE rfl (fun bb => ?_) (fun bb => ?_) | with_reducible refine yI (fun bb => ?_) (fun bb => ?_)) <;> (first | have bp := oT bb | have bp := oF bb | skip) <;> try simp only [bb]) | ((with_reducible refine And.intro ?_ ?_); omega) | (with_reducible refine yM ?_ ?_))
   refine yN fun env hE => ?_; have n := cj9 hE 0 1 2 3 4 10 11 12 13; simp -implicitDefEqProofs only [push_cast, reduceIte, Nat.reduceEqDiff, ee] at n; clear hE ee; have ee := n; clear n; have E116_0 := ee; obtain ⟨e0, e1, e2, e3, e4, e10, e11, e12, e13⟩ := ee
   refine yT (fun nn σ => ∃ (k : Nat), nn = t - k ∧ kp [0, 1, 2, 3, 4] σ.env env ∧ σ.env 11 = i64 k ∧ (f ≤ k ∧ k ≤ t ∧ (∀ q, f ≤ q → q < k → ((wrS (opAt l q)).2 && decide ((wrS (opAt l q)).1 = a.a)) = false))) _ ⟨f, rfl, qG _ _, by refine e11.trans ?_; first | rfl | exact yO (by omega) | exact i64w (by omega), ?_⟩ ?_
   · exact ⟨by omega, by omega, fun q h1 h2 => by omega⟩
   clear e0 e1 e2 e3 e4 e10 e11 e12 e13; rintro nn ⟨env, h⟩ ⟨k, rfl, q, e11, hI⟩; simp only at e11 hI; simp only [kp, and_true, E116_0] at q; have ee : _ ∧ _ := ⟨e11, q⟩; clear e11 q
   obtain ⟨k1, k2, hall⟩ := hI
   unfold l116_0
   by_cases hlt : k < t
   · have hd : decide ((k : Int) < (t : Int)) = true := dT (by omega)
     have hr2 := qS (l := l) (k := k) (by omega) .i64
     have ho := hl _ (List.getElem_mem (show k < l.length by omega))
     have hoe := qR (l := l) (j := k) (by omega)
     generalize l[k] = o at *
     by_cases hw : ((wrS o).2 && decide ((wrS o).1 = a.a)) = true
     · have w := hw
       rw [Bool.and_eq_true] at hw
       obtain ⟨w1, w2⟩ := hw
       repeat' (first | ((try clear hf); with_reducible refine yD fun env K hE hK hf => ?_; have n := cj9 hE 0 1 2 3 4 10 11 12 13; simp -implicitDefEqProofs only [push_cast, reduceIte, Nat.reduceEqDiff, ee] at n; clear hE ee; have ee := n; clear n) | (with_reducible first | (refine hK _ _ ?_; clear hK K) | (refine Zi ?_; constructor) | refine yB (by decide) ?_ | refine yH (by assumption) ?_ | refine yJ (by assumption) ?_) | (refine yC rfl ?_) | (simp -implicitDefEqProofs only [push_cast, sevalprocAttr, eq_self, ee, hd, hr, hr2, w1, w2]) | (simp (disch := omega) only [yF, yK, yG, yL, hr2, w1, w2]) | ((first | refine yE rfl (fun bb => ?_) (fun bb => ?_) | with_reducible refine yI (fun bb => ?_) (fun bb => ?_)) <;> (first | have bp := oT bb | have bp := oF bb | skip) <;> try simp only [bb]) | ((with_reducible refine And.intro ?_ ?_); omega) | (refine yP (f88 o ho) ?_) | (with_reducible refine yM ?_ ?_))
       rw [hs, hwi.2 ⟨k, k1, hlt, by rw [← hoe]; exact w⟩]
       rfl
     · rw [Bool.not_eq_true] at hw
       have w := hw
       rw [Bool.and_eq_false_iff] at hw
       rcases hw with w1 | w1
       · repeat' (first | ((try clear hf); with_reducible refine yD fun env K hE hK hf => ?_; have n := cj9 hE 0 1 2 3 4 10 11 12 13; simp -implicitDefEqProofs only [push_cast, reduceIte, Nat.reduceEqDiff, ee] at n; clear hE ee; have ee := n; clear n) | (with_reducible first | (refine hK _ _ ?_; clear hK K) | (refine Zi ?_; constructor) | refine yB (by decide) ?_ | refine yH (by assumption) ?_ | refine yJ (by assumption) ?_) | (refine yC rfl ?_) | (simp -implicitDefEqProofs only [push_cast, sevalprocAttr, eq_self, ee, hd, hr, hr2, w1]) | (simp (disch := omega) only [yF, yK, yG, yL, hr2, w1]) | ((first | refine yE rfl (fun bb => ?_) (fun bb => ?_) | with_reducible refine yI (fun bb => ?_) (fun bb => ?_)) <;> (first | have bp := oT bb | have bp := oF bb | skip) <;> try simp only [bb]) | ((with_reducible refine And.intro ?_ ?_); omega) | (refine yP (f88 o ho) ?_) | (with_reducible refine yM ?_ ?_))
         refine ⟨_, ?_, k + 1, rfl, by simp -implicitDefEqProofs only [kp, push_cast, reduceIte, Nat.reduceEqDiff, ee, E116_0, and_self], by first | rfl | exact yO (by omega) | exact i64w (by omega), ?_⟩
         · omega
         · refine ⟨by omega, by omega, fun q h1 h2 => ?_⟩
           by_cases e : q < k
           · exact hall q h1 e
           · obtain rfl : q = k := by omega
             rw [← hoe]; exact w
       · repeat' (first | ((try clear hf); with_reducible refine yD fun env K hE hK hf => ?_; have n := cj9 hE 0 1 2 3 4 10 11 12 13; simp -implicitDefEqProofs only [push_cast, reduceIte, Nat.reduceEqDiff, ee] at n; clear hE ee; have ee := n; clear n) | (with_reducible first | (refine hK _ _ ?_; clear hK K) | (refine Zi ?_; constructor) | refine yB (by decide) ?_ | refine yH (by assumption) ?_ | refine yJ (by assumption) ?_) | (refine yC rfl ?_) | (simp -implicitDefEqProofs only [push_cast, sevalprocAttr, eq_self, ee, hd, hr, hr2, w1]) | (simp (disch := omega) only [yF, yK, yG, yL, hr2, w1]) | ((first | refine yE rfl (fun bb => ?_) (fun bb => ?_) | with_reducible refine yI (fun bb => ?_) (fun bb => ?_)) <;> (first | have bp := oT bb | have bp := oF bb | skip) <;> try simp only [bb]) | ((with_reducible refine And.intro ?_ ?_); omega) | (refine yP (f88 o ho) ?_) | (with_reducible refine yM ?_ ?_))
         all_goals
          refine ⟨_, ?_, k + 1, rfl, by simp -implicitDefEqProofs only [kp, push_cast, reduceIte, Nat.reduceEqDiff, ee, E116_0, and_self], by first | rfl | exact yO (by omega) | exact i64w (by omega), ?_⟩
          · omega
          · refine ⟨by omega, by omega, fun q h1 h2 => ?_⟩
            by_cases e : q < k
            · exact hall q h1 e
            · obtain rfl : q = k := by omega
              rw [← hoe]; exact w
   · have hd : decide ((k : Int) < (t : Int)) = false := dF (by omega)
     repeat' (first | ((try clear hf); with_reducible refine yD fun env K hE hK hf => ?_; have n := cj9 hE 0 1 2 3 4 10 11 12 13; simp -implicitDefEqProofs only [push_cast, reduceIte, Nat.reduceEqDiff, ee] at n; clear hE ee; have ee := n; clear n) | (with_reducible first | (refine hK _ _ ?_; clear hK K) | (refine Zi ?_; constructor) | refine yB (by decide) ?_ | refine yH (by assumption) ?_ | refine yJ (by assumption) ?_) | (refine yC rfl ?_) | (simp -implicitDefEqProofs only [push_cast, sevalprocAttr, eq_self, ee, hd]) | (simp (disch := omega) only [yF, yK, yG, yL]) | ((first | refine yE rfl (fun bb => ?_) (fun bb => ?_) | with_reducible refine yI (fun bb => ?_) (fun bb => ?_)) <;> (first | have bp := oT bb | have bp := oF bb | skip) <;> try simp only [bb]) | ((with_reducible refine And.intro ?_ ?_); omega) | (with_reducible refine yM ?_ ?_))
     have : wR ((l.drop f).take (t - f)) a.a = false := by
      rw [← Bool.not_eq_true]
      intro h
      obtain ⟨q, h1, h2, h3⟩ := hwi.1 h
      rw [hall q h1 (by omega)] at h3
      cases h3
     rw [hs, this]
     rfl
theorem meet_ref (a b : Opn) (s : List Opn) : (twoS a b && !(apS a b s)) = uT a b s := by
 unfold twoS apS uT memS
 by_cases h1 : a.k = 15 <;> by_cases h2 : a.k = 16 <;> by_cases h3 : b.k = 15 <;> by_cases h4 : b.k = 16 <;> simp [h1, h2, h3, h4] <;> (try omega)
theorem f102 (l : List Opn) (i j : Nat) (hij : i < j) (hj : j < l.length) (hl : ∀ o ∈ l, o.ok) (hn : l.length ≤ 1000000) :
 HV Try.prog 102 [.row (l.map opC), i64 i, i64 j] (bl (meetL l i j (by omega) hj)) := by
 refine yX yZ cf102 (by simp) (by simp [imms, imm, qO]) ?_ rfl
 unfold ac102 re102
 refine yN fun env hE => ?_; have ee := cj4 hE 0 1 2 6; simp -implicitDefEqProofs only [push_cast] at ee; clear hE
 have d1 : decide ((i : Int) < (j : Int)) = true := dT (by omega)
 have hm := meet_ref (l[i]'(by omega)) l[j] ((l.drop i).take (j - i))
 unfold meetL
 rw [← hm]
 have h1 := f115 l i j (by omega) hj hl
 have h2 := f116 l i j i j (by omega) hj hl (by omega) (by omega) hn
 generalize twoS (l[i]'(by omega)) l[j] = b1 at *
 generalize apS (l[i]'(by omega)) l[j] ((l.drop i).take (j - i)) = b2 at *
 repeat' (first | ((try clear hf); with_reducible refine yD fun env K hE hK hf => ?_; have n := cj4 hE 0 1 2 6; simp -implicitDefEqProofs only [push_cast, reduceIte, Nat.reduceEqDiff, ee] at n; clear hE ee; have ee := n; clear n) | (with_reducible first | (refine hK _ _ ?_; clear hK K) | (refine Zi ?_; constructor) | refine yB (by decide) ?_ | refine yH (by assumption) ?_ | refine yJ (by assumption) ?_) | (refine yC rfl ?_) | (simp -implicitDefEqProofs only [push_cast, sevalprocAttr, eq_self, ee, d1]) | (simp (disch := omega) only [yF, yK, yG, yL]) | ((first | refine yE rfl (fun bb => ?_) (fun bb => ?_) | with_reducible refine yI (fun bb => ?_) (fun bb => ?_)) <;> (first | have bp := oT bb | have bp := oF bb | skip) <;> try simp only [bb]) | ((with_reducible refine And.intro ?_ ?_); omega) | (refine yP h1 ?_) | (refine yP h2 ?_) | (with_reducible refine yM ?_ ?_))
 all_goals ((try clear hf); (try clear ee); simp_all)
theorem uW {α : Type} {f : α → List AV} {sz : Nat} {d : Option Nat} {K : St → Prop} {env : Nat → AV} {h : Hp} {a : AV} {es : List α} (s : SlO f sz h a es) (hf : ∀ a, (f a).length = sz) {bytes : Nat} {id : Id} {e : α} (ho : (f e).all one = true)
 (hb : (es.length + 1 + (es.length + 1) / 4 + 512) * bytes ≤ 281474976710656) (hid : idOf a ≠ some id) (hle : id.1 ≤ h.ep)
 (k : ∀ h' a', SlO f sz h' a' (es ++ [e]) → (∀ x, idOf a' = some x → x = id) → h'.ep = h.ep → (∀ x, x ≠ id → idOf a ≠ some x → h'.hp x = h.hp x) → K ⟨putA env d a', h'⟩) : goM d K env (appV h id sz bytes 1 (f e) a) := by
 refine goM_of _ _ (s.app hf id (by decide) ho hb) (k _ _ ⟨.inr ⟨id, by simp, ?_, by rw [YJ, kT]; exact hle⟩⟩ (fun x hx => by simp [idOf] at hx; exact hx.symm) (by rw [YJ, kT]) fun x h1 h2 => ?_)
 · rw [qY]; simp
 · rw [wE _ _ _ _ h1, UQ _ _ h2]
theorem goM_appN {α : Type} {f : α → List AV} {sz : Nat} {d : Option Nat} {K : St → Prop} {env : Nat → AV} {h : Hp} {a : AV} {es : List α} (s : SlO f sz h a es) (hf : ∀ a, (f a).length = sz) {bytes : Nat} {id : Id} {fs : List α} (ho : (fs.flatMap f).all one = true)
 (hb : (es.length + fs.length + (es.length + fs.length) / 4 + 512) * bytes ≤ 281474976710656) (hid : idOf a ≠ some id) (hle : id.1 ≤ h.ep)
 (k : ∀ h' a', SlO f sz h' a' (es ++ fs) → (∀ x, idOf a' = some x → x = id) → h'.ep = h.ep → (∀ x, x ≠ id → idOf a ≠ some x → h'.hp x = h.hp x) → K ⟨putA env d a', h'⟩) : goM d K env (appV h id sz bytes fs.length (fs.flatMap f) a) := by
 rcases (show fs = [] ∨ fs.length ≠ 0 from by cases fs <;> simp) with h0 | h0
 · subst h0
   rcases s.st with ⟨rfl, rfl⟩ | ⟨t, rfl, h2, h3⟩
   · exact goM_of _ _ (appV_nil0 _ _ _ _ _) (k _ _ (SlO.nil _ _ _) (fun x hx => by simp [idOf] at hx) rfl fun x _ _ => rfl)
   · refine goM_of (.sl id 0 (es.length + 0) sz) ((h.kill t).push id ((es.flatMap f).take (es.length * sz) ++ [])) ?_ (k _ _ ⟨.inr ⟨id, by simp, ?_, hle⟩⟩ (fun x hx => by simp [idOf] at hx; exact hx.symm) rfl fun x h1 h2 => ?_)
     · rw [wY, h2]
       simp only [Option.bind_some]
       simp only [List.length_nil, Nat.add_zero] at hb ⊢
       rw [if_pos ⟨trivial, trivial, rfl, hb⟩, List.drop_zero]
       rfl
     · rw [qY, ← uB hf, List.take_length]; simp
     · rw [wE _ _ _ _ h1, uO _ _ _ (fun e => h2 (by rw [e]; rfl))]
 · refine goM_of _ _ (s.app hf id h0 ho hb) (k _ _ ⟨.inr ⟨id, by simp, ?_, by rw [YJ, kT]; exact hle⟩⟩ (fun x hx => by simp [idOf] at hx; exact hx.symm) (by rw [YJ, kT]) fun x h1 h2 => ?_)
   · rw [qY]; simp
   · rw [wE _ _ _ _ h1, UQ _ _ h2]
theorem app_src {α : Type} (f : α → List AV) (sz : Nat) (hf : ∀ a, (f a).length = sz) (h : Hp) (es : List α) : uG h sz (.row (es.map f)) = some (es.length, es.flatMap f) := by
 rw [appSrc_row h (fun x hx => by simp at hx; obtain ⟨a, _, rfl⟩ := hx; exact hf a), List.length_map]
 rfl
theorem flat_one {α : Type} {f : α → List AV} (ho : ∀ a, (f a).all one = true) (es : List α) : (es.flatMap f).all one = true := by
 induction es with
 | nil => rfl
 | cons a es ih => rw [List.flatMap_cons, List.all_append, ho, ih]; rfl
theorem SlO.lendF {α : Type} {f : α → List AV} {sz : Nat} {h : Hp} {a : AV} {es : List α} (s : SlO f sz h a es) (hf : ∀ a, (f a).length = sz) (hat : ∀ a, ∀ x ∈ f a, atom x = true) (d : Nat) : Hx.lendF (d + 1) h a = some (.row (es.map f)) := by
 rcases s.st with ⟨rfl, rfl⟩ | ⟨t, rfl, h2, h3⟩
 · exact lendF_nil d h
 · rw [lendF_sl h2 (by rw [uB hf]; omega) (fun x hx => ?_), List.drop_zero, ← uB hf, List.take_length, chunks_map f sz hf]
   have := List.mem_of_mem_drop (List.mem_of_mem_take hx)
   rw [List.mem_flatMap] at this
   obtain ⟨e, _, he⟩ := this
   exact hat e x he
theorem edC_atom (e : Edg) : ∀ x ∈ edC e, atom x = true := by
 intro x hx
 simp only [edC, List.mem_cons, List.not_mem_nil, or_false] at hx
 rcases hx with rfl | rfl | rfl | rfl | rfl <;> rfl
theorem f90 (l : List Opn) (t : Tab) (hl : ∀ o ∈ l, o.ok) : HV Try.prog 90 [.row (l.map opC), .agg (tabC t)] (i64 (errR l t)) := by
 refine yX yZ cf90 (by simp) (by simp [imms, imm, qO, wJ]) ?_ rfl
 unfold ac90 re90
 refine yN fun env hE => ?_; have ee := cj6 hE 0 1 3 4 5 6; simp -implicitDefEqProofs only [push_cast] at ee; clear hE
 by_cases h1 : YU t
 rotate_left
 · have hE : errR l t = 20 := by simp [errR, kM h1]
   have ht := kM h1
   rw [hE]
   have d0 : decide ((20 : Int) ≠ 0) = true := rfl
   repeat' (first | ((try clear hf); with_reducible refine yD fun env K hE hK hf => ?_; have n := cj6 hE 0 1 3 4 5 6; simp -implicitDefEqProofs only [push_cast, reduceIte, Nat.reduceEqDiff, ee] at n; clear hE ee; have ee := n; clear n) | (with_reducible first | (refine hK _ _ ?_; clear hK K) | (refine Zi ?_; constructor) | refine yB (by decide) ?_ | refine yH (by assumption) ?_ | refine yJ (by assumption) ?_) | (refine yC rfl ?_) | (simp -implicitDefEqProofs only [push_cast, sevalprocAttr, eq_self, ee, ht, d0]) | (simp (disch := omega) only [yF, yK, yG, yL, ht]) | ((first | refine yE rfl (fun bb => ?_) (fun bb => ?_) | with_reducible refine yI (fun bb => ?_) (fun bb => ?_)) <;> (first | have bp := oT bb | have bp := oF bb | skip) <;> try simp only [bb]) | ((with_reducible refine And.intro ?_ ?_); omega) | (refine yP (f69 t) ?_) | (with_reducible refine yM ?_ ?_))
 have ht := tabE_ok h1
 by_cases h2 : 1024 < l.length
 · have hE : errR l t = 3 := by simp [errR, ht, h2]
   have d1 : decide (1024 < (l.length : Int)) = true := dT (by omega)
   rw [hE]
   repeat' (first | ((try clear hf); with_reducible refine yD fun env K hE hK hf => ?_; have n := cj6 hE 0 1 3 4 5 6; simp -implicitDefEqProofs only [push_cast, reduceIte, Nat.reduceEqDiff, ee] at n; clear hE ee; have ee := n; clear n) | (with_reducible first | (refine hK _ _ ?_; clear hK K) | (refine Zi ?_; constructor) | refine yB (by decide) ?_ | refine yH (by assumption) ?_ | refine yJ (by assumption) ?_) | (refine yC rfl ?_) | (simp -implicitDefEqProofs only [push_cast, sevalprocAttr, eq_self, ee, ht, d1]) | (simp (disch := omega) only [yF, yK, yG, yL, ht]) | ((first | refine yE rfl (fun bb => ?_) (fun bb => ?_) | with_reducible refine yI (fun bb => ?_) (fun bb => ?_)) <;> (first | have bp := oT bb | have bp := oF bb | skip) <;> try simp only [bb]) | ((with_reducible refine And.intro ?_ ?_); omega) | (refine yP (f69 t) ?_) | (with_reducible refine yM ?_ ?_))
 have d1 : decide (1024 < (l.length : Int)) = false := dF (by omega)
 repeat' (first | ((try clear hf); with_reducible refine yD fun env K hE hK hf => ?_; have n := cj6 hE 0 1 3 4 5 6; simp -implicitDefEqProofs only [push_cast, reduceIte, Nat.reduceEqDiff, ee] at n; clear hE ee; have ee := n; clear n) | (with_reducible first | (refine hK _ _ ?_; clear hK K) | (refine Zi ?_; constructor) | refine yB (by decide) ?_ | refine yH (by assumption) ?_ | refine yJ (by assumption) ?_) | (refine yC rfl ?_) | (simp -implicitDefEqProofs only [push_cast, sevalprocAttr, eq_self, ee, ht, d1]) | (simp (disch := omega) only [yF, yK, yG, yL, ht]) | ((first | refine yE rfl (fun bb => ?_) (fun bb => ?_) | with_reducible refine yI (fun bb => ?_) (fun bb => ?_)) <;> (first | have bp := oT bb | have bp := oF bb | skip) <;> try simp only [bb]) | ((with_reducible refine And.intro ?_ ?_); omega) | (refine yP (f69 t) ?_) | (with_reducible refine yM ?_ ?_))
 refine yN fun env hE => ?_; have n := cj6 hE 0 1 3 4 5 6; simp -implicitDefEqProofs only [push_cast, reduceIte, Nat.reduceEqDiff, ee] at n; clear hE ee; have ee := n; clear n; have E90_0 := ee; obtain ⟨e0, e1, e3, e4, e5, e6⟩ := ee
 refine yT (fun nn σ => ∃ (k : Nat), nn = l.length - k ∧ kp [0, 1, 3, 5] σ.env env ∧ σ.env 6 = i64 k ∧ (k ≤ l.length ∧ ∀ j (hj : j < k) (h : j < l.length), opOK l[j])) _ ⟨0, rfl, qG _ _, by refine e6.trans ?_; first | rfl | exact yO (by omega) | exact i64w (by omega), ?_⟩ ?_
 · exact ⟨by omega, fun j hj => by omega⟩
 clear e0 e1 e3 e4 e5 e6; rintro nn ⟨env, h⟩ ⟨k, rfl, q, e6, hI⟩; simp only at e6 hI; simp only [kp, and_true, E90_0] at q; have ee : _ ∧ _ := ⟨e6, q⟩; clear e6 q
 obtain ⟨hk, hall⟩ := hI
 unfold l90_0
 by_cases hlt : k < l.length
 · have hd : decide ((k : Int) < (l.length : Int)) = true := dT (by omega)
   have hr := qS hlt .i64
   have ho := hl _ (List.getElem_mem hlt)
   by_cases hok : opOK l[k]
   · have h3 : decide (l[k].k < 1) = false := dF (by have := hok.1; omega)
     have h4 : decide (17 < l[k].k) = false := dF (by have := hok.2.1; omega)
     have h5 := hok.2.2
     repeat' (first | ((try clear hf); with_reducible refine yD fun env K hE hK hf => ?_; have n := cj6 hE 0 1 3 4 5 6; simp -implicitDefEqProofs only [push_cast, reduceIte, Nat.reduceEqDiff, ee] at n; clear hE ee; have ee := n; clear n) | (with_reducible first | (refine hK _ _ ?_; clear hK K) | (refine Zi ?_; constructor) | refine yB (by decide) ?_ | refine yH (by assumption) ?_ | refine yJ (by assumption) ?_) | (refine yC rfl ?_) | (simp -implicitDefEqProofs only [push_cast, sevalprocAttr, eq_self, ee, hd, hr, h3, h4, h5]) | (simp (disch := omega) only [yF, yK, yG, yL, h3, h4, h5]) | ((first | refine yE rfl (fun bb => ?_) (fun bb => ?_) | with_reducible refine yI (fun bb => ?_) (fun bb => ?_)) <;> (first | have bp := oT bb | have bp := oF bb | skip) <;> try simp only [bb]) | ((with_reducible refine And.intro ?_ ?_); omega) | (refine yP (f111 _ ho) ?_) | (with_reducible refine yM ?_ ?_))
     refine ⟨_, ?_, k + 1, rfl, by simp -implicitDefEqProofs only [kp, push_cast, reduceIte, Nat.reduceEqDiff, ee, E90_0, and_self], by first | rfl | exact yO (by omega) | exact i64w (by omega), ?_⟩
     · omega
     · refine ⟨by omega, fun j hj h => ?_⟩
       by_cases e : j < k
       · exact hall j e h
       · obtain rfl : j = k := by omega
         exact hok
   · have hE : errR l t = 30 := by
      unfold errR
      rw [if_neg (by omega), if_neg h2, if_neg (fun h => hok (h _ (List.getElem_mem hlt)))]
     rw [hE]
     have hn : ¬ (1 ≤ l[k].k ∧ l[k].k ≤ 17 ∧ chkE l[k] = 0) := hok
     repeat' (first | ((try clear hf); with_reducible refine yD fun env K hE hK hf => ?_; have n := cj6 hE 0 1 3 4 5 6; simp -implicitDefEqProofs only [push_cast, reduceIte, Nat.reduceEqDiff, ee] at n; clear hE ee; have ee := n; clear n) | (with_reducible first | (refine hK _ _ ?_; clear hK K) | (refine Zi ?_; constructor) | refine yB (by decide) ?_ | refine yH (by assumption) ?_ | refine yJ (by assumption) ?_) | (refine yC rfl ?_) | (simp -implicitDefEqProofs only [push_cast, sevalprocAttr, eq_self, ee, hd, hr]) | (simp (disch := omega) only [yF, yK, yG, yL]) | ((first | refine yE rfl (fun bb => ?_) (fun bb => ?_) | with_reducible refine yI (fun bb => ?_) (fun bb => ?_)) <;> (first | have bp := oT bb | have bp := oF bb | skip) <;> try simp only [bb]) | ((with_reducible refine And.intro ?_ ?_); omega) | (refine yP (f111 _ ho) ?_) | (with_reducible refine yM ?_ ?_))
     all_goals first
      | rfl
      | (exfalso; omega)
 · have hd : decide ((k : Int) < (l.length : Int)) = false := dF (by omega)
   have hE : errR l t = 0 := by
    unfold errR
    rw [if_neg (by omega), if_neg h2, if_pos (fun o ho => by obtain ⟨j, hj, rfl⟩ := List.getElem_of_mem ho; exact hall j (by omega) hj)]
   rw [hE]
   repeat' (first | ((try clear hf); with_reducible refine yD fun env K hE hK hf => ?_; have n := cj6 hE 0 1 3 4 5 6; simp -implicitDefEqProofs only [push_cast, reduceIte, Nat.reduceEqDiff, ee] at n; clear hE ee; have ee := n; clear n) | (with_reducible first | (refine hK _ _ ?_; clear hK K) | (refine Zi ?_; constructor) | refine yB (by decide) ?_ | refine yH (by assumption) ?_ | refine yJ (by assumption) ?_) | (refine yC rfl ?_) | (simp -implicitDefEqProofs only [push_cast, sevalprocAttr, eq_self, ee, hd]) | (simp (disch := omega) only [yF, yK, yG, yL]) | ((first | refine yE rfl (fun bb => ?_) (fun bb => ?_) | with_reducible refine yI (fun bb => ?_) (fun bb => ?_)) <;> (first | have bp := oT bb | have bp := oF bb | skip) <;> try simp only [bb]) | ((with_reducible refine And.intro ?_ ?_); omega) | (with_reducible refine yM ?_ ?_))
theorem f93 (o : Opn) (t : Tab) : HV Try.prog 93 [.agg (opC o), .agg (tabC t)] (i64 (latS t o)) := by
 refine yX yZ cf93 (by simp) rfl ?_ rfl
 unfold ac93 re93
 refine yN fun env hE => ?_; have ee := cj6 hE 0 1 2 3 4 5; simp -implicitDefEqProofs only [push_cast] at ee; clear hE
 have hc := kI o
 have hc4 := wF o
 have hq := tab_l t hc4
 repeat' (first | ((try clear hf); with_reducible refine yD fun env K hE hK hf => ?_; have n := cj6 hE 0 1 2 3 4 5; simp -implicitDefEqProofs only [push_cast, reduceIte, Nat.reduceEqDiff, ee] at n; clear hE ee; have ee := n; clear n) | (with_reducible first | (refine hK _ _ ?_; clear hK K) | (refine Zi ?_; constructor) | refine yB (by decide) ?_ | refine yH (by assumption) ?_ | refine yJ (by assumption) ?_) | (refine yC rfl ?_) | (simp -implicitDefEqProofs only [push_cast, sevalprocAttr, eq_self, ee, hc, hq]) | (simp (disch := omega) only [yF, yK, yG, yL, hq]) | ((first | refine yE rfl (fun bb => ?_) (fun bb => ?_) | with_reducible refine yI (fun bb => ?_) (fun bb => ?_)) <;> (first | have bp := oT bb | have bp := oF bb | skip) <;> try simp only [bb]) | ((with_reducible refine And.intro ?_ ?_); omega) | (refine yP (f51 _) ?_) | (with_reducible refine yM ?_ ?_))
 rfl
theorem f113 (o : Opn) (ho : o.ok) (r : Int) : HV Try.prog 113 [.agg (opC o), u8 r] (bl ((wrS o).2 && decide ((wrS o).1 = r))) := by
 refine yX yZ cf113 (by simp) rfl ?_ rfl
 unfold ac113 re113
 refine yN fun env hE => ?_; have ee := cj6 hE 0 1 2 4 5 6; simp -implicitDefEqProofs only [push_cast] at ee; clear hE
 repeat' (first | ((try clear hf); with_reducible refine yD fun env K hE hK hf => ?_; have n := cj6 hE 0 1 2 4 5 6; simp -implicitDefEqProofs only [push_cast, reduceIte, Nat.reduceEqDiff, ee] at n; clear hE ee; have ee := n; clear n) | (with_reducible first | (refine hK _ _ ?_; clear hK K) | (refine Zi ?_; constructor) | refine yB (by decide) ?_ | refine yH (by assumption) ?_ | refine yJ (by assumption) ?_) | (refine yC rfl ?_) | (simp -implicitDefEqProofs only [push_cast, sevalprocAttr, eq_self, ee]) | (simp (disch := omega) only [yF, yK, yG, yL]) | ((first | refine yE rfl (fun bb => ?_) (fun bb => ?_) | with_reducible refine yI (fun bb => ?_) (fun bb => ?_)) <;> (first | have bp := oT bb | have bp := oF bb | skip) <;> try simp only [bb]) | ((with_reducible refine And.intro ?_ ?_); omega) | (refine yP (f88 o ho) ?_) | (with_reducible refine yM ?_ ?_))
 all_goals ((try clear hf); (try clear ee); simp_all)
theorem f114 (o : Opn) : HV Try.prog 114 [.agg (opC o)] (bl (effS o)) := by
 refine yX yZ cf114 (by simp) rfl ?_ rfl
 unfold ac114 re114
 refine yN fun env hE => ?_; have ee := cj3 hE 0 1 2; simp -implicitDefEqProofs only [push_cast] at ee; clear hE
 repeat' (first | ((try clear hf); with_reducible refine yD fun env K hE hK hf => ?_; have n := cj3 hE 0 1 2; simp -implicitDefEqProofs only [push_cast, reduceIte, Nat.reduceEqDiff, ee] at n; clear hE ee; have ee := n; clear n) | (with_reducible first | (refine hK _ _ ?_; clear hK K) | (refine Zi ?_; constructor) | refine yB (by decide) ?_ | refine yH (by assumption) ?_ | refine yJ (by assumption) ?_) | (refine yC rfl ?_) | (simp -implicitDefEqProofs only [push_cast, sevalprocAttr, eq_self, ee]) | (simp (disch := omega) only [yF, yK, yG, yL]) | ((first | refine yE rfl (fun bb => ?_) (fun bb => ?_) | with_reducible refine yI (fun bb => ?_) (fun bb => ?_)) <;> (first | have bp := oT bb | have bp := oF bb | skip) <;> try simp only [bb]) | ((with_reducible refine And.intro ?_ ?_); omega) | (with_reducible refine yM ?_ ?_))
 all_goals ((try clear hf); (try clear ee); unfold effS; simp_all)
theorem wr_dS {o : Opn} (ho : o.ok) {r : Int} (hr : 0 ≤ r) : ((wrS o).2 && decide ((wrS o).1 = r)) = true ↔ 0 ≤ dS o ∧ r.toNat = (dS o).toNat := by
 have h1 : 0 ≤ (wrS o).1 := by
  unfold Opn.ok at ho
  unfold wrS; split <;> simp; omega
 unfold dS
 cases h : (wrS o).2
 · simp
 · simp; omega
set_option maxHeartbeats 1000000 in
theorem f112 (l : List Opn) (n : Nat) (r : Int) (hr : 0 ≤ r) (hn : n ≤ l.length) (hl : ∀ o ∈ l, o.ok) (hb : l.length ≤ 1000000) : HV Try.prog 112 [.row (l.map opC), i64 n, u8 r] (i64 (YO l n r.toNat - 1)) := by
 refine yX yZ cf112 (by simp) (by simp [imms, imm, qO]) ?_ rfl
 unfold ac112 re112
 refine yN fun env hE => ?_; have ee := cj5 hE 0 1 2 6 7; simp -implicitDefEqProofs only [push_cast] at ee; clear hE
 repeat' (first | ((try clear hf); with_reducible refine yD fun env K hE hK hf => ?_; have n := cj5 hE 0 1 2 6 7; simp -implicitDefEqProofs only [push_cast, reduceIte, Nat.reduceEqDiff, ee] at n; clear hE ee; have ee := n; clear n) | (with_reducible first | (refine hK _ _ ?_; clear hK K) | (refine Zi ?_; constructor) | refine yB (by decide) ?_ | refine yH (by assumption) ?_ | refine yJ (by assumption) ?_) | (refine yC rfl ?_) | (simp -implicitDefEqProofs only [push_cast, sevalprocAttr, eq_self, ee]) | (simp (disch := omega) only [yF, yK, yG, yL]) | ((first | refine yE rfl (fun bb => ?_) (fun bb => ?_) | with_reducible refine yI (fun bb => ?_) (fun bb => ?_)) <;> (first | have bp := oT bb | have bp := oF bb | skip) <;> try simp only [bb]) | ((with_reducible refine And.intro ?_ ?_); omega) | (with_reducible refine yM ?_ ?_))
 refine yN fun env hE => ?_; have n := cj5 hE 0 1 2 6 7; simp -implicitDefEqProofs only [push_cast, reduceIte, Nat.reduceEqDiff, ee] at n; clear hE ee; have ee := n; clear n; have E112_0 := ee; obtain ⟨e0, e1, e2, e6, e7⟩ := ee
 refine yT (fun nn σ => ∃ (m : Nat), nn = m + m ∧ kp [0, 1, 2] σ.env env ∧ σ.env 7 = i64 ((m : Int) - 1) ∧ (m ≤ n ∧ YO l n r.toNat = YO l m r.toNat)) _ ⟨n, rfl, qG _ _, by refine e7.trans ?_; first | rfl | exact yO (by omega) | exact i64w (by omega), ?_⟩ ?_
 · exact ⟨by omega, rfl⟩
 clear e0 e1 e2 e6 e7; rintro nn ⟨env, h⟩ ⟨m, rfl, q, e7, hI⟩; simp only at e7 hI; simp only [kp, and_true, E112_0] at q; have ee : _ ∧ _ := ⟨e7, q⟩; clear e7 q
 obtain ⟨hm, hlast⟩ := hI
 unfold l112_0
 by_cases hlt : 0 < m
 · have hd : decide ((0 : Int) ≤ (m : Int) - 1) = true := dT (by omega)
   obtain ⟨k, hk⟩ : ∃ k, m = k + 1 := ⟨m - 1, by omega⟩
   have hmk : (m : Int) - 1 = (k : Int) := by omega
   rw [hmk] at hd ee
   have hkl : k < l.length := by omega
   have hr2 := qS hkl .i64
   have ho := hl _ (List.getElem_mem hkl)
   have hw := wr_dS ho hr
   have hoe := qR hkl
   have hLs : YO l (k + 1) r.toNat = if 0 ≤ dS l[k] ∧ r.toNat = (dS l[k]).toNat then (k : Int) + 1 else YO l k r.toNat := by rw [hoe]; rfl
   by_cases hc : ((wrS l[k]).2 && decide ((wrS l[k]).1 = r)) = true
   · repeat' (first | ((try clear hf); with_reducible refine yD fun env K hE hK hf => ?_; have n := cj5 hE 0 1 2 6 7; simp -implicitDefEqProofs only [push_cast, reduceIte, Nat.reduceEqDiff, ee] at n; clear hE ee; have ee := n; clear n) | (with_reducible first | (refine hK _ _ ?_; clear hK K) | (refine Zi ?_; constructor) | refine yB (by decide) ?_ | refine yH (by assumption) ?_ | refine yJ (by assumption) ?_) | (refine yC rfl ?_) | (simp -implicitDefEqProofs only [push_cast, sevalprocAttr, eq_self, ee, hd, hr2, hc]) | (simp (disch := omega) only [yF, yK, yG, yL, hr2]) | ((first | refine yE rfl (fun bb => ?_) (fun bb => ?_) | with_reducible refine yI (fun bb => ?_) (fun bb => ?_)) <;> (first | have bp := oT bb | have bp := oF bb | skip) <;> try simp only [bb]) | ((with_reducible refine And.intro ?_ ?_); omega) | (refine yP (f113 _ ho r) ?_) | (with_reducible refine yM ?_ ?_))
     rw [hlast, hk, hLs, if_pos (hw.1 hc)]
     exact congrArg some (yO (by omega))
   · have hc2 := hc
     rw [Bool.not_eq_true] at hc
     repeat' (first | ((try clear hf); with_reducible refine yD fun env K hE hK hf => ?_; have n := cj5 hE 0 1 2 6 7; simp -implicitDefEqProofs only [push_cast, reduceIte, Nat.reduceEqDiff, ee] at n; clear hE ee; have ee := n; clear n) | (with_reducible first | (refine hK _ _ ?_; clear hK K) | (refine Zi ?_; constructor) | refine yB (by decide) ?_ | refine yH (by assumption) ?_ | refine yJ (by assumption) ?_) | (refine yC rfl ?_) | (simp -implicitDefEqProofs only [push_cast, sevalprocAttr, eq_self, ee, hd, hr2, hc]) | (simp (disch := omega) only [yF, yK, yG, yL, hr2]) | ((first | refine yE rfl (fun bb => ?_) (fun bb => ?_) | with_reducible refine yI (fun bb => ?_) (fun bb => ?_)) <;> (first | have bp := oT bb | have bp := oF bb | skip) <;> try simp only [bb]) | ((with_reducible refine And.intro ?_ ?_); omega) | (refine yP (f113 _ ho r) ?_) | (with_reducible refine yM ?_ ?_))
     refine ⟨_, ?_, k, rfl, by simp -implicitDefEqProofs only [kp, push_cast, reduceIte, Nat.reduceEqDiff, ee, E112_0, and_self], by first | rfl | exact yO (by omega) | exact i64w (by omega), ?_⟩
     · omega
     · refine ⟨by omega, ?_⟩
       rw [hlast, hk, hLs, if_neg (fun h => hc2 (hw.2 h))]
 · have hd : decide ((0 : Int) ≤ (m : Int) - 1) = false := dF (by omega)
   repeat' (first | ((try clear hf); with_reducible refine yD fun env K hE hK hf => ?_; have n := cj5 hE 0 1 2 6 7; simp -implicitDefEqProofs only [push_cast, reduceIte, Nat.reduceEqDiff, ee] at n; clear hE ee; have ee := n; clear n) | (with_reducible first | (refine hK _ _ ?_; clear hK K) | (refine Zi ?_; constructor) | refine yB (by decide) ?_ | refine yH (by assumption) ?_ | refine yJ (by assumption) ?_) | (refine yC rfl ?_) | (simp -implicitDefEqProofs only [push_cast, sevalprocAttr, eq_self, ee, hd]) | (simp (disch := omega) only [yF, yK, yG, yL]) | ((first | refine yE rfl (fun bb => ?_) (fun bb => ?_) | with_reducible refine yI (fun bb => ?_) (fun bb => ?_)) <;> (first | have bp := oT bb | have bp := oF bb | skip) <;> try simp only [bb]) | ((with_reducible refine And.intro ?_ ?_); omega) | (with_reducible refine yM ?_ ?_))
   obtain rfl : m = 0 := by omega
   rw [hlast]
   rfl
theorem lastL_rng (l : List Opn) (n r : Nat) : 0 ≤ YO l n r ∧ YO l n r ≤ n := by
 induction n with
 | zero => simp [YO]
 | succ n ih => simp only [YO]; split <;> omega
theorem any_of {L : Nat → Int} {o : Opn} {i k : Nat} (hk : k < (rdS o).length) (h : L ((rdS o)[k]).toNat = (i : Int) + 1) : US L o i = true := by
 unfold US
 rw [List.any_eq_true]
 exact ⟨_, List.getElem_mem hk, dT h⟩
theorem any_no {L : Nat → Int} {o : Opn} {i : Nat} (h : ∀ (q : Nat) (hq : q < (rdS o).length), L ((rdS o)[q]).toNat ≠ (i : Int) + 1) : US L o i = false := by
 unfold US
 rw [List.any_eq_false]
 intro x hx
 obtain ⟨j, hj, rfl⟩ := List.getElem_of_mem hx
 simpa using h j hj
set_option maxHeartbeats 1000000 in
theorem f92'n (l : List Opn) (i j : Nat) (hi : i ≤ 1000000) (hj : j < l.length) (hl : ∀ o ∈ l, o.ok) (hb : l.length ≤ 1000000) : HV Try.prog 92 [.row (l.map opC), i64 i, i64 j, bl false] (bl (US (YO l j) l[j] i)) := by
 refine yX yZ cf92 (by simp) (by simp [imms, imm, qO]) ?_ rfl
 unfold ac92 re92
 refine yN fun env hE => ?_; have ee := cj8 hE 0 1 2 3 8 9 10 11; simp -implicitDefEqProofs only [push_cast] at ee; clear hE
 have hr := qS hj .i64
 have ho := hl _ (List.getElem_mem hj)
 generalize l[j] = o at *
 repeat' (first | ((try clear hf); with_reducible refine yD fun env K hE hK hf => ?_; have n := cj8 hE 0 1 2 3 8 9 10 11; simp -implicitDefEqProofs only [push_cast, reduceIte, Nat.reduceEqDiff, ee] at n; clear hE ee; have ee := n; clear n) | (with_reducible first | (refine hK _ _ ?_; clear hK K) | (refine Zi ?_; constructor) | refine yB (by decide) ?_ | refine yH (by assumption) ?_ | refine yJ (by assumption) ?_) | (refine yC rfl ?_) | (simp -implicitDefEqProofs only [push_cast, sevalprocAttr, eq_self, ee, hr]) | (simp (disch := omega) only [yF, yK, yG, yL]) | ((first | refine yE rfl (fun bb => ?_) (fun bb => ?_) | with_reducible refine yI (fun bb => ?_) (fun bb => ?_)) <;> (first | have bp := oT bb | have bp := oF bb | skip) <;> try simp only [bb]) | ((with_reducible refine And.intro ?_ ?_); omega) | (refine call_own (YE rfl) (f89 o ho) ?_) | (with_reducible refine yM ?_ ?_))
 refine yN fun env hE => ?_; have n := cj8 hE 0 1 2 3 8 9 10 11; simp -implicitDefEqProofs only [push_cast, reduceIte, Nat.reduceEqDiff, ee] at n; clear hE ee; have ee := n; clear n; have E92_0 := ee; obtain ⟨e0, e1, e2, e3, e8, e9, e10, e11⟩ := ee
 refine yT (fun nn σ => ∃ (k : Nat), nn = (rdS o).length - k ∧ kp [0, 1, 2, 3, 9] σ.env env ∧ σ.env 10 = i64 k ∧ (k ≤ (rdS o).length ∧ ∀ (q : Nat) (hq : q < k) (h : q < (rdS o).length), YO l j ((rdS o)[q]).toNat ≠ (i : Int) + 1)) _ ⟨0, rfl, qG _ _, by refine e10.trans ?_; first | rfl | exact yO (by omega) | exact i64w (by omega), ?_⟩ ?_
 · exact ⟨by omega, fun j hj => by omega⟩
 clear e0 e1 e2 e3 e8 e9 e10 e11; rintro nn ⟨env, h⟩ ⟨k, rfl, q, e10, hI⟩; simp only at e10 hI; simp only [kp, and_true, E92_0] at q; have ee : _ ∧ _ := ⟨e10, q⟩; clear e10 q
 obtain ⟨hk, hall⟩ := hI
 unfold l92_0
 have hrl := rdS_len o
 by_cases hlt : k < (rdS o).length
 · have hd : decide ((k : Int) < ((rdS o).length : Int)) = true := dT (by omega)
   have hr := regs_at hlt .i64
   have hm := rdS_mem ho (List.getElem_mem hlt)
   have hcall := f112 l j (rdS o)[k] hm.1 (by omega) hl hb
   have hrng := lastL_rng l j ((rdS o)[k]).toNat
   have hno := fun h => any_of (L := YO l j) (i := i) hlt h
   generalize hx : (rdS o)[k] = x at *
   by_cases hc : YO l j x.toNat = (i : Int) + 1
   · have d1 : decide (YO l j x.toNat - 1 = (i : Int)) = true := dT (by omega)
     repeat' (first | ((try clear hf); with_reducible refine yD fun env K hE hK hf => ?_; have n := cj8 hE 0 1 2 3 8 9 10 11; simp -implicitDefEqProofs only [push_cast, reduceIte, Nat.reduceEqDiff, ee] at n; clear hE ee; have ee := n; clear n) | (with_reducible first | (refine hK _ _ ?_; clear hK K) | (refine Zi ?_; constructor) | refine yB (by decide) ?_ | refine yH (by assumption) ?_ | refine yJ (by assumption) ?_) | (refine yC rfl ?_) | (simp -implicitDefEqProofs only [push_cast, sevalprocAttr, eq_self, ee, hd, hr, YQ, d1]) | (simp (disch := omega) only [yF, yK, yG, yL, YQ]) | ((first | refine yE rfl (fun bb => ?_) (fun bb => ?_) | with_reducible refine yI (fun bb => ?_) (fun bb => ?_)) <;> (first | have bp := oT bb | have bp := oF bb | skip) <;> try simp only [bb]) | ((with_reducible refine And.intro ?_ ?_); omega) | (refine yP hcall ?_) | (with_reducible refine yM ?_ ?_))
     rw [hno hc]
   · have d1 : decide (YO l j x.toNat - 1 = (i : Int)) = false := dF (by omega)
     repeat' (first | ((try clear hf); with_reducible refine yD fun env K hE hK hf => ?_; have n := cj8 hE 0 1 2 3 8 9 10 11; simp -implicitDefEqProofs only [push_cast, reduceIte, Nat.reduceEqDiff, ee] at n; clear hE ee; have ee := n; clear n) | (with_reducible first | (refine hK _ _ ?_; clear hK K) | (refine Zi ?_; constructor) | refine yB (by decide) ?_ | refine yH (by assumption) ?_ | refine yJ (by assumption) ?_) | (refine yC rfl ?_) | (simp -implicitDefEqProofs only [push_cast, sevalprocAttr, eq_self, ee, hd, hr, YQ, d1]) | (simp (disch := omega) only [yF, yK, yG, yL, YQ]) | ((first | refine yE rfl (fun bb => ?_) (fun bb => ?_) | with_reducible refine yI (fun bb => ?_) (fun bb => ?_)) <;> (first | have bp := oT bb | have bp := oF bb | skip) <;> try simp only [bb]) | ((with_reducible refine And.intro ?_ ?_); omega) | (refine yP hcall ?_) | (with_reducible refine yM ?_ ?_))
     refine ⟨_, ?_, k + 1, rfl, by simp -implicitDefEqProofs only [kp, push_cast, reduceIte, Nat.reduceEqDiff, ee, E92_0, and_self], by first | rfl | exact yO (by omega) | exact i64w (by omega), ?_⟩
     · omega
     · refine ⟨by omega, fun q hq h => ?_⟩
       by_cases e : q < k
       · exact hall q e h
       · obtain rfl : q = k := by omega
         rw [hx]; exact hc
 · have hd : decide ((k : Int) < ((rdS o).length : Int)) = false := dF (by omega)
   repeat' (first | ((try clear hf); with_reducible refine yD fun env K hE hK hf => ?_; have n := cj8 hE 0 1 2 3 8 9 10 11; simp -implicitDefEqProofs only [push_cast, reduceIte, Nat.reduceEqDiff, ee] at n; clear hE ee; have ee := n; clear n) | (with_reducible first | (refine hK _ _ ?_; clear hK K) | (refine Zi ?_; constructor) | refine yB (by decide) ?_ | refine yH (by assumption) ?_ | refine yJ (by assumption) ?_) | (refine yC rfl ?_) | (simp -implicitDefEqProofs only [push_cast, sevalprocAttr, eq_self, ee, hd, YQ]) | (simp (disch := omega) only [yF, yK, yG, yL, YQ]) | ((first | refine yE rfl (fun bb => ?_) (fun bb => ?_) | with_reducible refine yI (fun bb => ?_) (fun bb => ?_)) <;> (first | have bp := oT bb | have bp := oF bb | skip) <;> try simp only [bb]) | ((with_reducible refine And.intro ?_ ?_); omega) | (with_reducible refine yM ?_ ?_))
   rw [any_no fun q hq => hall q (by omega) hq]
def rp1 : ACode := .seq (.ops r94_3 []) (.cond (.t 33) (.ops r94_4 []) .skip)
def rp2 : ACode := .seq (.ops r94_5 []) (.cond (.t 49) (.ops r94_6 []) .skip)
def rp3 : ACode := .seq (.ops r94_7 []) (.cond (.t 88) (.seq (.ops r94_8 []) (.seq (.block 0 (.seq (.ops r94_9 []) (.cond (.t 93) (.ops r94_10 []) (.seq (.ops r94_11 []) (.cond (.t 112) (.ops r94_12 []) .skip))))) (.ops r94_13 []))) .skip)
def rp4 : ACode := .seq (.ops r94_14 []) (.cond (.t 135) (.ops r94_15 []) .skip)
def rpT : ACode := .seq rp1 (.seq rp2 (.seq rp3 (.seq rp4 (.seq (.ops r94_16 []) .ret))))
theorem rp_code : ac94 = .seq (.ops r94_0 []) (.seq (.ops r94_1 []) (.seq (.ops r94_2 []) rpT)) := rfl
def MR (l : List Opn) (t : Tab) (i j : Nat) (dist : Int) (meet : Bool) (E : List Edg) (σ : St) : Prop := ∃ a, σ.env 0 = .row (l.map opC) ∧ σ.env 2 = i64 i ∧ σ.env 3 = i64 j ∧ σ.env 4 = i64 dist ∧ σ.env 5 = bl meet ∧ σ.env 7 = .ptr (2, 7) 0 ∧ σ.env 13 = a ∧ σ.env 14 = u8 (wrS (opAt l j)).1 ∧ σ.env 15 = bl (wrS (opAt l j)).2 ∧
 SlO edC 5 σ.h a E ∧ σ.h.hp (2, 7) = some ⟨true, tabC t⟩ ∧ 2 ≤ σ.h.ep ∧ ∀ x, idOf a = some x → 2 < x.1
theorem MR.done {l : List Opn} {t : Tab} {i j : Nat} {dist : Int} {meet : Bool} {E E' : List Edg} {env : Nat → AV} {h g : Hp} {a : AV} (e0 : env 0 = .row (l.map opC)) (e2 : env 2 = i64 i) (e3 : env 3 = i64 j) (e4 : env 4 = i64 dist) (e5 : env 5 = bl meet) (e7 : env 7 = .ptr (2, 7) 0) (e13 : env 13 = a) (e14 : env 14 = u8 (wrS (opAt l j)).1) (e15 : env 15 = bl (wrS (opAt l j)).2)
 (hs : SlO edC 5 g a E) (hb : g.hp (2, 7) = some ⟨true, tabC t⟩) (he : 2 ≤ g.ep) (hi : ∀ x, idOf a = some x → 2 < x.1) (hx : Ext g h) (hE : E = E') : MR l t i j dist meet E' ⟨env, h⟩ :=
 ⟨a, e0, e2, e3, e4, e5, e7, e13, e14, e15, hE ▸ hs.ext hx, (hx.2 _ (by simpa using he)).trans hb, Nat.le_trans he hx.1, hi⟩
attribute [local irreducible] rpT MR
def rpI (l : List Opn) (t : Tab) (i j : Nat) : Prop := i < l.length ∧ j < l.length ∧ (∀ o ∈ l, o.ok) ∧ YU t
set_option maxHeartbeats 1000000 in
theorem f94'1 {l : List Opn} {t : Tab} {i j : Nat} {dist : Int} {meet : Bool} {E : List Edg} (hI : rpI l t i j) (hE : E.length ≤ 1000) {σ : St} (hM : MR l t i j dist meet E σ) {Q : AEx → St → Prop} : awp Try.prog rp1 (seqK Try.prog (MR l t i j dist meet (E ++ UB (opAt l i) (opAt l j) i j dist)) Q) σ := by
 unfold MR at hM
 obtain ⟨env, h⟩ := σ
 obtain ⟨a, e0, e2, e3, e4, e5, e7, e13, e14, e15, hs, hb, he, hi⟩ := hM
 simp only at e0 e2 e3 e4 e5 e7 e13 e14 e15 hs hb he
 obtain ⟨hil, hjl, hl, ht⟩ := hI
 have e1 : True := trivial; have e12 : True := trivial; have e16 : True := trivial
 unfold rp1
 refine yQ fun hF => ?_
 have hri := qS hil .i64
 have hoi := hl _ (List.getElem_mem hil)
 have hoj := hl _ (List.getElem_mem hjl)
 rw [qR hil] at hri hoi
 rw [qR hjl] at hoj
 generalize opAt l i = x at *
 generalize hyq : opAt l j = y at *
 have hid := fun x hx => hs.id_le (x := x) hx
 have hnn : (wrS y).2 = true → dS y = (wrS y).1 ∧ 0 ≤ dS y := fun h => by
  have hy := hoj
  unfold Opn.ok at hy
  unfold dS; rw [if_pos h]; refine ⟨rfl, ?_⟩
  unfold wrS; split <;> simp; omega
 by_cases h1 : (wrS y).2 = true
 · obtain ⟨g1, g2⟩ := hnn h1
   by_cases h2 : kO x (wrS y).1 = true
   · have hp : UB x y i j dist = [⟨i, j, 0, dist, 1⟩] := by unfold UB; rw [if_pos ⟨g2, by rw [g1]; exact h2⟩]
     rw [hp]
     repeat' (first | ((try clear hf); with_reducible refine yD fun env K hE hK hf => ?_; have n := cj12 hE 0 1 2 3 4 5 7 12 13 14 15 16; simp -implicitDefEqProofs only [push_cast, reduceIte, Nat.reduceEqDiff, e0, e1, e2, e3, e4, e5, e7, e12, e13, e14, e15, e16] at n; clear hE e0 e1 e2 e3 e4 e5 e7 e12 e13 e14 e15 e16; obtain ⟨e0, e1, e2, e3, e4, e5, e7, e12, e13, e14, e15, e16⟩ := n) | (with_reducible first | (refine hK _ _ ?_; clear hK K) | (refine Zi ?_; constructor) | refine yB (by decide) ?_ | refine yH (by assumption) ?_ | refine yJ (by assumption) ?_) | (refine yC rfl ?_) | (simp -implicitDefEqProofs only [push_cast, sevalprocAttr, eq_self, e0, e1, e2, e3, e4, e5, e7, e12, e13, e14, e15, e16, hF.at, hri, h1, h2]) | (simp (disch := omega) only [yF, yK, yG, yL, hF.at, hri, h1, h2]) | (with_reducible refine yM ?_ ?_) | ((first | refine yE rfl (fun bb => ?_) (fun bb => ?_) | with_reducible refine yI (fun bb => ?_) (fun bb => ?_)) <;> (first | have bp := oT bb | have bp := oF bb | skip) <;> try simp only [bb]) | ((with_reducible refine And.intro ?_ ?_); omega) | (refine yP (f56 x hoi _) ?_) | (refine uW (e := ⟨i, j, 0, dist, 1⟩) (hs.ext (by repeat' (first | exact Ext.refl _ | assumption | omega | (with_reducible (refine Eg ?_; constructor))))) qT rfl (by omega) (fun e => by have := hid _ e; simp at this; omega) (by first | omega | (simp -implicitDefEqProofs only [push_cast, sevalprocAttr, eq_self]; first | done | omega)) ?_; intro g a' hs' ha' hep hfr))
     refine MR.done (g := g) e0 e2 e3 e4 e5 e7 rfl (by rw [hyq]; exact e14) (by rw [hyq]; exact e15) hs' ?_ ?_ ?_ (by repeat' (first | exact Ext.refl _ | assumption | omega | (with_reducible (refine Eg ?_; constructor)))) rfl
     · rw [hfr (2, 7) (by first | (simp; done) | (simp; omega)) (fun e => by have := hi _ e; simp at this)]; simp -implicitDefEqProofs only [push_cast, sevalprocAttr, eq_self, hb]
     · rw [hep]; exact (by first | omega | (simp -implicitDefEqProofs only [push_cast, sevalprocAttr, eq_self]; first | done | omega))
     · intro q hq; have := ha' q hq; rw [this]; simp only; omega
   · have hp : UB x y i j dist = [] := by unfold UB; rw [if_neg (fun h => h2 (by rw [← g1]; exact h.2))]
     rw [hp, List.append_nil]
     rw [Bool.not_eq_true] at h2
     repeat' (first | ((try clear hf); with_reducible refine yD fun env K hE hK hf => ?_; have n := cj12 hE 0 1 2 3 4 5 7 12 13 14 15 16; simp -implicitDefEqProofs only [push_cast, reduceIte, Nat.reduceEqDiff, e0, e1, e2, e3, e4, e5, e7, e12, e13, e14, e15, e16] at n; clear hE e0 e1 e2 e3 e4 e5 e7 e12 e13 e14 e15 e16; obtain ⟨e0, e1, e2, e3, e4, e5, e7, e12, e13, e14, e15, e16⟩ := n) | (with_reducible first | (refine hK _ _ ?_; clear hK K) | (refine Zi ?_; constructor) | refine yB (by decide) ?_ | refine yH (by assumption) ?_ | refine yJ (by assumption) ?_) | (refine yC rfl ?_) | (simp -implicitDefEqProofs only [push_cast, sevalprocAttr, eq_self, e0, e1, e2, e3, e4, e5, e7, e12, e13, e14, e15, e16, hF.at, hri, h1, h2]) | (simp (disch := omega) only [yF, yK, yG, yL, hF.at, hri, h1, h2]) | (with_reducible refine yM ?_ ?_) | ((first | refine yE rfl (fun bb => ?_) (fun bb => ?_) | with_reducible refine yI (fun bb => ?_) (fun bb => ?_)) <;> (first | have bp := oT bb | have bp := oF bb | skip) <;> try simp only [bb]) | ((with_reducible refine And.intro ?_ ?_); omega) | (refine yP (f56 x hoi _) ?_))
     exact MR.done (g := h) e0 e2 e3 e4 e5 e7 e13 (by rw [hyq]; exact e14) (by rw [hyq]; exact e15) hs hb he hi (by repeat' (first | exact Ext.refl _ | assumption | omega | (with_reducible (refine Eg ?_; constructor)))) rfl
 · have hp : UB x y i j dist = [] := by
    unfold UB
    rw [if_neg (fun h => h1 (by
     have := h.1
     unfold dS at this
     by_cases g : (wrS y).2 = true
     · exact g
     · rw [if_neg g] at this; omega))]
   rw [hp, List.append_nil]
   rw [Bool.not_eq_true] at h1
   repeat' (first | ((try clear hf); with_reducible refine yD fun env K hE hK hf => ?_; have n := cj12 hE 0 1 2 3 4 5 7 12 13 14 15 16; simp -implicitDefEqProofs only [push_cast, reduceIte, Nat.reduceEqDiff, e0, e1, e2, e3, e4, e5, e7, e12, e13, e14, e15, e16] at n; clear hE e0 e1 e2 e3 e4 e5 e7 e12 e13 e14 e15 e16; obtain ⟨e0, e1, e2, e3, e4, e5, e7, e12, e13, e14, e15, e16⟩ := n) | (with_reducible first | (refine hK _ _ ?_; clear hK K) | (refine Zi ?_; constructor) | refine yB (by decide) ?_ | refine yH (by assumption) ?_ | refine yJ (by assumption) ?_) | (refine yC rfl ?_) | (simp -implicitDefEqProofs only [push_cast, sevalprocAttr, eq_self, e0, e1, e2, e3, e4, e5, e7, e12, e13, e14, e15, e16, hF.at, hri, h1]) | (simp (disch := omega) only [yF, yK, yG, yL, hF.at, hri, h1]) | (with_reducible refine yM ?_ ?_) | ((first | refine yE rfl (fun bb => ?_) (fun bb => ?_) | with_reducible refine yI (fun bb => ?_) (fun bb => ?_)) <;> (first | have bp := oT bb | have bp := oF bb | skip) <;> try simp only [bb]) | ((with_reducible refine And.intro ?_ ?_); omega))
   exact MR.done (g := h) e0 e2 e3 e4 e5 e7 e13 (by rw [hyq]; exact e14) (by rw [hyq]; exact e15) hs hb he hi (by repeat' (first | exact Ext.refl _ | assumption | omega | (with_reducible (refine Eg ?_; constructor)))) rfl
set_option maxHeartbeats 1000000 in
theorem f94'2 {l : List Opn} {t : Tab} {i j : Nat} {dist : Int} {meet : Bool} {E : List Edg} (hI : rpI l t i j) (hE : E.length ≤ 1000) {σ : St} (hM : MR l t i j dist meet E σ) {Q : AEx → St → Prop} : awp Try.prog rp2 (seqK Try.prog (MR l t i j dist meet (E ++ UN t (opAt l i) (opAt l j) i j dist)) Q) σ := by
 unfold MR at hM
 obtain ⟨env, h⟩ := σ
 obtain ⟨a, e0, e2, e3, e4, e5, e7, e13, e14, e15, hs, hb, he, hi⟩ := hM
 simp only at e0 e2 e3 e4 e5 e7 e13 e14 e15 hs hb he
 obtain ⟨hil, hjl, hl, ht⟩ := hI
 have e1 : True := trivial; have e12 : True := trivial; have e16 : True := trivial
 unfold rp2
 refine yQ fun hF => ?_
 have hri := qS hil .i64
 have hrj := qS hjl .i64
 have hoi := hl _ (List.getElem_mem hil)
 have hoj := hl _ (List.getElem_mem hjl)
 rw [qR hil] at hri hoi
 rw [qR hjl] at hrj hoj
 have l1 := WD ht (opAt l i)
 have l2 := WD ht (opAt l j)
 have l3 := ht.1 2 (by omega)
 unfold okC at l3
 generalize opAt l i = x at *
 generalize hyq : opAt l j = y at *
 have hid := fun x hx => hs.id_le (x := x) hx
 by_cases h1 : (wrS y).2 = true
 · have g1 : dS y = (wrS y).1 := by unfold dS; rw [if_pos h1]
   have g2 : 0 ≤ (wrS y).1 := by
    have hy := hoj
    unfold Opn.ok at hy
    unfold wrS; split <;> simp; omega
   have hw := wr_dS hoi g2
   have hxd := (dS_lt hoi).1
   by_cases h2 : ((wrS x).2 && decide ((wrS x).1 = (wrS y).1)) = true
   · have hd := hw.1 h2
     have hp : UN t x y i j dist = [⟨i, j, if latS t x - latS t y + 1 > 0 then latS t x - latS t y + 1 else 0, dist, 2⟩] := by unfold UN; rw [if_pos ⟨by omega, by omega⟩]
     rw [hp]
     repeat' (first | ((try clear hf); with_reducible refine yD fun env K hE hK hf => ?_; have n := cj12 hE 0 1 2 3 4 5 7 12 13 14 15 16; simp -implicitDefEqProofs only [push_cast, reduceIte, Nat.reduceEqDiff, e0, e1, e2, e3, e4, e5, e7, e12, e13, e14, e15, e16] at n; clear hE e0 e1 e2 e3 e4 e5 e7 e12 e13 e14 e15 e16; obtain ⟨e0, e1, e2, e3, e4, e5, e7, e12, e13, e14, e15, e16⟩ := n) | (with_reducible first | (refine hK _ _ ?_; clear hK K) | (refine Zi ?_; constructor) | refine yB (by decide) ?_ | refine yH (by assumption) ?_ | refine yJ (by assumption) ?_) | (refine yC rfl ?_) | (simp -implicitDefEqProofs only [push_cast, sevalprocAttr, eq_self, e0, e1, e2, e3, e4, e5, e7, e12, e13, e14, e15, e16, hF.at, hri, hrj, h1, h2, hb]) | (simp (disch := omega) only [yF, yK, yG, yL, hF.at, hri, hrj, h1, h2, hb]) | (with_reducible refine yM ?_ ?_) | ((first | refine yE rfl (fun bb => ?_) (fun bb => ?_) | with_reducible refine yI (fun bb => ?_) (fun bb => ?_)) <;> (first | have bp := oT bb | have bp := oF bb | skip) <;> try simp only [bb]) | ((with_reducible refine And.intro ?_ ?_); omega) | (refine yP (f113 x hoi _) ?_) | (refine WF (f93 x t) ?_) | (refine WF (f93 y t) ?_) | (refine uW (e := ⟨i, j, if latS t x - latS t y + 1 > 0 then latS t x - latS t y + 1 else 0, dist, 2⟩) (hs.ext (by repeat' (first | exact Ext.refl _ | assumption | omega | (with_reducible (refine Eg ?_; constructor))))) qT rfl (by omega) (fun e => by have := hid _ e; simp at this; omega) (by first | omega | (simp -implicitDefEqProofs only [push_cast, sevalprocAttr, eq_self]; first | done | omega)) ?_; intro g a' hs' ha' hep hfr))
     refine MR.done (g := g) e0 e2 e3 e4 e5 e7 rfl (by rw [hyq]; exact e14) (by rw [hyq]; exact e15) hs' ?_ ?_ ?_ (by repeat' (first | exact Ext.refl _ | assumption | omega | (with_reducible (refine Eg ?_; constructor)))) rfl
     · rw [hfr (2, 7) (by first | (simp; done) | (simp; omega)) (fun e => by have := hi _ e; simp at this)]; simp -implicitDefEqProofs (disch := omega) only [yF, yK, yG, yL, hb, qK]
     · rw [hep]; exact (by first | omega | (simp -implicitDefEqProofs only [push_cast, sevalprocAttr, eq_self]; first | done | omega))
     · intro q hq; have := ha' q hq; rw [this]; simp only; omega
   · have hp : UN t x y i j dist = [] := by
      unfold UN
      rw [if_neg (fun h => h2 (hw.2 ⟨by omega, by omega⟩))]
     rw [hp, List.append_nil]
     rw [Bool.not_eq_true] at h2
     repeat' (first | ((try clear hf); with_reducible refine yD fun env K hE hK hf => ?_; have n := cj12 hE 0 1 2 3 4 5 7 12 13 14 15 16; simp -implicitDefEqProofs only [push_cast, reduceIte, Nat.reduceEqDiff, e0, e1, e2, e3, e4, e5, e7, e12, e13, e14, e15, e16] at n; clear hE e0 e1 e2 e3 e4 e5 e7 e12 e13 e14 e15 e16; obtain ⟨e0, e1, e2, e3, e4, e5, e7, e12, e13, e14, e15, e16⟩ := n) | (with_reducible first | (refine hK _ _ ?_; clear hK K) | (refine Zi ?_; constructor) | refine yB (by decide) ?_ | refine yH (by assumption) ?_ | refine yJ (by assumption) ?_) | (refine yC rfl ?_) | (simp -implicitDefEqProofs only [push_cast, sevalprocAttr, eq_self, e0, e1, e2, e3, e4, e5, e7, e12, e13, e14, e15, e16, hF.at, hri, hrj, h1, h2]) | (simp (disch := omega) only [yF, yK, yG, yL, hF.at, hri, hrj, h1, h2]) | (with_reducible refine yM ?_ ?_) | ((first | refine yE rfl (fun bb => ?_) (fun bb => ?_) | with_reducible refine yI (fun bb => ?_) (fun bb => ?_)) <;> (first | have bp := oT bb | have bp := oF bb | skip) <;> try simp only [bb]) | ((with_reducible refine And.intro ?_ ?_); omega) | (refine yP (f113 x hoi _) ?_))
     exact MR.done (g := h) e0 e2 e3 e4 e5 e7 e13 (by rw [hyq]; exact e14) (by rw [hyq]; exact e15) hs hb he hi (by repeat' (first | exact Ext.refl _ | assumption | omega | (with_reducible (refine Eg ?_; constructor)))) rfl
 · have hp : UN t x y i j dist = [] := by
    unfold UN
    rw [if_neg (fun h => h1 (by
     have := h.1
     unfold dS at this
     by_cases g : (wrS y).2 = true
     · exact g
     · rw [if_neg g] at this; omega))]
   rw [hp, List.append_nil]
   rw [Bool.not_eq_true] at h1
   repeat' (first | ((try clear hf); with_reducible refine yD fun env K hE hK hf => ?_; have n := cj12 hE 0 1 2 3 4 5 7 12 13 14 15 16; simp -implicitDefEqProofs only [push_cast, reduceIte, Nat.reduceEqDiff, e0, e1, e2, e3, e4, e5, e7, e12, e13, e14, e15, e16] at n; clear hE e0 e1 e2 e3 e4 e5 e7 e12 e13 e14 e15 e16; obtain ⟨e0, e1, e2, e3, e4, e5, e7, e12, e13, e14, e15, e16⟩ := n) | (with_reducible first | (refine hK _ _ ?_; clear hK K) | (refine Zi ?_; constructor) | refine yB (by decide) ?_ | refine yH (by assumption) ?_ | refine yJ (by assumption) ?_) | (refine yC rfl ?_) | (simp -implicitDefEqProofs only [push_cast, sevalprocAttr, eq_self, e0, e1, e2, e3, e4, e5, e7, e12, e13, e14, e15, e16, hF.at, hri, h1]) | (simp (disch := omega) only [yF, yK, yG, yL, hF.at, hri, h1]) | (with_reducible refine yM ?_ ?_) | ((first | refine yE rfl (fun bb => ?_) (fun bb => ?_) | with_reducible refine yI (fun bb => ?_) (fun bb => ?_)) <;> (first | have bp := oT bb | have bp := oF bb | skip) <;> try simp only [bb]) | ((with_reducible refine And.intro ?_ ?_); omega))
   exact MR.done (g := h) e0 e2 e3 e4 e5 e7 e13 (by rw [hyq]; exact e14) (by rw [hyq]; exact e15) hs hb he hi (by repeat' (first | exact Ext.refl _ | assumption | omega | (with_reducible (refine Eg ?_; constructor)))) rfl
set_option maxHeartbeats 1000000 in
theorem f94'3 {l : List Opn} {t : Tab} {i j : Nat} {dist : Int} {meet : Bool} {E : List Edg} (hI : rpI l t i j) (hE : E.length ≤ 1000) (hmt : meet = true → (opAt l j).k = 15 ∨ (opAt l j).k = 16) {σ : St} (hM : MR l t i j dist meet E σ) {Q : AEx → St → Prop} : awp Try.prog rp3 (seqK Try.prog (MR l t i j dist meet (E ++ uS t (opAt l i) (opAt l j) i j dist meet)) Q) σ := by
 unfold MR at hM
 obtain ⟨env, h⟩ := σ
 obtain ⟨a, e0, e2, e3, e4, e5, e7, e13, e14, e15, hs, hb, he, hi⟩ := hM
 simp only at e0 e2 e3 e4 e5 e7 e13 e14 e15 hs hb he
 obtain ⟨hil, hjl, hl, ht⟩ := hI
 have e1 : True := trivial; have e12 : True := trivial; have e16 : True := trivial
 unfold rp3
 refine yQ fun hF => ?_
 have hri := qS hil .i64
 have hrj := qS hjl .i64
 have hoi := hl _ (List.getElem_mem hil)
 have hoj := hl _ (List.getElem_mem hjl)
 rw [qR hil] at hri hoi
 rw [qR hjl] at hrj hoj
 have l1 := WD ht (opAt l i)
 have l2 := WD ht (opAt l j)
 have l3 := ht.1 2 (by omega)
 unfold okC at l3
 generalize opAt l i = x at *
 generalize hyq : opAt l j = y at *
 have hid := fun x hx => hs.id_le (x := x) hx
 have q2 : (tabC t)[4 + 2]? = some (i64 (t.l 2)) := rfl
 have q3 : (tabC t)[6]? = some (i64 (t.l 2)) := rfl
 by_cases h0 : meet = true
 rotate_left
 · rw [Bool.not_eq_true] at h0
   subst h0
   have hp : uS t x y i j dist false = [] := by unfold uS; rw [if_neg (fun h => by cases h.1)]
   rw [hp, List.append_nil]
   repeat' (first | ((try clear hf); with_reducible refine yD fun env K hE hK hf => ?_; have n := cj12 hE 0 1 2 3 4 5 7 12 13 14 15 16; simp -implicitDefEqProofs only [push_cast, reduceIte, Nat.reduceEqDiff, e0, e1, e2, e3, e4, e5, e7, e12, e13, e14, e15, e16] at n; clear hE e0 e1 e2 e3 e4 e5 e7 e12 e13 e14 e15 e16; obtain ⟨e0, e1, e2, e3, e4, e5, e7, e12, e13, e14, e15, e16⟩ := n) | (with_reducible first | (refine hK _ _ ?_; clear hK K) | (refine Zi ?_; constructor) | refine yB (by decide) ?_ | refine yH (by assumption) ?_ | refine yJ (by assumption) ?_) | (refine yC rfl ?_) | (simp -implicitDefEqProofs only [push_cast, sevalprocAttr, eq_self, e0, e1, e2, e3, e4, e5, e7, e12, e13, e14, e15, e16, hF.at]) | (simp (disch := omega) only [yF, yK, yG, yL, hF.at]) | (with_reducible refine yM ?_ ?_) | ((first | refine yE rfl (fun bb => ?_) (fun bb => ?_) | with_reducible refine yI (fun bb => ?_) (fun bb => ?_)) <;> (first | have bp := oT bb | have bp := oF bb | skip) <;> try simp only [bb]) | ((with_reducible refine And.intro ?_ ?_); omega))
   exact MR.done (g := h) e0 e2 e3 e4 e5 e7 e13 (by rw [hyq]; exact e14) (by rw [hyq]; exact e15) hs hb he hi (by repeat' (first | exact Ext.refl _ | assumption | omega | (with_reducible (refine Eg ?_; constructor)))) rfl
 have hmt2 := hmt h0
 subst h0
 by_cases h1 : x.k = 16
 · have d1 : decide (x.k = 16) = true := dT h1
   have s1 : stS x = true := d1
   by_cases h2 : y.k = 15
   · have d2 : decide (y.k = 15) = true := dT h2
     have s2 : stS y = false := dF (by omega)
     have hp : uS t x y i j dist true = [⟨i, j, t.l 2, dist, 3⟩] := by unfold uS; rw [s1, s2, if_pos ⟨rfl, .inl rfl⟩]; simp
     rw [hp]
     repeat' (first | ((try clear hf); with_reducible refine yD fun env K hE hK hf => ?_; have n := cj12 hE 0 1 2 3 4 5 7 12 13 14 15 16; simp -implicitDefEqProofs only [push_cast, reduceIte, Nat.reduceEqDiff, e0, e1, e2, e3, e4, e5, e7, e12, e13, e14, e15, e16] at n; clear hE e0 e1 e2 e3 e4 e5 e7 e12 e13 e14 e15 e16; obtain ⟨e0, e1, e2, e3, e4, e5, e7, e12, e13, e14, e15, e16⟩ := n) | (with_reducible first | (refine hK _ _ ?_; clear hK K) | (refine Zi ?_; constructor) | refine yB (by decide) ?_ | refine yH (by assumption) ?_ | refine yJ (by assumption) ?_) | (refine yC rfl ?_) | (simp -implicitDefEqProofs only [push_cast, sevalprocAttr, eq_self, e0, e1, e2, e3, e4, e5, e7, e12, e13, e14, e15, e16, hF.at, hri, hrj, d1, d2, hb, q2, q3, op_0]) | (simp (disch := omega) only [yF, yK, yG, yL, hF.at, hri, hrj, d1, d2, hb, q2, q3, op_0]) | (with_reducible refine yM ?_ ?_) | ((first | refine yE rfl (fun bb => ?_) (fun bb => ?_) | with_reducible refine yI (fun bb => ?_) (fun bb => ?_)) <;> (first | have bp := oT bb | have bp := oF bb | skip) <;> try simp only [bb]) | ((with_reducible refine And.intro ?_ ?_); omega) | (refine uW (e := ⟨i, j, t.l 2, dist, 3⟩) (hs.ext (by repeat' (first | exact Ext.refl _ | assumption | omega | (with_reducible (refine Eg ?_; constructor))))) qT rfl (by omega) (fun e => by have := hid _ e; simp at this; omega) (by first | omega | (simp -implicitDefEqProofs only [push_cast, sevalprocAttr, eq_self]; first | done | omega)) ?_; intro g a' hs' ha' hep hfr))
     refine MR.done (g := g) e0 e2 e3 e4 e5 e7 rfl (by rw [hyq]; exact e14) (by rw [hyq]; exact e15) hs' ?_ ?_ ?_ (by repeat' (first | exact Ext.refl _ | assumption | omega | (with_reducible (refine Eg ?_; constructor)))) rfl
     · rw [hfr (2, 7) (by first | (simp; done) | (simp; omega)) (fun e => by have := hi _ e; simp at this)]; simp -implicitDefEqProofs (disch := omega) only [yF, yK, yG, yL, hb, qK]
     · rw [hep]; exact (by first | omega | (simp -implicitDefEqProofs only [push_cast, sevalprocAttr, eq_self]; first | done | omega))
     · intro q hq; have := ha' q hq; rw [this]; simp only; omega
   · have d2 : decide (y.k = 15) = false := dF h2
     have s2 : stS y = true := dT (by omega)
     have hp : uS t x y i j dist true = [⟨i, j, 1, dist, 3⟩] := by unfold uS; rw [s1, s2, if_pos ⟨rfl, .inl rfl⟩]; simp
     rw [hp]
     repeat' (first | ((try clear hf); with_reducible refine yD fun env K hE hK hf => ?_; have n := cj12 hE 0 1 2 3 4 5 7 12 13 14 15 16; simp -implicitDefEqProofs only [push_cast, reduceIte, Nat.reduceEqDiff, e0, e1, e2, e3, e4, e5, e7, e12, e13, e14, e15, e16] at n; clear hE e0 e1 e2 e3 e4 e5 e7 e12 e13 e14 e15 e16; obtain ⟨e0, e1, e2, e3, e4, e5, e7, e12, e13, e14, e15, e16⟩ := n) | (with_reducible first | (refine hK _ _ ?_; clear hK K) | (refine Zi ?_; constructor) | refine yB (by decide) ?_ | refine yH (by assumption) ?_ | refine yJ (by assumption) ?_) | (refine yC rfl ?_) | (simp -implicitDefEqProofs only [push_cast, sevalprocAttr, eq_self, e0, e1, e2, e3, e4, e5, e7, e12, e13, e14, e15, e16, hF.at, hri, hrj, d1, d2, hb, q2, q3, op_0]) | (simp (disch := omega) only [yF, yK, yG, yL, hF.at, hri, hrj, d1, d2, hb, q2, q3, op_0]) | (with_reducible refine yM ?_ ?_) | ((first | refine yE rfl (fun bb => ?_) (fun bb => ?_) | with_reducible refine yI (fun bb => ?_) (fun bb => ?_)) <;> (first | have bp := oT bb | have bp := oF bb | skip) <;> try simp only [bb]) | ((with_reducible refine And.intro ?_ ?_); omega) | (refine uW (e := ⟨i, j, 1, dist, 3⟩) (hs.ext (by repeat' (first | exact Ext.refl _ | assumption | omega | (with_reducible (refine Eg ?_; constructor))))) qT rfl (by omega) (fun e => by have := hid _ e; simp at this; omega) (by first | omega | (simp -implicitDefEqProofs only [push_cast, sevalprocAttr, eq_self]; first | done | omega)) ?_; intro g a' hs' ha' hep hfr))
     refine MR.done (g := g) e0 e2 e3 e4 e5 e7 rfl (by rw [hyq]; exact e14) (by rw [hyq]; exact e15) hs' ?_ ?_ ?_ (by repeat' (first | exact Ext.refl _ | assumption | omega | (with_reducible (refine Eg ?_; constructor)))) rfl
     · rw [hfr (2, 7) (by first | (simp; done) | (simp; omega)) (fun e => by have := hi _ e; simp at this)]; simp -implicitDefEqProofs (disch := omega) only [yF, yK, yG, yL, hb, qK]
     · rw [hep]; exact (by first | omega | (simp -implicitDefEqProofs only [push_cast, sevalprocAttr, eq_self]; first | done | omega))
     · intro q hq; have := ha' q hq; rw [this]; simp only; omega
 · have d1 : decide (x.k = 16) = false := dF h1
   have s1 : stS x = false := d1
   by_cases h2 : y.k = 16
   · have d2 : decide (y.k = 16) = true := dT h2
     have s2 : stS y = true := d2
     have hp : uS t x y i j dist true = [⟨i, j, 0, dist, 3⟩] := by unfold uS; rw [s1, s2, if_pos ⟨rfl, .inr rfl⟩]; simp
     rw [hp]
     repeat' (first | ((try clear hf); with_reducible refine yD fun env K hE hK hf => ?_; have n := cj12 hE 0 1 2 3 4 5 7 12 13 14 15 16; simp -implicitDefEqProofs only [push_cast, reduceIte, Nat.reduceEqDiff, e0, e1, e2, e3, e4, e5, e7, e12, e13, e14, e15, e16] at n; clear hE e0 e1 e2 e3 e4 e5 e7 e12 e13 e14 e15 e16; obtain ⟨e0, e1, e2, e3, e4, e5, e7, e12, e13, e14, e15, e16⟩ := n) | (with_reducible first | (refine hK _ _ ?_; clear hK K) | (refine Zi ?_; constructor) | refine yB (by decide) ?_ | refine yH (by assumption) ?_ | refine yJ (by assumption) ?_) | (refine yC rfl ?_) | (simp -implicitDefEqProofs only [push_cast, sevalprocAttr, eq_self, e0, e1, e2, e3, e4, e5, e7, e12, e13, e14, e15, e16, hF.at, hri, hrj, d1, d2, hb, q2, q3, op_0]) | (simp (disch := omega) only [yF, yK, yG, yL, hF.at, hri, hrj, d1, d2, hb, q2, q3, op_0]) | (with_reducible refine yM ?_ ?_) | ((first | refine yE rfl (fun bb => ?_) (fun bb => ?_) | with_reducible refine yI (fun bb => ?_) (fun bb => ?_)) <;> (first | have bp := oT bb | have bp := oF bb | skip) <;> try simp only [bb]) | ((with_reducible refine And.intro ?_ ?_); omega) | (refine uW (e := ⟨i, j, 0, dist, 3⟩) (hs.ext (by repeat' (first | exact Ext.refl _ | assumption | omega | (with_reducible (refine Eg ?_; constructor))))) qT rfl (by omega) (fun e => by have := hid _ e; simp at this; omega) (by first | omega | (simp -implicitDefEqProofs only [push_cast, sevalprocAttr, eq_self]; first | done | omega)) ?_; intro g a' hs' ha' hep hfr))
     refine MR.done (g := g) e0 e2 e3 e4 e5 e7 rfl (by rw [hyq]; exact e14) (by rw [hyq]; exact e15) hs' ?_ ?_ ?_ (by repeat' (first | exact Ext.refl _ | assumption | omega | (with_reducible (refine Eg ?_; constructor)))) rfl
     · rw [hfr (2, 7) (by first | (simp; done) | (simp; omega)) (fun e => by have := hi _ e; simp at this)]; simp -implicitDefEqProofs (disch := omega) only [yF, yK, yG, yL, hb, qK]
     · rw [hep]; exact (by first | omega | (simp -implicitDefEqProofs only [push_cast, sevalprocAttr, eq_self]; first | done | omega))
     · intro q hq; have := ha' q hq; rw [this]; simp only; omega
   · have d2 : decide (y.k = 16) = false := dF h2
     have s2 : stS y = false := d2
     have hp : uS t x y i j dist true = [] := by unfold uS; rw [s1, s2, if_neg (by simp)]
     rw [hp, List.append_nil]
     repeat' (first | ((try clear hf); with_reducible refine yD fun env K hE hK hf => ?_; have n := cj12 hE 0 1 2 3 4 5 7 12 13 14 15 16; simp -implicitDefEqProofs only [push_cast, reduceIte, Nat.reduceEqDiff, e0, e1, e2, e3, e4, e5, e7, e12, e13, e14, e15, e16] at n; clear hE e0 e1 e2 e3 e4 e5 e7 e12 e13 e14 e15 e16; obtain ⟨e0, e1, e2, e3, e4, e5, e7, e12, e13, e14, e15, e16⟩ := n) | (with_reducible first | (refine hK _ _ ?_; clear hK K) | (refine Zi ?_; constructor) | refine yB (by decide) ?_ | refine yH (by assumption) ?_ | refine yJ (by assumption) ?_) | (refine yC rfl ?_) | (simp -implicitDefEqProofs only [push_cast, sevalprocAttr, eq_self, e0, e1, e2, e3, e4, e5, e7, e12, e13, e14, e15, e16, hF.at, hri, hrj, d1, d2, hb, q2, q3, op_0]) | (simp (disch := omega) only [yF, yK, yG, yL, hF.at, hri, hrj, d1, d2, hb, q2, q3, op_0]) | (with_reducible refine yM ?_ ?_) | ((first | refine yE rfl (fun bb => ?_) (fun bb => ?_) | with_reducible refine yI (fun bb => ?_) (fun bb => ?_)) <;> (first | have bp := oT bb | have bp := oF bb | skip) <;> try simp only [bb]) | ((with_reducible refine And.intro ?_ ?_); omega))
     exact MR.done (g := h) e0 e2 e3 e4 e5 e7 e13 (by rw [hyq]; exact e14) (by rw [hyq]; exact e15) hs hb he hi (by repeat' (first | exact Ext.refl _ | assumption | omega | (with_reducible (refine Eg ?_; constructor)))) rfl
set_option maxHeartbeats 1000000 in
theorem f94'4 {l : List Opn} {t : Tab} {i j : Nat} {dist : Int} {meet : Bool} {E : List Edg} (hI : rpI l t i j) (hE : E.length ≤ 1000) {σ : St} (hM : MR l t i j dist meet E σ) {Q : AEx → St → Prop} : awp Try.prog rp4 (seqK Try.prog (MR l t i j dist meet (E ++ pair4 (opAt l i) (opAt l j) i j dist)) Q) σ := by
 unfold MR at hM
 obtain ⟨env, h⟩ := σ
 obtain ⟨a, e0, e2, e3, e4, e5, e7, e13, e14, e15, hs, hb, he, hi⟩ := hM
 simp only at e0 e2 e3 e4 e5 e7 e13 e14 e15 hs hb he
 obtain ⟨hil, hjl, hl, ht⟩ := hI
 have e1 : True := trivial; have e12 : True := trivial; have e16 : True := trivial
 unfold rp4
 refine yQ fun hF => ?_
 have hri := qS hil .i64
 have hrj := qS hjl .i64
 have hoi := hl _ (List.getElem_mem hil)
 have hoj := hl _ (List.getElem_mem hjl)
 rw [qR hil] at hri hoi
 rw [qR hjl] at hrj hoj
 have l1 := WD ht (opAt l i)
 have l2 := WD ht (opAt l j)
 have l3 := ht.1 2 (by omega)
 unfold okC at l3
 generalize opAt l i = x at *
 generalize hyq : opAt l j = y at *
 have hid := fun x hx => hs.id_le (x := x) hx
 by_cases h1 : effS x = true
 · by_cases h2 : effS y = true
   · have hp : pair4 x y i j dist = [⟨i, j, 1, dist, 4⟩] := by unfold pair4; rw [if_pos ⟨h1, h2⟩]
     rw [hp]
     repeat' (first | ((try clear hf); with_reducible refine yD fun env K hE hK hf => ?_; have n := cj12 hE 0 1 2 3 4 5 7 12 13 14 15 16; simp -implicitDefEqProofs only [push_cast, reduceIte, Nat.reduceEqDiff, e0, e1, e2, e3, e4, e5, e7, e12, e13, e14, e15, e16] at n; clear hE e0 e1 e2 e3 e4 e5 e7 e12 e13 e14 e15 e16; obtain ⟨e0, e1, e2, e3, e4, e5, e7, e12, e13, e14, e15, e16⟩ := n) | (with_reducible first | (refine hK _ _ ?_; clear hK K) | (refine Zi ?_; constructor) | refine yB (by decide) ?_ | refine yH (by assumption) ?_ | refine yJ (by assumption) ?_) | (refine yC rfl ?_) | (simp -implicitDefEqProofs only [push_cast, sevalprocAttr, eq_self, e0, e1, e2, e3, e4, e5, e7, e12, e13, e14, e15, e16, hF.at, hri, hrj, h1, h2]) | (simp (disch := omega) only [yF, yK, yG, yL, hF.at, hri, hrj, h1, h2]) | (with_reducible refine yM ?_ ?_) | ((first | refine yE rfl (fun bb => ?_) (fun bb => ?_) | with_reducible refine yI (fun bb => ?_) (fun bb => ?_)) <;> (first | have bp := oT bb | have bp := oF bb | skip) <;> try simp only [bb]) | ((with_reducible refine And.intro ?_ ?_); omega) | (refine yP (f114 x) ?_) | (refine yP (f114 y) ?_) | (refine uW (e := ⟨i, j, 1, dist, 4⟩) (hs.ext (by repeat' (first | exact Ext.refl _ | assumption | omega | (with_reducible (refine Eg ?_; constructor))))) qT rfl (by omega) (fun e => by have := hid _ e; simp at this; omega) (by first | omega | (simp -implicitDefEqProofs only [push_cast, sevalprocAttr, eq_self]; first | done | omega)) ?_; intro g a' hs' ha' hep hfr))
     refine MR.done (g := g) e0 e2 e3 e4 e5 e7 rfl (by rw [hyq]; exact e14) (by rw [hyq]; exact e15) hs' ?_ ?_ ?_ (by repeat' (first | exact Ext.refl _ | assumption | omega | (with_reducible (refine Eg ?_; constructor)))) rfl
     · rw [hfr (2, 7) (by first | (simp; done) | (simp; omega)) (fun e => by have := hi _ e; simp at this)]; simp -implicitDefEqProofs (disch := omega) only [yF, yK, yG, yL, hb, qK]
     · rw [hep]; exact (by first | omega | (simp -implicitDefEqProofs only [push_cast, sevalprocAttr, eq_self]; first | done | omega))
     · intro q hq; have := ha' q hq; rw [this]; simp only; omega
   · have hp : pair4 x y i j dist = [] := by unfold pair4; rw [if_neg (fun h => h2 h.2)]
     rw [hp, List.append_nil]
     rw [Bool.not_eq_true] at h2
     repeat' (first | ((try clear hf); with_reducible refine yD fun env K hE hK hf => ?_; have n := cj12 hE 0 1 2 3 4 5 7 12 13 14 15 16; simp -implicitDefEqProofs only [push_cast, reduceIte, Nat.reduceEqDiff, e0, e1, e2, e3, e4, e5, e7, e12, e13, e14, e15, e16] at n; clear hE e0 e1 e2 e3 e4 e5 e7 e12 e13 e14 e15 e16; obtain ⟨e0, e1, e2, e3, e4, e5, e7, e12, e13, e14, e15, e16⟩ := n) | (with_reducible first | (refine hK _ _ ?_; clear hK K) | (refine Zi ?_; constructor) | refine yB (by decide) ?_ | refine yH (by assumption) ?_ | refine yJ (by assumption) ?_) | (refine yC rfl ?_) | (simp -implicitDefEqProofs only [push_cast, sevalprocAttr, eq_self, e0, e1, e2, e3, e4, e5, e7, e12, e13, e14, e15, e16, hF.at, hri, hrj, h1, h2]) | (simp (disch := omega) only [yF, yK, yG, yL, hF.at, hri, hrj, h1, h2]) | (with_reducible refine yM ?_ ?_) | ((first | refine yE rfl (fun bb => ?_) (fun bb => ?_) | with_reducible refine yI (fun bb => ?_) (fun bb => ?_)) <;> (first | have bp := oT bb | have bp := oF bb | skip) <;> try simp only [bb]) | ((with_reducible refine And.intro ?_ ?_); omega) | (refine yP (f114 x) ?_) | (refine yP (f114 y) ?_))
     exact MR.done (g := h) e0 e2 e3 e4 e5 e7 e13 (by rw [hyq]; exact e14) (by rw [hyq]; exact e15) hs hb he hi (by repeat' (first | exact Ext.refl _ | assumption | omega | (with_reducible (refine Eg ?_; constructor)))) rfl
 · have hp : pair4 x y i j dist = [] := by unfold pair4; rw [if_neg (fun h => h1 h.1)]
   rw [hp, List.append_nil]
   rw [Bool.not_eq_true] at h1
   repeat' (first | ((try clear hf); with_reducible refine yD fun env K hE hK hf => ?_; have n := cj12 hE 0 1 2 3 4 5 7 12 13 14 15 16; simp -implicitDefEqProofs only [push_cast, reduceIte, Nat.reduceEqDiff, e0, e1, e2, e3, e4, e5, e7, e12, e13, e14, e15, e16] at n; clear hE e0 e1 e2 e3 e4 e5 e7 e12 e13 e14 e15 e16; obtain ⟨e0, e1, e2, e3, e4, e5, e7, e12, e13, e14, e15, e16⟩ := n) | (with_reducible first | (refine hK _ _ ?_; clear hK K) | (refine Zi ?_; constructor) | refine yB (by decide) ?_ | refine yH (by assumption) ?_ | refine yJ (by assumption) ?_) | (refine yC rfl ?_) | (simp -implicitDefEqProofs only [push_cast, sevalprocAttr, eq_self, e0, e1, e2, e3, e4, e5, e7, e12, e13, e14, e15, e16, hF.at, hri, hrj, h1]) | (simp (disch := omega) only [yF, yK, yG, yL, hF.at, hri, hrj, h1]) | (with_reducible refine yM ?_ ?_) | ((first | refine yE rfl (fun bb => ?_) (fun bb => ?_) | with_reducible refine yI (fun bb => ?_) (fun bb => ?_)) <;> (first | have bp := oT bb | have bp := oF bb | skip) <;> try simp only [bb]) | ((with_reducible refine And.intro ?_ ?_); omega) | (refine yP (f114 x) ?_))
   exact MR.done (g := h) e0 e2 e3 e4 e5 e7 e13 (by rw [hyq]; exact e14) (by rw [hyq]; exact e15) hs hb he hi (by repeat' (first | exact Ext.refl _ | assumption | omega | (with_reducible (refine Eg ?_; constructor)))) rfl
set_option maxHeartbeats 1000000 in
theorem f94 {l : List Opn} {t : Tab} {i j : Nat} (hi : i < l.length) (hj : j < l.length) (hl : ∀ o ∈ l, o.ok) (ht : YU t) (dist : Int) (meet : Bool) (hmt : meet = true → (opAt l j).k = 15 ∨ (opAt l j).k = 16) :
 HVF Try.prog 94 [.row (l.map opC), .agg (tabC t), i64 i, i64 j, i64 dist, bl meet] (.row ((pairE t (opAt l i) (opAt l j) i j dist meet).map edC)) := by
 refine HVF_of_awp yZ cf94 (by simp) (by simp [imms, imm, qO, wJ]) ?_ (by simp only [imm]; exact edrows_imms _)
 rw [rp_code]
 unfold re94
 refine yN fun env hE => ?_; obtain ⟨e0, e1, e2, e3, e4, e5, e7, e12, e13, e14, e15, e16⟩ := cj12 hE 0 1 2 3 4 5 7 12 13 14 15 16; simp -implicitDefEqProofs only [push_cast] at e0 e1 e2 e3 e4 e5 e7 e12 e13 e14 e15 e16; clear hE
 have hrj := qS hj .i64
 have hoj := hl _ (List.getElem_mem hj)
 rw [qR hj] at hrj hoj
 have hI : rpI l t i j := ⟨hi, hj, hl, ht⟩
 obtain ⟨n1, n2, n3, n4⟩ := pair_lens t (opAt l i) (opAt l j) i j dist meet
 rw [pairE_eq]
 have main : ∀ σ, MR l t i j dist meet [] σ → awp Try.prog rpT (PostF [.mv (.t 12)] fun r' h' => lendF wD h' r' = some (.row ((UB (opAt l i) (opAt l j) i j dist ++ UN t (opAt l i) (opAt l j) i j dist ++ uS t (opAt l i) (opAt l j) i j dist meet ++ pair4 (opAt l i) (opAt l j) i j dist).map edC))) σ := by
  intro σ hM
  unfold rpT
  refine UE _ (f94'1 hI (by simp) hM) fun σ hM => ?_
  refine UE _ (f94'2 hI (by simp; omega) hM) fun σ hM => ?_
  refine UE _ (f94'3 hI (by simp; omega) hmt hM) fun σ hM => ?_
  refine UE _ (f94'4 hI (by simp; omega) hM) fun σ hM => ?_
  unfold MR at hM
  obtain ⟨env, h⟩ := σ
  obtain ⟨a, e0, e2, e3, e4, e5, e7, e13, e14, e15, hs, hb, he, hi⟩ := hM
  simp only at e0 e2 e3 e4 e5 e7 e13 e14 e15 hs hb he
  have hlf := (hs.ext (Ext.tick (Ext.refl h))).lendF qT edC_atom 7
  rw [List.nil_append] at hlf
  have e1 : True := trivial; have e12 : True := trivial; have e16 : True := trivial
  repeat' (first | ((try clear hf); with_reducible refine yD fun env K hE hK hf => ?_; have n := cj12 hE 0 1 2 3 4 5 7 12 13 14 15 16; simp -implicitDefEqProofs only [push_cast, reduceIte, Nat.reduceEqDiff, e0, e1, e2, e3, e4, e5, e7, e12, e13, e14, e15, e16] at n; clear hE e0 e1 e2 e3 e4 e5 e7 e12 e13 e14 e15 e16; obtain ⟨e0, e1, e2, e3, e4, e5, e7, e12, e13, e14, e15, e16⟩ := n) | (with_reducible first | (refine hK _ _ ?_; clear hK K) | (refine Zi ?_; constructor) | refine yB (by decide) ?_ | refine yH (by assumption) ?_ | refine yJ (by assumption) ?_) | (refine yC rfl ?_) | (simp -implicitDefEqProofs only [push_cast, sevalprocAttr, eq_self, e0, e1, e2, e3, e4, e5, e7, e12, e13, e14, e15, e16]) | (simp (disch := omega) only [yF, yK, yG, yL]) | (with_reducible refine yM ?_ ?_) | ((first | refine yE rfl (fun bb => ?_) (fun bb => ?_) | with_reducible refine yI (fun bb => ?_) (fun bb => ?_)) <;> (first | have bp := oT bb | have bp := oF bb | skip) <;> try simp only [bb]) | ((with_reducible refine And.intro ?_ ?_); omega))
  exact hlf
 repeat' (first | ((try clear hf); with_reducible refine yD fun env K hE hK hf => ?_; have n := cj12 hE 0 1 2 3 4 5 7 12 13 14 15 16; simp -implicitDefEqProofs only [push_cast, reduceIte, Nat.reduceEqDiff, e0, e1, e2, e3, e4, e5, e7, e12, e13, e14, e15, e16] at n; clear hE e0 e1 e2 e3 e4 e5 e7 e12 e13 e14 e15 e16; obtain ⟨e0, e1, e2, e3, e4, e5, e7, e12, e13, e14, e15, e16⟩ := n) | (with_reducible first | (refine hK _ _ ?_; clear hK K) | (refine Zi ?_; constructor) | refine yB (by decide) ?_ | refine yH (by assumption) ?_ | refine yJ (by assumption) ?_) | (refine yC rfl ?_) | (simp -implicitDefEqProofs only [push_cast, sevalprocAttr, eq_self, e0, e1, e2, e3, e4, e5, e7, e12, e13, e14, e15, e16, hrj]) | (simp (disch := omega) only [yF, yK, yG, yL, hrj]) | (with_reducible refine yM ?_ ?_) | ((first | refine yE rfl (fun bb => ?_) (fun bb => ?_) | with_reducible refine yI (fun bb => ?_) (fun bb => ?_)) <;> (first | have bp := oT bb | have bp := oF bb | skip) <;> try simp only [bb]) | ((with_reducible refine And.intro ?_ ?_); omega) | (refine yP (f88 _ hoj) ?_) | (refine main _ ?_))
 exact MR.done (g := _) e0 e2 e3 e4 e5 e7 e13 rfl rfl (SlO.nil _ _ _) (by simp -implicitDefEqProofs only [push_cast, sevalprocAttr, eq_self]) (by first | omega | (simp -implicitDefEqProofs only [push_cast, sevalprocAttr, eq_self]; first | done | omega)) (fun x hx => by simp [idOf] at hx) (Ext.refl _) rfl
def MO (h0 : Hp) (o : Nat) (l : List Opn) (t : Tab) (E : List Edg) (ex : (Nat → AV) → Prop) (σ : St) : Prop := ∃ a, σ.env 0 = .row (l.map opC) ∧ σ.env 3 = .ptr (h0.ep + 1 + 1, 3) 0 ∧ σ.env o = a ∧ ex σ.env ∧
 SlO edC 5 σ.h a E ∧ σ.h.hp (h0.ep + 1 + 1, 3) = some ⟨true, tabC t⟩ ∧ Ext h0 σ.h ∧ h0.ep + 2 ≤ σ.h.ep ∧ ∀ x, idOf a = some x → h0.ep + 2 < x.1
theorem MO.mk {h0 : Hp} {o : Nat} {l : List Opn} {t : Tab} {E E' : List Edg} {ex : (Nat → AV) → Prop} {env : Nat → AV} {g h : Hp} {a : AV} (e0 : env 0 = .row (l.map opC)) (e3 : env 3 = .ptr (h0.ep + 1 + 1, 3) 0) (eo : env o = a) (he : ex env) (hs : SlO edC 5 g a E) (hb : g.hp (h0.ep + 1 + 1, 3) = some ⟨true, tabC t⟩)
 (hX : Ext h0 g) (hp : h0.ep + 2 ≤ g.ep) (hi : ∀ x, idOf a = some x → h0.ep + 2 < x.1) (hx : Ext g h) (hE : E = E') : MO h0 o l t E' ex ⟨env, h⟩ :=
 ⟨a, e0, e3, eo, he, hE ▸ hs.ext hx, (hx.2 _ (by simpa using hp)).trans hb, hX.tr hx, Nat.le_trans hp hx.1, hi⟩
theorem MO.imp {h0 : Hp} {o : Nat} {l : List Opn} {t : Tab} {E : List Edg} {ex ex' : (Nat → AV) → Prop} {σ : St} (h : MO h0 o l t E ex σ) (k : ∀ env, ex env → ex' env) : MO h0 o l t E ex' σ := by
 obtain ⟨a, e0, e3, eo, he, r⟩ := h
 exact ⟨a, e0, e3, eo, k _ he, r⟩
theorem MO.app {h0 g h : Hp} {a : AV} {id : Id} (hX : Ext h0 h) (hp : h0.ep + 2 ≤ h.ep) (hi : ∀ x, idOf a = some x → h0.ep + 2 < x.1) (hid : h0.ep + 2 < id.1) (hep : g.ep = h.ep) (hfr : ∀ x, x ≠ id → idOf a ≠ some x → g.hp x = h.hp x) :
 Ext h0 g ∧ g.hp (h0.ep + 1 + 1, 3) = h.hp (h0.ep + 1 + 1, 3) := by
 refine ⟨⟨by rw [hep]; exact hX.1, fun x hx => ?_⟩, hfr _ (fun e => by have := congrArg Prod.fst e; simp at this; omega) (fun e => by have := hi _ e; simp at this)⟩
 rw [hfr x (fun e => by rw [e] at hx; omega) (fun e => by have := hi _ e; omega)]
 exact hX.2 x hx
def exIJ (i j : Nat) (env : Nat → AV) : Prop := env 8 = i64 j ∧ env 9 = i64 i
def exJ (j : Nat) (env : Nat → AV) : Prop := env 8 = i64 j
theorem meet_mem {a b : Opn} {s : List Opn} (h : uT a b s = true) : b.k = 15 ∨ b.k = 16 := by
 unfold uT memS at h
 simp only [Bool.and_eq_true, Bool.or_eq_true, decide_eq_true_eq] at h
 exact h.1.1.2.1
set_option maxHeartbeats 1000000 in
theorem f72'1 {h0 : Hp} {l : List Opn} {t : Tab} {i j : Nat} {E : List Edg} (hil : i < l.length) (hjl : j < l.length) (hl : ∀ o ∈ l, o.ok) (ht : YU t) (hn : l.length ≤ 1024) (hE : E.length ≤ 30000000) {σ : St} (hM : MO h0 7 l t E (exIJ i j) σ) {Q : AEx → St → Prop} :
 awp Try.prog (.seq (.ops r72_9 []) (.cond (.t 30) (.ops r72_10 []) .skip)) (seqK Try.prog (MO h0 7 l t (E ++ if US (YO l j) (opAt l j) i = true then [⟨i, j, latS t (opAt l i), 0, 0⟩] else []) (exIJ i j)) Q) σ := by
 obtain ⟨env, h⟩ := σ
 obtain ⟨a, e0, e3, e7, ⟨e8, e9⟩, hs, hb, hX, hp, hi⟩ := hM
 simp only at e0 e3 e7 e8 e9 hs hb hX hp
 have e1 : True := trivial; have e4 : True := trivial; have e5 : True := trivial; have e6 : True := trivial
 refine yQ fun hF => ?_
 have hri := qS hil .i64
 have hfl := f92'n l i j (by omega) hjl hl (by omega)
 rw [qR hil] at hri
 rw [qR hjl] at hfl
 have l1 := WD ht (opAt l i)
 generalize opAt l i = x at *
 generalize opAt l j = y at *
 have hid := fun x hx => hs.id_le (x := x) hx
 by_cases h1 : US (YO l j) y i = true
 · rw [if_pos h1]
   rw [h1] at hfl
   repeat' (first | ((try clear hf); with_reducible refine yD fun env K hE hK hf => ?_; have n := cj9 hE 0 1 3 4 5 6 7 8 9; simp -implicitDefEqProofs only [push_cast, reduceIte, Nat.reduceEqDiff, e0, e1, e3, e4, e5, e6, e7, e8, e9] at n; clear hE e0 e1 e3 e4 e5 e6 e7 e8 e9; obtain ⟨e0, e1, e3, e4, e5, e6, e7, e8, e9⟩ := n) | (with_reducible first | (refine hK _ _ ?_; clear hK K) | (refine Zi ?_; constructor) | refine yB (by decide) ?_ | refine yH (by assumption) ?_ | refine yJ (by assumption) ?_) | (refine yC rfl ?_) | (simp -implicitDefEqProofs only [push_cast, sevalprocAttr, eq_self, e0, e1, e3, e4, e5, e6, e7, e8, e9, hF.at, hri, hb]) | (simp (disch := omega) only [yF, yK, yG, yL, hF.at, hri, hb]) | (with_reducible refine yM ?_ ?_) | ((first | refine yE rfl (fun bb => ?_) (fun bb => ?_) | with_reducible refine yI (fun bb => ?_) (fun bb => ?_)) <;> (first | have bp := oT bb | have bp := oF bb | skip) <;> try simp only [bb]) | ((with_reducible refine And.intro ?_ ?_); omega) | (refine yP hfl ?_) | (refine WF (f93 x t) ?_) | (refine uW (e := ⟨i, j, latS t x, 0, 0⟩) (hs.ext (by repeat' (first | exact Ext.refl _ | assumption | omega | (with_reducible (refine Eg ?_; constructor))))) qT rfl (by omega) (fun e => by have := hid _ e; simp at this; omega) (by first | omega | (simp -implicitDefEqProofs only [push_cast, sevalprocAttr, eq_self]; first | done | omega)) ?_; intro g a' hs' ha' hep hfr))
   obtain ⟨q1, q2⟩ := MO.app (h0 := h0) (Ext.tr hX (by repeat' (first | exact Ext.refl _ | assumption | omega | (with_reducible (refine Eg ?_; constructor))))) (by simp -implicitDefEqProofs only [push_cast, sevalprocAttr, eq_self]; omega) hi (by simp only; omega) hep hfr
   exact MO.mk (g := g) e0 e3 rfl ⟨e8, e9⟩ hs' (by rw [q2]; simp (disch := omega) only [yF, yK, yG, yL, hb, qK]) q1 (by rw [hep]; exact (by first | omega | (simp -implicitDefEqProofs only [push_cast, sevalprocAttr, eq_self]; first | done | omega))) (fun q hq => by have := ha' q hq; rw [this]; simp only; omega) (by repeat' (first | exact Ext.refl _ | assumption | omega | (with_reducible (refine Eg ?_; constructor)))) rfl
 · rw [if_neg h1, List.append_nil]
   rw [Bool.not_eq_true] at h1
   rw [h1] at hfl
   repeat' (first | ((try clear hf); with_reducible refine yD fun env K hE hK hf => ?_; have n := cj9 hE 0 1 3 4 5 6 7 8 9; simp -implicitDefEqProofs only [push_cast, reduceIte, Nat.reduceEqDiff, e0, e1, e3, e4, e5, e6, e7, e8, e9] at n; clear hE e0 e1 e3 e4 e5 e6 e7 e8 e9; obtain ⟨e0, e1, e3, e4, e5, e6, e7, e8, e9⟩ := n) | (with_reducible first | (refine hK _ _ ?_; clear hK K) | (refine Zi ?_; constructor) | refine yB (by decide) ?_ | refine yH (by assumption) ?_ | refine yJ (by assumption) ?_) | (refine yC rfl ?_) | (simp -implicitDefEqProofs only [push_cast, sevalprocAttr, eq_self, e0, e1, e3, e4, e5, e6, e7, e8, e9, hF.at, hri, hb]) | (simp (disch := omega) only [yF, yK, yG, yL, hF.at, hri, hb]) | (with_reducible refine yM ?_ ?_) | ((first | refine yE rfl (fun bb => ?_) (fun bb => ?_) | with_reducible refine yI (fun bb => ?_) (fun bb => ?_)) <;> (first | have bp := oT bb | have bp := oF bb | skip) <;> try simp only [bb]) | ((with_reducible refine And.intro ?_ ?_); omega) | (refine yP hfl ?_))
   exact MO.mk (g := h) e0 e3 e7 ⟨e8, e9⟩ hs hb hX hp hi (by repeat' (first | exact Ext.refl _ | assumption | omega | (with_reducible (refine Eg ?_; constructor)))) rfl
set_option maxHeartbeats 1000000 in
theorem f72'2 {h0 : Hp} {l : List Opn} {t : Tab} {i j : Nat} {E : List Edg} (hil : i < l.length) (hjl : j < l.length) (hij : i < j) (hl : ∀ o ∈ l, o.ok) (ht : YU t) (hn : l.length ≤ 1024) (hE : E.length ≤ 30000000) {σ : St} (hM : MO h0 7 l t E (exIJ i j) σ) {Q : AEx → St → Prop}
 (hQ : ∀ σ', MO h0 7 l t (E ++ pairE t (opAt l i) (opAt l j) i j 0 (uT (opAt l i) (opAt l j) ((l.drop i).take (j - i)))) (exIJ i j) σ' → Q .normal σ') : awp Try.prog (.ops r72_11 []) Q σ := by
 obtain ⟨env, h⟩ := σ
 obtain ⟨a, e0, e3, e7, ⟨e8, e9⟩, hs, hb, hX, hp, hi⟩ := hM
 simp only at e0 e3 e7 e8 e9 hs hb hX hp
 have e1 : True := trivial; have e4 : True := trivial; have e5 : True := trivial; have e6 : True := trivial
 have hF : YA h → YA h := id
 have hmt : HV Try.prog 102 [.row (l.map opC), i64 i, i64 j] (bl (uT (opAt l i) (opAt l j) ((l.drop i).take (j - i)))) := by
  have := f102 l i j hij hjl hl (by omega)
  unfold meetL at this; rw [qR hil, qR hjl] at this
  exact this
 have hpr := f94 hil hjl hl ht 0 (uT (opAt l i) (opAt l j) ((l.drop i).take (j - i))) (fun h => meet_mem h)
 obtain ⟨n1, n2, n3, n4⟩ := pair_lens t (opAt l i) (opAt l j) i j 0 (uT (opAt l i) (opAt l j) ((l.drop i).take (j - i)))
 have hpl : (pairE t (opAt l i) (opAt l j) i j 0 (uT (opAt l i) (opAt l j) ((l.drop i).take (j - i)))).length ≤ 4 := by rw [pairE_eq]; simp only [List.length_append]; omega
 generalize pairE t (opAt l i) (opAt l j) i j 0 (uT (opAt l i) (opAt l j) ((l.drop i).take (j - i))) = pe at *
 have hid := fun x hx => hs.id_le (x := x) hx
 repeat' (first | ((try clear hf); with_reducible refine yD fun env K hE hK hf => ?_; have n := cj9 hE 0 1 3 4 5 6 7 8 9; simp -implicitDefEqProofs only [push_cast, reduceIte, Nat.reduceEqDiff, e0, e1, e3, e4, e5, e6, e7, e8, e9] at n; clear hE e0 e1 e3 e4 e5 e6 e7 e8 e9; obtain ⟨e0, e1, e3, e4, e5, e6, e7, e8, e9⟩ := n) | (with_reducible first | (refine hK _ _ ?_; clear hK K) | (refine Zi ?_; constructor) | refine yB (by decide) ?_ | refine yH (by assumption) ?_ | refine yJ (by assumption) ?_) | (refine yC rfl ?_) | (simp -implicitDefEqProofs only [push_cast, sevalprocAttr, eq_self, e0, e1, e3, e4, e5, e6, e7, e8, e9, hb, app_src edC 5 qT]) | (simp (disch := omega) only [yF, yK, yG, yL, hb, app_src edC 5 qT]) | (with_reducible refine yM ?_ ?_) | ((first | refine yE rfl (fun bb => ?_) (fun bb => ?_) | with_reducible refine yI (fun bb => ?_) (fun bb => ?_)) <;> (first | have bp := oT bb | have bp := oF bb | skip) <;> try simp only [bb]) | ((with_reducible refine And.intro ?_ ?_); omega) | (refine WF hmt ?_) | (refine call_ownq (YE (by simp [imms, imm, qO, wJ])) hpr ?_) | (refine goM_appN (fs := pe) (hs.ext (by repeat' (first | exact Ext.refl _ | assumption | omega | (with_reducible (refine Eg ?_; constructor))))) qT (flat_one edC_one pe) (by omega) (fun e => by have := hid _ e; simp at this; omega) (by first | omega | (simp -implicitDefEqProofs only [push_cast, sevalprocAttr, eq_self]; first | done | omega)) ?_; intro g a' hs' ha' hep hfr))
 obtain ⟨q1, q2⟩ := MO.app (h0 := h0) (Ext.tr hX (by repeat' (first | exact Ext.refl _ | assumption | omega | (with_reducible (refine Eg ?_; constructor))))) (by simp -implicitDefEqProofs only [push_cast, sevalprocAttr, eq_self]; omega) hi (by simp only; omega) hep hfr
 exact hQ _ (MO.mk (g := g) e0 e3 rfl ⟨e8, e9⟩ hs' (by rw [q2]; simp (disch := omega) only [yF, yK, yG, yL, hb, qK]) q1 (by rw [hep]; exact (by first | omega | (simp -implicitDefEqProofs only [push_cast, sevalprocAttr, eq_self]; first | done | omega))) (fun q hq => by have := ha' q hq; rw [this]; simp only; omega) (by repeat' (first | exact Ext.refl _ | assumption | omega | (with_reducible (refine Eg ?_; constructor)))) rfl)
def rOb : ACode := .seq (.seq (.ops r72_9 []) (.cond (.t 30) (.ops r72_10 []) .skip)) (.ops r72_11 [])
theorem rO_eq : l72_0 = .seq (.seq (.ops r72_8 []) (.cond (.t 24) .skip (.exit 2))) (.seq (.block 3 rOb) (.ops r72_12 [])) := rfl
theorem ijE_eq (l : List Opn) (t : Tab) (i j : Nat) : ijE l t i j = (if US (YO l j) (opAt l j) i = true then [⟨i, j, latS t (opAt l i), 0, 0⟩] else []) ++ pairE t (opAt l i) (opAt l j) i j 0 (uT (opAt l i) (opAt l j) ((l.drop i).take (j - i))) := rfl
attribute [local irreducible] rOb
set_option maxHeartbeats 1000000 in
theorem f72'b {h0 : Hp} {l : List Opn} {t : Tab} {j : Nat} (hj : j < l.length) (hl : ∀ o ∈ l, o.ok) (ht : YU t) (hn : l.length ≤ 1024) {σ : St} (hM : MO h0 7 l t (YF l t j) (exJ j) σ) {Q : AEx → St → Prop} (h9 : σ.env 9 = i64 0)
 (hQ : ∀ σ', MO h0 7 l t (YF l t (j + 1)) (exJ j) σ' → Q (.exit 2) σ') : awp Try.prog (.loop l72_0) Q σ := by
 have hol := WC l t l.length j (by omega)
 have hmul : 5 * l.length * j ≤ 5 * 1024 * 1024 := Nat.mul_le_mul (by omega) (by omega)
 refine yT (fun nn σ => ∃ i, nn = j - i ∧ i ≤ j ∧ MO h0 7 l t (YF l t j ++ toE l t j i) (exIJ i j) σ) j ⟨0, by omega, by omega, ?_⟩ ?_
 · obtain ⟨a, e0, e3, eo, e8, r⟩ := hM
   exact ⟨a, e0, e3, eo, ⟨e8, h9⟩, by rw [show toE l t j 0 = [] from rfl, List.append_nil]; exact r⟩
 rintro nn ⟨env, h⟩ ⟨i, rfl, hi, hM⟩
 have hM' := hM
 obtain ⟨a, e0, e3, e7, ⟨e8, e9⟩, hs, hb, hX, hp, hia⟩ := hM
 simp only at e0 e3 e7 e8 e9 hs hb hX hp
 have e1 : True := trivial; have e4 : True := trivial; have e5 : True := trivial; have e6 : True := trivial
 rw [rO_eq]
 have hmx : ∀ env, exIJ i j env → True := fun _ _ => trivial
 by_cases hlt : i < j
 · have hd : decide ((i : Int) < (j : Int)) = true := dT (by omega)
   have main : ∀ (Q : AEx → St → Prop) (env' : Nat → AV) (h' : Hp), env' 0 = .row (l.map opC) → env' 3 = .ptr (h0.ep + 1 + 1, 3) 0 → env' 7 = a → env' 8 = i64 j → env' 9 = i64 i → Ext h h' → (∀ σ', MO h0 7 l t (YF l t j ++ toE l t j (i + 1)) (exIJ i j) σ' → Q .normal σ') → awp Try.prog rOb Q ⟨env', h'⟩ := by
    intro Q env' h' g0 g3 go g8 g9 hx hQ
    have hM2 := MO.mk (h0 := h0) (o := 7) (l := l) (t := t) (ex := exIJ i j) g0 g3 go ⟨g8, g9⟩ hs hb hX hp hia hx rfl
    have hl1 := toE_len l t j i
    unfold rOb
    refine UE _ (f72'1 (by omega) hj hl ht hn (by rw [List.length_append]; omega) hM2) fun σ' hM3 => ?_
    refine f72'2 (by omega) hj hlt hl ht hn (by simp only [List.length_append]; split <;> simp <;> omega) hM3 fun σ' hM4 => hQ σ' ?_
    have hE : YF l t j ++ toE l t j (i + 1) = (YF l t j ++ toE l t j i ++ if US (YO l j) (opAt l j) i = true then [⟨i, j, latS t (opAt l i), 0, 0⟩] else []) ++ pairE t (opAt l i) (opAt l j) i j 0 (uT (opAt l i) (opAt l j) ((l.drop i).take (j - i))) := by
     rw [show toE l t j (i + 1) = toE l t j i ++ ijE l t i j from rfl, ijE_eq]
     simp only [List.append_assoc]
    rw [hE]
    exact hM4
   repeat' (first | ((try clear hf); with_reducible refine yD fun env K hE hK hf => ?_; have n := cj9 hE 0 1 3 4 5 6 7 8 9; simp -implicitDefEqProofs only [push_cast, reduceIte, Nat.reduceEqDiff, e0, e1, e3, e4, e5, e6, e7, e8, e9] at n; clear hE e0 e1 e3 e4 e5 e6 e7 e8 e9; obtain ⟨e0, e1, e3, e4, e5, e6, e7, e8, e9⟩ := n) | (with_reducible first | (refine hK _ _ ?_; clear hK K) | (refine Zi ?_; constructor) | refine yB (by decide) ?_ | refine yH (by assumption) ?_ | refine yJ (by assumption) ?_) | (refine yC rfl ?_) | (simp -implicitDefEqProofs only [push_cast, sevalprocAttr, eq_self, e0, e1, e3, e4, e5, e6, e7, e8, e9, hd]) | (simp (disch := omega) only [yF, yK, yG, yL, hd]) | (with_reducible refine yM ?_ ?_) | ((first | refine yE rfl (fun bb => ?_) (fun bb => ?_) | with_reducible refine yI (fun bb => ?_) (fun bb => ?_)) <;> (first | have bp := oT bb | have bp := oF bb | skip) <;> try simp only [bb]) | ((with_reducible refine And.intro ?_ ?_); omega) | (refine main _ _ _ e0 e3 e7 e8 e9 (by repeat' (first | exact Ext.refl _ | assumption | omega | (with_reducible (refine Eg ?_; constructor)))) ?_))
   rintro ⟨env, h⟩ hM
   obtain ⟨a, e0, e3, e7, ⟨e8, e9⟩, hs, hb, hX, hp, hia⟩ := hM
   simp only at e0 e3 e7 e8 e9 hs hb hX hp
   have e1 : True := trivial; have e4 : True := trivial; have e5 : True := trivial; have e6 : True := trivial
   repeat' (first | ((try clear hf); with_reducible refine yD fun env K hE hK hf => ?_; have n := cj9 hE 0 1 3 4 5 6 7 8 9; simp -implicitDefEqProofs only [push_cast, reduceIte, Nat.reduceEqDiff, e0, e1, e3, e4, e5, e6, e7, e8, e9] at n; clear hE e0 e1 e3 e4 e5 e6 e7 e8 e9; obtain ⟨e0, e1, e3, e4, e5, e6, e7, e8, e9⟩ := n) | (with_reducible first | (refine hK _ _ ?_; clear hK K) | (refine Zi ?_; constructor) | refine yB (by decide) ?_ | refine yH (by assumption) ?_ | refine yJ (by assumption) ?_) | (refine yC rfl ?_) | (simp -implicitDefEqProofs only [push_cast, sevalprocAttr, eq_self, e0, e1, e3, e4, e5, e6, e7, e8, e9]) | (simp (disch := omega) only [yF, yK, yG, yL]) | (with_reducible refine yM ?_ ?_) | ((first | refine yE rfl (fun bb => ?_) (fun bb => ?_) | with_reducible refine yI (fun bb => ?_) (fun bb => ?_)) <;> (first | have bp := oT bb | have bp := oF bb | skip) <;> try simp only [bb]) | ((with_reducible refine And.intro ?_ ?_); omega))
   refine ⟨j - (i + 1), by omega, i + 1, rfl, by omega, MO.mk e0 e3 e7 ⟨e8, ?_⟩ hs hb hX hp hia (by repeat' (first | exact Ext.refl _ | assumption | omega | (with_reducible (refine Eg ?_; constructor)))) rfl⟩
   simp -implicitDefEqProofs only [push_cast, sevalprocAttr, eq_self]
 · have hd : decide ((i : Int) < (j : Int)) = false := dF (by omega)
   obtain rfl : i = j := by omega
   repeat' (first | ((try clear hf); with_reducible refine yD fun env K hE hK hf => ?_; have n := cj9 hE 0 1 3 4 5 6 7 8 9; simp -implicitDefEqProofs only [push_cast, reduceIte, Nat.reduceEqDiff, e0, e1, e3, e4, e5, e6, e7, e8, e9] at n; clear hE e0 e1 e3 e4 e5 e6 e7 e8 e9; obtain ⟨e0, e1, e3, e4, e5, e6, e7, e8, e9⟩ := n) | (with_reducible first | (refine hK _ _ ?_; clear hK K) | (refine Zi ?_; constructor) | refine yB (by decide) ?_ | refine yH (by assumption) ?_ | refine yJ (by assumption) ?_) | (refine yC rfl ?_) | (simp -implicitDefEqProofs only [push_cast, sevalprocAttr, eq_self, e0, e1, e3, e4, e5, e6, e7, e8, e9, hd]) | (simp (disch := omega) only [yF, yK, yG, yL, hd]) | (with_reducible refine yM ?_ ?_) | ((first | refine yE rfl (fun bb => ?_) (fun bb => ?_) | with_reducible refine yI (fun bb => ?_) (fun bb => ?_)) <;> (first | have bp := oT bb | have bp := oF bb | skip) <;> try simp only [bb]) | ((with_reducible refine And.intro ?_ ?_); omega) | (refine hQ _ ?_))
   exact MO.mk e0 e3 e7 e8 hs hb hX hp hia (by repeat' (first | exact Ext.refl _ | assumption | omega | (with_reducible (refine Eg ?_; constructor)))) rfl
set_option maxHeartbeats 1000000 in
theorem f72 {h0 : Hp} {l : List Opn} {t : Tab} (hl : ∀ o ∈ l, o.ok) :
 HC Try.prog 72 [.row (l.map opC), .agg (tabC t)] h0 fun r h' => Ext h0 h' ∧ ((errR l t ≠ 0 ∧ r = .tup [.nil, i64 (errR l t)]) ∨ (errR l t = 0 ∧ ∃ out, r = .tup [out, i64 0] ∧ OutR h' out (YF l t l.length) ∧ ∀ x, idOf out = some x → h0.ep < x.1)) := by
 refine qH yZ cf72 (by simp) fun hF => ?_
 unfold ac72 re72
 refine yN fun env hE => ?_; obtain ⟨e0, e1, e3, e4, e5, e6, e7, e8, e9⟩ := cj9 hE 0 1 3 4 5 6 7 8 9; simp -implicitDefEqProofs only [push_cast] at e0 e1 e3 e4 e5 e6 e7 e8 e9; clear hE
 by_cases hR : errR l t = 0
 rotate_left
 · have hd : decide (errR l t ≠ 0) = true := dT hR
   repeat' (first | ((try clear hf); with_reducible refine yD fun env K hE hK hf => ?_; have n := cj9 hE 0 1 3 4 5 6 7 8 9; simp -implicitDefEqProofs only [push_cast, reduceIte, Nat.reduceEqDiff, e0, e1, e3, e4, e5, e6, e7, e8, e9] at n; clear hE e0 e1 e3 e4 e5 e6 e7 e8 e9; obtain ⟨e0, e1, e3, e4, e5, e6, e7, e8, e9⟩ := n) | (with_reducible first | (refine hK _ _ ?_; clear hK K) | (refine Zi ?_; constructor) | refine yB (by decide) ?_ | refine yH (by assumption) ?_ | refine yJ (by assumption) ?_) | (refine yC rfl ?_) | (simp -implicitDefEqProofs only [push_cast, sevalprocAttr, eq_self, e0, e1, e3, e4, e5, e6, e7, e8, e9, hF.at, hd]) | (simp (disch := omega) only [yF, yK, yG, yL, hF.at, hd]) | (with_reducible refine yM ?_ ?_) | ((first | refine yE rfl (fun bb => ?_) (fun bb => ?_) | with_reducible refine yI (fun bb => ?_) (fun bb => ?_)) <;> (first | have bp := oT bb | have bp := oF bb | skip) <;> try simp only [bb]) | ((with_reducible refine And.intro ?_ ?_); omega) | (refine yP (f90 l t hl) ?_))
   exact ⟨(by repeat' (first | exact Ext.refl _ | assumption | omega | (with_reducible (refine Eg ?_; constructor)))), .inl hR⟩
 obtain ⟨ht, hn, _⟩ := WP hR
 have hd0 : decide (errR l t ≠ 0) = false := dF (fun h => h hR)
 repeat' (first | ((try clear hf); with_reducible refine yD fun env K hE hK hf => ?_; have n := cj9 hE 0 1 3 4 5 6 7 8 9; simp -implicitDefEqProofs only [push_cast, reduceIte, Nat.reduceEqDiff, e0, e1, e3, e4, e5, e6, e7, e8, e9] at n; clear hE e0 e1 e3 e4 e5 e6 e7 e8 e9; obtain ⟨e0, e1, e3, e4, e5, e6, e7, e8, e9⟩ := n) | (with_reducible first | (refine hK _ _ ?_; clear hK K) | (refine Zi ?_; constructor) | refine yB (by decide) ?_ | refine yH (by assumption) ?_ | refine yJ (by assumption) ?_) | (refine yC rfl ?_) | (simp -implicitDefEqProofs only [push_cast, sevalprocAttr, eq_self, e0, e1, e3, e4, e5, e6, e7, e8, e9, hF.at, hd0]) | (simp (disch := omega) only [yF, yK, yG, yL, hF.at, hd0]) | (with_reducible refine yM ?_ ?_) | ((first | refine yE rfl (fun bb => ?_) (fun bb => ?_) | with_reducible refine yI (fun bb => ?_) (fun bb => ?_)) <;> (first | have bp := oT bb | have bp := oF bb | skip) <;> try simp only [bb]) | ((with_reducible refine And.intro ?_ ?_); omega) | (refine yP (f90 l t hl) ?_))
 refine yT (fun nn σ => ∃ j, nn = l.length - j ∧ j ≤ l.length ∧ MO h0 7 l t (YF l t j) (exJ j) σ) l.length ⟨0, by omega, by omega, MO.mk e0 e3 e7 (by show _ = _; simp -implicitDefEqProofs only [push_cast, sevalprocAttr, eq_self]) (SlO.nil _ _ _) (by simp -implicitDefEqProofs only [push_cast, sevalprocAttr, eq_self]) (by repeat' (first | exact Ext.refl _ | assumption | omega | (with_reducible (refine Eg ?_; constructor)))) (by first | omega | (simp -implicitDefEqProofs only [push_cast, sevalprocAttr, eq_self]; first | done | omega)) (fun x hx => by simp [idOf] at hx) (Ext.refl _) rfl⟩ ?_
 rintro nn ⟨env, h⟩ ⟨j, rfl, hj, a, e0, e3, e7, e8, hs, hb, hX, hp, hia⟩
 simp only at e0 e3 e7 e8 hs hb hX hp
 unfold exJ at e8
 have e1 : True := trivial; have e4 : True := trivial; have e5 : True := trivial; have e6 : True := trivial; have e9 : True := trivial
 unfold l72_1
 by_cases hlt : j < l.length
 · have hd : decide ((j : Int) < (l.length : Int)) = true := dT (by omega)
   repeat' (first | ((try clear hf); with_reducible refine yD fun env K hE hK hf => ?_; have n := cj9 hE 0 1 3 4 5 6 7 8 9; simp -implicitDefEqProofs only [push_cast, reduceIte, Nat.reduceEqDiff, e0, e1, e3, e4, e5, e6, e7, e8, e9] at n; clear hE e0 e1 e3 e4 e5 e6 e7 e8 e9; obtain ⟨e0, e1, e3, e4, e5, e6, e7, e8, e9⟩ := n) | (with_reducible first | (refine hK _ _ ?_; clear hK K) | (refine Zi ?_; constructor) | refine yB (by decide) ?_ | refine yH (by assumption) ?_ | refine yJ (by assumption) ?_) | (refine yC rfl ?_) | (simp -implicitDefEqProofs only [push_cast, sevalprocAttr, eq_self, e0, e1, e3, e4, e5, e6, e7, e8, e9, hd]) | (simp (disch := omega) only [yF, yK, yG, yL, hd]) | (with_reducible refine yM ?_ ?_) | ((first | refine yE rfl (fun bb => ?_) (fun bb => ?_) | with_reducible refine yI (fun bb => ?_) (fun bb => ?_)) <;> (first | have bp := oT bb | have bp := oF bb | skip) <;> try simp only [bb]) | ((with_reducible refine And.intro ?_ ?_); omega))
   refine f72'b (h0 := h0) hlt hl ht hn ?_ ?_ ?_
   · exact MO.mk e0 e3 e7 e8 hs hb hX hp hia (by repeat' (first | exact Ext.refl _ | assumption | omega | (with_reducible (refine Eg ?_; constructor)))) rfl
   · rfl
   rintro ⟨env, h⟩ ⟨a, e0, e3, e7, e8, hs, hb, hX, hp, hia⟩
   simp only at e0 e3 e7 e8 hs hb hX hp
   unfold exJ at e8
   have e1 : True := trivial; have e4 : True := trivial; have e5 : True := trivial; have e6 : True := trivial; have e9 : True := trivial
   repeat' (first | ((try clear hf); with_reducible refine yD fun env K hE hK hf => ?_; have n := cj9 hE 0 1 3 4 5 6 7 8 9; simp -implicitDefEqProofs only [push_cast, reduceIte, Nat.reduceEqDiff, e0, e1, e3, e4, e5, e6, e7, e8, e9] at n; clear hE e0 e1 e3 e4 e5 e6 e7 e8 e9; obtain ⟨e0, e1, e3, e4, e5, e6, e7, e8, e9⟩ := n) | (with_reducible first | (refine hK _ _ ?_; clear hK K) | (refine Zi ?_; constructor) | refine yB (by decide) ?_ | refine yH (by assumption) ?_ | refine yJ (by assumption) ?_) | (refine yC rfl ?_) | (simp -implicitDefEqProofs only [push_cast, sevalprocAttr, eq_self, e0, e1, e3, e4, e5, e6, e7, e8, e9]) | (simp (disch := omega) only [yF, yK, yG, yL]) | (with_reducible refine yM ?_ ?_) | ((first | refine yE rfl (fun bb => ?_) (fun bb => ?_) | with_reducible refine yI (fun bb => ?_) (fun bb => ?_)) <;> (first | have bp := oT bb | have bp := oF bb | skip) <;> try simp only [bb]) | ((with_reducible refine And.intro ?_ ?_); omega))
   refine ⟨l.length - (j + 1), by omega, j + 1, rfl, by omega, MO.mk e0 e3 e7 (by show _ = _; simp -implicitDefEqProofs only [push_cast, sevalprocAttr, eq_self]) hs hb hX hp hia (by repeat' (first | exact Ext.refl _ | assumption | omega | (with_reducible (refine Eg ?_; constructor)))) rfl⟩
 · have hd : decide ((j : Int) < (l.length : Int)) = false := dF (by omega)
   obtain rfl : j = l.length := by omega
   repeat' (first | ((try clear hf); with_reducible refine yD fun env K hE hK hf => ?_; have n := cj9 hE 0 1 3 4 5 6 7 8 9; simp -implicitDefEqProofs only [push_cast, reduceIte, Nat.reduceEqDiff, e0, e1, e3, e4, e5, e6, e7, e8, e9] at n; clear hE e0 e1 e3 e4 e5 e6 e7 e8 e9; obtain ⟨e0, e1, e3, e4, e5, e6, e7, e8, e9⟩ := n) | (with_reducible first | (refine hK _ _ ?_; clear hK K) | (refine Zi ?_; constructor) | refine yB (by decide) ?_ | refine yH (by assumption) ?_ | refine yJ (by assumption) ?_) | (refine yC rfl ?_) | (simp -implicitDefEqProofs only [push_cast, sevalprocAttr, eq_self, e0, e1, e3, e4, e5, e6, e7, e8, e9, hd]) | (simp (disch := omega) only [yF, yK, yG, yL, hd]) | (with_reducible refine yM ?_ ?_) | ((first | refine yE rfl (fun bb => ?_) (fun bb => ?_) | with_reducible refine yI (fun bb => ?_) (fun bb => ?_)) <;> (first | have bp := oT bb | have bp := oF bb | skip) <;> try simp only [bb]) | ((with_reducible refine And.intro ?_ ?_); omega))
   exact ⟨(by repeat' (first | exact Ext.refl _ | assumption | omega | (with_reducible (refine Eg ?_; constructor)))), .inr ⟨hR, a, rfl, (hs.ext (show Ext h _ from (by repeat' (first | exact Ext.refl _ | assumption | omega | (with_reducible (refine Eg ?_; constructor)))))).st, fun x hx => by have := hia x hx; omega⟩⟩
end Go.Proofs.Hx
