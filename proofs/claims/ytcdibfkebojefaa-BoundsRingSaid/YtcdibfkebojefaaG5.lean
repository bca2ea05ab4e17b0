import Derived.Test.YtcdibfkebojefaaG4
set_option linter.unusedVariables false
set_option linter.unusedSimpArgs false
namespace Go.Proofs.Hx
open Go Go.Proofs
attribute [local irreducible] yK awp opK goV goM yS yU yY yN HV HVF HC
/-- A call that reads the finder, and what else is lent. -/
theorem call_fin2 {P : Program} {d : Option Nat} {K : St → Prop} {env : Nat → AV} {h g : Hp} {fn : Nat} {F : Id} {l : List Opn} {t : Tab} {es : List Edg} {rid did : Id} {out : AV} {args args' : List AV} {v : Value} (hX : FinH h F l t es rid did out) (hg : Ext h g)
    (hi : mapO (lend fuelL g) args = some args') (hv : ∀ o, imm o = true → HV P fn (.ip (finA l t o) :: args') (.lit v)) (k : K ⟨putA env d (.lit v), g.tick⟩) : yS P d K env g false (.fn fn []) (.ptr F 0 :: args) := by
  obtain ⟨o', hi', hl⟩ := lend_fin hX hg
  refine call_lend (args' := .ip (finA l t o') :: args') ?_ (hv o' hi') rfl k
  rw [List.append_nil, mapO_cons, hl, hi]
  rfl
/-- 'pair' behind the finder. -/
theorem call_pair {d : Option Nat} {K : St → Prop} {env : Nat → AV} {h g : Hp} {F : Id} {l : List Opn} {t : Tab} {es : List Edg} {rid did : Id} {out : AV} {dist : Int} {meet : Bool} {i j : Nat} (hX : FinH h F l t es rid did out) (hg : Ext h g)
    (hi : i < l.length) (hj : j < l.length) (hl : ∀ o ∈ l, o.ok) (ht : qM t) (hn : es.length ≤ 10000000)
    (k : ∀ h' out', FinH h' F l t (es ++ pairE t l[i] l[j] i j dist meet) rid did out' → qI h' → FS h F out h' out' → K ⟨putA env d (.tup []), h'.tick⟩) :
    yS Try.prog d K env g false (.fn 99 []) [.ptr F 0, i64 i, i64 j, i64 dist, bl meet] := by
  refine call_hc (HC.mono (f99 (hX.ext hg) i j hi hj dist meet hl ht hn) ?_)
  rintro r h' ⟨rfl, out', h1, h2⟩ hF
  refine k h' out' h1 hF (FS.trans ((FS.refl h F out).ext hg) h2)
def opAt (l : List Opn) (j : Nat) : Opn := l.getD j ⟨0, 0, 0, 0, 0⟩
theorem opAt_eq {l : List Opn} {j : Nat} (hj : j < l.length) : l[j] = opAt l j := by simp [opAt, hj]
/-- Who was the last ahead of j to write a register, and one. -/
def lastL (l : List Opn) : Nat → Nat → Int
  | 0, _ => 0
  | j + 1, r => if 0 ≤ dS (opAt l j) ∧ r = (dS (opAt l j)).toNat then (j : Int) + 1 else lastL l j r
/-- The dependences of i and j in one round. -/
def ijE (l : List Opn) (t : Tab) (i j : Nat) : List Edg :=
  (if fromS (lastL l j) (opAt l j) i = true then [⟨i, j, latS t (opAt l i), 0, 0⟩] else []) ++ pairE t (opAt l i) (opAt l j) i j 0 (meetS (opAt l i) (opAt l j) ((l.drop i).take (j - i)))
def toE (l : List Opn) (t : Tab) (j : Nat) : Nat → List Edg
  | 0 => []
  | i + 1 => toE l t j i ++ ijE l t i j
/-- All dependences of one round, the later operation's number below j. -/
def onceE (l : List Opn) (t : Tab) : Nat → List Edg
  | 0 => []
  | j + 1 => onceE l t j ++ toE l t j j
theorem ijE_len (l : List Opn) (t : Tab) (i j : Nat) : (ijE l t i j).length ≤ 5 := by
  have := pair_lens t (opAt l i) (opAt l j) i j 0 (meetS (opAt l i) (opAt l j) ((l.drop i).take (j - i)))
  unfold ijE
  rw [pairE_eq]
  simp only [List.length_append]
  split <;> simp <;> omega
theorem toE_len (l : List Opn) (t : Tab) (j : Nat) : ∀ i, (toE l t j i).length ≤ 5 * i
  | 0 => by simp [toE]
  | i + 1 => by
    have := toE_len l t j i
    have := ijE_len l t i j
    simp only [toE, List.length_append]; omega
theorem onceE_len (l : List Opn) (t : Tab) (n : Nat) : ∀ j, j ≤ n → (onceE l t j).length ≤ 5 * n * j
  | 0, _ => by simp [onceE]
  | j + 1, h => by
    have h1 := onceE_len l t n j (by omega)
    have h2 := toE_len l t j j
    simp only [onceE, List.length_append]
    have : 5 * n * (j + 1) = 5 * n * j + 5 * n := by rw [Nat.mul_add, Nat.mul_one]
    omega
theorem qJ (L : Nat → Int) : (qD L).length = 32 := by simp [qD]
theorem lastC_put (L : Nat → Int) {k : Nat} (hk : k < 32) (v : Int) : (qD L).take k ++ [i64 v] ++ (qD L).drop (k + 1) = qD fun r => if r = k then v else L r := by
  apply List.ext_getElem?
  intro r
  by_cases hr : r < 32
  · rw [lastC_at _ hr]
    by_cases h1 : r < k
    · rw [List.append_assoc, List.getElem?_append_left (by simp [qJ]; omega), List.getElem?_take, if_pos h1, lastC_at _ hr, if_neg (by omega)]
    · rw [List.append_assoc, List.getElem?_append_right (by simp [qJ]; omega)]
      by_cases h2 : r = k
      · subst h2; simp [qJ, Nat.min_eq_left (Nat.le_of_lt hk)]
      · rw [if_neg h2, List.getElem?_append_right (by simp [qJ]; omega), List.getElem?_drop]
        simp only [List.length_take, qJ, List.length_cons, List.length_nil]
        rw [show k + 1 + (r - min k 32 - (0 + 1)) = r from by omega, lastC_at _ hr]
  · rw [List.getElem?_eq_none (by simp [qJ]; omega), List.getElem?_eq_none (by simp [qJ]; omega)]
theorem dS_lt {o : Opn} (ho : o.ok) : -1 ≤ dS o ∧ dS o ≤ 31 := by
  unfold Opn.ok at ho
  by_cases h : (ofS o.k).d = true ∧ chkE o = 0
  · have := chkE_regs h.2
    simp only [dS, wrS, if_pos h, if_true]; omega
  · simp only [dS, wrS, if_neg h]; simp
theorem FinH.putL {h : Hp} {F : Id} {l : List Opn} {t : Tab} {es : List Edg} {rid did L : Id} {out : AV} (hX : FinH h F l t es rid did out) (c : List AV) (h1 : L ≠ F) (h2 : L ≠ rid) (h3 : L ≠ did) (h4 : idOf out ≠ some L) : FinH (h.put L c) F l t es rid did out :=
  ⟨(put_ne _ _ _ _ (Ne.symm h1)).trans hX.fin, (put_ne _ _ _ _ (Ne.symm h2)).trans hX.rds, (put_ne _ _ _ _ (Ne.symm h3)).trans hX.ds, by
    rcases hX.outr with g1 | ⟨id, g1, g2, g3⟩
    · exact .inl g1
    · exact .inr ⟨id, g1, (put_ne _ _ _ _ (fun e => h4 (by rw [g1, ← e]; rfl))).trans g2, g3⟩, hX.eF, hX.er, hX.ed, hX.rF, hX.dF, hX.rd, hX.oF⟩
theorem FS.putL {h0 h : Hp} {F L : Id} {o o1 : AV} (a : FS h0 F o h o1) (hL : h0.ep < L.1) (c : List AV) : FS h0 F o (h.put L c) o1 :=
  ⟨a.1, fun x hx hF ho => ⟨(put_ne _ _ _ _ (fun e => by rw [e] at hx; omega)).trans (a.2 x hx hF ho).1, (a.2 x hx hF ho).2⟩⟩
theorem FinH.tick {h : Hp} {F : Id} {l : List Opn} {t : Tab} {es : List Edg} {rid did : Id} {out : AV} (hX : FinH h F l t es rid did out) : FinH h.tick F l t es rid did out := hX.ext (Ext.refl h).tick
def I66a (h0 : Hp) (F : Id) (l : List Opn) (t : Tab) (rid did : Id) (out0 : AV) (L : Id) (j : Nat) (n : Nat) (σ : St) : Prop := ∃ (i : Nat) (out : AV), i ≤ j ∧ n = j - i ∧ σ.env 0 = .ptr F 0 ∧ σ.env 2 = .ptr L 0 ∧ σ.env 3 = i64 j ∧ σ.env 9 = i64 l.length ∧ σ.env 10 = i64 j ∧ σ.env 13 = i64 j ∧ σ.env 14 = i64 i ∧
  FinH σ.h F l t (onceE l t j ++ toE l t j i) rid did out ∧ FS h0 F out0 σ.h out ∧ idOf out ≠ some L ∧ σ.h.hp L = some ⟨true, qD (lastL l j)⟩ ∧ L.1 ≤ σ.h.ep
def I66b (h0 : Hp) (F : Id) (l : List Opn) (t : Tab) (rid did : Id) (out0 : AV) (L : Id) (n : Nat) (σ : St) : Prop := ∃ (j : Nat) (out : AV), j ≤ l.length ∧ n = l.length - j ∧ σ.env 0 = .ptr F 0 ∧ σ.env 2 = .ptr L 0 ∧ σ.env 9 = i64 l.length ∧ σ.env 10 = i64 j ∧
  FinH σ.h F l t (onceE l t j) rid did out ∧ FS h0 F out0 σ.h out ∧ idOf out ≠ some L ∧ σ.h.hp L = some ⟨true, qD (lastL l j)⟩ ∧ L.1 ≤ σ.h.ep
set_option maxHeartbeats 1000000 in
theorem f66 {h0 : Hp} {F : Id} {l : List Opn} {t : Tab} {rid did : Id} {out0 : AV} (hX : FinH h0 F l t [] rid did out0) (ho0 : ∀ x, idOf out0 = some x → x.1 ≤ h0.ep) (hl : ∀ o ∈ l, o.ok) (ht : qM t) (hn : l.length ≤ 1024) :
    HC Try.prog 66 [.ptr F 0] h0 fun r h' => r = .tup [] ∧ ∃ out', FinH h' F l t (onceE l t l.length) rid did out' ∧ FS h0 F out0 h' out' := by
  refine qO qG cf66 (by simp) fun hF => ?_
  unfold ac66 re66
  refine yE fun env hE => ?_; have e0 := hE 0; have e2 := hE 2; have e3 := hE 3; have e4 := hE 4; have e9 := hE 9; have e10 := hE 10; have e11 := hE 11; have e13 := hE 13; have e14 := hE 14; have e15 := hE 15; simp -implicitDefEqProofs only [push_cast] at e0 e2 e3 e4 e9 e10 e11 e13 e14 e15; clear hE
  obtain ⟨Fe, Fs⟩ := F
  obtain ⟨re, rs⟩ := rid
  obtain ⟨de, ds⟩ := did
  have hb := hX.fin
  have hFe : Fe ≤ h0.ep := hX.eF
  repeat' (first | ((try clear hf); with_reducible refine zM fun env K hE hK hf => ?_; have n : _ ∧ _ ∧ _ ∧ _ ∧ _ ∧ _ ∧ _ ∧ _ ∧ _ ∧ _ := ⟨hE 0, hE 2, hE 3, hE 4, hE 9, hE 10, hE 11, hE 13, hE 14, hE 15⟩; simp -implicitDefEqProofs only [push_cast, reduceIte, Nat.reduceEqDiff, e0, e2, e3, e4, e9, e10, e11, e13, e14, e15] at n; clear hE e0 e2 e3 e4 e9 e10 e11 e13 e14 e15; obtain ⟨e0, e2, e3, e4, e9, e10, e11, e13, e14, e15⟩ := n) | (with_reducible refine hK _ _ ?_; clear hK K) | (with_reducible first | refine zJ ?_ | refine zU ?_ | refine zC ?_ | refine zG ?_ | refine zE ?_ | refine zL ?_ | refine zT ?_ | refine zD ?_ | refine zH ?_ | refine zV ?_ | refine zF ?_ | refine zB (by decide) ?_ | refine zP ?_ | refine zO ?_ | refine zK ?_ | refine yB ?_ | refine yC ?_ | refine zW (by assumption) ?_ | refine zY (by assumption) ?_) | (refine zI rfl ?_) | (simp -implicitDefEqProofs only [push_cast, sevalprocAttr, eq_self, e0, e2, e3, e4, e9, e10, e11, e13, e14, e15, hb, hF.at, finC_0, yJ]) | (simp -implicitDefEqProofs (disch := omega) only [zR, zZ, zS, zQ, e0, e2, e3, e4, e9, e10, e11, e13, e14, e15, hb, hF.at, finC_0, yJ]) | (with_reducible refine yF ?_ ?_) | (refine zN rfl (fun bb => ?_) (fun bb => ?_) <;> simp only [bb]) | (with_reducible refine zX (fun bb => ?_) (fun bb => ?_)) | ((with_reducible refine And.intro ?_ ?_); omega) | fail)
  generalize hL0 : (h0.ep + 1 + 1, 2) = L
  have hLF : L ≠ (Fe, Fs) := by rw [← hL0]; intro e; cases e; omega
  have hre : re ≤ h0.ep := hX.er
  have hde0 : de ≤ h0.ep := hX.ed
  have hLr : L ≠ (re, rs) := by rw [← hL0]; intro e; cases e; omega
  have hLd : L ≠ (de, ds) := by rw [← hL0]; intro e; cases e; omega
  have hLe : h0.ep < L.1 := by rw [← hL0]; show h0.ep < h0.ep + 1 + 1; omega
  refine yV (I66b h0 (Fe, Fs) l t (re, rs) (de, ds) out0 L) l.length ⟨0, out0, by omega, by omega, by simp -implicitDefEqProofs only [push_cast, sevalprocAttr, eq_self, e0], by simp -implicitDefEqProofs only [push_cast, sevalprocAttr, eq_self, e2, hL0], by simp -implicitDefEqProofs only [push_cast, sevalprocAttr, eq_self], by simp -implicitDefEqProofs only [push_cast, sevalprocAttr, eq_self], ?_, ?_, ?_, ?_, ?_⟩ ?_
  · rw [← hL0]; exact hX.ext (by repeat (first | exact Ext.refl _ | refine Ext.tick ?_ | refine Ext.push ?_ (by omega) _ | refine Ext.put ?_ (by omega) _))
  · rw [← hL0]; exact (FS.refl h0 (Fe, Fs) out0).ext (by repeat (first | exact Ext.refl _ | refine Ext.tick ?_ | refine Ext.push ?_ (by omega) _ | refine Ext.put ?_ (by omega) _))
  · intro e; have := ho0 _ e; rw [← hL0] at this; simp at this; omega
  · rw [← hL0]; simp -implicitDefEqProofs only [push_cast, sevalprocAttr, eq_self]; rfl
  · rw [← hL0]; simp -implicitDefEqProofs only [push_cast, sevalprocAttr, eq_self]; omega
  clear hX hb hF hFe hL0
  rintro n ⟨env, h⟩ ⟨j, out, hj', rfl, e0, e2, e9, e10, hX, hS, hLo, hL, eL⟩
  simp only at e0 e2 e9 e10 hX hS hL eL
  have e3 : True := trivial; have e4 : True := trivial; have e11 : True := trivial; have e13 : True := trivial; have e14 : True := trivial; have e15 : True := trivial
  unfold l66_1
  refine yI fun hF => ?_
  by_cases hj : j < l.length
  · have hdj : decide ((j : Int) < (l.length : Int)) = true := by simp; omega
    repeat' (first | ((try clear hf); with_reducible refine zM fun env K hE hK hf => ?_; have n : _ ∧ _ ∧ _ ∧ _ ∧ _ ∧ _ ∧ _ ∧ _ ∧ _ ∧ _ := ⟨hE 0, hE 2, hE 3, hE 4, hE 9, hE 10, hE 11, hE 13, hE 14, hE 15⟩; simp -implicitDefEqProofs only [push_cast, reduceIte, Nat.reduceEqDiff, e0, e2, e3, e4, e9, e10, e11, e13, e14, e15] at n; clear hE e0 e2 e3 e4 e9 e10 e11 e13 e14 e15; obtain ⟨e0, e2, e3, e4, e9, e10, e11, e13, e14, e15⟩ := n) | (with_reducible refine hK _ _ ?_; clear hK K) | (with_reducible first | refine zJ ?_ | refine zU ?_ | refine zC ?_ | refine zG ?_ | refine zE ?_ | refine zL ?_ | refine zT ?_ | refine zD ?_ | refine zH ?_ | refine zV ?_ | refine zF ?_ | refine zB (by decide) ?_ | refine zP ?_ | refine zO ?_ | refine zK ?_ | refine yB ?_ | refine yC ?_ | refine zW (by assumption) ?_ | refine zY (by assumption) ?_) | (refine zI rfl ?_) | (simp -implicitDefEqProofs only [push_cast, sevalprocAttr, eq_self, e0, e2, e3, e4, e9, e10, e11, e13, e14, e15, hdj]) | (simp -implicitDefEqProofs (disch := omega) only [zR, zZ, zS, zQ, e0, e2, e3, e4, e9, e10, e11, e13, e14, e15, hdj]) | (with_reducible refine yF ?_ ?_) | (refine zN rfl (fun bb => ?_) (fun bb => ?_) <;> simp only [bb]) | (with_reducible refine zX (fun bb => ?_) (fun bb => ?_)) | ((with_reducible refine And.intro ?_ ?_); omega) | fail)
    have hlc : ∀ h, mapO (lend 7 h) (qD (lastL l j)) = some (qD (lastL l j)) := fun h => lends_imm (lastC_imms _)
    have hol := onceE_len l t l.length j hj'
    have hmul : 5 * l.length * j ≤ 5 * 1024 * 1024 := Nat.mul_le_mul (by omega) (by omega)
    refine yV (I66a h0 (Fe, Fs) l t (re, rs) (de, ds) out0 L j) j ⟨0, out, by omega, by omega, by simp -implicitDefEqProofs only [push_cast, sevalprocAttr, eq_self, e0], by simp -implicitDefEqProofs only [push_cast, sevalprocAttr, eq_self, e2], by simp -implicitDefEqProofs only [push_cast, sevalprocAttr, eq_self, e3], by simp -implicitDefEqProofs only [push_cast, sevalprocAttr, eq_self, e9], by simp -implicitDefEqProofs only [push_cast, sevalprocAttr, eq_self, e10], by simp -implicitDefEqProofs only [push_cast, sevalprocAttr, eq_self], by simp -implicitDefEqProofs only [push_cast, sevalprocAttr, eq_self], es_yes (by simp [toE]) (hX.ext (by repeat (first | exact Ext.refl _ | refine Ext.tick ?_ | refine Ext.push ?_ (by omega) _ | refine Ext.put ?_ (by omega) _))), hS.ext (by repeat (first | exact Ext.refl _ | refine Ext.tick ?_ | refine Ext.push ?_ (by omega) _ | refine Ext.put ?_ (by omega) _)), hLo, by simp -implicitDefEqProofs only [push_cast, sevalprocAttr, eq_self, hL], by simp -implicitDefEqProofs only [push_cast, sevalprocAttr, eq_self]; omega⟩ ?_
    clear hX hS hLo hL eL hF
    rintro n ⟨env, h⟩ ⟨i, out, hij', rfl, e0, e2, e3, e9, e10, e13, e14, hX, hS, hLo, hL, eL⟩
    simp only at e0 e2 e3 e9 e10 e13 e14 hX hS hL eL
    have e4 : True := trivial; have e11 : True := trivial; have e15 : True := trivial
    unfold l66_0
    refine yI fun hF => ?_
    have hb := hX.fin
    have hd := hX.ds
    have hFe : Fe ≤ h.ep := hX.eF
    have hde : de ≤ h.ep := hX.ed
    have hlen := toE_len l t j i
    have hlen2 : (onceE l t j ++ toE l t j i).length ≤ 6000000 := by rw [List.length_append]; omega
    by_cases hij : i < j
    · have hdi : decide ((i : Int) < (j : Int)) = true := by simp; omega
      have hi : i < l.length := by omega
      repeat' (first | ((try clear hf); with_reducible refine zM fun env K hE hK hf => ?_; have n : _ ∧ _ ∧ _ ∧ _ ∧ _ ∧ _ ∧ _ ∧ _ ∧ _ ∧ _ := ⟨hE 0, hE 2, hE 3, hE 4, hE 9, hE 10, hE 11, hE 13, hE 14, hE 15⟩; simp -implicitDefEqProofs only [push_cast, reduceIte, Nat.reduceEqDiff, e0, e2, e3, e4, e9, e10, e11, e13, e14, e15] at n; clear hE e0 e2 e3 e4 e9 e10 e11 e13 e14 e15; obtain ⟨e0, e2, e3, e4, e9, e10, e11, e13, e14, e15⟩ := n) | (with_reducible refine hK _ _ ?_; clear hK K) | (with_reducible first | refine zJ ?_ | refine zU ?_ | refine zC ?_ | refine zG ?_ | refine zE ?_ | refine zL ?_ | refine zT ?_ | refine zD ?_ | refine zH ?_ | refine zV ?_ | refine zF ?_ | refine zB (by decide) ?_ | refine zP ?_ | refine zO ?_ | refine zK ?_ | refine yB ?_ | refine yC ?_ | refine zW (by assumption) ?_ | refine zY (by assumption) ?_) | (refine zI rfl ?_) | (simp -implicitDefEqProofs only [push_cast, sevalprocAttr, eq_self, e0, e2, e3, e4, e9, e10, e11, e13, e14, e15, hdi, hb, hd, hF.at, finC_0]) | (simp -implicitDefEqProofs (disch := omega) only [zR, zZ, zS, zQ, e0, e2, e3, e4, e9, e10, e11, e13, e14, e15, hdi, hb, hd, hF.at, finC_0]) | (with_reducible refine yF ?_ ?_) | (refine zN rfl (fun bb => ?_) (fun bb => ?_) <;> simp only [bb]) | (with_reducible refine zX (fun bb => ?_) (fun bb => ?_)) | ((with_reducible refine And.intro ?_ ?_); omega) | (refine call_fin2 hX (by repeat (first | exact Ext.refl _ | refine Ext.tick ?_ | refine Ext.push ?_ (by omega) _ | refine Ext.put ?_ (by omega) _)) (by simp -implicitDefEqProofs only [push_cast, sevalprocAttr, eq_self, lend_ptrF, hL, hlc]) (fun o ho => f96 l t o ho (lastL l j) i j hj (by omega) hl) ?_) | (refine call_fin hX (by repeat (first | exact Ext.refl _ | refine Ext.tick ?_ | refine Ext.push ?_ (by omega) _ | refine Ext.put ?_ (by omega) _)) (fun o ho => f98 l t o ho i hi) rfl ?_) | (refine yH (f100 l i j hij hj hl (by omega)) ?_) | (refine call_put (e := ⟨0, 0, latS t l[i], 0, 0⟩) hX (by repeat (first | exact Ext.refl _ | refine Ext.tick ?_ | refine Ext.push ?_ (by omega) _ | refine Ext.put ?_ (by omega) _)) (by simp -implicitDefEqProofs only [push_cast, sevalprocAttr, eq_self]; rfl) (by first | omega | (dsimp only; omega)) (by first | (simp -implicitDefEqProofs only [push_cast, sevalprocAttr, eq_self]; done) | (simp -implicitDefEqProofs only [push_cast, sevalprocAttr, eq_self]; omega)) (by first | omega | (simp only [List.length_append, List.length_cons, List.length_nil]; omega)) ?_; intro h out hX hF hs; have q := hs.2 _ eL hLF hLo; replace hL := q.1.trans hL; replace hLo := q.2; replace eL := Nat.le_trans eL hs.1; replace hS := FS.trans hS hs; have hb := hX.fin; have hd := hX.ds; have hFe : Fe ≤ h.ep := hX.eF; have hde : de ≤ h.ep := hX.ed) | (refine call_pair hX (by repeat (first | exact Ext.refl _ | refine Ext.tick ?_ | refine Ext.push ?_ (by omega) _ | refine Ext.put ?_ (by omega) _)) hi hj hl ht (by first | omega | (simp only [List.length_append, List.length_cons, List.length_nil]; omega)) ?_; intro h out hX hF hs; have q := hs.2 _ eL hLF hLo; replace hL := q.1.trans hL; replace hLo := q.2; replace eL := Nat.le_trans eL hs.1; replace hS := FS.trans hS hs; have hb := hX.fin; have hd := hX.ds; have hFe : Fe ≤ h.ep := hX.eF; have hde : de ≤ h.ep := hX.ed) | fail)
      all_goals
        refine ⟨j - (i + 1), by omega, i + 1, _, by omega, rfl, by simp -implicitDefEqProofs only [push_cast, sevalprocAttr, eq_self, e0], by simp -implicitDefEqProofs only [push_cast, sevalprocAttr, eq_self, e2], by simp -implicitDefEqProofs only [push_cast, sevalprocAttr, eq_self, e3], by simp -implicitDefEqProofs only [push_cast, sevalprocAttr, eq_self, e9], by simp -implicitDefEqProofs only [push_cast, sevalprocAttr, eq_self, e10], by simp -implicitDefEqProofs only [push_cast, sevalprocAttr, eq_self, e13], by simp -implicitDefEqProofs only [push_cast, sevalprocAttr, eq_self], es_yes ?_ (hX.ext (by repeat (first | exact Ext.refl _ | refine Ext.tick ?_ | refine Ext.push ?_ (by omega) _ | refine Ext.put ?_ (by omega) _))), hS.ext (by repeat (first | exact Ext.refl _ | refine Ext.tick ?_ | refine Ext.push ?_ (by omega) _ | refine Ext.put ?_ (by omega) _)), hLo, by simp -implicitDefEqProofs only [push_cast, sevalprocAttr, eq_self, hL], by simp -implicitDefEqProofs only [push_cast, sevalprocAttr, eq_self]; omega⟩
        simp only [toE, ijE, ← opAt_eq hi, ← opAt_eq hj]
        first
          | (rw [if_pos (by assumption)]; simp [meetL]; done)
          | (rw [if_neg (by simp [*])]; simp [meetL]; done)
    · have hdi : decide ((i : Int) < (j : Int)) = false := by simp; omega
      obtain rfl : i = j := by omega
      have hdj2 := dS_at hj
      obtain ⟨d1, d2⟩ := dS_lt (hl _ (List.getElem_mem hj))
      repeat' (first | ((try clear hf); with_reducible refine zM fun env K hE hK hf => ?_; have n : _ ∧ _ ∧ _ ∧ _ ∧ _ ∧ _ ∧ _ ∧ _ ∧ _ ∧ _ := ⟨hE 0, hE 2, hE 3, hE 4, hE 9, hE 10, hE 11, hE 13, hE 14, hE 15⟩; simp -implicitDefEqProofs only [push_cast, reduceIte, Nat.reduceEqDiff, e0, e2, e3, e4, e9, e10, e11, e13, e14, e15] at n; clear hE e0 e2 e3 e4 e9 e10 e11 e13 e14 e15; obtain ⟨e0, e2, e3, e4, e9, e10, e11, e13, e14, e15⟩ := n) | (with_reducible refine hK _ _ ?_; clear hK K) | (with_reducible first | refine zJ ?_ | refine zU ?_ | refine zC ?_ | refine zG ?_ | refine zE ?_ | refine zL ?_ | refine zT ?_ | refine zD ?_ | refine zH ?_ | refine zV ?_ | refine zF ?_ | refine zB (by decide) ?_ | refine zP ?_ | refine zO ?_ | refine zK ?_ | refine yB ?_ | refine yC ?_ | refine zW (by assumption) ?_ | refine zY (by assumption) ?_) | (refine zI rfl ?_) | (simp -implicitDefEqProofs only [push_cast, sevalprocAttr, eq_self, e0, e2, e3, e4, e9, e10, e11, e13, e14, e15, hdi, hb, hd, hF.at, qN, yM, hdj2, qK, hL]) | (simp -implicitDefEqProofs (disch := omega) only [zR, zZ, zS, zQ, e0, e2, e3, e4, e9, e10, e11, e13, e14, e15, hdi, hb, hd, hF.at, qN, yM, hdj2, qK, hL]) | (with_reducible refine yF ?_ ?_) | (refine zN rfl (fun bb => ?_) (fun bb => ?_) <;> simp only [bb]) | (with_reducible refine zX (fun bb => ?_) (fun bb => ?_)) | ((with_reducible refine And.intro ?_ ?_); omega) | fail)
      · have h9 : 0 ≤ dS l[i] := by simpa using ‹decide (0 ≤ dS l[i]) = true›
        have hk : (dS l[i]).toNat < 32 := by omega
        have hfun : (fun r => if r = (dS l[i]).toNat then ((i : Int) + 1) else lastL l i r) = lastL l (i + 1) := by
          funext r
          rw [show lastL l (i + 1) r = _ from rfl]
          simp only [lastL, ← opAt_eq hj]
          by_cases hr : r = (dS l[i]).toNat
          · rw [if_pos hr, if_pos ⟨h9, hr⟩]
          · rw [if_neg hr, if_neg (fun h => hr h.2)]
        have hp := (lastC_put (lastL l i) hk ((i : Int) + 1)).trans (congrArg qD hfun)
        have hle : (dS l[i]).toNat + 1 ≤ (qD (lastL l i)).length := by rw [qJ]; omega
        repeat' (first | ((try clear hf); with_reducible refine zM fun env K hE hK hf => ?_; have n : _ ∧ _ ∧ _ ∧ _ ∧ _ ∧ _ ∧ _ ∧ _ ∧ _ ∧ _ := ⟨hE 0, hE 2, hE 3, hE 4, hE 9, hE 10, hE 11, hE 13, hE 14, hE 15⟩; simp -implicitDefEqProofs only [push_cast, reduceIte, Nat.reduceEqDiff, e0, e2, e3, e4, e9, e10, e11, e13, e14, e15] at n; clear hE e0 e2 e3 e4 e9 e10 e11 e13 e14 e15; obtain ⟨e0, e2, e3, e4, e9, e10, e11, e13, e14, e15⟩ := n) | (with_reducible refine hK _ _ ?_; clear hK K) | (with_reducible first | refine zJ ?_ | refine zU ?_ | refine zC ?_ | refine zG ?_ | refine zE ?_ | refine zL ?_ | refine zT ?_ | refine zD ?_ | refine zH ?_ | refine zV ?_ | refine zF ?_ | refine zB (by decide) ?_ | refine zP ?_ | refine zO ?_ | refine zK ?_ | refine yB ?_ | refine yC ?_ | refine zW (by assumption) ?_ | refine zY (by assumption) ?_) | (refine zI rfl ?_) | (simp -implicitDefEqProofs only [push_cast, sevalprocAttr, eq_self, e0, e2, e3, e4, e9, e10, e11, e13, e14, e15, hb, hd, hF.at, hp, hL]) | (simp -implicitDefEqProofs (disch := omega) only [zR, zZ, zS, zQ, e0, e2, e3, e4, e9, e10, e11, e13, e14, e15, hb, hd, hF.at, hp, hL]) | (with_reducible refine yF ?_ ?_) | (refine zN rfl (fun bb => ?_) (fun bb => ?_) <;> simp only [bb]) | (with_reducible refine zX (fun bb => ?_) (fun bb => ?_)) | ((with_reducible refine And.intro ?_ ?_); omega) | fail)
        refine ⟨l.length - (i + 1), by omega, i + 1, _, by omega, rfl, by simp -implicitDefEqProofs only [push_cast, sevalprocAttr, eq_self, e0], by simp -implicitDefEqProofs only [push_cast, sevalprocAttr, eq_self, e2], by simp -implicitDefEqProofs only [push_cast, sevalprocAttr, eq_self, e9], by simp -implicitDefEqProofs only [push_cast, sevalprocAttr, eq_self], ((hX.ext (by repeat (first | exact Ext.refl _ | refine Ext.tick ?_))).putL _ hLF hLr hLd hLo).tick, ((hS.ext (by repeat (first | exact Ext.refl _ | refine Ext.tick ?_))).putL hLe _).tick, hLo, by simp -implicitDefEqProofs only [push_cast, sevalprocAttr, eq_self], by simp -implicitDefEqProofs only [push_cast, sevalprocAttr, eq_self]; omega⟩
      · have h9 : ¬ 0 ≤ dS l[i] := by simpa using ‹decide (0 ≤ dS l[i]) = false›
        have hp : qD (lastL l (i + 1)) = qD (lastL l i) := by
          unfold qD
          apply List.map_congr_left
          intro r _
          simp only [lastL, ← opAt_eq hj]
          rw [if_neg (fun h => h9 h.1)]
        refine ⟨l.length - (i + 1), by omega, i + 1, _, by omega, rfl, by simp -implicitDefEqProofs only [push_cast, sevalprocAttr, eq_self, e0], by simp -implicitDefEqProofs only [push_cast, sevalprocAttr, eq_self, e2], by simp -implicitDefEqProofs only [push_cast, sevalprocAttr, eq_self, e9], by simp -implicitDefEqProofs only [push_cast, sevalprocAttr, eq_self], hX.ext (by repeat (first | exact Ext.refl _ | refine Ext.tick ?_ | refine Ext.push ?_ (by omega) _ | refine Ext.put ?_ (by omega) _)), hS.ext (by repeat (first | exact Ext.refl _ | refine Ext.tick ?_ | refine Ext.push ?_ (by omega) _ | refine Ext.put ?_ (by omega) _)), hLo, by simp -implicitDefEqProofs only [push_cast, sevalprocAttr, eq_self, hL, hp], by simp -implicitDefEqProofs only [push_cast, sevalprocAttr, eq_self]; omega⟩
  · have hdj : decide ((j : Int) < (l.length : Int)) = false := by simp; omega
    repeat' (first | ((try clear hf); with_reducible refine zM fun env K hE hK hf => ?_; have n : _ ∧ _ ∧ _ ∧ _ ∧ _ ∧ _ ∧ _ ∧ _ ∧ _ ∧ _ := ⟨hE 0, hE 2, hE 3, hE 4, hE 9, hE 10, hE 11, hE 13, hE 14, hE 15⟩; simp -implicitDefEqProofs only [push_cast, reduceIte, Nat.reduceEqDiff, e0, e2, e3, e4, e9, e10, e11, e13, e14, e15] at n; clear hE e0 e2 e3 e4 e9 e10 e11 e13 e14 e15; obtain ⟨e0, e2, e3, e4, e9, e10, e11, e13, e14, e15⟩ := n) | (with_reducible refine hK _ _ ?_; clear hK K) | (with_reducible first | refine zJ ?_ | refine zU ?_ | refine zC ?_ | refine zG ?_ | refine zE ?_ | refine zL ?_ | refine zT ?_ | refine zD ?_ | refine zH ?_ | refine zV ?_ | refine zF ?_ | refine zB (by decide) ?_ | refine zP ?_ | refine zO ?_ | refine zK ?_ | refine yB ?_ | refine yC ?_ | refine zW (by assumption) ?_ | refine zY (by assumption) ?_) | (refine zI rfl ?_) | (simp -implicitDefEqProofs only [push_cast, sevalprocAttr, eq_self, e0, e2, e3, e4, e9, e10, e11, e13, e14, e15, hdj]) | (simp -implicitDefEqProofs (disch := omega) only [zR, zZ, zS, zQ, e0, e2, e3, e4, e9, e10, e11, e13, e14, e15, hdj]) | (with_reducible refine yF ?_ ?_) | (refine zN rfl (fun bb => ?_) (fun bb => ?_) <;> simp only [bb]) | (with_reducible refine zX (fun bb => ?_) (fun bb => ?_)) | ((with_reducible refine And.intro ?_ ?_); omega) | fail)
    obtain rfl : j = l.length := by omega
    exact ⟨out, hX.ext (Ext.refl h).tick, hS.ext (Ext.refl h).tick⟩
end Go.Proofs.Hx

set_option linter.unusedVariables false
set_option linter.unusedSimpArgs false
namespace Go.Proofs.Hx
open Go Go.Proofs
attribute [local irreducible] yK awp opK goV goM yS yU yY yN HV HVF HC
/-- The finder while it is made: reads and d as they stand. -/
def finW (l : List Opn) (t : Tab) (a b : AV) : List AV := .row (l.map opC) :: (tabC t ++ [a, b, .nil])
theorem finW_14 (l : List Opn) (t : Tab) (a b : AV) : (finW l t a b)[14]? = some a := rfl
theorem finW_15 (l : List Opn) (t : Tab) (a b : AV) : (finW l t a b)[15]? = some b := rfl
theorem finW_put14 (l : List Opn) (t : Tab) (a b v : AV) : (finW l t a b).take 14 ++ [v] ++ (finW l t a b).drop (14 + 1) = finW l t v b := rfl
theorem finW_put15 (l : List Opn) (t : Tab) (a b v : AV) : (finW l t a b).take 15 ++ [v] ++ (finW l t a b).drop (15 + 1) = finW l t a v := rfl
theorem finW_len (l : List Opn) (t : Tab) (a b : AV) : (finW l t a b).length = 17 := rfl
attribute [push_cast] finW_14 finW_15 finW_put14 finW_put15 finW_len
theorem Ext.kill {h g : Hp} (e : Ext h g) {a b : Nat} (hid : h.ep < a) : Ext h (g.kill (a, b)) :=
  ⟨e.1, fun x hx => by rw [kill_ne _ _ _ (fun e' => by rw [e'] at hx; simp at hx; omega)]; exact e.2 x hx⟩
structure FinW (h0 h : Hp) (F : Id) (l : List Opn) (t : Tab) (j : Nat) (a b : AV) : Prop where
  fin : h.hp F = some ⟨true, finW l t a b⟩
  st : (j = 0 ∧ a = .nil ∧ b = .nil) ∨ ∃ re rs de ds : Nat, a = .sl (re, rs) 0 j 1 ∧ b = .sl (de, ds) 0 j 1 ∧ h.hp (re, rs) = some ⟨true, (l.take j).flatMap regRow⟩ ∧ h.hp (de, ds) = some ⟨true, (l.take j).flatMap dRow⟩ ∧
    re ≤ h.ep ∧ de ≤ h.ep ∧ (re, rs) ≠ F ∧ (de, ds) ≠ F ∧ (re, rs) ≠ (de, ds) ∧ h0.ep < re ∧ h0.ep < de
  eF : F.1 ≤ h.ep
  lF : h0.ep < F.1
  ex : Ext h0 h
def I65 (h0 : Hp) (F : Id) (l : List Opn) (t : Tab) (n : Nat) (σ : St) : Prop := ∃ (j : Nat) (a b : AV), j ≤ l.length ∧ n = l.length - j ∧ σ.env 0 = .row (l.map opC) ∧ σ.env 5 = .ptr F 0 ∧ σ.env 14 = i64 l.length ∧ σ.env 15 = i64 j ∧ FinW h0 σ.h F l t j a b
set_option maxHeartbeats 1000000 in
theorem f65 {h0 : Hp} {l : List Opn} {t : Tab} (hl : ∀ o ∈ l, o.ok) (hn : l.length ≤ 1024) :
    HC Try.prog 65 [.row (l.map opC), .agg (tabC t)] h0 fun r h' => ∃ F a b, r = .ptr F 0 ∧ FinW h0 h' F l t l.length a b := by
  refine qO qG cf65 (by simp) fun hF => ?_
  unfold ac65 re65
  refine yE fun env hE => ?_; have e0 := hE 0; have e1 := hE 1; have e3 := hE 3; have e4 := hE 4; have e5 := hE 5; have e6 := hE 6; have e7 := hE 7; have e8 := hE 8; have e14 := hE 14; have e15 := hE 15; have e16 := hE 16; simp -implicitDefEqProofs only [push_cast] at e0 e1 e3 e4 e5 e6 e7 e8 e14 e15 e16; clear hE
  repeat' (first | ((try clear hf); with_reducible refine zM fun env K hE hK hf => ?_; have n : _ ∧ _ ∧ _ ∧ _ ∧ _ ∧ _ ∧ _ ∧ _ ∧ _ ∧ _ ∧ _ := ⟨hE 0, hE 1, hE 3, hE 4, hE 5, hE 6, hE 7, hE 8, hE 14, hE 15, hE 16⟩; simp -implicitDefEqProofs only [push_cast, reduceIte, Nat.reduceEqDiff, e0, e1, e3, e4, e5, e6, e7, e8, e14, e15, e16] at n; clear hE e0 e1 e3 e4 e5 e6 e7 e8 e14 e15 e16; obtain ⟨e0, e1, e3, e4, e5, e6, e7, e8, e14, e15, e16⟩ := n) | (with_reducible refine hK _ _ ?_; clear hK K) | (with_reducible first | refine zJ ?_ | refine zU ?_ | refine zC ?_ | refine zG ?_ | refine zE ?_ | refine zL ?_ | refine zT ?_ | refine zD ?_ | refine zH ?_ | refine zV ?_ | refine zF ?_ | refine zB (by decide) ?_ | refine zP ?_ | refine zO ?_ | refine zK ?_ | refine yB ?_ | refine yC ?_ | refine zW (by assumption) ?_ | refine zY (by assumption) ?_) | (refine zI rfl ?_) | (simp -implicitDefEqProofs only [push_cast, sevalprocAttr, eq_self, e0, e1, e3, e4, e5, e6, e7, e8, e14, e15, e16, hF.at, yJ]) | (simp -implicitDefEqProofs (disch := omega) only [zR, zZ, zS, zQ, e0, e1, e3, e4, e5, e6, e7, e8, e14, e15, e16, hF.at, yJ]) | (with_reducible refine yF ?_ ?_) | (refine zN rfl (fun bb => ?_) (fun bb => ?_) <;> simp only [bb]) | (with_reducible refine zX (fun bb => ?_) (fun bb => ?_)) | ((with_reducible refine And.intro ?_ ?_); omega) | fail)
  generalize hF0 : (h0.ep + 1 + 1 + 1, 12) = F
  have hFl : h0.ep < F.1 := by rw [← hF0]; show h0.ep < h0.ep + 1 + 1 + 1; omega
  refine yV (I65 h0 F l t) l.length ⟨0, .nil, .nil, by omega, by omega, by simp -implicitDefEqProofs only [push_cast, sevalprocAttr, eq_self, e0], by simp -implicitDefEqProofs only [push_cast, sevalprocAttr, eq_self, e5, hF0], by simp -implicitDefEqProofs only [push_cast, sevalprocAttr, eq_self], by simp -implicitDefEqProofs only [push_cast, sevalprocAttr, eq_self], ⟨?_, .inl ⟨rfl, rfl, rfl⟩, ?_, hFl, ?_⟩⟩ ?_
  · rw [← hF0]; simp -implicitDefEqProofs only [push_cast, sevalprocAttr, eq_self]; rfl
  · rw [← hF0]; show h0.ep + 1 + 1 + 1 ≤ _; simp -implicitDefEqProofs only [push_cast, sevalprocAttr, eq_self]; omega
  · rw [← hF0]; exact (by repeat (first | exact Ext.refl _ | refine Ext.tick ?_ | refine Ext.push ?_ (by omega) _ | refine Ext.put ?_ (by omega) _))
  obtain ⟨Fe, Fs⟩ := F
  simp only at hFl
  clear hF hF0
  rintro n ⟨env, h⟩ ⟨j, a, b, hj', rfl, e0, e5, e14, e15, ⟨hb, hst, hFe, hlF, hex⟩⟩
  simp only at e0 e5 e14 e15 hb hst hFe hlF hex
  have e1 : True := trivial; have e3 : True := trivial; have e4 : True := trivial; have e6 : True := trivial; have e7 : True := trivial; have e8 : True := trivial; have e16 : True := trivial
  unfold l65_0
  refine yI fun hF => ?_
  by_cases hj : j < l.length
  · have hd : decide ((j : Int) < (l.length : Int)) = true := by simp; omega
    have ho := hl _ (List.getElem_mem hj)
    have hw : IntKind.i64.wrap (wrS l[j]).1 = (wrS l[j]).1 := by
      have h := ho
      unfold Opn.ok at h
      apply wrap64 <;> (unfold wrS; split <;> simp <;> omega)
    have htk : ∀ f : Opn → List AV, (l.take (j + 1)).flatMap f = (l.take j).flatMap f ++ f l[j] := fun f => by
      rw [List.take_succ_eq_append_getElem hj, List.flatMap_append]
      simp
    rcases hst with ⟨hj0, rfl, rfl⟩ | ⟨re, rs, de, ds, rfl, rfl, h1, h2, g1, g2, g3, g4, g5, g6, g7⟩
    · have hA : ∀ (h' : Hp) (id' : Id) (x : List AV), appV h' id' 1 24 1 x .nil = some (.sl id' 0 1 1, h'.push id' x) := fun h' id' x => appV_nil _ _ (by decide) (by decide)
      have hA2 : ∀ (h' : Hp) (id' : Id) (x : List AV), appV h' id' 1 8 1 x .nil = some (.sl id' 0 1 1, h'.push id' x) := fun h' id' x => appV_nil _ _ (by decide) (by decide)
      repeat' (first | ((try clear hf); with_reducible refine zM fun env K hE hK hf => ?_; have n : _ ∧ _ ∧ _ ∧ _ ∧ _ ∧ _ ∧ _ ∧ _ ∧ _ ∧ _ ∧ _ := ⟨hE 0, hE 1, hE 3, hE 4, hE 5, hE 6, hE 7, hE 8, hE 14, hE 15, hE 16⟩; simp -implicitDefEqProofs only [push_cast, reduceIte, Nat.reduceEqDiff, e0, e1, e3, e4, e5, e6, e7, e8, e14, e15, e16] at n; clear hE e0 e1 e3 e4 e5 e6 e7 e8 e14 e15 e16; obtain ⟨e0, e1, e3, e4, e5, e6, e7, e8, e14, e15, e16⟩ := n) | (with_reducible refine hK _ _ ?_; clear hK K) | (with_reducible first | refine zJ ?_ | refine zU ?_ | refine zC ?_ | refine zG ?_ | refine zE ?_ | refine zL ?_ | refine zT ?_ | refine zD ?_ | refine zH ?_ | refine zV ?_ | refine zF ?_ | refine zB (by decide) ?_ | refine zP ?_ | refine zO ?_ | refine zK ?_ | refine yB ?_ | refine yC ?_ | refine zW (by assumption) ?_ | refine zY (by assumption) ?_) | (refine zI rfl ?_) | (simp -implicitDefEqProofs only [push_cast, sevalprocAttr, eq_self, e0, e1, e3, e4, e5, e6, e7, e8, e14, e15, e16, hd, hF.at, hb, hA, hA2, yM, row_at hj]) | (simp -implicitDefEqProofs (disch := omega) only [zR, zZ, zS, zQ, e0, e1, e3, e4, e5, e6, e7, e8, e14, e15, e16, hd, hF.at, hb, hA, hA2, yM, row_at hj]) | (with_reducible refine yF ?_ ?_) | (refine zN rfl (fun bb => ?_) (fun bb => ?_) <;> simp only [bb]) | (with_reducible refine zX (fun bb => ?_) (fun bb => ?_)) | ((with_reducible refine And.intro ?_ ?_); omega) | (refine call_ownq (lends_imm rfl) (f54 l[j] ho) ?_) | (refine yH (f52 l[j] ho) ?_) | fail)
      all_goals
        subst hj0
        refine ⟨l.length - (0 + 1), by omega, 0 + 1, .sl (h.ep + 1 + 1 + 1, 29) 0 (0 + 1) 1, .sl (h.ep + 1 + 1 + 1 + 1 + 1 + 1, 46) 0 (0 + 1) 1, by omega, rfl, by simp -implicitDefEqProofs only [push_cast, sevalprocAttr, eq_self, e0], by simp -implicitDefEqProofs only [push_cast, sevalprocAttr, eq_self, e5], by simp -implicitDefEqProofs only [push_cast, sevalprocAttr, eq_self, e14], by simp -implicitDefEqProofs only [push_cast, sevalprocAttr, eq_self], ⟨?_, .inr ⟨_, _, _, _, rfl, rfl, ?_, ?_, ?_, ?_, ?_, ?_, ?_, by omega, by omega⟩, ?_, hlF, (by repeat (first | assumption | refine Ext.tick ?_ | refine Ext.push ?_ (by omega) _ | refine Ext.put ?_ (by omega) _))⟩⟩
        · simp -implicitDefEqProofs (disch := first | decide | omega) only [tick_hp, push_self, put_self, zR, zZ, push_slot, put_slot]
        · simp -implicitDefEqProofs (disch := first | decide | omega) only [tick_hp, push_self, put_self, zR, zZ, push_slot, put_slot]
          rw [htk]
          rfl
        · simp -implicitDefEqProofs (disch := first | decide | omega) only [tick_hp, push_self, put_self, zR, zZ, push_slot, put_slot]
          rw [htk]
          simp [dRow, bb, hw]
        · simp -implicitDefEqProofs only [push_cast, sevalprocAttr, eq_self]; omega
        · simp -implicitDefEqProofs only [push_cast, sevalprocAttr, eq_self]; omega
        · intro e; have := congrArg Prod.fst e; simp at this; omega
        · intro e; have := congrArg Prod.fst e; simp at this; omega
        · intro e; have := congrArg Prod.fst e; simp at this
        · simp -implicitDefEqProofs only [push_cast, sevalprocAttr, eq_self]; omega
    · have hlr : ((l.take j).flatMap regRow).length = j * 1 := by rw [flat1_len (fun _ => rfl)]; simp; omega
      have hld : ((l.take j).flatMap dRow).length = j * 1 := by rw [flat1_len (fun _ => rfl)]; simp; omega
      have htr : ((l.take j).flatMap regRow).take j = (l.take j).flatMap regRow := by rw [List.take_of_length_le (by omega)]
      have htd : ((l.take j).flatMap dRow).take j = (l.take j).flatMap dRow := by rw [List.take_of_length_le (by omega)]
      have hdl : ∀ x, ((l.take j).flatMap dRow ++ [x]).take j = (l.take j).flatMap dRow := fun x => by rw [List.take_append_of_le_length (by omega)]; exact htd
      have k1 : ∀ h' : Hp, (h'.kill (re, rs)).hp (Fe, Fs) = h'.hp (Fe, Fs) := fun h' => kill_ne _ _ _ (Ne.symm g3)
      have k2 : ∀ h' : Hp, (h'.kill (de, ds)).hp (Fe, Fs) = h'.hp (Fe, Fs) := fun h' => kill_ne _ _ _ (Ne.symm g4)
      have k3 : ∀ h' : Hp, (h'.kill (re, rs)).hp (de, ds) = h'.hp (de, ds) := fun h' => kill_ne _ _ _ (Ne.symm g5)
      have hle : j + 1 ≤ ((l.take j).flatMap dRow ++ [AV.lit (.int .i64 (-1))]).length := by simp only [List.length_append, hld, List.length_cons, List.length_nil]; omega
      have hdd : ∀ x, ((l.take j).flatMap dRow ++ [x]).drop (j + 1) = [] := fun x => List.drop_eq_nil_of_le (by simp only [List.length_append, hld, List.length_cons, List.length_nil]; omega)
      have k4 : ∀ (h' : Hp) (c : List AV), (h'.put (Fe, Fs) c).hp (de, ds) = h'.hp (de, ds) := fun h' c => put_ne _ _ _ _ g4
      repeat' (first | ((try clear hf); with_reducible refine zM fun env K hE hK hf => ?_; have n : _ ∧ _ ∧ _ ∧ _ ∧ _ ∧ _ ∧ _ ∧ _ ∧ _ ∧ _ ∧ _ := ⟨hE 0, hE 1, hE 3, hE 4, hE 5, hE 6, hE 7, hE 8, hE 14, hE 15, hE 16⟩; simp -implicitDefEqProofs only [push_cast, reduceIte, Nat.reduceEqDiff, e0, e1, e3, e4, e5, e6, e7, e8, e14, e15, e16] at n; clear hE e0 e1 e3 e4 e5 e6 e7 e8 e14 e15 e16; obtain ⟨e0, e1, e3, e4, e5, e6, e7, e8, e14, e15, e16⟩ := n) | (with_reducible refine hK _ _ ?_; clear hK K) | (with_reducible first | refine zJ ?_ | refine zU ?_ | refine zC ?_ | refine zG ?_ | refine zE ?_ | refine zL ?_ | refine zT ?_ | refine zD ?_ | refine zH ?_ | refine zV ?_ | refine zF ?_ | refine zB (by decide) ?_ | refine zP ?_ | refine zO ?_ | refine zK ?_ | refine yB ?_ | refine yC ?_ | refine zW (by assumption) ?_ | refine zY (by assumption) ?_) | (refine zI rfl ?_) | (simp -implicitDefEqProofs only [push_cast, sevalprocAttr, eq_self, e0, e1, e3, e4, e5, e6, e7, e8, e14, e15, e16, hd, hF.at, hb, h1, h2, appV_sl_eq, yM, row_at hj, htr, htd, hdl, hdd, List.append_nil, k1, k2, k3, k4]) | (simp -implicitDefEqProofs (disch := omega) only [zR, zZ, zS, zQ, e0, e1, e3, e4, e5, e6, e7, e8, e14, e15, e16, hd, hF.at, hb, h1, h2, appV_sl_eq, yM, row_at hj, htr, htd, hdl, hdd, List.append_nil, k1, k2, k3, k4]) | (with_reducible refine yF ?_ ?_) | (refine zN rfl (fun bb => ?_) (fun bb => ?_) <;> simp only [bb]) | (with_reducible refine zX (fun bb => ?_) (fun bb => ?_)) | ((with_reducible refine And.intro ?_ ?_); omega) | (refine call_ownq (lends_imm rfl) (f54 l[j] ho) ?_) | (refine yH (f52 l[j] ho) ?_) | fail)
      all_goals
        refine ⟨l.length - (j + 1), by omega, j + 1, .sl (h.ep + 1 + 1 + 1, 29) 0 (j + 1) 1, .sl (h.ep + 1 + 1 + 1 + 1 + 1 + 1, 46) 0 (j + 1) 1, by omega, rfl, by simp -implicitDefEqProofs only [push_cast, sevalprocAttr, eq_self, e0], by simp -implicitDefEqProofs only [push_cast, sevalprocAttr, eq_self, e5], by simp -implicitDefEqProofs only [push_cast, sevalprocAttr, eq_self, e14], by simp -implicitDefEqProofs only [push_cast, sevalprocAttr, eq_self], ⟨?_, .inr ⟨_, _, _, _, rfl, rfl, ?_, ?_, ?_, ?_, ?_, ?_, ?_, by omega, by omega⟩, ?_, hlF, (by repeat (first | assumption | refine Ext.tick ?_ | refine Ext.push ?_ (by omega) _ | refine Ext.put ?_ (by omega) _ | refine Ext.kill ?_ (by omega)))⟩⟩
        · simp -implicitDefEqProofs (disch := first | decide | omega) only [tick_hp, push_self, put_self, zR, zZ, push_slot, put_slot, zS, k1, k2, k3, k4]
        · simp -implicitDefEqProofs (disch := first | decide | omega) only [tick_hp, push_self, put_self, zR, zZ, push_slot, put_slot, zS, k1, k2, k3, k4]
          rw [htk]
          rfl
        · simp -implicitDefEqProofs (disch := first | decide | omega) only [tick_hp, push_self, put_self, zR, zZ, push_slot, put_slot, zS, k1, k2, k3, k4]
          rw [htk]
          simp [dRow, bb, hw]
        · simp -implicitDefEqProofs only [push_cast, sevalprocAttr, eq_self]; omega
        · simp -implicitDefEqProofs only [push_cast, sevalprocAttr, eq_self]; omega
        · intro e; have := congrArg Prod.fst e; simp at this; omega
        · intro e; have := congrArg Prod.fst e; simp at this; omega
        · intro e; have := congrArg Prod.fst e; simp at this
        · simp -implicitDefEqProofs only [push_cast, sevalprocAttr, eq_self]; omega
  · have hd : decide ((j : Int) < (l.length : Int)) = false := by simp; omega
    repeat' (first | ((try clear hf); with_reducible refine zM fun env K hE hK hf => ?_; have n : _ ∧ _ ∧ _ ∧ _ ∧ _ ∧ _ ∧ _ ∧ _ ∧ _ ∧ _ ∧ _ := ⟨hE 0, hE 1, hE 3, hE 4, hE 5, hE 6, hE 7, hE 8, hE 14, hE 15, hE 16⟩; simp -implicitDefEqProofs only [push_cast, reduceIte, Nat.reduceEqDiff, e0, e1, e3, e4, e5, e6, e7, e8, e14, e15, e16] at n; clear hE e0 e1 e3 e4 e5 e6 e7 e8 e14 e15 e16; obtain ⟨e0, e1, e3, e4, e5, e6, e7, e8, e14, e15, e16⟩ := n) | (with_reducible refine hK _ _ ?_; clear hK K) | (with_reducible first | refine zJ ?_ | refine zU ?_ | refine zC ?_ | refine zG ?_ | refine zE ?_ | refine zL ?_ | refine zT ?_ | refine zD ?_ | refine zH ?_ | refine zV ?_ | refine zF ?_ | refine zB (by decide) ?_ | refine zP ?_ | refine zO ?_ | refine zK ?_ | refine yB ?_ | refine yC ?_ | refine zW (by assumption) ?_ | refine zY (by assumption) ?_) | (refine zI rfl ?_) | (simp -implicitDefEqProofs only [push_cast, sevalprocAttr, eq_self, e0, e1, e3, e4, e5, e6, e7, e8, e14, e15, e16, hd]) | (simp -implicitDefEqProofs (disch := omega) only [zR, zZ, zS, zQ, e0, e1, e3, e4, e5, e6, e7, e8, e14, e15, e16, hd]) | (with_reducible refine yF ?_ ?_) | (refine zN rfl (fun bb => ?_) (fun bb => ?_) <;> simp only [bb]) | (with_reducible refine zX (fun bb => ?_) (fun bb => ?_)) | ((with_reducible refine And.intro ?_ ?_); omega) | fail)
    obtain rfl : j = l.length := by omega
    exact ⟨(Fe, Fs), a, b, rfl, hb, hst.imp id fun ⟨re, rs, de, ds, e1, e2, e3, e4, e5, e6, r⟩ => ⟨re, rs, de, ds, e1, e2, e3, e4, by rw [qL, qL]; omega, by rw [qL, qL]; omega, r⟩, by rw [qL, qL]; simp only; omega, hlF, hex.tick.tick⟩
end Go.Proofs.Hx

set_option linter.unusedVariables false
set_option linter.unusedSimpArgs false
namespace Go.Proofs.Hx
open Go Go.Proofs
attribute [local irreducible] yK awp opK goV goM yS yU yY yN HV HVF HC
/-- The finder, made. -/
theorem FinW.finH {h0 h : Hp} {F : Id} {l : List Opn} {t : Tab} {a b : AV} (w : FinW h0 h F l t l.length a b) (hp : 0 < l.length) : ∃ rid did, FinH h F l t [] rid did .nil := by
  rcases w.st with ⟨h1, _, _⟩ | ⟨re, rs, de, ds, rfl, rfl, e1, e2, e3, e4, e5, e6, e7, e8, e9⟩
  · omega
  · rw [List.take_length] at e1 e2
    exact ⟨(re, rs), (de, ds), w.fin, e1, e2, .inl ⟨rfl, rfl⟩, w.eF, e3, e4, e5, e6, e7, fun id h => by simp [idOf] at h⟩
theorem call_nf {d : Option Nat} {K : St → Prop} {env : Nat → AV} {g : Hp} {l : List Opn} {t : Tab} (hl : ∀ o ∈ l, o.ok) (hn : l.length ≤ 1024)
    (k : ∀ h' F a b, FinW g h' F l t l.length a b → qI h' → K ⟨putA env d (.ptr F 0), h'.tick⟩) :
    yS Try.prog d K env g false (.fn 65 []) [.row (l.map opC), .agg (tabC t)] :=
  call_hc (HC.mono (f65 hl hn) fun r h' ⟨F, a, b, hr, w⟩ hf => by rw [hr]; exact k h' F a b w hf)
theorem call_once {d : Option Nat} {K : St → Prop} {env : Nat → AV} {g : Hp} {F : Id} {l : List Opn} {t : Tab} {rid did : Id} (hX : FinH g F l t [] rid did .nil) (hl : ∀ o ∈ l, o.ok) (ht : qM t) (hn : l.length ≤ 1024)
    (k : ∀ h' out', FinH h' F l t (onceE l t l.length) rid did out' → qI h' → FS g F .nil h' out' → K ⟨putA env d (.tup []), h'.tick⟩) :
    yS Try.prog d K env g false (.fn 66 []) [.ptr F 0] :=
  call_hc (HC.mono (f66 hX (fun x h => by simp [idOf] at h) hl ht hn) fun r h' ⟨hr, out', h1, h2⟩ hf => by rw [hr]; exact k h' out' h1 hf h2)
theorem Ext.tr {h g k : Hp} (a : Ext h g) (b : Ext g k) : Ext h k := ⟨Nat.le_trans a.1 b.1, fun x hx => (b.2 x (Nat.le_trans hx a.1)).trans (a.2 x hx)⟩
theorem Ext.le {h g : Hp} (a : Ext h g) : h.ep ≤ g.ep := a.1
end Go.Proofs.Hx

set_option linter.unusedVariables false
set_option linter.unusedSimpArgs false
namespace Go.Proofs.Hx
open Go Go.Proofs
attribute [local irreducible] yK awp opK goV goM yS yU yY yN HV HVF HC
/-- once over no operation. -/
theorem f66'n {h0 : Hp} {F : Id} {t : Tab} {a b : AV} (hb : h0.hp F = some ⟨true, finW [] t a b⟩) (hFe : F.1 ≤ h0.ep) :
    HC Try.prog 66 [.ptr F 0] h0 fun r h' => r = .tup [] ∧ Ext h0 h' := by
  refine qO qG cf66 (by simp) fun hF => ?_
  unfold ac66 re66
  refine yE fun env hE => ?_; have e0 := hE 0; have e2 := hE 2; have e3 := hE 3; have e4 := hE 4; have e9 := hE 9; have e10 := hE 10; have e11 := hE 11; have e13 := hE 13; have e14 := hE 14; have e15 := hE 15; simp -implicitDefEqProofs only [push_cast] at e0 e2 e3 e4 e9 e10 e11 e13 e14 e15; clear hE
  obtain ⟨Fe, Fs⟩ := F
  have h00 : (finW [] t a b)[0]? = some (.row []) := rfl
  have h01 : lenV (.row []) = some (.lit (.int .i64 0)) := rfl
  repeat' (first | ((try clear hf); with_reducible refine zM fun env K hE hK hf => ?_; have n : _ ∧ _ ∧ _ ∧ _ ∧ _ ∧ _ ∧ _ ∧ _ ∧ _ ∧ _ := ⟨hE 0, hE 2, hE 3, hE 4, hE 9, hE 10, hE 11, hE 13, hE 14, hE 15⟩; simp -implicitDefEqProofs only [push_cast, reduceIte, Nat.reduceEqDiff, e0, e2, e3, e4, e9, e10, e11, e13, e14, e15] at n; clear hE e0 e2 e3 e4 e9 e10 e11 e13 e14 e15; obtain ⟨e0, e2, e3, e4, e9, e10, e11, e13, e14, e15⟩ := n) | (with_reducible refine hK _ _ ?_; clear hK K) | (with_reducible first | refine zJ ?_ | refine zU ?_ | refine zC ?_ | refine zG ?_ | refine zE ?_ | refine zL ?_ | refine zT ?_ | refine zD ?_ | refine zH ?_ | refine zV ?_ | refine zF ?_ | refine zB (by decide) ?_ | refine zP ?_ | refine zO ?_ | refine zK ?_ | refine yB ?_ | refine yC ?_ | refine zW (by assumption) ?_ | refine zY (by assumption) ?_) | (refine zI rfl ?_) | (simp -implicitDefEqProofs only [push_cast, sevalprocAttr, eq_self, e0, e2, e3, e4, e9, e10, e11, e13, e14, e15, hb, hF.at, h00, h01]) | (simp -implicitDefEqProofs (disch := omega) only [zR, zZ, zS, zQ, e0, e2, e3, e4, e9, e10, e11, e13, e14, e15, hb, hF.at, h00, h01]) | (with_reducible refine yF ?_ ?_) | (refine zN rfl (fun bb => ?_) (fun bb => ?_) <;> simp only [bb]) | (with_reducible refine zX (fun bb => ?_) (fun bb => ?_)) | ((with_reducible refine And.intro ?_ ?_); omega) | fail)
  refine yV (fun n σ => σ.env 9 = i64 0 ∧ σ.env 10 = i64 0 ∧ Ext h0 σ.h) 0 ⟨by simp -implicitDefEqProofs only [push_cast, sevalprocAttr, eq_self], by simp -implicitDefEqProofs only [push_cast, sevalprocAttr, eq_self], (by repeat (first | exact Ext.refl _ | assumption | refine Ext.tick ?_ | refine Ext.push ?_ (by omega) _ | refine Ext.put ?_ (by omega) _))⟩ ?_
  rintro n ⟨env, h⟩ ⟨e9, e10, hE⟩
  simp only at e9 e10 hE
  have e0 : True := trivial; have e2 : True := trivial; have e3 : True := trivial; have e4 : True := trivial; have e11 : True := trivial; have e13 : True := trivial; have e14 : True := trivial; have e15 : True := trivial
  unfold l66_1
  refine yI fun hF => ?_
  repeat' (first | ((try clear hf); with_reducible refine zM fun env K hE hK hf => ?_; have n : _ ∧ _ ∧ _ ∧ _ ∧ _ ∧ _ ∧ _ ∧ _ ∧ _ ∧ _ := ⟨hE 0, hE 2, hE 3, hE 4, hE 9, hE 10, hE 11, hE 13, hE 14, hE 15⟩; simp -implicitDefEqProofs only [push_cast, reduceIte, Nat.reduceEqDiff, e0, e2, e3, e4, e9, e10, e11, e13, e14, e15] at n; clear hE e0 e2 e3 e4 e9 e10 e11 e13 e14 e15; obtain ⟨e0, e2, e3, e4, e9, e10, e11, e13, e14, e15⟩ := n) | (with_reducible refine hK _ _ ?_; clear hK K) | (with_reducible first | refine zJ ?_ | refine zU ?_ | refine zC ?_ | refine zG ?_ | refine zE ?_ | refine zL ?_ | refine zT ?_ | refine zD ?_ | refine zH ?_ | refine zV ?_ | refine zF ?_ | refine zB (by decide) ?_ | refine zP ?_ | refine zO ?_ | refine zK ?_ | refine yB ?_ | refine yC ?_ | refine zW (by assumption) ?_ | refine zY (by assumption) ?_) | (refine zI rfl ?_) | (simp -implicitDefEqProofs only [push_cast, sevalprocAttr, eq_self, e0, e2, e3, e4, e9, e10, e11, e13, e14, e15]) | (simp -implicitDefEqProofs (disch := omega) only [zR, zZ, zS, zQ, e0, e2, e3, e4, e9, e10, e11, e13, e14, e15]) | (with_reducible refine yF ?_ ?_) | (refine zN rfl (fun bb => ?_) (fun bb => ?_) <;> simp only [bb]) | (with_reducible refine zX (fun bb => ?_) (fun bb => ?_)) | ((with_reducible refine And.intro ?_ ?_); omega) | fail)
  exact (show Ext h0 _ from (by repeat (first | exact Ext.refl _ | assumption | refine Ext.tick ?_ | refine Ext.push ?_ (by omega) _ | refine Ext.put ?_ (by omega) _)))
theorem errR_ok {l : List Opn} {t : Tab} (h : errR l t = 0) : qM t ∧ l.length ≤ 1024 ∧ ∀ o ∈ l, opOK o := by
  unfold errR tabE at h
  by_cases h1 : qM t
  · by_cases h2 : 1024 < l.length
    · simp [h1, h2] at h
    · by_cases h3 : ∀ o ∈ l, opOK o
      · exact ⟨h1, by omega, h3⟩
      · simp only [if_pos h1, if_neg h2, if_neg h3] at h; simp at h
  · simp [h1] at h
end Go.Proofs.Hx

set_option linter.unusedVariables false
set_option linter.unusedSimpArgs false
namespace Go.Proofs.Hx
open Go Go.Proofs
/-! ### Slices that grow, whatever they lie in -/
def killA (h : Hp) (a : AV) : Hp := match idOf a with | some t => h.kill t | none => h
theorem killA_ep (h : Hp) (a : AV) : (killA h a).ep = h.ep := by unfold killA; split <;> rfl
theorem killA_ne (h : Hp) (a : AV) {x : Id} (hx : idOf a ≠ some x) : (killA h a).hp x = h.hp x := by
  unfold killA
  split
  · rename_i t e
    exact kill_ne _ _ _ (fun e' => hx (by rw [e, e']))
  · rfl
theorem Ext.killA {h g : Hp} (e : Ext h g) {a : AV} (ha : ∀ x, idOf a = some x → h.ep < x.1) : Ext h (Hx.killA g a) :=
  ⟨by rw [killA_ep]; exact e.1, fun x hx => by rw [killA_ne _ _ (fun e' => by have := ha x e'; omega)]; exact e.2 x hx⟩
/-- A slice of 'es', each with cells of its own. -/
structure SlO {α : Type} (f : α → List AV) (sz : Nat) (h : Hp) (a : AV) (es : List α) : Prop where
  st : (a = .nil ∧ es = []) ∨ (∃ id, a = .sl id 0 es.length sz ∧ h.hp id = some ⟨true, es.flatMap f⟩ ∧ id.1 ≤ h.ep)
theorem SlO.nil {α : Type} (f : α → List AV) (sz : Nat) (h : Hp) : SlO f sz h .nil [] := ⟨.inl ⟨rfl, rfl⟩⟩
theorem SlO.ext {α : Type} {f : α → List AV} {sz : Nat} {h g : Hp} {a : AV} {es : List α} (s : SlO f sz h a es) (he : Ext h g) : SlO f sz g a es := by
  rcases s.st with h1 | ⟨id, h1, h2, h3⟩
  · exact ⟨.inl h1⟩
  · exact ⟨.inr ⟨id, h1, (he.2 id h3).trans h2, Nat.le_trans h3 he.1⟩⟩
theorem SlO.len {α : Type} {f : α → List AV} {sz : Nat} {h : Hp} {a : AV} {es : List α} (s : SlO f sz h a es) : lenV a = some (i64 es.length) := by
  rcases s.st with ⟨rfl, rfl⟩ | ⟨id, rfl, h2, h3⟩
  · exact lenV_nil
  · exact lenV_sl _ _ _ _
theorem SlO.id_le {α : Type} {f : α → List AV} {sz : Nat} {h : Hp} {a : AV} {es : List α} (s : SlO f sz h a es) {x : Id} (hx : idOf a = some x) : x.1 ≤ h.ep := by
  rcases s.st with ⟨rfl, rfl⟩ | ⟨id, rfl, h2, h3⟩
  · simp [idOf] at hx
  · simp [idOf] at hx; subst hx; exact h3
/-- The same, where the slice has not been touched. -/
theorem SlO.keep {α : Type} {f : α → List AV} {sz : Nat} {h g : Hp} {a : AV} {es : List α} (s : SlO f sz h a es) (hk : ∀ x, idOf a = some x → g.hp x = h.hp x) (he : h.ep ≤ g.ep) : SlO f sz g a es := by
  rcases s.st with h1 | ⟨id, h1, h2, h3⟩
  · exact ⟨.inl h1⟩
  · exact ⟨.inr ⟨id, h1, (hk id (by rw [h1]; rfl)).trans h2, Nat.le_trans h3 he⟩⟩
/-- It has memory, where there is an element. -/
theorem SlO.blk {α : Type} {f : α → List AV} {sz : Nat} {h : Hp} {a : AV} {es : List α} (s : SlO f sz h a es) (hp : 0 < es.length) : ∃ e n, a = .sl (e, n) 0 es.length sz ∧ h.hp (e, n) = some ⟨true, es.flatMap f⟩ ∧ e ≤ h.ep := by
  rcases s.st with ⟨rfl, rfl⟩ | ⟨⟨e, n⟩, h1, h2, h3⟩
  · simp at hp
  · exact ⟨e, n, h1, h2, h3⟩
theorem flat_len {α : Type} {f : α → List AV} {sz : Nat} (hf : ∀ a, (f a).length = sz) (l : List α) : (l.flatMap f).length = l.length * sz := by
  induction l with
  | nil => simp
  | cons a l ih => rw [List.flatMap_cons, List.length_append, hf, ih, List.length_cons, Nat.add_mul]; omega
theorem SlO.app {α : Type} {f : α → List AV} {sz : Nat} {h : Hp} {a : AV} {es : List α} (s : SlO f sz h a es) (hf : ∀ a, (f a).length = sz) {bytes n : Nat} {new : List AV} (id : Id) (hn : n ≠ 0) (ho : new.all one = true)
    (hb : (es.length + n + (es.length + n) / 4 + 512) * bytes ≤ 281474976710656) : appV h id sz bytes n new a = some (.sl id 0 (es.length + n) sz, (killA h a).push id (es.flatMap f ++ new)) := by
  rcases s.st with ⟨rfl, rfl⟩ | ⟨t, rfl, h2, h3⟩
  · simp only [List.length_nil, Nat.zero_add] at hb ⊢
    rw [appV_nil _ _ hn (Nat.le_trans (Nat.mul_le_mul_right bytes (by omega)) hb)]
    rfl
  · rw [appV_sl_eq, h2]
    simp only [Option.bind_some]
    rw [if_pos ⟨trivial, trivial, ho, hb⟩, List.drop_zero, ← flat_len hf, List.take_length]
    rfl
theorem rep1 (n : Nat) (a : AV) : (List.replicate n [a]).flatten = List.replicate n a := by
  induction n with
  | zero => rfl
  | succ n ih => rw [List.replicate_succ, List.flatten_cons, ih]; rfl
/-! ### Rows of slices -/
structure RowsO {α : Type} (f : α → List AV) (sz : Nat) (h : Hp) (E : Nat) (c : List AV) (fs : Nat → List α) : Prop where
  get : ∀ (i : Nat) (a : AV), c[i]? = some a → SlO f sz h a (fs i) ∧ ∀ x, idOf a = some x → E < x.1
  sep : ∀ (i j : Nat) (a b : AV) (x : Id), c[i]? = some a → c[j]? = some b → i ≠ j → idOf a = some x → idOf b ≠ some x
theorem RowsO.keep {α : Type} {f : α → List AV} {sz : Nat} {h g : Hp} {E : Nat} {c : List AV} {fs : Nat → List α} (r : RowsO f sz h E c fs) (hk : ∀ x, E < x.1 → x.1 ≤ h.ep → g.hp x = h.hp x) (he : h.ep ≤ g.ep) : RowsO f sz g E c fs :=
  ⟨fun i a hi => ⟨(r.get i a hi).1.keep (fun x hx => hk x ((r.get i a hi).2 x hx) ((r.get i a hi).1.id_le hx)) he, (r.get i a hi).2⟩, r.sep⟩
theorem RowsO.ext {α : Type} {f : α → List AV} {sz : Nat} {h g : Hp} {E : Nat} {c : List AV} {fs : Nat → List α} (r : RowsO f sz h E c fs) (he : Ext h g) : RowsO f sz g E c fs := r.keep (fun x _ hx => he.2 x hx) he.1
/-- One of the rows grows. -/
theorem RowsO.app {α : Type} {f : α → List AV} {sz : Nat} {h g : Hp} {E : Nat} {c : List AV} {fs : Nat → List α} (r : RowsO f sz h E c fs) {k : Nat} {a : AV} (hk : c[k]? = some a) {id : Id} (hid : h.ep < id.1) (hE : E ≤ h.ep) (e : α)
    (hg : g.hp id = some ⟨true, (fs k).flatMap f ++ f e⟩) (hi : id.1 ≤ g.ep) (he : h.ep ≤ g.ep) (ho : ∀ x, E < x.1 → x.1 ≤ h.ep → idOf a ≠ some x → g.hp x = h.hp x) :
    RowsO f sz g E (c.set k (.sl id 0 ((fs k).length + 1) sz)) (fun i => if i = k then fs k ++ [e] else fs i) := by
  have hkl : k < c.length := (List.getElem?_eq_some_iff.1 hk).1
  have new : ∀ (i : Nat) (b : AV), (c.set k (.sl id 0 ((fs k).length + 1) sz))[i]? = some b → (i = k ∧ b = .sl id 0 ((fs k).length + 1) sz) ∨ (i ≠ k ∧ c[i]? = some b) := by
    intro i b hb
    rw [List.getElem?_set] at hb
    by_cases e1 : k = i
    · subst e1
      rw [if_pos rfl, if_pos hkl] at hb
      cases hb
      exact .inl ⟨rfl, rfl⟩
    · rw [if_neg e1] at hb
      exact .inr ⟨Ne.symm e1, hb⟩
  refine ⟨fun i b hb => ?_, fun i j b d x hb hd hij hx => ?_⟩
  · rcases new i b hb with ⟨rfl, rfl⟩ | ⟨h1, h2⟩
    · refine ⟨⟨.inr ⟨id, by simp, ?_, hi⟩⟩, fun x hx => by simp [idOf] at hx; subst hx; omega⟩
      rw [hg]
      simp
    · obtain ⟨g1, g2⟩ := r.get i b h2
      refine ⟨?_, g2⟩
      rw [if_neg h1]
      exact g1.keep (fun x hx => ho x (g2 x hx) (g1.id_le hx) (r.sep i k b a x h2 hk h1 hx)) he
  · rcases new i b hb with ⟨rfl, rfl⟩ | ⟨h1, h2⟩ <;> rcases new j d hd with ⟨rfl, rfl⟩ | ⟨h3, h4⟩
    · exact absurd rfl hij
    · simp [idOf] at hx
      subst hx
      intro h
      have := (r.get j d h4).1.id_le h
      omega
    · intro h
      simp [idOf] at h
      subst h
      have := (r.get i b h2).1.id_le hx
      omega
    · exact r.sep i j b d x h2 h4 hij hx
theorem yG {x y : Int} (h : x = y) : (.lit (.int .i64 x) : AV) = i64 y := by rw [h]
theorem qA {P : Program} {l : List zA} {s : List (Nat × Nat)} {b c : ACode} {Q : AEx → St → Prop} {env : Nat → AV} {h : Hp} (k : qI h → awp P (.seq (.seq (.ops l s) b) c) Q ⟨env, h⟩) : awp P (.seq (.seq (.ops l s) b) c) Q ⟨env, h⟩ := fun hf => k hf hf
theorem yZ {P : Program} {l : List zA} {s : List (Nat × Nat)} {b c d : ACode} {Q : AEx → St → Prop} {env : Nat → AV} {h : Hp} (k : qI h → awp P (.seq (.seq (.seq (.ops l s) b) c) d) Q ⟨env, h⟩) : awp P (.seq (.seq (.seq (.ops l s) b) c) d) Q ⟨env, h⟩ := fun hf => k hf hf
theorem ed_0 (e : Edg) : (edC e)[0]? = some (i64 e.f) := rfl
theorem ed_1 (e : Edg) : (edC e)[1]? = some (i64 e.t) := rfl
theorem ed_2 (e : Edg) : (edC e)[2]? = some (i64 e.l) := rfl
theorem ed_3 (e : Edg) : (edC e)[3]? = some (i64 e.d) := rfl
theorem ed_drop (e : Edg) : (edC e).drop 5 = [] := rfl
attribute [push_cast] yJ lenV_sl lenV_nil maxV_two op_0 one_sl ed_0 ed_1 ed_2 ed_3 edC_take edC_len edC_one ed_drop killA_ep
end Go.Proofs.Hx

set_option linter.unusedVariables false
set_option linter.unusedSimpArgs false
namespace Go.Proofs.Hx
open Go Go.Proofs
attribute [local irreducible] yK awp opK goV goM yS yU yY yN HV HVF HC
/-! ### The reference's kinds -/
def refA (s : Shp) : List AV := [.lit (.string s.nm), i64 s.cl, bl s.d, bl s.a, bl s.b, bl s.n, bl s.im]
theorem refA_len (s : Shp) : (refA s).length = 7 := rfl
theorem refA_one (s : Shp) : (refA s).all one = true := rfl
theorem refA_1 (s : Shp) : (refA s)[1]? = some (i64 s.cl) := rfl
theorem refA_2 (s : Shp) : (refA s)[2]? = some (bl s.d) := rfl
theorem refA_3 (s : Shp) : (refA s)[3]? = some (bl s.a) := rfl
theorem refA_4 (s : Shp) : (refA s)[4]? = some (bl s.b) := rfl
theorem refA_5 (s : Shp) : (refA s)[5]? = some (bl s.n) := rfl
theorem refA_6 (s : Shp) : (refA s)[6]? = some (bl s.im) := rfl
theorem refA_drop (s : Shp) : (refA s).drop 7 = [] := rfl
attribute [push_cast] refA_len refA_one refA_1 refA_2 refA_3 refA_4 refA_5 refA_6 refA_drop
end Go.Proofs.Hx

set_option linter.unusedVariables false
set_option linter.unusedSimpArgs false
namespace Go.Proofs.Hx
open Go Go.Proofs
attribute [local irreducible] yK awp opK goV goM yS yU yY yN HV HVF HC
end Go.Proofs.Hx

set_option linter.unusedVariables false
set_option linter.unusedSimpArgs false
namespace Go.Proofs.Hx
open Go Go.Proofs
attribute [local irreducible] yK awp opK goV goM yS yU yY yN HV HVF HC
theorem op_d0 (o : Opn) : ((opC o).drop 0)[0]? = some (.lit (.int .i8 o.k)) := rfl
theorem op_d1 (o : Opn) : ((opC o).drop 1)[0]? = some (u8 o.d) := rfl
theorem op_d2 (o : Opn) : ((opC o).drop 2)[0]? = some (u8 o.a) := rfl
theorem op_d3 (o : Opn) : ((opC o).drop 3)[0]? = some (u8 o.b) := rfl
theorem op_d4 (o : Opn) : ((opC o).drop 4)[0]? = some (i64 o.im) := rfl
attribute [push_cast] op_d0 op_d1 op_d2 op_d3 op_d4 op_1 op_2 op_3 op_4 opC_take opC_len opC_one
end Go.Proofs.Hx

set_option linter.unusedVariables false
set_option linter.unusedSimpArgs false
namespace Go.Proofs.Hx
open Go Go.Proofs
attribute [local irreducible] yK awp opK goV goM yS yU yY yN HV HVF HC
/-! ### Appends, whatever they find -/
theorem SlO.lendF {α : Type} {f : α → List AV} {sz : Nat} {h : Hp} {a : AV} {es : List α} (s : SlO f sz h a es) (hf : ∀ a, (f a).length = sz) (hat : ∀ a, ∀ x ∈ f a, atom x = true) (d : Nat) : Hx.lendF (d + 1) h a = some (.row (es.map f)) := by
  rcases s.st with ⟨rfl, rfl⟩ | ⟨t, rfl, h2, h3⟩
  · exact lendF_nil d h
  · rw [lendF_sl h2 (by rw [flat_len hf]; omega) (fun x hx => ?_), List.drop_zero, ← flat_len hf, List.take_length, chunks_map f sz hf]
    have := List.mem_of_mem_drop (List.mem_of_mem_take hx)
    rw [List.mem_flatMap] at this
    obtain ⟨e, _, he⟩ := this
    exact hat e x he
/-! ### The reference's dependences -/
end Go.Proofs.Hx

set_option linter.unusedVariables false
set_option linter.unusedSimpArgs false
namespace Go.Proofs.Hx
open Go Go.Proofs
attribute [local irreducible] yK awp opK goV goM yS yU yY yN HV HVF HC
/-- Who was the last of the round ahead to write a register, where nobody has yet in this one. -/
def openL (l : List Opn) (j : Nat) : Nat → Int := fun r => if lastL l j r = 0 then lastL l l.length r else 0
end Go.Proofs.Hx

set_option linter.unusedVariables false
set_option linter.unusedSimpArgs false
namespace Go.Proofs.Hx
open Go Go.Proofs
attribute [local irreducible] yK awp opK goV goM yS yU yY yN HV HVF HC
/-- The reference's pair, with the edges so far. -/
def MR (l : List Opn) (t : Tab) (i j : Nat) (dist : Int) (meet : Bool) (E : List Edg) (σ : St) : Prop := ∃ a, σ.env 0 = .row (l.map opC) ∧ σ.env 2 = i64 i ∧ σ.env 3 = i64 j ∧ σ.env 4 = i64 dist ∧ σ.env 5 = bl meet ∧ σ.env 7 = .ptr (2, 7) 0 ∧ σ.env 13 = a ∧ σ.env 14 = u8 (wrS (opAt l j)).1 ∧ σ.env 15 = bl (wrS (opAt l j)).2 ∧
  SlO edC 5 σ.h a E ∧ σ.h.hp (2, 7) = some ⟨true, tabC t⟩ ∧ 2 ≤ σ.h.ep ∧ ∀ x, idOf a = some x → 2 < x.1
theorem MR.done {l : List Opn} {t : Tab} {i j : Nat} {dist : Int} {meet : Bool} {E E' : List Edg} {env : Nat → AV} {h g : Hp} {a : AV} (e0 : env 0 = .row (l.map opC)) (e2 : env 2 = i64 i) (e3 : env 3 = i64 j) (e4 : env 4 = i64 dist) (e5 : env 5 = bl meet) (e7 : env 7 = .ptr (2, 7) 0) (e13 : env 13 = a) (e14 : env 14 = u8 (wrS (opAt l j)).1) (e15 : env 15 = bl (wrS (opAt l j)).2)
    (hs : SlO edC 5 g a E) (hb : g.hp (2, 7) = some ⟨true, tabC t⟩) (he : 2 ≤ g.ep) (hi : ∀ x, idOf a = some x → 2 < x.1) (hx : Ext g h) (hE : E = E') : MR l t i j dist meet E' ⟨env, h⟩ :=
  ⟨a, e0, e2, e3, e4, e5, e7, e13, e14, e15, hE ▸ hs.ext hx, (hx.2 _ (by simpa using he)).trans hb, Nat.le_trans he hx.1, hi⟩
attribute [local irreducible] MR
end Go.Proofs.Hx

set_option linter.unusedVariables false
set_option linter.unusedSimpArgs false
namespace Go.Proofs.Hx
open Go Go.Proofs
attribute [local irreducible] yK awp opK goV goM yS yU yY yN HV HVF HC
/-- The reference's edges under way: in slot 'o', beside the table's box; 'ex': what else is known of the slots. -/
def MO (h0 : Hp) (o : Nat) (l : List Opn) (t : Tab) (E : List Edg) (ex : (Nat → AV) → Prop) (σ : St) : Prop := ∃ a, σ.env 0 = .row (l.map opC) ∧ σ.env 3 = .ptr (h0.ep + 1 + 1, 3) 0 ∧ σ.env o = a ∧ ex σ.env ∧
  SlO edC 5 σ.h a E ∧ σ.h.hp (h0.ep + 1 + 1, 3) = some ⟨true, tabC t⟩ ∧ Ext h0 σ.h ∧ h0.ep + 2 ≤ σ.h.ep ∧ ∀ x, idOf a = some x → h0.ep + 2 < x.1
theorem MO.mk {h0 : Hp} {o : Nat} {l : List Opn} {t : Tab} {E E' : List Edg} {ex : (Nat → AV) → Prop} {env : Nat → AV} {g h : Hp} {a : AV} (e0 : env 0 = .row (l.map opC)) (e3 : env 3 = .ptr (h0.ep + 1 + 1, 3) 0) (eo : env o = a) (he : ex env) (hs : SlO edC 5 g a E) (hb : g.hp (h0.ep + 1 + 1, 3) = some ⟨true, tabC t⟩)
    (hX : Ext h0 g) (hp : h0.ep + 2 ≤ g.ep) (hi : ∀ x, idOf a = some x → h0.ep + 2 < x.1) (hx : Ext g h) (hE : E = E') : MO h0 o l t E' ex ⟨env, h⟩ :=
  ⟨a, e0, e3, eo, he, hE ▸ hs.ext hx, (hx.2 _ (by simpa using hp)).trans hb, hX.tr hx, Nat.le_trans hp hx.1, hi⟩
theorem MO.imp {h0 : Hp} {o : Nat} {l : List Opn} {t : Tab} {E : List Edg} {ex ex' : (Nat → AV) → Prop} {σ : St} (h : MO h0 o l t E ex σ) (k : ∀ env, ex env → ex' env) : MO h0 o l t E ex' σ := by
  obtain ⟨a, e0, e3, eo, he, r⟩ := h
  exact ⟨a, e0, e3, eo, k _ he, r⟩
/-- The frame behind an append. -/
theorem MO.app {h0 g h : Hp} {a : AV} {id : Id} (hX : Ext h0 h) (hp : h0.ep + 2 ≤ h.ep) (hi : ∀ x, idOf a = some x → h0.ep + 2 < x.1) (hid : h0.ep + 2 < id.1) (hep : g.ep = h.ep) (hfr : ∀ x, x ≠ id → idOf a ≠ some x → g.hp x = h.hp x) :
    Ext h0 g ∧ g.hp (h0.ep + 1 + 1, 3) = h.hp (h0.ep + 1 + 1, 3) := by
  refine ⟨⟨by rw [hep]; exact hX.1, fun x hx => ?_⟩, hfr _ (fun e => by have := congrArg Prod.fst e; simp at this; omega) (fun e => by have := hi _ e; simp at this)⟩
  rw [hfr x (fun e => by rw [e] at hx; omega) (fun e => by have := hi _ e; omega)]
  exact hX.2 x hx
/-- From round to round: the dependences of i and j. -/
def ijR (l : List Opn) (t : Tab) (i j : Nat) : List Edg :=
  (if fromS (openL l j) (opAt l j) i = true then [⟨i, j, latS t (opAt l i), 1, 0⟩] else []) ++ pairE t (opAt l i) (opAt l j) i j 1 (meetS (opAt l i) (opAt l j) l)
def toR (l : List Opn) (t : Tab) (j : Nat) : Nat → List Edg
  | 0 => []
  | i + 1 => toR l t j i ++ ijR l t i j
def arndE (l : List Opn) (t : Tab) : Nat → List Edg
  | 0 => []
  | j + 1 => arndE l t j ++ toR l t j l.length
def loopE (l : List Opn) (t : Tab) : List Edg := onceE l t l.length ++ arndE l t l.length
theorem ijR_len (l : List Opn) (t : Tab) (i j : Nat) : (ijR l t i j).length ≤ 5 := by
  have := pair_lens t (opAt l i) (opAt l j) i j 1 (meetS (opAt l i) (opAt l j) l)
  unfold ijR
  rw [pairE_eq]
  simp only [List.length_append]
  split <;> simp <;> omega
theorem toR_len (l : List Opn) (t : Tab) (j : Nat) : ∀ i, (toR l t j i).length ≤ 5 * i
  | 0 => by simp [toR]
  | i + 1 => by
    have := toR_len l t j i
    have := ijR_len l t i j
    simp only [toR, List.length_append]; omega
theorem arndE_len (l : List Opn) (t : Tab) : ∀ j, (arndE l t j).length ≤ 5 * l.length * j
  | 0 => by simp [arndE]
  | j + 1 => by
    have h1 := arndE_len l t j
    have h2 := toR_len l t j l.length
    simp only [arndE, List.length_append]
    have : 5 * l.length * (j + 1) = 5 * l.length * j + 5 * l.length := by rw [Nat.mul_add, Nat.mul_one]
    omega
end Go.Proofs.Hx

set_option linter.unusedVariables false
set_option linter.unusedSimpArgs false
namespace Go.Proofs.Hx
open Go Go.Proofs
attribute [local irreducible] yK awp opK goV goM yS yU yY yN HV HVF HC
theorem minV_two (k k' : IntKind) (a b : Int) : minV [.lit (.int k a), .lit (.int k' b)] = some (.lit (.int k (if b < a then b else a))) := rfl
theorem f101 (l : List Opn) (i j : Nat) (hi : i < l.length) (hj : j < l.length) (hl : ∀ o ∈ l, o.ok) (hn : l.length ≤ 1000000) :
    HV Try.prog 101 [.row (l.map opC), i64 i, i64 j] (bl (meetS l[i] l[j] l)) := by
  refine yQ qG cf101 (by simp) (by simp [imms, imm, rows_imms]) ?_ rfl
  unfold ac101 re101
  refine yE fun env hE => ?_; have e0 := hE 0; have e1 := hE 1; have e2 := hE 2; have e6 := hE 6; simp -implicitDefEqProofs only [push_cast] at e0 e1 e2 e6; clear hE
  have hd1 : decide (0 ≤ if (j : Int) < i then (j : Int) else i) = true := decide_eq_true (by split <;> omega)
  have hd2 : decide ((if (j : Int) > i then (j : Int) else i) < (l.length : Int)) = true := decide_eq_true (by split <;> omega)
  have hc := f119 l l i j hi hj hl hl hn
  repeat' (first | ((try clear hf); with_reducible refine zM fun env K hE hK hf => ?_; have n : _ ∧ _ ∧ _ ∧ _ := ⟨hE 0, hE 1, hE 2, hE 6⟩; simp -implicitDefEqProofs only [push_cast, reduceIte, Nat.reduceEqDiff, e0, e1, e2, e6] at n; clear hE e0 e1 e2 e6; obtain ⟨e0, e1, e2, e6⟩ := n) | (with_reducible refine hK _ _ ?_; clear hK K) | (with_reducible first | refine zJ ?_ | refine zU ?_ | refine zC ?_ | refine zG ?_ | refine zE ?_ | refine zL ?_ | refine zT ?_ | refine zD ?_ | refine zH ?_ | refine zV ?_ | refine zF ?_ | refine zB (by decide) ?_ | refine zP ?_ | refine zO ?_ | refine zK ?_ | refine yB ?_ | refine yC ?_ | refine zW (by assumption) ?_ | refine zY (by assumption) ?_) | (refine zI rfl ?_) | (simp -implicitDefEqProofs only [push_cast, sevalprocAttr, eq_self, e0, e1, e2, e6, yJ, minV_two, maxV_two, hd1, hd2]) | (simp -implicitDefEqProofs (disch := omega) only [zR, zZ, zS, zQ, e0, e1, e2, e6, yJ, minV_two, maxV_two, hd1, hd2]) | (with_reducible refine yF ?_ ?_) | (refine zN rfl (fun bb => ?_) (fun bb => ?_) <;> simp only [bb]) | (with_reducible refine zX (fun bb => ?_) (fun bb => ?_)) | ((with_reducible refine And.intro ?_ ?_); omega) | (refine yH hc ?_) | fail)
theorem onceE_len2 (l : List Opn) (t : Tab) : ∀ j, 2 * (onceE l t j).length ≤ 5 * j * j
  | 0 => by simp [onceE]
  | j + 1 => by
    have h1 := onceE_len2 l t j
    have h2 := toE_len l t j j
    simp only [onceE, List.length_append]
    have : 5 * (j + 1) * (j + 1) = 5 * j * j + 5 * j + (5 * j + 5) := by rw [Nat.mul_add 5, Nat.mul_add, Nat.add_mul, Nat.mul_one, Nat.mul_one]
    omega
end Go.Proofs.Hx

set_option linter.unusedVariables false
set_option linter.unusedSimpArgs false
namespace Go.Proofs.Hx
open Go Go.Proofs
attribute [local irreducible] yK awp opK goV goM yS yU yY yN HV HVF HC
theorem lastC_take (L : Nat → Int) : (qD L).take 32 = qD L := List.take_of_length_le (by rw [qJ]; omega)
theorem lastC_one (L : Nat → Int) : (qD L).all one = true := by simp [qD, one]; intros; rfl
theorem openL_succ (l : List Opn) (j r : Nat) : openL l (j + 1) r = if 0 ≤ dS (opAt l j) ∧ r = (dS (opAt l j)).toNat then 0 else openL l j r := by
  unfold openL
  rw [show lastL l (j + 1) r = if 0 ≤ dS (opAt l j) ∧ r = (dS (opAt l j)).toNat then (j : Int) + 1 else lastL l j r from rfl]
  by_cases h : 0 ≤ dS (opAt l j) ∧ r = (dS (opAt l j)).toNat
  · rw [if_pos h, if_pos h, if_neg (by omega)]
  · rw [if_neg h, if_neg h]
set_option maxHeartbeats 1000000 in
theorem f67 {h0 : Hp} {F : Id} {l : List Opn} {t : Tab} {es : List Edg} {rid did : Id} {out0 : AV} (hX : FinH h0 F l t es rid did out0) (ho0 : ∀ x, idOf out0 = some x → x.1 ≤ h0.ep) (hl : ∀ o ∈ l, o.ok) (ht : qM t) (hn : l.length ≤ 1024) (hes : es.length ≤ 4000000) :
    HC Try.prog 67 [.ptr F 0] h0 fun r h' => r = .tup [] ∧ ∃ out', FinH h' F l t (es ++ arndE l t l.length) rid did out' ∧ FS h0 F out0 h' out' := by
  refine qO qG cf67 (by simp) fun hF => ?_
  unfold ac67 re67
  refine yE fun env hE => ?_; have e0 := hE 0; have e2 := hE 2; have e3 := hE 3; have e4 := hE 4; have e5 := hE 5; have e6 := hE 6; have e11 := hE 11; have e12 := hE 12; have e13 := hE 13; have e39 := hE 39; have e40 := hE 40; have e41 := hE 41; have e47 := hE 47; have e48 := hE 48; have e49 := hE 49; simp -implicitDefEqProofs only [push_cast] at e0 e2 e3 e4 e5 e6 e11 e12 e13 e39 e40 e41 e47 e48 e49; clear hE
  obtain ⟨Fe, Fs⟩ := F
  obtain ⟨re, rs⟩ := rid
  obtain ⟨de, ds⟩ := did
  have hb := hX.fin
  have hFe : Fe ≤ h0.ep := hX.eF
  repeat' (first | ((try clear hf); with_reducible refine zM fun env K hE hK hf => ?_; have n : _ ∧ _ ∧ _ ∧ _ ∧ _ ∧ _ ∧ _ ∧ _ ∧ _ ∧ _ ∧ _ ∧ _ ∧ _ ∧ _ ∧ _ := ⟨hE 0, hE 2, hE 3, hE 4, hE 5, hE 6, hE 11, hE 12, hE 13, hE 39, hE 40, hE 41, hE 47, hE 48, hE 49⟩; simp -implicitDefEqProofs only [push_cast, reduceIte, Nat.reduceEqDiff, e0, e2, e3, e4, e5, e6, e11, e12, e13, e39, e40, e41, e47, e48, e49] at n; clear hE e0 e2 e3 e4 e5 e6 e11 e12 e13 e39 e40 e41 e47 e48 e49; obtain ⟨e0, e2, e3, e4, e5, e6, e11, e12, e13, e39, e40, e41, e47, e48, e49⟩ := n) | (with_reducible refine hK _ _ ?_; clear hK K) | (with_reducible first | refine zJ ?_ | refine zU ?_ | refine zC ?_ | refine zG ?_ | refine zE ?_ | refine zL ?_ | refine zT ?_ | refine zD ?_ | refine zH ?_ | refine zV ?_ | refine zF ?_ | refine zB (by decide) ?_ | refine zP ?_ | refine zO ?_ | refine zK ?_ | refine yB ?_ | refine yC ?_ | refine zW (by assumption) ?_ | refine zY (by assumption) ?_) | (refine zI rfl ?_) | (simp -implicitDefEqProofs only [push_cast, sevalprocAttr, eq_self, e0, e2, e3, e4, e5, e6, e11, e12, e13, e39, e40, e41, e47, e48, e49, hb, hF.at, finC_0, yJ]) | (simp -implicitDefEqProofs (disch := omega) only [zR, zZ, zS, zQ, e0, e2, e3, e4, e5, e6, e11, e12, e13, e39, e40, e41, e47, e48, e49, hb, hF.at, finC_0, yJ]) | (with_reducible refine yF ?_ ?_) | (refine zN rfl (fun bb => ?_) (fun bb => ?_) <;> (first | have bp := of_decide_eq_true bb | have bp := of_decide_eq_false bb | skip) <;> simp only [bb]) | (with_reducible refine zX (fun bb => ?_) (fun bb => ?_) <;> (first | have bp := of_decide_eq_true bb | have bp := of_decide_eq_false bb | skip)) | ((with_reducible refine And.intro ?_ ?_); omega) | fail)
  generalize hL0 : (h0.ep + 1 + 1, 2) = L
  rw [hL0] at e2
  have hre : re ≤ h0.ep := hX.er
  have hde0 : de ≤ h0.ep := hX.ed
  have hLF : L ≠ (Fe, Fs) := by rw [← hL0]; intro e; cases e; omega
  have hLr : L ≠ (re, rs) := by rw [← hL0]; intro e; cases e; omega
  have hLd : L ≠ (de, ds) := by rw [← hL0]; intro e; cases e; omega
  have hLe : h0.ep < L.1 := by rw [← hL0]; show h0.ep < h0.ep + 1 + 1; omega
  have hLo : idOf out0 ≠ some L := fun e => by have := ho0 _ e; omega
  refine yE fun env hE => ?_; have n : _ ∧ _ ∧ _ ∧ _ ∧ _ ∧ _ ∧ _ ∧ _ ∧ _ ∧ _ ∧ _ ∧ _ ∧ _ ∧ _ ∧ _ := ⟨hE 0, hE 2, hE 3, hE 4, hE 5, hE 6, hE 11, hE 12, hE 13, hE 39, hE 40, hE 41, hE 47, hE 48, hE 49⟩; simp -implicitDefEqProofs only [push_cast, reduceIte, Nat.reduceEqDiff, e0, e2, e3, e4, e5, e6, e11, e12, e13, e39, e40, e41, e47, e48, e49] at n; clear hE e0 e2 e3 e4 e5 e6 e11 e12 e13 e39 e40 e41 e47 e48 e49; obtain ⟨e0, e2, e3, e4, e5, e6, e11, e12, e13, e39, e40, e41, e47, e48, e49⟩ := n; have E67_0_0 := e0; have E67_0_2 := e2; have E67_0_11 := e11
  refine yV (fun nn σ => ∃ (k : Nat), nn = l.length - k ∧ σ.env 0 = env 0 ∧ σ.env 2 = env 2 ∧ σ.env 11 = env 11 ∧ σ.env 12 = i64 k ∧ (k ≤ l.length ∧ FinH σ.h (Fe, Fs) l t es (re, rs) (de, ds) out0 ∧ FS h0 (Fe, Fs) out0 σ.h out0 ∧ σ.h.hp L = some ⟨true, qD (lastL l k)⟩ ∧ L.1 ≤ σ.h.ep)) _ ⟨0, rfl, rfl, rfl, rfl, by refine e12.trans ?_; first | rfl | exact yG (by omega) | (simp -implicitDefEqProofs (disch := omega) only [zQ]; first | rfl | exact yG (by omega)), ?_⟩ ?_
  · refine ⟨by omega, hX.ext (by repeat (first | exact Ext.refl _ | assumption | refine Ext.tick ?_ | refine Ext.push ?_ (by omega) _ | refine Ext.put ?_ (by omega) _ | refine Ext.kill ?_ (by omega) | refine Ext.killA ?_ (by assumption))), (FS.refl h0 (Fe, Fs) out0).ext (by repeat (first | exact Ext.refl _ | assumption | refine Ext.tick ?_ | refine Ext.push ?_ (by omega) _ | refine Ext.put ?_ (by omega) _ | refine Ext.kill ?_ (by omega) | refine Ext.killA ?_ (by assumption))), ?_, ?_⟩
    · rw [← hL0]; simp -implicitDefEqProofs only [push_cast, sevalprocAttr, eq_self]; rfl
    · rw [← hL0]; simp -implicitDefEqProofs only [push_cast, sevalprocAttr, eq_self]; omega
  clear hX hb hF hFe
  clear e0 e2 e3 e4 e5 e6 e11 e12 e13 e39 e40 e41 e47 e48 e49; rintro nn ⟨env, h⟩ ⟨k, rfl, q0, q2, q11, e12, hI⟩; simp only at q0 q2 q11 e12 hI; (first | have e0 := q0.trans E67_0_0 | have e0 := True.intro); (first | have e2 := q2.trans E67_0_2 | have e2 := True.intro); (first | have e11 := q11.trans E67_0_11 | have e11 := True.intro); clear q0 q2 q11; have e3 := True.intro; have e4 := True.intro; have e5 := True.intro; have e6 := True.intro; have e13 := True.intro; have e39 := True.intro; have e40 := True.intro; have e41 := True.intro; have e47 := True.intro; have e48 := True.intro; have e49 := True.intro
  obtain ⟨hk, hX, hS, hL, eL⟩ := hI
  unfold l67_0
  (first | refine yI fun hF => ?_ | refine qA fun hF => ?_ | refine yZ fun hF => ?_)
  have hb := hX.fin
  have hd := hX.ds
  by_cases hlt : k < l.length
  · have hdk : decide ((k : Int) < (l.length : Int)) = true := decide_eq_true (by omega)
    have hdj2 := dS_at hlt
    obtain ⟨d1, d2⟩ := dS_lt (hl _ (List.getElem_mem hlt))
    by_cases h9 : 0 ≤ dS l[k]
    · have hd9 : decide (0 ≤ dS l[k]) = true := decide_eq_true h9
      have hk2 : (dS l[k]).toNat < 32 := by omega
      have hfun : (fun r => if r = (dS l[k]).toNat then ((k : Int) + 1) else lastL l k r) = lastL l (k + 1) := by
        funext r
        rw [show lastL l (k + 1) r = _ from rfl]
        simp only [lastL, ← opAt_eq hlt]
        by_cases hr : r = (dS l[k]).toNat
        · rw [if_pos hr, if_pos ⟨h9, hr⟩]
        · rw [if_neg hr, if_neg (fun h => hr h.2)]
      have hp := (lastC_put (lastL l k) hk2 ((k : Int) + 1)).trans (congrArg qD hfun)
      have hle : (dS l[k]).toNat + 1 ≤ (qD (lastL l k)).length := by rw [qJ]; omega
      repeat' (first | ((try clear hf); with_reducible refine zM fun env K hE hK hf => ?_; have n : _ ∧ _ ∧ _ ∧ _ ∧ _ ∧ _ ∧ _ ∧ _ ∧ _ ∧ _ ∧ _ ∧ _ ∧ _ ∧ _ ∧ _ := ⟨hE 0, hE 2, hE 3, hE 4, hE 5, hE 6, hE 11, hE 12, hE 13, hE 39, hE 40, hE 41, hE 47, hE 48, hE 49⟩; simp -implicitDefEqProofs only [push_cast, reduceIte, Nat.reduceEqDiff, e0, e2, e3, e4, e5, e6, e11, e12, e13, e39, e40, e41, e47, e48, e49] at n; clear hE e0 e2 e3 e4 e5 e6 e11 e12 e13 e39 e40 e41 e47 e48 e49; obtain ⟨e0, e2, e3, e4, e5, e6, e11, e12, e13, e39, e40, e41, e47, e48, e49⟩ := n) | (with_reducible refine hK _ _ ?_; clear hK K) | (with_reducible first | refine zJ ?_ | refine zU ?_ | refine zC ?_ | refine zG ?_ | refine zE ?_ | refine zL ?_ | refine zT ?_ | refine zD ?_ | refine zH ?_ | refine zV ?_ | refine zF ?_ | refine zB (by decide) ?_ | refine zP ?_ | refine zO ?_ | refine zK ?_ | refine yB ?_ | refine yC ?_ | refine zW (by assumption) ?_ | refine zY (by assumption) ?_) | (refine zI rfl ?_) | (simp -implicitDefEqProofs only [push_cast, sevalprocAttr, eq_self, e0, e2, e3, e4, e5, e6, e11, e12, e13, e39, e40, e41, e47, e48, e49, hdk, hb, hd, hF.at, qN, yM, hdj2, qK, hL, hd9, hp]) | (simp -implicitDefEqProofs (disch := omega) only [zR, zZ, zS, zQ, e0, e2, e3, e4, e5, e6, e11, e12, e13, e39, e40, e41, e47, e48, e49, hdk, hb, hd, hF.at, qN, yM, hdj2, qK, hL, hd9, hp]) | (with_reducible refine yF ?_ ?_) | (refine zN rfl (fun bb => ?_) (fun bb => ?_) <;> (first | have bp := of_decide_eq_true bb | have bp := of_decide_eq_false bb | skip) <;> simp only [bb]) | (with_reducible refine zX (fun bb => ?_) (fun bb => ?_) <;> (first | have bp := of_decide_eq_true bb | have bp := of_decide_eq_false bb | skip)) | ((with_reducible refine And.intro ?_ ?_); omega) | fail)
      refine ⟨_, ?_, k + 1, rfl, E67_0_0.symm, E67_0_2.symm, E67_0_11.symm, by first | rfl | exact yG (by omega) | (simp -implicitDefEqProofs (disch := omega) only [zQ]; first | rfl | exact yG (by omega)), ?_⟩
      · omega
      · exact ⟨by omega, ((hX.ext (by repeat (first | exact Ext.refl _ | assumption | refine Ext.tick ?_ | refine Ext.push ?_ (by omega) _ | refine Ext.put ?_ (by omega) _ | refine Ext.kill ?_ (by omega) | refine Ext.killA ?_ (by assumption)))).putL _ hLF hLr hLd hLo).tick, ((hS.ext (by repeat (first | exact Ext.refl _ | assumption | refine Ext.tick ?_ | refine Ext.push ?_ (by omega) _ | refine Ext.put ?_ (by omega) _ | refine Ext.kill ?_ (by omega) | refine Ext.killA ?_ (by assumption)))).putL hLe _).tick, by simp -implicitDefEqProofs only [push_cast, sevalprocAttr, eq_self], (by first | omega | (simp -implicitDefEqProofs only [push_cast, sevalprocAttr, eq_self]; first | done | omega))⟩
    · have hd9 : decide (0 ≤ dS l[k]) = false := decide_eq_false h9
      have hp : qD (lastL l (k + 1)) = qD (lastL l k) := by
        unfold qD
        apply List.map_congr_left
        intro r _
        simp only [lastL, ← opAt_eq hlt]
        rw [if_neg (fun h => h9 h.1)]
      repeat' (first | ((try clear hf); with_reducible refine zM fun env K hE hK hf => ?_; have n : _ ∧ _ ∧ _ ∧ _ ∧ _ ∧ _ ∧ _ ∧ _ ∧ _ ∧ _ ∧ _ ∧ _ ∧ _ ∧ _ ∧ _ := ⟨hE 0, hE 2, hE 3, hE 4, hE 5, hE 6, hE 11, hE 12, hE 13, hE 39, hE 40, hE 41, hE 47, hE 48, hE 49⟩; simp -implicitDefEqProofs only [push_cast, reduceIte, Nat.reduceEqDiff, e0, e2, e3, e4, e5, e6, e11, e12, e13, e39, e40, e41, e47, e48, e49] at n; clear hE e0 e2 e3 e4 e5 e6 e11 e12 e13 e39 e40 e41 e47 e48 e49; obtain ⟨e0, e2, e3, e4, e5, e6, e11, e12, e13, e39, e40, e41, e47, e48, e49⟩ := n) | (with_reducible refine hK _ _ ?_; clear hK K) | (with_reducible first | refine zJ ?_ | refine zU ?_ | refine zC ?_ | refine zG ?_ | refine zE ?_ | refine zL ?_ | refine zT ?_ | refine zD ?_ | refine zH ?_ | refine zV ?_ | refine zF ?_ | refine zB (by decide) ?_ | refine zP ?_ | refine zO ?_ | refine zK ?_ | refine yB ?_ | refine yC ?_ | refine zW (by assumption) ?_ | refine zY (by assumption) ?_) | (refine zI rfl ?_) | (simp -implicitDefEqProofs only [push_cast, sevalprocAttr, eq_self, e0, e2, e3, e4, e5, e6, e11, e12, e13, e39, e40, e41, e47, e48, e49, hdk, hb, hd, hF.at, qN, yM, hdj2, qK, hL, hd9]) | (simp -implicitDefEqProofs (disch := omega) only [zR, zZ, zS, zQ, e0, e2, e3, e4, e5, e6, e11, e12, e13, e39, e40, e41, e47, e48, e49, hdk, hb, hd, hF.at, qN, yM, hdj2, qK, hL, hd9]) | (with_reducible refine yF ?_ ?_) | (refine zN rfl (fun bb => ?_) (fun bb => ?_) <;> (first | have bp := of_decide_eq_true bb | have bp := of_decide_eq_false bb | skip) <;> simp only [bb]) | (with_reducible refine zX (fun bb => ?_) (fun bb => ?_) <;> (first | have bp := of_decide_eq_true bb | have bp := of_decide_eq_false bb | skip)) | ((with_reducible refine And.intro ?_ ?_); omega) | fail)
      refine ⟨_, ?_, k + 1, rfl, E67_0_0.symm, E67_0_2.symm, E67_0_11.symm, by first | rfl | exact yG (by omega) | (simp -implicitDefEqProofs (disch := omega) only [zQ]; first | rfl | exact yG (by omega)), ?_⟩
      · omega
      · exact ⟨by omega, hX.ext (by repeat (first | exact Ext.refl _ | assumption | refine Ext.tick ?_ | refine Ext.push ?_ (by omega) _ | refine Ext.put ?_ (by omega) _ | refine Ext.kill ?_ (by omega) | refine Ext.killA ?_ (by assumption))), hS.ext (by repeat (first | exact Ext.refl _ | assumption | refine Ext.tick ?_ | refine Ext.push ?_ (by omega) _ | refine Ext.put ?_ (by omega) _ | refine Ext.kill ?_ (by omega) | refine Ext.killA ?_ (by assumption))), by simp -implicitDefEqProofs only [push_cast, sevalprocAttr, eq_self, hL, hp], (by first | omega | (simp -implicitDefEqProofs only [push_cast, sevalprocAttr, eq_self]; first | done | omega))⟩
  have hdk : decide ((k : Int) < (l.length : Int)) = false := decide_eq_false (by omega)
  obtain rfl : k = l.length := by omega
  have hFe : Fe ≤ h.ep := hX.eF
  repeat' (first | ((try clear hf); with_reducible refine zM fun env K hE hK hf => ?_; have n : _ ∧ _ ∧ _ ∧ _ ∧ _ ∧ _ ∧ _ ∧ _ ∧ _ ∧ _ ∧ _ ∧ _ ∧ _ ∧ _ ∧ _ := ⟨hE 0, hE 2, hE 3, hE 4, hE 5, hE 6, hE 11, hE 12, hE 13, hE 39, hE 40, hE 41, hE 47, hE 48, hE 49⟩; simp -implicitDefEqProofs only [push_cast, reduceIte, Nat.reduceEqDiff, e0, e2, e3, e4, e5, e6, e11, e12, e13, e39, e40, e41, e47, e48, e49] at n; clear hE e0 e2 e3 e4 e5 e6 e11 e12 e13 e39 e40 e41 e47 e48 e49; obtain ⟨e0, e2, e3, e4, e5, e6, e11, e12, e13, e39, e40, e41, e47, e48, e49⟩ := n) | (with_reducible refine hK _ _ ?_; clear hK K) | (with_reducible first | refine zJ ?_ | refine zU ?_ | refine zC ?_ | refine zG ?_ | refine zE ?_ | refine zL ?_ | refine zT ?_ | refine zD ?_ | refine zH ?_ | refine zV ?_ | refine zF ?_ | refine zB (by decide) ?_ | refine zP ?_ | refine zO ?_ | refine zK ?_ | refine yB ?_ | refine yC ?_ | refine zW (by assumption) ?_ | refine zY (by assumption) ?_) | (refine zI rfl ?_) | (simp -implicitDefEqProofs only [push_cast, sevalprocAttr, eq_self, e0, e2, e3, e4, e5, e6, e11, e12, e13, e39, e40, e41, e47, e48, e49, hdk, hb, hL, hF.at, qJ, lastC_take, finC_0, yJ, lastC_one]) | (simp -implicitDefEqProofs (disch := omega) only [zR, zZ, zS, zQ, e0, e2, e3, e4, e5, e6, e11, e12, e13, e39, e40, e41, e47, e48, e49, hdk, hb, hL, hF.at, qJ, lastC_take, finC_0, yJ, lastC_one]) | (with_reducible refine yF ?_ ?_) | (refine zN rfl (fun bb => ?_) (fun bb => ?_) <;> (first | have bp := of_decide_eq_true bb | have bp := of_decide_eq_false bb | skip) <;> simp only [bb]) | (with_reducible refine zX (fun bb => ?_) (fun bb => ?_) <;> (first | have bp := of_decide_eq_true bb | have bp := of_decide_eq_false bb | skip)) | ((with_reducible refine And.intro ?_ ?_); omega) | fail)
  generalize hM0 : (h.ep + 1 + 1, 4) = M
  have hSe := hS.1
  have hMe : h.ep < M.1 := by rw [← hM0]; show h.ep < h.ep + 1 + 1; omega
  have hMF : M ≠ (Fe, Fs) := fun e => by have := hX.eF; rw [e] at hMe; simp only at hMe this; omega
  have hMr : M ≠ (re, rs) := fun e => by have := hX.er; rw [e] at hMe; simp only at hMe this; omega
  have hMd : M ≠ (de, ds) := fun e => by have := hX.ed; rw [e] at hMe; simp only at hMe this; omega
  have hMo : idOf out0 ≠ some M := fun e => by have := ho0 _ e; omega
  rw [hM0] at e4
  have hop0 : qD (openL l 0) = qD (lastL l l.length) := by
    congr 1
  have hM1 : h0.ep < M.1 := by omega
  refine yE fun env hE => ?_; have n : _ ∧ _ ∧ _ ∧ _ ∧ _ ∧ _ ∧ _ ∧ _ ∧ _ ∧ _ ∧ _ ∧ _ ∧ _ ∧ _ ∧ _ := ⟨hE 0, hE 2, hE 3, hE 4, hE 5, hE 6, hE 11, hE 12, hE 13, hE 39, hE 40, hE 41, hE 47, hE 48, hE 49⟩; simp -implicitDefEqProofs only [push_cast, reduceIte, Nat.reduceEqDiff, e0, e2, e3, e4, e5, e6, e11, e12, e13, e39, e40, e41, e47, e48, e49] at n; clear hE e0 e2 e3 e4 e5 e6 e11 e12 e13 e39 e40 e41 e47 e48 e49; obtain ⟨e0, e2, e3, e4, e5, e6, e11, e12, e13, e39, e40, e41, e47, e48, e49⟩ := n; have E67_2_0 := e0; have E67_2_2 := e2; have E67_2_3 := e3; have E67_2_4 := e4; have E67_2_11 := e11; have E67_2_12 := e12; have E67_2_13 := e13; have E67_2_39 := e39
  refine yV (fun nn σ => ∃ (j : Nat) (out : AV), nn = l.length - j ∧ σ.env 0 = env 0 ∧ σ.env 2 = env 2 ∧ σ.env 3 = env 3 ∧ σ.env 4 = env 4 ∧ σ.env 11 = env 11 ∧ σ.env 12 = env 12 ∧ σ.env 13 = env 13 ∧ σ.env 39 = env 39 ∧ σ.env 40 = i64 j ∧ (j ≤ l.length ∧ FinH σ.h (Fe, Fs) l t (es ++ arndE l t j) (re, rs) (de, ds) out ∧ FS h0 (Fe, Fs) out0 σ.h out ∧ idOf out ≠ some M ∧ σ.h.hp M = some ⟨true, qD (openL l j)⟩ ∧ M.1 ≤ σ.h.ep)) _ ⟨0, out0, rfl, rfl, rfl, rfl, rfl, rfl, rfl, rfl, rfl, by refine e40.trans ?_; first | rfl | exact yG (by omega) | (simp -implicitDefEqProofs (disch := omega) only [zQ]; first | rfl | exact yG (by omega)), ?_⟩ ?_
  · refine ⟨by omega, es_yes (E := es) (by simp [arndE]) ?_, ?_, hMo, ?_, ?_⟩
    · rw [← hM0]; exact hX.ext (by repeat (first | exact Ext.refl _ | assumption | refine Ext.tick ?_ | refine Ext.push ?_ (by omega) _ | refine Ext.put ?_ (by omega) _ | refine Ext.kill ?_ (by omega) | refine Ext.killA ?_ (by assumption)))
    · rw [← hM0]; exact hS.ext (by repeat (first | exact Ext.refl _ | assumption | refine Ext.tick ?_ | refine Ext.push ?_ (by omega) _ | refine Ext.put ?_ (by omega) _ | refine Ext.kill ?_ (by omega) | refine Ext.killA ?_ (by assumption)))
    · rw [← hM0]; rw [hop0]; simp -implicitDefEqProofs only [push_cast, sevalprocAttr, eq_self]
    · rw [← hM0]; simp -implicitDefEqProofs only [push_cast, sevalprocAttr, eq_self]; omega
  clear hX hS hL eL hF hb hd hSe hMe hM0 hMo
  clear e0 e2 e3 e4 e5 e6 e11 e12 e13 e39 e40 e41 e47 e48 e49; rintro nn ⟨env, h⟩ ⟨j, out, rfl, q0, q2, q3, q4, q11, q12, q13, q39, e40, hI⟩; simp only at q0 q2 q3 q4 q11 q12 q13 q39 e40 hI; (first | have e0 := q0.trans E67_2_0 | have e0 := True.intro); (first | have e2 := q2.trans E67_2_2 | have e2 := True.intro); (first | have e3 := q3.trans E67_2_3 | have e3 := True.intro); (first | have e4 := q4.trans E67_2_4 | have e4 := True.intro); (first | have e11 := q11.trans E67_2_11 | have e11 := True.intro); (first | have e12 := q12.trans E67_2_12 | have e12 := True.intro); (first | have e13 := q13.trans E67_2_13 | have e13 := True.intro); (first | have e39 := q39.trans E67_2_39 | have e39 := True.intro); clear q0 q2 q3 q4 q11 q12 q13 q39; have e5 := True.intro; have e6 := True.intro; have e41 := True.intro; have e47 := True.intro; have e48 := True.intro; have e49 := True.intro
  obtain ⟨hj', hX, hS, hMo, hM, eM⟩ := hI
  unfold l67_2
  (first | refine yI fun hF => ?_ | refine qA fun hF => ?_ | refine yZ fun hF => ?_)
  have hb := hX.fin
  have hd := hX.ds
  by_cases hj : j < l.length
  · have hdj : decide ((j : Int) < (l.length : Int)) = true := decide_eq_true (by omega)
    repeat' (first | ((try clear hf); with_reducible refine zM fun env K hE hK hf => ?_; have n : _ ∧ _ ∧ _ ∧ _ ∧ _ ∧ _ ∧ _ ∧ _ ∧ _ ∧ _ ∧ _ ∧ _ ∧ _ ∧ _ ∧ _ := ⟨hE 0, hE 2, hE 3, hE 4, hE 5, hE 6, hE 11, hE 12, hE 13, hE 39, hE 40, hE 41, hE 47, hE 48, hE 49⟩; simp -implicitDefEqProofs only [push_cast, reduceIte, Nat.reduceEqDiff, e0, e2, e3, e4, e5, e6, e11, e12, e13, e39, e40, e41, e47, e48, e49] at n; clear hE e0 e2 e3 e4 e5 e6 e11 e12 e13 e39 e40 e41 e47 e48 e49; obtain ⟨e0, e2, e3, e4, e5, e6, e11, e12, e13, e39, e40, e41, e47, e48, e49⟩ := n) | (with_reducible refine hK _ _ ?_; clear hK K) | (with_reducible first | refine zJ ?_ | refine zU ?_ | refine zC ?_ | refine zG ?_ | refine zE ?_ | refine zL ?_ | refine zT ?_ | refine zD ?_ | refine zH ?_ | refine zV ?_ | refine zF ?_ | refine zB (by decide) ?_ | refine zP ?_ | refine zO ?_ | refine zK ?_ | refine yB ?_ | refine yC ?_ | refine zW (by assumption) ?_ | refine zY (by assumption) ?_) | (refine zI rfl ?_) | (simp -implicitDefEqProofs only [push_cast, sevalprocAttr, eq_self, e0, e2, e3, e4, e5, e6, e11, e12, e13, e39, e40, e41, e47, e48, e49, hdj, hb, hF.at, finC_0, yJ]) | (simp -implicitDefEqProofs (disch := omega) only [zR, zZ, zS, zQ, e0, e2, e3, e4, e5, e6, e11, e12, e13, e39, e40, e41, e47, e48, e49, hdj, hb, hF.at, finC_0, yJ]) | (with_reducible refine yF ?_ ?_) | (refine zN rfl (fun bb => ?_) (fun bb => ?_) <;> (first | have bp := of_decide_eq_true bb | have bp := of_decide_eq_false bb | skip) <;> simp only [bb]) | (with_reducible refine zX (fun bb => ?_) (fun bb => ?_) <;> (first | have bp := of_decide_eq_true bb | have bp := of_decide_eq_false bb | skip)) | ((with_reducible refine And.intro ?_ ?_); omega) | fail)
    have hlc : ∀ h, mapO (lend 7 h) (qD (openL l j)) = some (qD (openL l j)) := fun h => lends_imm (lastC_imms _)
    have hol := arndE_len l t j
    have hmul : 5 * l.length * j ≤ 5 * 1024 * 1024 := Nat.mul_le_mul (by omega) (by omega)
    refine yE fun env hE => ?_; have n : _ ∧ _ ∧ _ ∧ _ ∧ _ ∧ _ ∧ _ ∧ _ ∧ _ ∧ _ ∧ _ ∧ _ ∧ _ ∧ _ ∧ _ := ⟨hE 0, hE 2, hE 3, hE 4, hE 5, hE 6, hE 11, hE 12, hE 13, hE 39, hE 40, hE 41, hE 47, hE 48, hE 49⟩; simp -implicitDefEqProofs only [push_cast, reduceIte, Nat.reduceEqDiff, e0, e2, e3, e4, e5, e6, e11, e12, e13, e39, e40, e41, e47, e48, e49] at n; clear hE e0 e2 e3 e4 e5 e6 e11 e12 e13 e39 e40 e41 e47 e48 e49; obtain ⟨e0, e2, e3, e4, e5, e6, e11, e12, e13, e39, e40, e41, e47, e48, e49⟩ := n; have E67_1_0 := e0; have E67_1_2 := e2; have E67_1_3 := e3; have E67_1_4 := e4; have E67_1_5 := e5; have E67_1_11 := e11; have E67_1_12 := e12; have E67_1_13 := e13; have E67_1_39 := e39; have E67_1_40 := e40; have E67_1_41 := e41; have E67_1_47 := e47
    refine yV (fun nn σ => ∃ (i : Nat) (out2 : AV), nn = l.length - i ∧ σ.env 0 = env 0 ∧ σ.env 2 = env 2 ∧ σ.env 3 = env 3 ∧ σ.env 4 = env 4 ∧ σ.env 5 = env 5 ∧ σ.env 11 = env 11 ∧ σ.env 12 = env 12 ∧ σ.env 13 = env 13 ∧ σ.env 39 = env 39 ∧ σ.env 40 = env 40 ∧ σ.env 41 = env 41 ∧ σ.env 47 = env 47 ∧ σ.env 48 = i64 i ∧ (i ≤ l.length ∧ FinH σ.h (Fe, Fs) l t (es ++ arndE l t j ++ toR l t j i) (re, rs) (de, ds) out2 ∧ FS h0 (Fe, Fs) out0 σ.h out2 ∧ idOf out2 ≠ some M ∧ σ.h.hp M = some ⟨true, qD (openL l j)⟩ ∧ M.1 ≤ σ.h.ep)) _ ⟨0, out, rfl, rfl, rfl, rfl, rfl, rfl, rfl, rfl, rfl, rfl, rfl, rfl, rfl, by refine e48.trans ?_; first | rfl | exact yG (by omega) | (simp -implicitDefEqProofs (disch := omega) only [zQ]; first | rfl | exact yG (by omega)), ?_⟩ ?_
    · exact ⟨by omega, es_yes (by simp [toR]) (hX.ext (by repeat (first | exact Ext.refl _ | assumption | refine Ext.tick ?_ | refine Ext.push ?_ (by omega) _ | refine Ext.put ?_ (by omega) _ | refine Ext.kill ?_ (by omega) | refine Ext.killA ?_ (by assumption)))), hS.ext (by repeat (first | exact Ext.refl _ | assumption | refine Ext.tick ?_ | refine Ext.push ?_ (by omega) _ | refine Ext.put ?_ (by omega) _ | refine Ext.kill ?_ (by omega) | refine Ext.killA ?_ (by assumption))), hMo, by simp -implicitDefEqProofs only [push_cast, sevalprocAttr, eq_self, hM], (by first | omega | (simp -implicitDefEqProofs only [push_cast, sevalprocAttr, eq_self]; first | done | omega))⟩
    clear hX hS hMo hM eM hF hb hd
    clear e0 e2 e3 e4 e5 e6 e11 e12 e13 e39 e40 e41 e47 e48 e49; rintro nn ⟨env, h⟩ ⟨i, out2, rfl, q0, q2, q3, q4, q5, q11, q12, q13, q39, q40, q41, q47, e48, hI⟩; simp only at q0 q2 q3 q4 q5 q11 q12 q13 q39 q40 q41 q47 e48 hI; (first | have e0 := q0.trans E67_1_0 | have e0 := True.intro); (first | have e2 := q2.trans E67_1_2 | have e2 := True.intro); (first | have e3 := q3.trans E67_1_3 | have e3 := True.intro); (first | have e4 := q4.trans E67_1_4 | have e4 := True.intro); (first | have e5 := q5.trans E67_1_5 | have e5 := True.intro); (first | have e11 := q11.trans E67_1_11 | have e11 := True.intro); (first | have e12 := q12.trans E67_1_12 | have e12 := True.intro); (first | have e13 := q13.trans E67_1_13 | have e13 := True.intro); (first | have e39 := q39.trans E67_1_39 | have e39 := True.intro); (first | have e40 := q40.trans E67_1_40 | have e40 := True.intro); (first | have e41 := q41.trans E67_1_41 | have e41 := True.intro); (first | have e47 := q47.trans E67_1_47 | have e47 := True.intro); clear q0 q2 q3 q4 q5 q11 q12 q13 q39 q40 q41 q47; have e6 := True.intro; have e49 := True.intro
    obtain ⟨hi', hX, hS, hMo, hM, eM⟩ := hI
    unfold l67_1
    (first | refine yI fun hF => ?_ | refine qA fun hF => ?_ | refine yZ fun hF => ?_)
    have hb := hX.fin
    have hd := hX.ds
    have hFe : Fe ≤ h.ep := hX.eF
    have hde : de ≤ h.ep := hX.ed
    have hlen := toR_len l t j i
    have hlen2 : (es ++ arndE l t j ++ toR l t j i).length ≤ 9400000 := by rw [List.length_append, List.length_append]; omega
    by_cases hi : i < l.length
    · have hdi : decide ((i : Int) < (l.length : Int)) = true := decide_eq_true (by omega)
      repeat' (first | ((try clear hf); with_reducible refine zM fun env K hE hK hf => ?_; have n : _ ∧ _ ∧ _ ∧ _ ∧ _ ∧ _ ∧ _ ∧ _ ∧ _ ∧ _ ∧ _ ∧ _ ∧ _ ∧ _ ∧ _ := ⟨hE 0, hE 2, hE 3, hE 4, hE 5, hE 6, hE 11, hE 12, hE 13, hE 39, hE 40, hE 41, hE 47, hE 48, hE 49⟩; simp -implicitDefEqProofs only [push_cast, reduceIte, Nat.reduceEqDiff, e0, e2, e3, e4, e5, e6, e11, e12, e13, e39, e40, e41, e47, e48, e49] at n; clear hE e0 e2 e3 e4 e5 e6 e11 e12 e13 e39 e40 e41 e47 e48 e49; obtain ⟨e0, e2, e3, e4, e5, e6, e11, e12, e13, e39, e40, e41, e47, e48, e49⟩ := n) | (with_reducible refine hK _ _ ?_; clear hK K) | (with_reducible first | refine zJ ?_ | refine zU ?_ | refine zC ?_ | refine zG ?_ | refine zE ?_ | refine zL ?_ | refine zT ?_ | refine zD ?_ | refine zH ?_ | refine zV ?_ | refine zF ?_ | refine zB (by decide) ?_ | refine zP ?_ | refine zO ?_ | refine zK ?_ | refine yB ?_ | refine yC ?_ | refine zW (by assumption) ?_ | refine zY (by assumption) ?_) | (refine zI rfl ?_) | (simp -implicitDefEqProofs only [push_cast, sevalprocAttr, eq_self, e0, e2, e3, e4, e5, e6, e11, e12, e13, e39, e40, e41, e47, e48, e49, hdi, hb, hd, hF.at, finC_0]) | (simp -implicitDefEqProofs (disch := omega) only [zR, zZ, zS, zQ, e0, e2, e3, e4, e5, e6, e11, e12, e13, e39, e40, e41, e47, e48, e49, hdi, hb, hd, hF.at, finC_0]) | (with_reducible refine yF ?_ ?_) | (refine zN rfl (fun bb => ?_) (fun bb => ?_) <;> simp only [bb]) | (with_reducible refine zX (fun bb => ?_) (fun bb => ?_)) | ((with_reducible refine And.intro ?_ ?_); omega) | (refine call_fin2 hX (by repeat (first | exact Ext.refl _ | assumption | refine Ext.tick ?_ | refine Ext.push ?_ (by omega) _ | refine Ext.put ?_ (by omega) _ | refine Ext.kill ?_ (by omega) | refine Ext.killA ?_ (by assumption))) (by simp -implicitDefEqProofs only [push_cast, sevalprocAttr, eq_self, lend_ptrF, hM, hlc]) (fun o ho => f96 l t o ho (openL l j) i j hj (by omega) hl) ?_) | (refine call_fin hX (by repeat (first | exact Ext.refl _ | assumption | refine Ext.tick ?_ | refine Ext.push ?_ (by omega) _ | refine Ext.put ?_ (by omega) _ | refine Ext.kill ?_ (by omega) | refine Ext.killA ?_ (by assumption))) (fun o ho => f98 l t o ho i hi) rfl ?_) | (refine yH (f101 l i j hi hj hl (by omega)) ?_) | (refine call_put (e := ⟨0, 0, latS t l[i], 0, 0⟩) hX (by repeat (first | exact Ext.refl _ | assumption | refine Ext.tick ?_ | refine Ext.push ?_ (by omega) _ | refine Ext.put ?_ (by omega) _ | refine Ext.kill ?_ (by omega) | refine Ext.killA ?_ (by assumption))) (by simp -implicitDefEqProofs only [push_cast, sevalprocAttr, eq_self]; rfl) (by first | omega | (dsimp only; omega)) (by first | (simp -implicitDefEqProofs only [push_cast, sevalprocAttr, eq_self]; done) | (simp -implicitDefEqProofs only [push_cast, sevalprocAttr, eq_self]; omega)) (by first | omega | (simp only [List.length_append, List.length_cons, List.length_nil]; omega)) ?_; intro h out2 hX hF hs; have q := hs.2 _ eM hMF hMo; replace hM := q.1.trans hM; replace hMo := q.2; replace eM := Nat.le_trans eM hs.1; replace hS := FS.trans hS hs; have hb := hX.fin; have hd := hX.ds; have hFe : Fe ≤ h.ep := hX.eF; have hde : de ≤ h.ep := hX.ed) | (refine call_pair hX (by repeat (first | exact Ext.refl _ | assumption | refine Ext.tick ?_ | refine Ext.push ?_ (by omega) _ | refine Ext.put ?_ (by omega) _ | refine Ext.kill ?_ (by omega) | refine Ext.killA ?_ (by assumption))) hi hj hl ht (by first | omega | (simp only [List.length_append, List.length_cons, List.length_nil] at hlen2 ⊢; omega)) ?_; intro h out2 hX hF hs; have q := hs.2 _ eM hMF hMo; replace hM := q.1.trans hM; replace hMo := q.2; replace eM := Nat.le_trans eM hs.1; replace hS := FS.trans hS hs; have hb := hX.fin; have hd := hX.ds; have hFe : Fe ≤ h.ep := hX.eF; have hde : de ≤ h.ep := hX.ed) | fail)
      all_goals
        refine ⟨_, ?_, i + 1, out2, rfl, E67_1_0.symm, E67_1_2.symm, E67_1_3.symm, E67_1_4.symm, E67_1_5.symm, E67_1_11.symm, E67_1_12.symm, E67_1_13.symm, E67_1_39.symm, E67_1_40.symm, E67_1_41.symm, E67_1_47.symm, by first | rfl | exact yG (by omega) | (simp -implicitDefEqProofs (disch := omega) only [zQ]; first | rfl | exact yG (by omega)), ?_⟩
        · omega
        · refine ⟨by omega, es_yes ?_ (hX.ext (by repeat (first | exact Ext.refl _ | assumption | refine Ext.tick ?_ | refine Ext.push ?_ (by omega) _ | refine Ext.put ?_ (by omega) _ | refine Ext.kill ?_ (by omega) | refine Ext.killA ?_ (by assumption)))), hS.ext (by repeat (first | exact Ext.refl _ | assumption | refine Ext.tick ?_ | refine Ext.push ?_ (by omega) _ | refine Ext.put ?_ (by omega) _ | refine Ext.kill ?_ (by omega) | refine Ext.killA ?_ (by assumption))), hMo, by simp -implicitDefEqProofs only [push_cast, sevalprocAttr, eq_self, hM], (by first | omega | (simp -implicitDefEqProofs only [push_cast, sevalprocAttr, eq_self]; first | done | omega))⟩
          simp only [toR, ijR, ← opAt_eq hi, ← opAt_eq hj]
          first
            | (rw [if_pos (by assumption)]; simp; done)
            | (rw [if_neg (by simp [*])]; simp; done)
    · have hdi : decide ((i : Int) < (l.length : Int)) = false := decide_eq_false (by omega)
      obtain rfl : i = l.length := by omega
      have hdj2 := dS_at hj
      obtain ⟨d1, d2⟩ := dS_lt (hl _ (List.getElem_mem hj))
      by_cases h9 : 0 ≤ dS l[j]
      · have hd9 : decide (0 ≤ dS l[j]) = true := decide_eq_true h9
        have hk2 : (dS l[j]).toNat < 32 := by omega
        have hfun : (fun r => if r = (dS l[j]).toNat then (0 : Int) else openL l j r) = openL l (j + 1) := by
          funext r
          rw [openL_succ, ← opAt_eq hj]
          by_cases hr : r = (dS l[j]).toNat
          · rw [if_pos hr, if_pos ⟨h9, hr⟩]
          · rw [if_neg hr, if_neg (fun h => hr h.2)]
        have hp := (lastC_put (openL l j) hk2 0).trans (congrArg qD hfun)
        have hle : (dS l[j]).toNat + 1 ≤ (qD (openL l j)).length := by rw [qJ]; omega
        repeat' (first | ((try clear hf); with_reducible refine zM fun env K hE hK hf => ?_; have n : _ ∧ _ ∧ _ ∧ _ ∧ _ ∧ _ ∧ _ ∧ _ ∧ _ ∧ _ ∧ _ ∧ _ ∧ _ ∧ _ ∧ _ := ⟨hE 0, hE 2, hE 3, hE 4, hE 5, hE 6, hE 11, hE 12, hE 13, hE 39, hE 40, hE 41, hE 47, hE 48, hE 49⟩; simp -implicitDefEqProofs only [push_cast, reduceIte, Nat.reduceEqDiff, e0, e2, e3, e4, e5, e6, e11, e12, e13, e39, e40, e41, e47, e48, e49] at n; clear hE e0 e2 e3 e4 e5 e6 e11 e12 e13 e39 e40 e41 e47 e48 e49; obtain ⟨e0, e2, e3, e4, e5, e6, e11, e12, e13, e39, e40, e41, e47, e48, e49⟩ := n) | (with_reducible refine hK _ _ ?_; clear hK K) | (with_reducible first | refine zJ ?_ | refine zU ?_ | refine zC ?_ | refine zG ?_ | refine zE ?_ | refine zL ?_ | refine zT ?_ | refine zD ?_ | refine zH ?_ | refine zV ?_ | refine zF ?_ | refine zB (by decide) ?_ | refine zP ?_ | refine zO ?_ | refine zK ?_ | refine yB ?_ | refine yC ?_ | refine zW (by assumption) ?_ | refine zY (by assumption) ?_) | (refine zI rfl ?_) | (simp -implicitDefEqProofs only [push_cast, sevalprocAttr, eq_self, e0, e2, e3, e4, e5, e6, e11, e12, e13, e39, e40, e41, e47, e48, e49, hdi, hb, hd, hF.at, qN, yM, hdj2, qK, hM, hp]) | (simp -implicitDefEqProofs (disch := omega) only [zR, zZ, zS, zQ, e0, e2, e3, e4, e5, e6, e11, e12, e13, e39, e40, e41, e47, e48, e49, hdi, hb, hd, hF.at, qN, yM, hdj2, qK, hM, hp]) | (with_reducible refine yF ?_ ?_) | (refine zN rfl (fun bb => ?_) (fun bb => ?_) <;> (first | have bp := of_decide_eq_true bb | have bp := of_decide_eq_false bb | skip) <;> simp only [bb]) | (with_reducible refine zX (fun bb => ?_) (fun bb => ?_) <;> (first | have bp := of_decide_eq_true bb | have bp := of_decide_eq_false bb | skip)) | ((with_reducible refine And.intro ?_ ?_); omega) | fail)
        refine ⟨_, ?_, j + 1, out2, rfl, E67_2_0.symm, E67_2_2.symm, E67_2_3.symm, E67_2_4.symm, E67_2_11.symm, E67_2_12.symm, E67_2_13.symm, E67_2_39.symm, by first | rfl | exact yG (by omega) | (simp -implicitDefEqProofs (disch := omega) only [zQ]; first | rfl | exact yG (by omega)), ?_⟩
        · omega
        · exact ⟨by omega, es_yes (by simp [arndE]) ((hX.ext (by repeat (first | exact Ext.refl _ | assumption | refine Ext.tick ?_ | refine Ext.push ?_ (by omega) _ | refine Ext.put ?_ (by omega) _ | refine Ext.kill ?_ (by omega) | refine Ext.killA ?_ (by assumption)))).putL _ hMF hMr hMd hMo).tick, ((hS.ext (by repeat (first | exact Ext.refl _ | assumption | refine Ext.tick ?_ | refine Ext.push ?_ (by omega) _ | refine Ext.put ?_ (by omega) _ | refine Ext.kill ?_ (by omega) | refine Ext.killA ?_ (by assumption)))).putL hM1 _).tick, hMo, by simp -implicitDefEqProofs only [push_cast, sevalprocAttr, eq_self], (by first | omega | (simp -implicitDefEqProofs only [push_cast, sevalprocAttr, eq_self]; first | done | omega))⟩
      · have hd9 : decide (0 ≤ dS l[j]) = false := decide_eq_false h9
        have hp : qD (openL l (j + 1)) = qD (openL l j) := by
          unfold qD
          apply List.map_congr_left
          intro r _
          rw [openL_succ, ← opAt_eq hj, if_neg (fun h => h9 h.1)]
        repeat' (first | ((try clear hf); with_reducible refine zM fun env K hE hK hf => ?_; have n : _ ∧ _ ∧ _ ∧ _ ∧ _ ∧ _ ∧ _ ∧ _ ∧ _ ∧ _ ∧ _ ∧ _ ∧ _ ∧ _ ∧ _ := ⟨hE 0, hE 2, hE 3, hE 4, hE 5, hE 6, hE 11, hE 12, hE 13, hE 39, hE 40, hE 41, hE 47, hE 48, hE 49⟩; simp -implicitDefEqProofs only [push_cast, reduceIte, Nat.reduceEqDiff, e0, e2, e3, e4, e5, e6, e11, e12, e13, e39, e40, e41, e47, e48, e49] at n; clear hE e0 e2 e3 e4 e5 e6 e11 e12 e13 e39 e40 e41 e47 e48 e49; obtain ⟨e0, e2, e3, e4, e5, e6, e11, e12, e13, e39, e40, e41, e47, e48, e49⟩ := n) | (with_reducible refine hK _ _ ?_; clear hK K) | (with_reducible first | refine zJ ?_ | refine zU ?_ | refine zC ?_ | refine zG ?_ | refine zE ?_ | refine zL ?_ | refine zT ?_ | refine zD ?_ | refine zH ?_ | refine zV ?_ | refine zF ?_ | refine zB (by decide) ?_ | refine zP ?_ | refine zO ?_ | refine zK ?_ | refine yB ?_ | refine yC ?_ | refine zW (by assumption) ?_ | refine zY (by assumption) ?_) | (refine zI rfl ?_) | (simp -implicitDefEqProofs only [push_cast, sevalprocAttr, eq_self, e0, e2, e3, e4, e5, e6, e11, e12, e13, e39, e40, e41, e47, e48, e49, hdi, hb, hd, hF.at, qN, yM, hdj2, qK, hM]) | (simp -implicitDefEqProofs (disch := omega) only [zR, zZ, zS, zQ, e0, e2, e3, e4, e5, e6, e11, e12, e13, e39, e40, e41, e47, e48, e49, hdi, hb, hd, hF.at, qN, yM, hdj2, qK, hM]) | (with_reducible refine yF ?_ ?_) | (refine zN rfl (fun bb => ?_) (fun bb => ?_) <;> (first | have bp := of_decide_eq_true bb | have bp := of_decide_eq_false bb | skip) <;> simp only [bb]) | (with_reducible refine zX (fun bb => ?_) (fun bb => ?_) <;> (first | have bp := of_decide_eq_true bb | have bp := of_decide_eq_false bb | skip)) | ((with_reducible refine And.intro ?_ ?_); omega) | fail)
        refine ⟨_, ?_, j + 1, out2, rfl, E67_2_0.symm, E67_2_2.symm, E67_2_3.symm, E67_2_4.symm, E67_2_11.symm, E67_2_12.symm, E67_2_13.symm, E67_2_39.symm, by first | rfl | exact yG (by omega) | (simp -implicitDefEqProofs (disch := omega) only [zQ]; first | rfl | exact yG (by omega)), ?_⟩
        · omega
        · exact ⟨by omega, es_yes (by simp [arndE]) (hX.ext (by repeat (first | exact Ext.refl _ | assumption | refine Ext.tick ?_ | refine Ext.push ?_ (by omega) _ | refine Ext.put ?_ (by omega) _ | refine Ext.kill ?_ (by omega) | refine Ext.killA ?_ (by assumption)))), hS.ext (by repeat (first | exact Ext.refl _ | assumption | refine Ext.tick ?_ | refine Ext.push ?_ (by omega) _ | refine Ext.put ?_ (by omega) _ | refine Ext.kill ?_ (by omega) | refine Ext.killA ?_ (by assumption))), hMo, by simp -implicitDefEqProofs only [push_cast, sevalprocAttr, eq_self, hM, hp], (by first | omega | (simp -implicitDefEqProofs only [push_cast, sevalprocAttr, eq_self]; first | done | omega))⟩
  · have hdj : decide ((j : Int) < (l.length : Int)) = false := decide_eq_false (by omega)
    obtain rfl : j = l.length := by omega
    repeat' (first | ((try clear hf); with_reducible refine zM fun env K hE hK hf => ?_; have n : _ ∧ _ ∧ _ ∧ _ ∧ _ ∧ _ ∧ _ ∧ _ ∧ _ ∧ _ ∧ _ ∧ _ ∧ _ ∧ _ ∧ _ := ⟨hE 0, hE 2, hE 3, hE 4, hE 5, hE 6, hE 11, hE 12, hE 13, hE 39, hE 40, hE 41, hE 47, hE 48, hE 49⟩; simp -implicitDefEqProofs only [push_cast, reduceIte, Nat.reduceEqDiff, e0, e2, e3, e4, e5, e6, e11, e12, e13, e39, e40, e41, e47, e48, e49] at n; clear hE e0 e2 e3 e4 e5 e6 e11 e12 e13 e39 e40 e41 e47 e48 e49; obtain ⟨e0, e2, e3, e4, e5, e6, e11, e12, e13, e39, e40, e41, e47, e48, e49⟩ := n) | (with_reducible refine hK _ _ ?_; clear hK K) | (with_reducible first | refine zJ ?_ | refine zU ?_ | refine zC ?_ | refine zG ?_ | refine zE ?_ | refine zL ?_ | refine zT ?_ | refine zD ?_ | refine zH ?_ | refine zV ?_ | refine zF ?_ | refine zB (by decide) ?_ | refine zP ?_ | refine zO ?_ | refine zK ?_ | refine yB ?_ | refine yC ?_ | refine zW (by assumption) ?_ | refine zY (by assumption) ?_) | (refine zI rfl ?_) | (simp -implicitDefEqProofs only [push_cast, sevalprocAttr, eq_self, e0, e2, e3, e4, e5, e6, e11, e12, e13, e39, e40, e41, e47, e48, e49, hdj]) | (simp -implicitDefEqProofs (disch := omega) only [zR, zZ, zS, zQ, e0, e2, e3, e4, e5, e6, e11, e12, e13, e39, e40, e41, e47, e48, e49, hdj]) | (with_reducible refine yF ?_ ?_) | (refine zN rfl (fun bb => ?_) (fun bb => ?_) <;> (first | have bp := of_decide_eq_true bb | have bp := of_decide_eq_false bb | skip) <;> simp only [bb]) | (with_reducible refine zX (fun bb => ?_) (fun bb => ?_) <;> (first | have bp := of_decide_eq_true bb | have bp := of_decide_eq_false bb | skip)) | ((with_reducible refine And.intro ?_ ?_); omega) | fail)
    exact ⟨out, hX.ext (by repeat (first | exact Ext.refl _ | assumption | refine Ext.tick ?_ | refine Ext.push ?_ (by omega) _ | refine Ext.put ?_ (by omega) _ | refine Ext.kill ?_ (by omega) | refine Ext.killA ?_ (by assumption))), hS.ext (by repeat (first | exact Ext.refl _ | assumption | refine Ext.tick ?_ | refine Ext.push ?_ (by omega) _ | refine Ext.put ?_ (by omega) _ | refine Ext.kill ?_ (by omega) | refine Ext.killA ?_ (by assumption)))⟩
end Go.Proofs.Hx

set_option linter.unusedVariables false
set_option linter.unusedSimpArgs false
namespace Go.Proofs.Hx
open Go Go.Proofs
attribute [local irreducible] yK awp opK goV goM yS yU yY yN HV HVF HC
theorem call_arnd {d : Option Nat} {K : St → Prop} {env : Nat → AV} {g : Hp} {F : Id} {l : List Opn} {t : Tab} {es : List Edg} {rid did : Id} {out : AV} (hX : FinH g F l t es rid did out) (ho : ∀ x, idOf out = some x → x.1 ≤ g.ep) (hl : ∀ o ∈ l, o.ok) (ht : qM t) (hn : l.length ≤ 1024) (hes : es.length ≤ 4000000)
    (k : ∀ h' out', FinH h' F l t (es ++ arndE l t l.length) rid did out' → qI h' → FS g F out h' out' → K ⟨putA env d (.tup []), h'.tick⟩) :
    yS Try.prog d K env g false (.fn 67 []) [.ptr F 0] :=
  call_hc (HC.mono (f67 hX ho hl ht hn hes) fun r h' ⟨hr, out', h1, h2⟩ hf => by rw [hr]; exact k h' out' h1 hf h2)
theorem FinH.out_le {h : Hp} {F : Id} {l : List Opn} {t : Tab} {es : List Edg} {rid did : Id} {out : AV} (hX : FinH h F l t es rid did out) : ∀ x, idOf out = some x → x.1 ≤ h.ep := by
  intro x hx
  rcases hX.outr with ⟨rfl, _⟩ | ⟨id, rfl, _, h3⟩
  · simp [idOf] at hx
  · simp only [idOf, Option.some.injEq] at hx; rw [← hx]; exact h3
set_option maxHeartbeats 1000000 in
theorem f27 {h0 : Hp} {l : List Opn} {t : Tab} (hl : ∀ o ∈ l, o.ok) (ht : qM t) (hn : l.length ≤ 1024) (hp : 0 < l.length) (hR : errR l t = 0) :
    HC Try.prog 27 [.row (l.map opC), .agg (tabC t)] h0 fun r h' => ∃ out, r = .tup [out, i64 0] ∧ OutR h' out (loopE l t) ∧ Ext h0 h' := by
  refine qO qG cf27 (by simp) fun hF => ?_
  unfold ac27 re27
  refine yE fun env hE => ?_; have e0 := hE 0; have e1 := hE 1; have e3 := hE 3; have e4 := hE 4; have e5 := hE 5; have e6 := hE 6; have e7 := hE 7; simp -implicitDefEqProofs only [push_cast] at e0 e1 e3 e4 e5 e6 e7; clear hE
  have hr := f64 l t hl
  rw [hR] at hr
  have hb := hR
  have h16 : ∀ l t a b o, (finC l t a b o)[16]? = some o := fun _ _ _ _ _ => rfl
  have hlen := onceE_len2 l t l.length
  have hmul : 5 * l.length * l.length ≤ 5 * 1024 * 1024 := Nat.mul_le_mul (by omega) (by omega)
  repeat' (first | ((try clear hf); with_reducible refine zM fun env K hE hK hf => ?_; have n : _ ∧ _ ∧ _ ∧ _ ∧ _ ∧ _ ∧ _ := ⟨hE 0, hE 1, hE 3, hE 4, hE 5, hE 6, hE 7⟩; simp -implicitDefEqProofs only [push_cast, reduceIte, Nat.reduceEqDiff, e0, e1, e3, e4, e5, e6, e7] at n; clear hE e0 e1 e3 e4 e5 e6 e7; obtain ⟨e0, e1, e3, e4, e5, e6, e7⟩ := n) | (with_reducible refine hK _ _ ?_; clear hK K) | (with_reducible first | refine zJ ?_ | refine zU ?_ | refine zC ?_ | refine zG ?_ | refine zE ?_ | refine zL ?_ | refine zT ?_ | refine zD ?_ | refine zH ?_ | refine zV ?_ | refine zF ?_ | refine zB (by decide) ?_ | refine zP ?_ | refine zO ?_ | refine zK ?_ | refine yB ?_ | refine yC ?_ | refine zW (by assumption) ?_ | refine zY (by assumption) ?_) | (refine zI rfl ?_) | (simp -implicitDefEqProofs only [push_cast, sevalprocAttr, eq_self, e0, e1, e3, e4, e5, e6, e7, hF.at, hb, h16]) | (simp -implicitDefEqProofs (disch := omega) only [zR, zZ, zS, zQ, e0, e1, e3, e4, e5, e6, e7, hF.at, hb, h16]) | (with_reducible refine yF ?_ ?_) | (refine zN rfl (fun bb => ?_) (fun bb => ?_) <;> simp only [bb]) | (with_reducible refine zX (fun bb => ?_) (fun bb => ?_)) | ((with_reducible refine And.intro ?_ ?_); omega) | (refine yH hr ?_) | (refine call_nf hl hn ?_; intro h F a b w hF; have hx0 : Ext h0 h := Ext.tr (by repeat (first | exact Ext.refl _ | refine Ext.tick ?_ | refine Ext.push ?_ (by omega) _)) w.ex; have lF : h0.ep < F.1 := Nat.lt_of_le_of_lt (Ext.le (by repeat (first | exact Ext.refl _ | refine Ext.tick ?_ | refine Ext.push ?_ (by omega) _))) w.lF; obtain ⟨rid, did, hX⟩ := w.finH hp; have hb := hX.fin) | (refine call_once (hX.ext (by repeat (first | exact Ext.refl _ | refine Ext.tick ?_))) hl ht hn ?_; intro h out hX hF hS; have hb := hX.fin) | (refine call_arnd (hX.ext (by repeat (first | exact Ext.refl _ | assumption | refine Ext.tick ?_ | refine Ext.push ?_ (by omega) _ | refine Ext.put ?_ (by omega) _ | refine Ext.kill ?_ (by omega) | refine Ext.killA ?_ (by assumption)))) (hX.ext (by repeat (first | exact Ext.refl _ | assumption | refine Ext.tick ?_ | refine Ext.push ?_ (by omega) _ | refine Ext.put ?_ (by omega) _ | refine Ext.kill ?_ (by omega) | refine Ext.killA ?_ (by assumption)))).out_le hl ht hn (by omega) ?_; intro h out hX hF hS2; replace hS := FS.trans (hS.ext (by repeat (first | exact Ext.refl _ | assumption | refine Ext.tick ?_ | refine Ext.push ?_ (by omega) _ | refine Ext.put ?_ (by omega) _ | refine Ext.kill ?_ (by omega) | refine Ext.killA ?_ (by assumption)))) hS2; have hb := hX.fin) | fail)
  refine ⟨out, rfl, (hX.ext (by repeat (first | exact Ext.refl _ | refine Ext.tick ?_))).outr, ?_⟩
  have hE : Ext h0 h := ⟨Nat.le_trans hx0.1 (Nat.le_trans (Nat.le_trans (Nat.le_succ _) (Nat.le_succ _)) hS.1), fun x hx => ((hS.2 x (Nat.le_trans hx (Nat.le_trans hx0.1 (Nat.le_trans (Nat.le_succ _) (Nat.le_succ _)))) (fun e => by rw [e] at hx; omega) (by simp [idOf])).1).trans (hx0.2 x hx)⟩
  repeat (first | exact hE | refine Ext.tick ?_)
theorem f27'e {h0 : Hp} {l : List Opn} {t : Tab} (hl : ∀ o ∈ l, o.ok) (hR : errR l t ≠ 0) :
    HC Try.prog 27 [.row (l.map opC), .agg (tabC t)] h0 fun r h' => r = .tup [.nil, i64 (errR l t)] ∧ Ext h0 h' := by
  refine qO qG cf27 (by simp) fun hF => ?_
  unfold ac27 re27
  refine yE fun env hE => ?_; have e0 := hE 0; have e1 := hE 1; have e3 := hE 3; have e4 := hE 4; have e5 := hE 5; have e6 := hE 6; have e7 := hE 7; simp -implicitDefEqProofs only [push_cast] at e0 e1 e3 e4 e5 e6 e7; clear hE
  have hr := f64 l t hl
  have hb : decide (errR l t = 0) = false := by simpa using hR
  have hb2 : decide (errR l t ≠ 0) = true := by simpa using hR
  repeat' (first | ((try clear hf); with_reducible refine zM fun env K hE hK hf => ?_; have n : _ ∧ _ ∧ _ ∧ _ ∧ _ ∧ _ ∧ _ := ⟨hE 0, hE 1, hE 3, hE 4, hE 5, hE 6, hE 7⟩; simp -implicitDefEqProofs only [push_cast, reduceIte, Nat.reduceEqDiff, e0, e1, e3, e4, e5, e6, e7] at n; clear hE e0 e1 e3 e4 e5 e6 e7; obtain ⟨e0, e1, e3, e4, e5, e6, e7⟩ := n) | (with_reducible refine hK _ _ ?_; clear hK K) | (with_reducible first | refine zJ ?_ | refine zU ?_ | refine zC ?_ | refine zG ?_ | refine zE ?_ | refine zL ?_ | refine zT ?_ | refine zD ?_ | refine zH ?_ | refine zV ?_ | refine zF ?_ | refine zB (by decide) ?_ | refine zP ?_ | refine zO ?_ | refine zK ?_ | refine yB ?_ | refine yC ?_ | refine zW (by assumption) ?_ | refine zY (by assumption) ?_) | (refine zI rfl ?_) | (simp -implicitDefEqProofs only [push_cast, sevalprocAttr, eq_self, e0, e1, e3, e4, e5, e6, e7, hF.at, hb, hb2]) | (simp -implicitDefEqProofs (disch := omega) only [zR, zZ, zS, zQ, e0, e1, e3, e4, e5, e6, e7, hF.at, hb, hb2]) | (with_reducible refine yF ?_ ?_) | (refine zN rfl (fun bb => ?_) (fun bb => ?_) <;> simp only [bb]) | (with_reducible refine zX (fun bb => ?_) (fun bb => ?_)) | ((with_reducible refine And.intro ?_ ?_); omega) | (refine yH hr ?_) | fail)
  exact (show Ext h0 _ from (by repeat (first | exact Ext.refl _ | assumption | refine Ext.tick ?_ | refine Ext.push ?_ (by omega) _ | refine Ext.put ?_ (by omega) _)))
end Go.Proofs.Hx

set_option linter.unusedVariables false
set_option linter.unusedSimpArgs false
namespace Go.Proofs.Hx
open Go Go.Proofs
attribute [local irreducible] yK awp opK goV goM yS yU yY yN HV HVF HC
/-- around over no operation. -/
theorem f67'n {h0 : Hp} {F : Id} {t : Tab} {a b : AV} (hb : h0.hp F = some ⟨true, finW [] t a b⟩) (hFe : F.1 ≤ h0.ep) :
    HC Try.prog 67 [.ptr F 0] h0 fun r h' => r = .tup [] ∧ Ext h0 h' := by
  refine qO qG cf67 (by simp) fun hF => ?_
  unfold ac67 re67
  refine yE fun env hE => ?_; have e0 := hE 0; have e2 := hE 2; have e3 := hE 3; have e4 := hE 4; have e5 := hE 5; have e6 := hE 6; have e11 := hE 11; have e12 := hE 12; have e13 := hE 13; have e39 := hE 39; have e40 := hE 40; have e41 := hE 41; have e47 := hE 47; have e48 := hE 48; have e49 := hE 49; simp -implicitDefEqProofs only [push_cast] at e0 e2 e3 e4 e5 e6 e11 e12 e13 e39 e40 e41 e47 e48 e49; clear hE
  obtain ⟨Fe, Fs⟩ := F
  simp only at hFe
  have h00 : (finW [] t a b)[0]? = some (.row []) := rfl
  have h01 : lenV (.row []) = some (.lit (.int .i64 0)) := rfl
  have d1 : decide ((0 : Int) < 0) = false := rfl
  repeat' (first | ((try clear hf); with_reducible refine zM fun env K hE hK hf => ?_; have n : _ ∧ _ ∧ _ ∧ _ ∧ _ ∧ _ ∧ _ ∧ _ ∧ _ ∧ _ ∧ _ ∧ _ ∧ _ ∧ _ ∧ _ := ⟨hE 0, hE 2, hE 3, hE 4, hE 5, hE 6, hE 11, hE 12, hE 13, hE 39, hE 40, hE 41, hE 47, hE 48, hE 49⟩; simp -implicitDefEqProofs only [push_cast, reduceIte, Nat.reduceEqDiff, e0, e2, e3, e4, e5, e6, e11, e12, e13, e39, e40, e41, e47, e48, e49] at n; clear hE e0 e2 e3 e4 e5 e6 e11 e12 e13 e39 e40 e41 e47 e48 e49; obtain ⟨e0, e2, e3, e4, e5, e6, e11, e12, e13, e39, e40, e41, e47, e48, e49⟩ := n) | (with_reducible refine hK _ _ ?_; clear hK K) | (with_reducible first | refine zJ ?_ | refine zU ?_ | refine zC ?_ | refine zG ?_ | refine zE ?_ | refine zL ?_ | refine zT ?_ | refine zD ?_ | refine zH ?_ | refine zV ?_ | refine zF ?_ | refine zB (by decide) ?_ | refine zP ?_ | refine zO ?_ | refine zK ?_ | refine yB ?_ | refine yC ?_ | refine zW (by assumption) ?_ | refine zY (by assumption) ?_) | (refine zI rfl ?_) | (simp -implicitDefEqProofs only [push_cast, sevalprocAttr, eq_self, e0, e2, e3, e4, e5, e6, e11, e12, e13, e39, e40, e41, e47, e48, e49, hb, hF.at, h00, h01]) | (simp -implicitDefEqProofs (disch := omega) only [zR, zZ, zS, zQ, e0, e2, e3, e4, e5, e6, e11, e12, e13, e39, e40, e41, e47, e48, e49, hb, hF.at, h00, h01]) | (with_reducible refine yF ?_ ?_) | (refine zN rfl (fun bb => ?_) (fun bb => ?_) <;> (first | have bp := of_decide_eq_true bb | have bp := of_decide_eq_false bb | skip) <;> simp only [bb]) | (with_reducible refine zX (fun bb => ?_) (fun bb => ?_) <;> (first | have bp := of_decide_eq_true bb | have bp := of_decide_eq_false bb | skip)) | ((with_reducible refine And.intro ?_ ?_); omega) | fail)
  generalize hL0 : (h0.ep + 1 + 1, 2) = L
  rw [hL0] at e2
  refine yE fun env hE => ?_; have n : _ ∧ _ ∧ _ ∧ _ ∧ _ ∧ _ ∧ _ ∧ _ ∧ _ ∧ _ ∧ _ ∧ _ ∧ _ ∧ _ ∧ _ := ⟨hE 0, hE 2, hE 3, hE 4, hE 5, hE 6, hE 11, hE 12, hE 13, hE 39, hE 40, hE 41, hE 47, hE 48, hE 49⟩; simp -implicitDefEqProofs only [push_cast, reduceIte, Nat.reduceEqDiff, e0, e2, e3, e4, e5, e6, e11, e12, e13, e39, e40, e41, e47, e48, e49] at n; clear hE e0 e2 e3 e4 e5 e6 e11 e12 e13 e39 e40 e41 e47 e48 e49; obtain ⟨e0, e2, e3, e4, e5, e6, e11, e12, e13, e39, e40, e41, e47, e48, e49⟩ := n; have E67_0_0 := e0; have E67_0_2 := e2; have E67_0_11 := e11
  refine yV (fun nn σ => ∃ (k : Nat), nn = 0 ∧ σ.env 0 = env 0 ∧ σ.env 2 = env 2 ∧ σ.env 11 = env 11 ∧ σ.env 12 = i64 k ∧ (k = 0 ∧ Ext h0 σ.h ∧ σ.h.hp L = some ⟨true, qD fun _ => 0⟩ ∧ L.1 ≤ σ.h.ep)) _ ⟨0, rfl, rfl, rfl, rfl, by refine e12.trans ?_; first | rfl | exact yG (by omega) | (simp -implicitDefEqProofs (disch := omega) only [zQ]; first | rfl | exact yG (by omega)), ?_⟩ ?_
  · refine ⟨rfl, ?_, ?_, ?_⟩
    · rw [← hL0]; exact (by repeat (first | exact Ext.refl _ | assumption | refine Ext.tick ?_ | refine Ext.push ?_ (by omega) _ | refine Ext.put ?_ (by omega) _ | refine Ext.kill ?_ (by omega) | refine Ext.killA ?_ (by assumption)))
    · rw [← hL0]; simp -implicitDefEqProofs only [push_cast, sevalprocAttr, eq_self]; rfl
    · rw [← hL0]; simp -implicitDefEqProofs only [push_cast, sevalprocAttr, eq_self]; omega
  clear hF
  clear e0 e2 e3 e4 e5 e6 e11 e12 e13 e39 e40 e41 e47 e48 e49; rintro nn ⟨env, h⟩ ⟨k, rfl, q0, q2, q11, e12, hI⟩; simp only at q0 q2 q11 e12 hI; (first | have e0 := q0.trans E67_0_0 | have e0 := True.intro); (first | have e2 := q2.trans E67_0_2 | have e2 := True.intro); (first | have e11 := q11.trans E67_0_11 | have e11 := True.intro); clear q0 q2 q11; have e3 := True.intro; have e4 := True.intro; have e5 := True.intro; have e6 := True.intro; have e13 := True.intro; have e39 := True.intro; have e40 := True.intro; have e41 := True.intro; have e47 := True.intro; have e48 := True.intro; have e49 := True.intro
  obtain ⟨rfl, hx, hL, eL⟩ := hI
  unfold l67_0
  (first | refine yI fun hF => ?_ | refine qA fun hF => ?_ | refine yZ fun hF => ?_)
  have hb2 := (hx.2 (Fe, Fs) hFe).trans hb
  have hle := hx.1
  have hFe2 : Fe ≤ h.ep := by omega
  repeat' (first | ((try clear hf); with_reducible refine zM fun env K hE hK hf => ?_; have n : _ ∧ _ ∧ _ ∧ _ ∧ _ ∧ _ ∧ _ ∧ _ ∧ _ ∧ _ ∧ _ ∧ _ ∧ _ ∧ _ ∧ _ := ⟨hE 0, hE 2, hE 3, hE 4, hE 5, hE 6, hE 11, hE 12, hE 13, hE 39, hE 40, hE 41, hE 47, hE 48, hE 49⟩; simp -implicitDefEqProofs only [push_cast, reduceIte, Nat.reduceEqDiff, e0, e2, e3, e4, e5, e6, e11, e12, e13, e39, e40, e41, e47, e48, e49] at n; clear hE e0 e2 e3 e4 e5 e6 e11 e12 e13 e39 e40 e41 e47 e48 e49; obtain ⟨e0, e2, e3, e4, e5, e6, e11, e12, e13, e39, e40, e41, e47, e48, e49⟩ := n) | (with_reducible refine hK _ _ ?_; clear hK K) | (with_reducible first | refine zJ ?_ | refine zU ?_ | refine zC ?_ | refine zG ?_ | refine zE ?_ | refine zL ?_ | refine zT ?_ | refine zD ?_ | refine zH ?_ | refine zV ?_ | refine zF ?_ | refine zB (by decide) ?_ | refine zP ?_ | refine zO ?_ | refine zK ?_ | refine yB ?_ | refine yC ?_ | refine zW (by assumption) ?_ | refine zY (by assumption) ?_) | (refine zI rfl ?_) | (simp -implicitDefEqProofs only [push_cast, sevalprocAttr, eq_self, e0, e2, e3, e4, e5, e6, e11, e12, e13, e39, e40, e41, e47, e48, e49, Int.natCast_zero, d1, hF.at, hb2, hL, h00, h01, qJ, lastC_take, lastC_one]) | (simp -implicitDefEqProofs (disch := omega) only [zR, zZ, zS, zQ, e0, e2, e3, e4, e5, e6, e11, e12, e13, e39, e40, e41, e47, e48, e49, Int.natCast_zero, d1, hF.at, hb2, hL, h00, h01, qJ, lastC_take, lastC_one]) | (with_reducible refine yF ?_ ?_) | (refine zN rfl (fun bb => ?_) (fun bb => ?_) <;> (first | have bp := of_decide_eq_true bb | have bp := of_decide_eq_false bb | skip) <;> simp only [bb]) | (with_reducible refine zX (fun bb => ?_) (fun bb => ?_) <;> (first | have bp := of_decide_eq_true bb | have bp := of_decide_eq_false bb | skip)) | ((with_reducible refine And.intro ?_ ?_); omega) | fail)
  refine yE fun env hE => ?_; have n : _ ∧ _ ∧ _ ∧ _ ∧ _ ∧ _ ∧ _ ∧ _ ∧ _ ∧ _ ∧ _ ∧ _ ∧ _ ∧ _ ∧ _ := ⟨hE 0, hE 2, hE 3, hE 4, hE 5, hE 6, hE 11, hE 12, hE 13, hE 39, hE 40, hE 41, hE 47, hE 48, hE 49⟩; simp -implicitDefEqProofs only [push_cast, reduceIte, Nat.reduceEqDiff, e0, e2, e3, e4, e5, e6, e11, e12, e13, e39, e40, e41, e47, e48, e49] at n; clear hE e0 e2 e3 e4 e5 e6 e11 e12 e13 e39 e40 e41 e47 e48 e49; obtain ⟨e0, e2, e3, e4, e5, e6, e11, e12, e13, e39, e40, e41, e47, e48, e49⟩ := n; have E67_2_0 := e0; have E67_2_2 := e2; have E67_2_3 := e3; have E67_2_4 := e4; have E67_2_11 := e11; have E67_2_12 := e12; have E67_2_13 := e13; have E67_2_39 := e39
  refine yV (fun nn σ => ∃ (k : Nat), nn = 0 ∧ σ.env 0 = env 0 ∧ σ.env 2 = env 2 ∧ σ.env 3 = env 3 ∧ σ.env 4 = env 4 ∧ σ.env 11 = env 11 ∧ σ.env 12 = env 12 ∧ σ.env 13 = env 13 ∧ σ.env 39 = env 39 ∧ σ.env 40 = i64 k ∧ (k = 0 ∧ Ext h0 σ.h)) _ ⟨0, rfl, rfl, rfl, rfl, rfl, rfl, rfl, rfl, rfl, by refine e40.trans ?_; first | rfl | exact yG (by omega) | (simp -implicitDefEqProofs (disch := omega) only [zQ]; first | rfl | exact yG (by omega)), ?_⟩ ?_
  · exact ⟨rfl, (by repeat (first | exact Ext.refl _ | assumption | refine Ext.tick ?_ | refine Ext.push ?_ (by omega) _ | refine Ext.put ?_ (by omega) _ | refine Ext.kill ?_ (by omega) | refine Ext.killA ?_ (by assumption)))⟩
  clear hx hF hL
  clear e0 e2 e3 e4 e5 e6 e11 e12 e13 e39 e40 e41 e47 e48 e49; rintro nn ⟨env, h⟩ ⟨k, rfl, q0, q2, q3, q4, q11, q12, q13, q39, e40, hI⟩; simp only at q0 q2 q3 q4 q11 q12 q13 q39 e40 hI; (first | have e0 := q0.trans E67_2_0 | have e0 := True.intro); (first | have e2 := q2.trans E67_2_2 | have e2 := True.intro); (first | have e3 := q3.trans E67_2_3 | have e3 := True.intro); (first | have e4 := q4.trans E67_2_4 | have e4 := True.intro); (first | have e11 := q11.trans E67_2_11 | have e11 := True.intro); (first | have e12 := q12.trans E67_2_12 | have e12 := True.intro); (first | have e13 := q13.trans E67_2_13 | have e13 := True.intro); (first | have e39 := q39.trans E67_2_39 | have e39 := True.intro); clear q0 q2 q3 q4 q11 q12 q13 q39; have e5 := True.intro; have e6 := True.intro; have e41 := True.intro; have e47 := True.intro; have e48 := True.intro; have e49 := True.intro
  obtain ⟨rfl, hx⟩ := hI
  unfold l67_2
  (first | refine yI fun hF => ?_ | refine qA fun hF => ?_ | refine yZ fun hF => ?_)
  repeat' (first | ((try clear hf); with_reducible refine zM fun env K hE hK hf => ?_; have n : _ ∧ _ ∧ _ ∧ _ ∧ _ ∧ _ ∧ _ ∧ _ ∧ _ ∧ _ ∧ _ ∧ _ ∧ _ ∧ _ ∧ _ := ⟨hE 0, hE 2, hE 3, hE 4, hE 5, hE 6, hE 11, hE 12, hE 13, hE 39, hE 40, hE 41, hE 47, hE 48, hE 49⟩; simp -implicitDefEqProofs only [push_cast, reduceIte, Nat.reduceEqDiff, e0, e2, e3, e4, e5, e6, e11, e12, e13, e39, e40, e41, e47, e48, e49] at n; clear hE e0 e2 e3 e4 e5 e6 e11 e12 e13 e39 e40 e41 e47 e48 e49; obtain ⟨e0, e2, e3, e4, e5, e6, e11, e12, e13, e39, e40, e41, e47, e48, e49⟩ := n) | (with_reducible refine hK _ _ ?_; clear hK K) | (with_reducible first | refine zJ ?_ | refine zU ?_ | refine zC ?_ | refine zG ?_ | refine zE ?_ | refine zL ?_ | refine zT ?_ | refine zD ?_ | refine zH ?_ | refine zV ?_ | refine zF ?_ | refine zB (by decide) ?_ | refine zP ?_ | refine zO ?_ | refine zK ?_ | refine yB ?_ | refine yC ?_ | refine zW (by assumption) ?_ | refine zY (by assumption) ?_) | (refine zI rfl ?_) | (simp -implicitDefEqProofs only [push_cast, sevalprocAttr, eq_self, e0, e2, e3, e4, e5, e6, e11, e12, e13, e39, e40, e41, e47, e48, e49, Int.natCast_zero, d1]) | (simp -implicitDefEqProofs (disch := omega) only [zR, zZ, zS, zQ, e0, e2, e3, e4, e5, e6, e11, e12, e13, e39, e40, e41, e47, e48, e49, Int.natCast_zero, d1]) | (with_reducible refine yF ?_ ?_) | (refine zN rfl (fun bb => ?_) (fun bb => ?_) <;> (first | have bp := of_decide_eq_true bb | have bp := of_decide_eq_false bb | skip) <;> simp only [bb]) | (with_reducible refine zX (fun bb => ?_) (fun bb => ?_) <;> (first | have bp := of_decide_eq_true bb | have bp := of_decide_eq_false bb | skip)) | ((with_reducible refine And.intro ?_ ?_); omega) | fail)
  exact (show Ext h0 _ from (by repeat (first | exact Ext.refl _ | assumption | refine Ext.tick ?_ | refine Ext.push ?_ (by omega) _ | refine Ext.put ?_ (by omega) _ | refine Ext.kill ?_ (by omega) | refine Ext.killA ?_ (by assumption))))
theorem f27'n {h0 : Hp} {t : Tab} (hR : errR [] t = 0) :
    HC Try.prog 27 [.row [], .agg (tabC t)] h0 fun r h' => r = .tup [.nil, i64 0] ∧ Ext h0 h' := by
  refine qO qG cf27 (by simp) fun hF => ?_
  unfold ac27 re27
  refine yE fun env hE => ?_; have e0 := hE 0; have e1 := hE 1; have e3 := hE 3; have e4 := hE 4; have e5 := hE 5; have e6 := hE 6; have e7 := hE 7; simp -implicitDefEqProofs only [push_cast] at e0 e1 e3 e4 e5 e6 e7; clear hE
  have hr := f64 [] t (by simp)
  rw [hR] at hr
  have hb := hR
  have h16 : ∀ t a b, (finW [] t a b)[16]? = some .nil := fun _ _ _ => rfl
  repeat' (first | ((try clear hf); with_reducible refine zM fun env K hE hK hf => ?_; have n : _ ∧ _ ∧ _ ∧ _ ∧ _ ∧ _ ∧ _ := ⟨hE 0, hE 1, hE 3, hE 4, hE 5, hE 6, hE 7⟩; simp -implicitDefEqProofs only [push_cast, reduceIte, Nat.reduceEqDiff, e0, e1, e3, e4, e5, e6, e7] at n; clear hE e0 e1 e3 e4 e5 e6 e7; obtain ⟨e0, e1, e3, e4, e5, e6, e7⟩ := n) | (with_reducible refine hK _ _ ?_; clear hK K) | (with_reducible first | refine zJ ?_ | refine zU ?_ | refine zC ?_ | refine zG ?_ | refine zE ?_ | refine zL ?_ | refine zT ?_ | refine zD ?_ | refine zH ?_ | refine zV ?_ | refine zF ?_ | refine zB (by decide) ?_ | refine zP ?_ | refine zO ?_ | refine zK ?_ | refine yB ?_ | refine yC ?_ | refine zW (by assumption) ?_ | refine zY (by assumption) ?_) | (refine zI rfl ?_) | (simp -implicitDefEqProofs only [push_cast, sevalprocAttr, eq_self, e0, e1, e3, e4, e5, e6, e7, hF.at, hb, h16]) | (simp -implicitDefEqProofs (disch := omega) only [zR, zZ, zS, zQ, e0, e1, e3, e4, e5, e6, e7, hF.at, hb, h16]) | (with_reducible refine yF ?_ ?_) | (refine zN rfl (fun bb => ?_) (fun bb => ?_) <;> simp only [bb]) | (with_reducible refine zX (fun bb => ?_) (fun bb => ?_)) | ((with_reducible refine And.intro ?_ ?_); omega) | (refine yH hr ?_) | (refine call_nf (l := []) (by simp) (by simp) ?_; intro h F a b w hF; have hx0 : Ext h0 h := Ext.tr (by repeat (first | exact Ext.refl _ | assumption | refine Ext.tick ?_ | refine Ext.push ?_ (by omega) _ | refine Ext.put ?_ (by omega) _)) w.ex; have hb := w.fin) | (refine call_hc (HC.mono (f66'n (F := F) (t := t) (a := a) (b := b) hb (Nat.le_trans w.eF (by simp only [qL]; omega))) fun r h' ⟨hr, hE⟩ hf => ?_); have hE1 := hE; have hb := (hE.2 F (Nat.le_trans w.eF (by simp only [qL]; omega))).trans hb; rw [hr]) | (refine call_hc (HC.mono (f67'n (F := F) (t := t) (a := a) (b := b) hb (Nat.le_trans w.eF (by have := hE1.1; simp only [qL] at this ⊢; omega))) fun r h2 ⟨hr, hE⟩ hf => ?_); have hb := (hE.2 F (Nat.le_trans w.eF (by have := hE1.1; simp only [qL] at this ⊢; omega))).trans hb; rw [hr]) | fail)
  have hE2 : Ext h0 h' := Ext.tr (Ext.tick (Ext.tick hx0)) hE1
  have hE3 : Ext h0 h2 := Ext.tr (Ext.tick (Ext.tick hE2)) hE
  exact (show Ext h0 _ from (by repeat (first | exact Ext.refl _ | assumption | refine Ext.tick ?_)))
/-- deps.Loop, whatever the list. -/
theorem loop_all {h0 : Hp} {l : List Opn} {t : Tab} (hl : ∀ o ∈ l, o.ok) :
    HC Try.prog 27 [.row (l.map opC), .agg (tabC t)] h0 fun r h' => Ext h0 h' ∧ ((errR l t ≠ 0 ∧ r = .tup [.nil, i64 (errR l t)]) ∨ (errR l t = 0 ∧ ∃ out, r = .tup [out, i64 0] ∧ OutR h' out (loopE l t))) := by
  by_cases hR : errR l t = 0
  · obtain ⟨ht, hn, _⟩ := errR_ok hR
    by_cases hp : 0 < l.length
    · exact HC.mono (f27 hl ht hn hp hR) fun r h' ⟨out, h1, h2, h3⟩ => ⟨h3, .inr ⟨hR, out, h1, h2⟩⟩
    · obtain rfl : l = [] := List.length_eq_zero_iff.1 (by omega)
      exact HC.mono (f27'n hR) fun r h' ⟨h1, h2⟩ => ⟨h2, .inr ⟨hR, .nil, h1, .inl ⟨rfl, rfl⟩⟩⟩
  · exact HC.mono (f27'e hl hR) fun r h' ⟨h1, h2⟩ => ⟨h2, .inl ⟨hR, h1⟩⟩
end Go.Proofs.Hx

set_option linter.unusedVariables false
set_option linter.unusedSimpArgs false
namespace Go.Proofs.Hx
open Go Go.Proofs
attribute [local irreducible] yK awp opK goV goM yS yU yY yN HV HVF HC
/-- A test over one number that a function value answers, whatever has grown since. -/
def PrAt (P : Program) (f : AV) (p : Int → Bool) (dom : Int → Prop) (h0 : Hp) : Prop := ∀ g, Ext h0 g → ∀ (d : Option Nat) (K : St → Prop) (env : Nat → AV) (x : Int), dom x → K ⟨putA env d (bl (p x)), g.tick⟩ → yS P d K env g false f [i64 x]
theorem call_pr {P : Program} {f : AV} {p : Int → Bool} {dom : Int → Prop} {h0 g : Hp} {d : Option Nat} {K : St → Prop} {env : Nat → AV} {x : Int} (hc : PrAt P f p dom h0) (hg : Ext h0 g) (hx : dom x) (k : K ⟨putA env d (bl (p x)), g.tick⟩) : yS P d K env g false f [i64 x] := hc g hg d K env x hx k
theorem f59 {h0 : Hp} {f : AV} {p : Int → Bool} {a b : Nat} (hc : PrAt Try.prog f p (fun x => (a : Int) ≤ x ∧ x < b) h0) (hab : a ≤ b) (hb : b ≤ 1000000) :
    HC Try.prog 59 [i64 a, i64 b, f] h0 fun r h' => Ext h0 h' ∧ ∃ c : Nat, r = i64 c ∧ a ≤ c ∧ c ≤ b ∧ (c = a ∨ p ((c : Int) - 1) = false) ∧ (c = b ∨ p c = true) := by
  refine qO qG cf59 (by simp) fun hF => ?_
  unfold ac59 re59
  refine yE fun env hE => ?_; have e0 := hE 0; have e1 := hE 1; have e2 := hE 2; have e6 := hE 6; have e7 := hE 7; simp -implicitDefEqProofs only [push_cast] at e0 e1 e2 e6 e7; clear hE
  repeat' (first | ((try clear hf); with_reducible refine zM fun env K hE hK hf => ?_; have n : _ ∧ _ ∧ _ ∧ _ ∧ _ := ⟨hE 0, hE 1, hE 2, hE 6, hE 7⟩; simp -implicitDefEqProofs only [push_cast, reduceIte, Nat.reduceEqDiff, e0, e1, e2, e6, e7] at n; clear hE e0 e1 e2 e6 e7; obtain ⟨e0, e1, e2, e6, e7⟩ := n) | (with_reducible refine hK _ _ ?_; clear hK K) | (with_reducible first | refine zJ ?_ | refine zU ?_ | refine zC ?_ | refine zG ?_ | refine zE ?_ | refine zL ?_ | refine zT ?_ | refine zD ?_ | refine zH ?_ | refine zV ?_ | refine zF ?_ | refine zB (by decide) ?_ | refine zP ?_ | refine zO ?_ | refine zK ?_ | refine yB ?_ | refine yC ?_ | refine zW (by assumption) ?_ | refine zY (by assumption) ?_) | (refine zI rfl ?_) | (simp -implicitDefEqProofs only [push_cast, sevalprocAttr, eq_self, e0, e1, e2, e6, e7]) | (simp -implicitDefEqProofs (disch := omega) only [zR, zZ, zS, zQ, e0, e1, e2, e6, e7]) | (with_reducible refine yF ?_ ?_) | (refine zN rfl (fun bb => ?_) (fun bb => ?_) <;> (first | have bp := of_decide_eq_true bb | have bp := of_decide_eq_false bb | skip) <;> simp only [bb]) | (with_reducible refine zX (fun bb => ?_) (fun bb => ?_) <;> (first | have bp := of_decide_eq_true bb | have bp := of_decide_eq_false bb | skip)) | ((with_reducible refine And.intro ?_ ?_); omega) | fail)
  refine yE fun env hE => ?_; have n : _ ∧ _ ∧ _ ∧ _ ∧ _ := ⟨hE 0, hE 1, hE 2, hE 6, hE 7⟩; simp -implicitDefEqProofs only [push_cast, reduceIte, Nat.reduceEqDiff, e0, e1, e2, e6, e7] at n; clear hE e0 e1 e2 e6 e7; obtain ⟨e0, e1, e2, e6, e7⟩ := n; have E59_0_2 := e2; have E59_0_6 := e6
  refine yV (fun nn σ => ∃ (x : Nat) (y : Nat), nn = y - x ∧ σ.env 2 = env 2 ∧ σ.env 6 = env 6 ∧ σ.env 0 = i64 x ∧ σ.env 1 = i64 y ∧ (a ≤ x ∧ x ≤ y ∧ y ≤ b ∧ (x = a ∨ p ((x : Int) - 1) = false) ∧ (y = b ∨ p y = true) ∧ Ext h0 σ.h)) _ ⟨a, b, rfl, rfl, rfl, by refine e0.trans ?_; first | rfl | exact yG (by omega) | (simp -implicitDefEqProofs (disch := omega) only [zQ]; first | rfl | exact yG (by omega)), by refine e1.trans ?_; first | rfl | exact yG (by omega) | (simp -implicitDefEqProofs (disch := omega) only [zQ]; first | rfl | exact yG (by omega)), ?_⟩ ?_
  · exact ⟨by omega, hab, by omega, .inl rfl, .inl rfl, (by repeat (first | exact Ext.refl _ | assumption | refine Ext.tick ?_ | refine Ext.push ?_ (by omega) _ | refine Ext.put ?_ (by omega) _ | refine Ext.kill ?_ (by omega) | refine Ext.killA ?_ (by assumption)))⟩
  clear e0 e1 e2 e6 e7; rintro nn ⟨env, h⟩ ⟨x, y, rfl, q2, q6, e0, e1, hI⟩; simp only at q2 q6 e0 e1 hI; (first | have e2 := q2.trans E59_0_2 | have e2 := True.intro); (first | have e6 := q6.trans E59_0_6 | have e6 := True.intro); clear q2 q6; have e7 := True.intro
  obtain ⟨h1, h2, h3, h4, h5, hx⟩ := hI
  unfold l59_0
  (first | refine yI fun hF => ?_ | refine qA fun hF => ?_ | refine yZ fun hF => ?_)
  by_cases hlt : x < y
  · have hd : decide ((x : Int) < (y : Int)) = true := decide_eq_true (by omega)
    obtain ⟨m, hm⟩ : ∃ m : Nat, m = (y - x) / 2 := ⟨_, rfl⟩
    have hq : Int.tdiv ((y : Int) - x) 2 = (m : Int) := by
      rw [Int.tdiv_eq_ediv_of_nonneg (by omega)]; omega
    cases hp : p ((x : Int) + m)
    · repeat' (first | ((try clear hf); with_reducible refine zM fun env K hE hK hf => ?_; have n : _ ∧ _ ∧ _ ∧ _ ∧ _ := ⟨hE 0, hE 1, hE 2, hE 6, hE 7⟩; simp -implicitDefEqProofs only [push_cast, reduceIte, Nat.reduceEqDiff, e0, e1, e2, e6, e7] at n; clear hE e0 e1 e2 e6 e7; obtain ⟨e0, e1, e2, e6, e7⟩ := n) | (with_reducible refine hK _ _ ?_; clear hK K) | (with_reducible first | refine zJ ?_ | refine zU ?_ | refine zC ?_ | refine zG ?_ | refine zE ?_ | refine zL ?_ | refine zT ?_ | refine zD ?_ | refine zH ?_ | refine zV ?_ | refine zF ?_ | refine zB (by decide) ?_ | refine zP ?_ | refine zO ?_ | refine zK ?_ | refine yB ?_ | refine yC ?_ | refine zW (by assumption) ?_ | refine zY (by assumption) ?_) | (refine zI rfl ?_) | (simp -implicitDefEqProofs only [push_cast, sevalprocAttr, eq_self, e0, e1, e2, e6, e7, hd, hq, hp]) | (simp -implicitDefEqProofs (disch := omega) only [zR, zZ, zS, zQ, e0, e1, e2, e6, e7, hd, hq, hp]) | (with_reducible refine yF ?_ ?_) | (refine zN rfl (fun bb => ?_) (fun bb => ?_) <;> (first | have bp := of_decide_eq_true bb | have bp := of_decide_eq_false bb | skip) <;> simp only [bb]) | (with_reducible refine zX (fun bb => ?_) (fun bb => ?_) <;> (first | have bp := of_decide_eq_true bb | have bp := of_decide_eq_false bb | skip)) | ((with_reducible refine And.intro ?_ ?_); omega) | (refine call_pr hc (by repeat (first | exact Ext.refl _ | assumption | refine Ext.tick ?_ | refine Ext.push ?_ (by omega) _ | refine Ext.put ?_ (by omega) _ | refine Ext.kill ?_ (by omega) | refine Ext.killA ?_ (by assumption))) ⟨by omega, by omega⟩ ?_) | fail)
      refine ⟨_, ?_, x + m + 1, y, rfl, E59_0_2.symm, E59_0_6.symm, by first | rfl | exact yG (by omega) | (simp -implicitDefEqProofs (disch := omega) only [zQ]; first | rfl | exact yG (by omega)), by first | rfl | exact yG (by omega) | (simp -implicitDefEqProofs (disch := omega) only [zQ]; first | rfl | exact yG (by omega)), ?_⟩
      · omega
      · exact ⟨by omega, by omega, h3, .inr (by rw [← hp]; congr 1; omega), h5, (by repeat (first | exact Ext.refl _ | assumption | refine Ext.tick ?_ | refine Ext.push ?_ (by omega) _ | refine Ext.put ?_ (by omega) _ | refine Ext.kill ?_ (by omega) | refine Ext.killA ?_ (by assumption)))⟩
    · repeat' (first | ((try clear hf); with_reducible refine zM fun env K hE hK hf => ?_; have n : _ ∧ _ ∧ _ ∧ _ ∧ _ := ⟨hE 0, hE 1, hE 2, hE 6, hE 7⟩; simp -implicitDefEqProofs only [push_cast, reduceIte, Nat.reduceEqDiff, e0, e1, e2, e6, e7] at n; clear hE e0 e1 e2 e6 e7; obtain ⟨e0, e1, e2, e6, e7⟩ := n) | (with_reducible refine hK _ _ ?_; clear hK K) | (with_reducible first | refine zJ ?_ | refine zU ?_ | refine zC ?_ | refine zG ?_ | refine zE ?_ | refine zL ?_ | refine zT ?_ | refine zD ?_ | refine zH ?_ | refine zV ?_ | refine zF ?_ | refine zB (by decide) ?_ | refine zP ?_ | refine zO ?_ | refine zK ?_ | refine yB ?_ | refine yC ?_ | refine zW (by assumption) ?_ | refine zY (by assumption) ?_) | (refine zI rfl ?_) | (simp -implicitDefEqProofs only [push_cast, sevalprocAttr, eq_self, e0, e1, e2, e6, e7, hd, hq, hp]) | (simp -implicitDefEqProofs (disch := omega) only [zR, zZ, zS, zQ, e0, e1, e2, e6, e7, hd, hq, hp]) | (with_reducible refine yF ?_ ?_) | (refine zN rfl (fun bb => ?_) (fun bb => ?_) <;> (first | have bp := of_decide_eq_true bb | have bp := of_decide_eq_false bb | skip) <;> simp only [bb]) | (with_reducible refine zX (fun bb => ?_) (fun bb => ?_) <;> (first | have bp := of_decide_eq_true bb | have bp := of_decide_eq_false bb | skip)) | ((with_reducible refine And.intro ?_ ?_); omega) | (refine call_pr hc (by repeat (first | exact Ext.refl _ | assumption | refine Ext.tick ?_ | refine Ext.push ?_ (by omega) _ | refine Ext.put ?_ (by omega) _ | refine Ext.kill ?_ (by omega) | refine Ext.killA ?_ (by assumption))) ⟨by omega, by omega⟩ ?_) | fail)
      refine ⟨_, ?_, x, x + m, rfl, E59_0_2.symm, E59_0_6.symm, by first | rfl | exact yG (by omega) | (simp -implicitDefEqProofs (disch := omega) only [zQ]; first | rfl | exact yG (by omega)), by first | rfl | exact yG (by omega) | (simp -implicitDefEqProofs (disch := omega) only [zQ]; first | rfl | exact yG (by omega)), ?_⟩
      · omega
      · exact ⟨h1, by omega, by omega, h4, .inr (by rw [← hp]; congr 1), (by repeat (first | exact Ext.refl _ | assumption | refine Ext.tick ?_ | refine Ext.push ?_ (by omega) _ | refine Ext.put ?_ (by omega) _ | refine Ext.kill ?_ (by omega) | refine Ext.killA ?_ (by assumption)))⟩
  · have hd : decide ((x : Int) < (y : Int)) = false := decide_eq_false (by omega)
    obtain rfl : x = y := by omega
    repeat' (first | ((try clear hf); with_reducible refine zM fun env K hE hK hf => ?_; have n : _ ∧ _ ∧ _ ∧ _ ∧ _ := ⟨hE 0, hE 1, hE 2, hE 6, hE 7⟩; simp -implicitDefEqProofs only [push_cast, reduceIte, Nat.reduceEqDiff, e0, e1, e2, e6, e7] at n; clear hE e0 e1 e2 e6 e7; obtain ⟨e0, e1, e2, e6, e7⟩ := n) | (with_reducible refine hK _ _ ?_; clear hK K) | (with_reducible first | refine zJ ?_ | refine zU ?_ | refine zC ?_ | refine zG ?_ | refine zE ?_ | refine zL ?_ | refine zT ?_ | refine zD ?_ | refine zH ?_ | refine zV ?_ | refine zF ?_ | refine zB (by decide) ?_ | refine zP ?_ | refine zO ?_ | refine zK ?_ | refine yB ?_ | refine yC ?_ | refine zW (by assumption) ?_ | refine zY (by assumption) ?_) | (refine zI rfl ?_) | (simp -implicitDefEqProofs only [push_cast, sevalprocAttr, eq_self, e0, e1, e2, e6, e7, hd]) | (simp -implicitDefEqProofs (disch := omega) only [zR, zZ, zS, zQ, e0, e1, e2, e6, e7, hd]) | (with_reducible refine yF ?_ ?_) | (refine zN rfl (fun bb => ?_) (fun bb => ?_) <;> (first | have bp := of_decide_eq_true bb | have bp := of_decide_eq_false bb | skip) <;> simp only [bb]) | (with_reducible refine zX (fun bb => ?_) (fun bb => ?_) <;> (first | have bp := of_decide_eq_true bb | have bp := of_decide_eq_false bb | skip)) | ((with_reducible refine And.intro ?_ ?_); omega) | fail)
    exact ⟨Ext.tr hx (by repeat (first | exact Ext.refl _ | assumption | refine Ext.tick ?_ | refine Ext.push ?_ (by omega) _ | refine Ext.put ?_ (by omega) _ | refine Ext.kill ?_ (by omega) | refine Ext.killA ?_ (by assumption))), x, rfl, h1, h3, h4, h5⟩
end Go.Proofs.Hx

set_option linter.unusedVariables false
set_option linter.unusedSimpArgs false
namespace Go.Proofs.Hx
open Go Go.Proofs
attribute [local irreducible] yK awp opK goV goM yS yU yY yN HV HVF HC
/-! ### How high -/
def mx (a b : Int) : Int := if b > a then b else a
def stepV1 (H : List Int) (a : Int) (x : Edg) : Int := mx a (x.l + H.getD x.t.toNat 0)
/-- The longest way from i, by what is behind. -/
def hOne (lat : Int) (E : List Edg) (H : List Int) : Int := E.foldl (stepV1 H) lat
def outE (E : List Edg) (i : Nat) : List Edg := E.filter fun e => decide (e.f = (i : Int))
def hM (l : List Opn) (t : Tab) (E : List Edg) : Nat → List Int
  | 0 => List.replicate l.length 0
  | m + 1 => (hM l t E m).set (l.length - 1 - m) (hOne (latS t (opAt l (l.length - 1 - m))) (outE E (l.length - 1 - m)) (hM l t E m))
end Go.Proofs.Hx

set_option linter.unusedVariables false
set_option linter.unusedSimpArgs false
namespace Go.Proofs.Hx
open Go Go.Proofs
attribute [local irreducible] yK awp opK goV goM yS yU yY yN HV HVF HC
end Go.Proofs.Hx

set_option linter.unusedVariables false
set_option linter.unusedSimpArgs false
namespace Go.Proofs.Hx
open Go Go.Proofs
attribute [local irreducible] yK awp opK goV goM yS yU yY yN HV HVF HC
/-! ### The plain law: no schedule is over ahead of the longest way -/
end Go.Proofs.Hx

set_option linter.unusedVariables false
set_option linter.unusedSimpArgs false
namespace Go.Proofs.Hx
open Go Go.Proofs
attribute [local irreducible] yK awp opK goV goM yS yU yY yN HV HVF HC
/-! ### Numbers in memory, as a function of their places -/
def fset (d : Nat → Int) (k : Nat) (v : Int) : Nat → Int := fun j => if j = k then v else d j
def arrC (n : Nat) (d : Nat → Int) : List AV := (List.range n).map fun k => i64 (d k)
theorem arrC_len (n : Nat) (d : Nat → Int) : (arrC n d).length = n := by simp [arrC]
theorem arrC_at {n : Nat} (d : Nat → Int) {k : Nat} (hk : k < n) : (arrC n d)[k]? = some (i64 (d k)) := by simp [arrC, hk]
theorem arrC_put {n : Nat} (d : Nat → Int) {k : Nat} (hk : k < n) (v : Int) : (arrC n d).take k ++ [AV.lit (.int .i64 v)] ++ (arrC n d).drop (k + 1) = arrC n (fset d k v) := by
  apply List.ext_getElem?
  intro r
  by_cases hr : r < n
  · rw [arrC_at _ hr]
    by_cases h1 : r < k
    · rw [List.append_assoc, List.getElem?_append_left (by simp [arrC_len]; omega), List.getElem?_take, if_pos h1, arrC_at _ hr, fset, if_neg (by omega)]
    · rw [List.append_assoc, List.getElem?_append_right (by simp [arrC_len]; omega)]
      by_cases h2 : r = k
      · subst h2; simp [arrC_len, fset, Nat.min_eq_left (Nat.le_of_lt hk)]
      · rw [fset, if_neg h2, List.getElem?_append_right (by simp [arrC_len]; omega), List.getElem?_drop]
        simp only [List.length_take, arrC_len, List.length_cons, List.length_nil]
        rw [show k + 1 + (r - min k n - (0 + 1)) = r from by omega, arrC_at _ hr]
  · rw [List.getElem?_eq_none (by simp [arrC_len]; omega), List.getElem?_eq_none (by simp [arrC_len]; omega)]
attribute [push_cast] arrC_len
/-- All blocks but one stay as they were. -/
structure Fr1 (x : Id) (h g : Hp) : Prop where
  ep : h.ep ≤ g.ep
  hp : ∀ y : Id, y.1 ≤ h.ep → y ≠ x → g.hp y = h.hp y
theorem Fr1.refl (x : Id) (h : Hp) : Fr1 x h h := ⟨Nat.le_refl _, fun _ _ _ => rfl⟩
theorem Fr1.trans {x : Id} {a b c : Hp} (h : Fr1 x a b) (k : Fr1 x b c) : Fr1 x a c := ⟨Nat.le_trans h.ep k.ep, fun y hy hn => (k.hp y (Nat.le_trans hy h.ep) hn).trans (h.hp y hy hn)⟩
theorem Fr1.tick {x : Id} {a b : Hp} (h : Fr1 x a b) : Fr1 x a b.tick := ⟨Nat.le_succ_of_le h.ep, h.hp⟩
theorem Fr1.put {x : Id} {a b : Hp} (h : Fr1 x a b) (c : List AV) : Fr1 x a (b.put x c) := ⟨h.ep, fun y hy hn => (put_ne _ _ _ _ hn).trans (h.hp y hy hn)⟩
theorem Fr1.push {x : Id} {a b : Hp} (h : Fr1 x a b) {e s : Nat} (he : a.ep < e) (c : List AV) : Fr1 x a (b.push (e, s) c) := ⟨h.ep, fun y hy hn => (push_ne _ _ _ _ (fun e' => by rw [e'] at hy; simp at hy; omega)).trans (h.hp y hy hn)⟩
/-! ### Two ranges change places -/
end Go.Proofs.Hx

set_option linter.unusedVariables false
set_option linter.unusedSimpArgs false
namespace Go.Proofs.Hx
open Go Go.Proofs
attribute [local irreducible] yK awp opK goV goM yS yU yY yN HV HVF HC
/-- The row i of the square. -/
theorem f91 {h0 : Hp} {A B : Id} {i s : Nat} {D : Nat → Int} (hA : h0.hp A = some ⟨true, arrC 4096 D⟩) (hB : h0.hp B = some ⟨true, [i64 s]⟩) (hi : i < s) (hs : s ≤ 64) :
    HC Try.prog 91 [i64 i, .ptr A 0, .ptr B 0] h0 fun r h' => r = .sl A (i * s) s 1 ∧ Ext h0 h' := by
  refine qO qG cf91 (by simp) fun hF => ?_
  unfold ac91 re91
  refine yE fun env hE => ?_; have e0 := hE 0; have e1 := hE 1; have e2 := hE 2; have e4 := hE 4; simp -implicitDefEqProofs only [push_cast] at e0 e1 e2 e4; clear hE
  have m1 : i * s ≤ 64 * 64 := Nat.mul_le_mul (by omega) (by omega)
  have m2 : (i + 1) * s ≤ 64 * 64 := Nat.mul_le_mul (by omega) (by omega)
  have hw1 : IntKind.i64.wrap ((i : Int) * s) = ((i * s : Nat) : Int) := by rw [← Int.natCast_mul]; exact wrap64 (by omega) (by omega)
  have hw2 : IntKind.i64.wrap (((i : Int) + 1) * s) = (((i + 1) * s : Nat) : Int) := by
    rw [show ((i : Int) + 1) * s = (((i + 1) * s : Nat) : Int) from by rw [Int.natCast_mul]; rfl]; exact wrap64 (by omega) (by omega)
  have hw3 : IntKind.i64.wrap ((i : Int) + 1) = (i : Int) + 1 := wrap64 (by omega) (by omega)
  have hrs : ∀ (ρ : AOpd → AV) (h : Hp), ρ (.t 1) = .ptr A 0 → h.hp A = some ⟨true, arrC 4096 D⟩ → yO (.slice (some 4096) 1 (.t 1) (some (.t 7)) (some (.t 11)) (some (.t 15))) ρ h = sliceV (some 4096) 1 (.ptr A 0) (some (ρ (.t 7))) (some (ρ (.t 11))) (some (ρ (.t 15))) := fun ρ h h1 h2 => by
    unfold yO
    simp only [h1, h2, arrC_len]
    simp
  have q1 : (i : Int) * s = ((i * s : Nat) : Int) := (Int.natCast_mul _ _).symm
  have q2 : ((i : Int) + 1) * s = (((i + 1) * s : Nat) : Int) := by rw [Int.natCast_mul]; rfl
  have hsl : sliceV (some 4096) 1 (.ptr A 0) (some (.lit (.int .i64 ((i : Int) * s)))) (some (.lit (.int .i64 (((i : Int) + 1) * s)))) (some (.lit (.int .i64 (((i : Int) + 1) * s)))) = some (.sl A (i * s) s 1) := by
    rw [q1, q2]
    have h3 : (i + 1) * s = i * s + s := Nat.succ_mul i s
    generalize (i + 1) * s = y at *
    generalize i * s = x at *
    have b1 : ∀ (d z : Nat), yT d (some (.lit (.int .i64 (z : Int)))) = some z := fun d z => by simp [yT]
    simp only [sliceV, b1, Option.isSome, Option.isNone]
    rw [if_neg (by simp), if_pos ⟨by omega, Nat.le_refl _, by omega⟩, Nat.zero_add, Nat.mul_one, show y - x = s from by omega]
  repeat' (first | ((try clear hf); with_reducible refine zM fun env K hE hK hf => ?_; have n : _ ∧ _ ∧ _ ∧ _ := ⟨hE 0, hE 1, hE 2, hE 4⟩; simp -implicitDefEqProofs only [push_cast, reduceIte, Nat.reduceEqDiff, e0, e1, e2, e4] at n; clear hE e0 e1 e2 e4; obtain ⟨e0, e1, e2, e4⟩ := n) | (with_reducible refine hK _ _ ?_; clear hK K) | (with_reducible first | refine zJ ?_ | refine zU ?_ | refine zC ?_ | refine zG ?_ | refine zE ?_ | refine zL ?_ | refine zT ?_ | refine zD ?_ | refine zH ?_ | refine zV ?_ | refine zF ?_ | refine zB (by decide) ?_ | refine zP ?_ | refine zO ?_ | refine zK ?_ | refine yB ?_ | refine yC ?_ | refine zW (by assumption) ?_ | refine zY (by assumption) ?_) | (refine zI rfl ?_) | (simp -implicitDefEqProofs only [push_cast, sevalprocAttr, eq_self, e0, e1, e2, e4, hA, hB, hw1, hw2, hw3, hrs, hsl]) | (simp -implicitDefEqProofs (disch := omega) only [zR, zZ, zS, zQ, e0, e1, e2, e4, hA, hB, hw1, hw2, hw3, hrs, hsl]) | (with_reducible refine yF ?_ ?_) | (refine zN rfl (fun bb => ?_) (fun bb => ?_) <;> (first | have bp := of_decide_eq_true bb | have bp := of_decide_eq_false bb | skip) <;> simp only [bb]) | (with_reducible refine zX (fun bb => ?_) (fun bb => ?_) <;> (first | have bp := of_decide_eq_true bb | have bp := of_decide_eq_false bb | skip)) | ((with_reducible refine And.intro ?_ ?_); omega) | fail)
  exact (show Ext h0 _ from (by repeat (first | exact Ext.refl _ | assumption | refine Ext.tick ?_ | refine Ext.push ?_ (by omega) _ | refine Ext.put ?_ (by omega) _ | refine Ext.kill ?_ (by omega) | refine Ext.killA ?_ (by assumption))))
end Go.Proofs.Hx

set_option linter.unusedVariables false
set_option linter.unusedSimpArgs false
namespace Go.Proofs.Hx
open Go Go.Proofs
attribute [local irreducible] yK awp opK goV goM yS yU yY yN HV HVF HC
/-! ### The square of the longest ways, as a function -/
def farZ : Int := -1099511627776
def capZ (x : Int) : Int := if 1073741824 < x then 1073741824 else x
/-- One cell of the row i, by way of k. -/
def jStep (s k i : Nat) (D : Nat → Int) (j : Nat) : Nat → Int :=
  if D (k * s + j) ≠ farZ ∧ D (i * s + j) < D (i * s + k) + D (k * s + j) then fset D (i * s + j) (capZ (D (i * s + k) + D (k * s + j))) else D
def jN (s k i : Nat) (D : Nat → Int) : Nat → Nat → Int
  | 0 => D
  | j + 1 => jStep s k i (jN s k i D j) j
def iStep (s k : Nat) (D : Nat → Int) (i : Nat) : Option (Nat → Int) :=
  if D (i * s + k) = farZ then some D else if 0 < jN s k i D s (i * s + i) then none else some (jN s k i D s)
def iN (s k : Nat) (D : Nat → Int) : Nat → Option (Nat → Int)
  | 0 => some D
  | i + 1 => (iN s k D i).bind fun D => iStep s k D i
def kN (s : Nat) (D : Nat → Int) : Nat → Option (Nat → Int)
  | 0 => some D
  | k + 1 => (kN s D k).bind fun D => iN s k D s
def eStep (s : Nat) (n : Int) (D : Nat → Int) (e : Edg) : Nat → Int :=
  fset D (e.f.toNat * s + e.t.toNat) (if e.l - n * e.d > D (e.f.toNat * s + e.t.toNat) then e.l - n * e.d else D (e.f.toNat * s + e.t.toNat))
def farTo (m : Nat) : Nat → Int := fun j => if j < m then farZ else 0
def eN (s : Nat) (n : Int) (es : List Edg) : Nat → Int := es.foldl (eStep s n) (farTo (s * s))
def goesP (es : List Edg) (s : Nat) (n : Int) : Bool := (kN s (eN s n es) s).isSome
theorem iN_none {s k : Nat} {D : Nat → Int} {i m : Nat} (h : iN s k D i = none) (hm : i ≤ m) : iN s k D m = none := by
  obtain ⟨d, rfl⟩ : ∃ d, m = i + d := ⟨m - i, by omega⟩
  induction d with
  | zero => exact h
  | succ d ih => rw [← Nat.add_assoc, iN, ih (by omega)]; rfl
theorem kN_none {s : Nat} {D : Nat → Int} {i m : Nat} (h : kN s D i = none) (hm : i ≤ m) : kN s D m = none := by
  obtain ⟨d, rfl⟩ : ∃ d, m = i + d := ⟨m - i, by omega⟩
  induction d with
  | zero => exact h
  | succ d ih => rw [← Nat.add_assoc, kN, ih (by omega)]; rfl
/-- All cells lie between 'no way' and the cap. -/
def inR (D : Nat → Int) : Prop := ∀ p, farZ ≤ D p ∧ D p ≤ 1073741824
theorem inR_fset {D : Nat → Int} (h : inR D) {p : Nat} {v : Int} (h1 : farZ ≤ v) (h2 : v ≤ 1073741824) : inR (fset D p v) := fun q => by
  unfold fset; split
  · exact ⟨h1, h2⟩
  · exact h q
theorem inR_farTo (m : Nat) : inR (farTo m) := fun p => by unfold farTo farZ; split <;> omega
theorem inR_jStep {s k i : Nat} {D : Nat → Int} (h : inR D) (j : Nat) : inR (jStep s k i D j) := by
  unfold jStep
  split
  · rename_i hh
    have := h (i * s + j)
    apply inR_fset h <;> unfold capZ <;> split <;> omega
  · exact h
theorem inR_jN {s k i : Nat} {D : Nat → Int} (h : inR D) : ∀ j, inR (jN s k i D j)
  | 0 => h
  | j + 1 => inR_jStep (inR_jN h j) j
theorem inR_iN {s k : Nat} {D : Nat → Int} (h : inR D) : ∀ i D', iN s k D i = some D' → inR D'
  | 0, D', e => by cases e; exact h
  | i + 1, D', e => by
    rw [iN] at e
    cases hi : iN s k D i with
    | none => rw [hi] at e; cases e
    | some D1 =>
      rw [hi, Option.bind_some, iStep] at e
      have h1 := inR_iN h i D1 hi
      split at e
      · cases e; exact h1
      · split at e
        · cases e
        · cases e; exact inR_jN h1 s
theorem inR_kN {s : Nat} {D : Nat → Int} (h : inR D) : ∀ i D', kN s D i = some D' → inR D'
  | 0, D', e => by cases e; exact h
  | i + 1, D', e => by
    rw [kN] at e
    cases hi : kN s D i with
    | none => rw [hi] at e; cases e
    | some D1 => rw [hi, Option.bind_some] at e; exact inR_iN (inR_kN h i D1 hi) s D' e
/-- What the edges of a list are like. -/
def edgOK (s : Nat) (es : List Edg) : Prop := ∀ e ∈ es, 0 ≤ e.f ∧ e.f < s ∧ 0 ≤ e.t ∧ e.t < s ∧ 0 ≤ e.l ∧ e.l ≤ 1000 ∧ 0 ≤ e.d ∧ e.d ≤ 1000
theorem nd_le {n d : Int} (h1 : 0 ≤ n) (h2 : n ≤ 100000) (h3 : 0 ≤ d) (h4 : d ≤ 1000) : 0 ≤ n * d ∧ n * d ≤ 100000000 := by
  have a := Int.mul_nonneg h1 h3
  have b := Int.mul_le_mul h2 h4 h3 (by omega : (0 : Int) ≤ 100000)
  omega
theorem inR_eStep {s : Nat} {n : Int} {D : Nat → Int} {e : Edg} (h : inR D) (hn : 0 ≤ n ∧ n ≤ 100000) (he : 0 ≤ e.l ∧ e.l ≤ 1000 ∧ 0 ≤ e.d ∧ e.d ≤ 1000) : inR (eStep s n D e) := by
  have h1 := nd_le hn.1 hn.2 he.2.2.1 he.2.2.2
  unfold eStep
  have := h (e.f.toNat * s + e.t.toNat)
  apply inR_fset h <;> split <;> unfold farZ at * <;> omega
theorem inR_eN {s : Nat} {n : Int} (hn : 0 ≤ n ∧ n ≤ 100000) : ∀ (es : List Edg), (∀ e ∈ es, 0 ≤ e.l ∧ e.l ≤ 1000 ∧ 0 ≤ e.d ∧ e.d ≤ 1000) → ∀ D, inR D → inR (es.foldl (eStep s n) D)
  | [], _, D, h => h
  | e :: es, he, D, h => inR_eN hn es (fun x hx => he x (List.mem_cons_of_mem _ hx)) _ (inR_eStep h hn (he e List.mem_cons_self))
/-! ### The array's cells -/
def ls61 : List AV := match r61_1 with | [⟨_, .alloc z, _⟩] => z | _ => []
theorem r61_eq : r61_1 = [⟨some 7, .alloc ls61, none⟩] := rfl
def isZ : AV → Bool | .lit (.int .i64 n) => n == 0 | _ => false
theorem isZ_eq : ∀ {x : AV}, isZ x = true → x = i64 0
  | .lit (.int .i64 n), h => by simp [isZ] at h; subst h; rfl
theorem ls61_all : (ls61.length == 4096 && ls61.all isZ) = true := by decide +kernel
theorem ls61_eq : ls61 = arrC 4096 fun _ => 0 := by
  have h := ls61_all
  rw [Bool.and_eq_true] at h
  have hl : ls61.length = 4096 := by simpa using h.1
  apply List.ext_getElem?
  intro r
  by_cases hr : r < 4096
  · rw [arrC_at _ hr, List.getElem?_eq_getElem (by omega)]
    rw [isZ_eq (List.all_eq_true.1 h.2 _ (List.getElem_mem _))]
  · rw [List.getElem?_eq_none (by omega), List.getElem?_eq_none (by simp [arrC_len]; omega)]
theorem r61_arr : r61_1 = [⟨some 7, .alloc (arrC 4096 (farTo 0)), none⟩] := by
  rw [r61_eq, ls61_eq]; rfl
end Go.Proofs.Hx
