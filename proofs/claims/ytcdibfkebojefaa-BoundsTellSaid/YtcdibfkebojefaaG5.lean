import Derived.Test.YtcdibfkebojefaaG4
set_option linter.unusedVariables false
set_option linter.unusedSimpArgs false
namespace Go.Proofs.Hx
open Go Go.Proofs
attribute [local irreducible] yM awp opK goV goM yV yZ qF yQ HV HVF HC
/-- A call that reads the finder, and what else is lent. -/
theorem call_fin2 {P : Program} {d : Option Nat} {K : St → Prop} {env : Nat → AV} {h g : Hp} {fn : Nat} {F : Id} {l : List Opn} {t : Tab} {es : List Edg} {rid did : Id} {out : AV} {args args' : List AV} {v : Value} (hX : FinH h F l t es rid did out) (hg : Ext h g)
    (hi : mapO (lend fuelL g) args = some args') (hv : ∀ o, imm o = true → HV P fn (.ip (finA l t o) :: args') (.lit v)) (k : K ⟨putA env d (.lit v), g.tick⟩) : yV P d K env g false (.fn fn []) (.ptr F 0 :: args) := by
  obtain ⟨o', hi', hl⟩ := lend_fin hX hg
  refine call_lend (args' := .ip (finA l t o') :: args') ?_ (hv o' hi') rfl k
  rw [List.append_nil, mapO_cons, hl, hi]
  rfl
/-- 'pair' behind the finder. -/
theorem call_pair {d : Option Nat} {K : St → Prop} {env : Nat → AV} {h g : Hp} {F : Id} {l : List Opn} {t : Tab} {es : List Edg} {rid did : Id} {out : AV} {dist : Int} {meet : Bool} {i j : Nat} (hX : FinH h F l t es rid did out) (hg : Ext h g)
    (hi : i < l.length) (hj : j < l.length) (hl : ∀ o ∈ l, o.ok) (ht : qM t) (hn : es.length ≤ 10000000)
    (k : ∀ h' out', FinH h' F l t (es ++ pairE t l[i] l[j] i j dist meet) rid did out' → qQ h' → FS h F out h' out' → K ⟨putA env d (.tup []), h'.tick⟩) :
    yV Try.prog d K env g false (.fn 99 []) [.ptr F 0, i64 i, i64 j, i64 dist, bl meet] := by
  refine call_hc (HC.mono (f99 (hX.ext hg) i j hi hj dist meet hl ht hn) ?_)
  rintro r h' ⟨rfl, out', h1, h2⟩ hF
  refine k h' out' h1 hF (FS.trans ((FS.refl h F out).ext hg) h2)
def opAt (l : List Opn) (j : Nat) : Opn := l.getD j ⟨0, 0, 0, 0, 0⟩
theorem qD {l : List Opn} {j : Nat} (hj : j < l.length) : l[j] = opAt l j := by simp [opAt, hj]
/-- Who was the last ahead of j to write a register, and one. -/
def yY (l : List Opn) : Nat → Nat → Int
  | 0, _ => 0
  | j + 1, r => if 0 ≤ dS (opAt l j) ∧ r = (dS (opAt l j)).toNat then (j : Int) + 1 else yY l j r
/-- The dependences of i and j in one round. -/
def ijE (l : List Opn) (t : Tab) (i j : Nat) : List Edg :=
  (if fromS (yY l j) (opAt l j) i = true then [⟨i, j, latS t (opAt l i), 0, 0⟩] else []) ++ pairE t (opAt l i) (opAt l j) i j 0 (meetS (opAt l i) (opAt l j) ((l.drop i).take (j - i)))
def toE (l : List Opn) (t : Tab) (j : Nat) : Nat → List Edg
  | 0 => []
  | i + 1 => toE l t j i ++ ijE l t i j
/-- All dependences of one round, the later operation's number below j. -/
def onceE (l : List Opn) (t : Tab) : Nat → List Edg
  | 0 => []
  | j + 1 => onceE l t j ++ toE l t j j
theorem ijE_len (l : List Opn) (t : Tab) (i j : Nat) : (ijE l t i j).length ≤ 5 := by
  have := pair_lens t (opAt l i) (opAt l j) i j 0 (meetS (opAt l i) (opAt l j) ((l.drop i).take (j - i)))
  unfold ijE
  rw [pairE_eq]
  simp only [List.length_append]
  split <;> simp <;> omega
theorem toE_len (l : List Opn) (t : Tab) (j : Nat) : ∀ i, (toE l t j i).length ≤ 5 * i
  | 0 => by simp [toE]
  | i + 1 => by
    have := toE_len l t j i
    have := ijE_len l t i j
    simp only [toE, List.length_append]; omega
theorem onceE_len (l : List Opn) (t : Tab) (n : Nat) : ∀ j, j ≤ n → (onceE l t j).length ≤ 5 * n * j
  | 0, _ => by simp [onceE]
  | j + 1, h => by
    have h1 := onceE_len l t n j (by omega)
    have h2 := toE_len l t j j
    simp only [onceE, List.length_append]
    have : 5 * n * (j + 1) = 5 * n * j + 5 * n := by rw [Nat.mul_add, Nat.mul_one]
    omega
theorem lastC_len (L : Nat → Int) : (qN L).length = 32 := by simp [qN]
theorem lastC_put (L : Nat → Int) {k : Nat} (hk : k < 32) (v : Int) : (qN L).take k ++ [i64 v] ++ (qN L).drop (k + 1) = qN fun r => if r = k then v else L r := by
  apply List.ext_getElem?
  intro r
  by_cases hr : r < 32
  · rw [lastC_at _ hr]
    by_cases h1 : r < k
    · rw [List.append_assoc, List.getElem?_append_left (by simp [lastC_len]; omega), List.getElem?_take, if_pos h1, lastC_at _ hr, if_neg (by omega)]
    · rw [List.append_assoc, List.getElem?_append_right (by simp [lastC_len]; omega)]
      by_cases h2 : r = k
      · subst h2; simp [lastC_len, Nat.min_eq_left (Nat.le_of_lt hk)]
      · rw [if_neg h2, List.getElem?_append_right (by simp [lastC_len]; omega), List.getElem?_drop]
        simp only [List.length_take, lastC_len, List.length_cons, List.length_nil]
        rw [show k + 1 + (r - min k 32 - (0 + 1)) = r from by omega, lastC_at _ hr]
  · rw [List.getElem?_eq_none (by simp [lastC_len]; omega), List.getElem?_eq_none (by simp [lastC_len]; omega)]
theorem dS_lt {o : Opn} (ho : o.ok) : -1 ≤ dS o ∧ dS o ≤ 31 := by
  unfold Opn.ok at ho
  by_cases h : (ofS o.k).d = true ∧ chkE o = 0
  · have := chkE_regs h.2
    simp only [dS, wrS, if_pos h, if_true]; omega
  · simp only [dS, wrS, if_neg h]; simp
theorem FinH.putL {h : Hp} {F : Id} {l : List Opn} {t : Tab} {es : List Edg} {rid did L : Id} {out : AV} (hX : FinH h F l t es rid did out) (c : List AV) (h1 : L ≠ F) (h2 : L ≠ rid) (h3 : L ≠ did) (h4 : idOf out ≠ some L) : FinH (h.put L c) F l t es rid did out :=
  ⟨(put_ne _ _ _ _ (Ne.symm h1)).trans hX.fin, (put_ne _ _ _ _ (Ne.symm h2)).trans hX.rds, (put_ne _ _ _ _ (Ne.symm h3)).trans hX.ds, by
    rcases hX.outr with g1 | ⟨id, g1, g2, g3⟩
    · exact .inl g1
    · exact .inr ⟨id, g1, (put_ne _ _ _ _ (fun e => h4 (by rw [g1, ← e]; rfl))).trans g2, g3⟩, hX.eF, hX.er, hX.ed, hX.rF, hX.dF, hX.rd, hX.oF⟩
theorem FS.putL {h0 h : Hp} {F L : Id} {o o1 : AV} (a : FS h0 F o h o1) (hL : h0.ep < L.1) (c : List AV) : FS h0 F o (h.put L c) o1 :=
  ⟨a.1, fun x hx hF ho => ⟨(put_ne _ _ _ _ (fun e => by rw [e] at hx; omega)).trans (a.2 x hx hF ho).1, (a.2 x hx hF ho).2⟩⟩
theorem FinH.tick {h : Hp} {F : Id} {l : List Opn} {t : Tab} {es : List Edg} {rid did : Id} {out : AV} (hX : FinH h F l t es rid did out) : FinH h.tick F l t es rid did out := hX.ext (Ext.refl h).tick
def I66a (h0 : Hp) (F : Id) (l : List Opn) (t : Tab) (rid did : Id) (out0 : AV) (L : Id) (j : Nat) (n : Nat) (σ : St) : Prop := ∃ (i : Nat) (out : AV), i ≤ j ∧ n = j - i ∧ σ.env 0 = .ptr F 0 ∧ σ.env 2 = .ptr L 0 ∧ σ.env 3 = i64 j ∧ σ.env 9 = i64 l.length ∧ σ.env 10 = i64 j ∧ σ.env 13 = i64 j ∧ σ.env 14 = i64 i ∧
  FinH σ.h F l t (onceE l t j ++ toE l t j i) rid did out ∧ FS h0 F out0 σ.h out ∧ idOf out ≠ some L ∧ σ.h.hp L = some ⟨true, qN (yY l j)⟩ ∧ L.1 ≤ σ.h.ep
def I66b (h0 : Hp) (F : Id) (l : List Opn) (t : Tab) (rid did : Id) (out0 : AV) (L : Id) (n : Nat) (σ : St) : Prop := ∃ (j : Nat) (out : AV), j ≤ l.length ∧ n = l.length - j ∧ σ.env 0 = .ptr F 0 ∧ σ.env 2 = .ptr L 0 ∧ σ.env 9 = i64 l.length ∧ σ.env 10 = i64 j ∧
  FinH σ.h F l t (onceE l t j) rid did out ∧ FS h0 F out0 σ.h out ∧ idOf out ≠ some L ∧ σ.h.hp L = some ⟨true, qN (yY l j)⟩ ∧ L.1 ≤ σ.h.ep
set_option maxHeartbeats 1000000 in
theorem f66 {h0 : Hp} {F : Id} {l : List Opn} {t : Tab} {rid did : Id} {out0 : AV} (hX : FinH h0 F l t [] rid did out0) (ho0 : ∀ x, idOf out0 = some x → x.1 ≤ h0.ep) (hl : ∀ o ∈ l, o.ok) (ht : qM t) (hn : l.length ≤ 1024) :
    HC Try.prog 66 [.ptr F 0] h0 fun r h' => r = .tup [] ∧ ∃ out', FinH h' F l t (onceE l t l.length) rid did out' ∧ FS h0 F out0 h' out' := by
  refine HC_of_awp yL cf66 (by simp) fun hF => ?_
  unfold ac66 re66
  refine yF fun env hE => ?_; have e0 := hE 0; have e2 := hE 2; have e3 := hE 3; have e4 := hE 4; have e9 := hE 9; have e10 := hE 10; have e11 := hE 11; have e13 := hE 13; have e14 := hE 14; have e15 := hE 15; simp -implicitDefEqProofs only [push_cast] at e0 e2 e3 e4 e9 e10 e11 e13 e14 e15; clear hE
  obtain ⟨Fe, Fs⟩ := F
  obtain ⟨re, rs⟩ := rid
  obtain ⟨de, ds⟩ := did
  have hb := hX.fin
  have hFe : Fe ≤ h0.ep := hX.eF
  repeat' (first | ((try clear hf); with_reducible refine zM fun env K hE hK hf => ?_; have n : _ ∧ _ ∧ _ ∧ _ ∧ _ ∧ _ ∧ _ ∧ _ ∧ _ ∧ _ := ⟨hE 0, hE 2, hE 3, hE 4, hE 9, hE 10, hE 11, hE 13, hE 14, hE 15⟩; simp -implicitDefEqProofs only [push_cast, reduceIte, Nat.reduceEqDiff, e0, e2, e3, e4, e9, e10, e11, e13, e14, e15] at n; clear hE e0 e2 e3 e4 e9 e10 e11 e13 e14 e15; obtain ⟨e0, e2, e3, e4, e9, e10, e11, e13, e14, e15⟩ := n) | (with_reducible refine hK _ _ ?_; clear hK K) | (with_reducible first | refine zJ ?_ | refine zU ?_ | refine zB ?_ | refine zG ?_ | refine zE ?_ | refine zL ?_ | refine zT ?_ | refine zD ?_ | refine zH ?_ | refine zV ?_ | refine zF ?_ | refine zA (by decide) ?_ | refine zP ?_ | refine zO ?_ | refine zK ?_ | refine yB ?_ | refine yC ?_ | refine zW (by assumption) ?_ | refine zY (by assumption) ?_) | (refine zI rfl ?_) | (simp -implicitDefEqProofs only [push_cast, sevalprocAttr, eq_self, e0, e2, e3, e4, e9, e10, e11, e13, e14, e15, hb, hF.at, finC_0, yK]) | (simp -implicitDefEqProofs (disch := omega) only [zR, zZ, zS, zQ, e0, e2, e3, e4, e9, e10, e11, e13, e14, e15, hb, hF.at, finC_0, yK]) | (with_reducible refine yE ?_ ?_) | (refine zN rfl (fun bb => ?_) (fun bb => ?_) <;> simp only [bb]) | (with_reducible refine zX (fun bb => ?_) (fun bb => ?_)) | ((with_reducible refine And.intro ?_ ?_); omega) | fail)
  generalize hL0 : (h0.ep + 1 + 1, 2) = L
  have hLF : L ≠ (Fe, Fs) := by rw [← hL0]; intro e; cases e; omega
  have hre : re ≤ h0.ep := hX.er
  have hde0 : de ≤ h0.ep := hX.ed
  have hLr : L ≠ (re, rs) := by rw [← hL0]; intro e; cases e; omega
  have hLd : L ≠ (de, ds) := by rw [← hL0]; intro e; cases e; omega
  have hLe : h0.ep < L.1 := by rw [← hL0]; show h0.ep < h0.ep + 1 + 1; omega
  refine yN (I66b h0 (Fe, Fs) l t (re, rs) (de, ds) out0 L) l.length ⟨0, out0, by omega, by omega, by simp -implicitDefEqProofs only [push_cast, sevalprocAttr, eq_self, e0], by simp -implicitDefEqProofs only [push_cast, sevalprocAttr, eq_self, e2, hL0], by simp -implicitDefEqProofs only [push_cast, sevalprocAttr, eq_self], by simp -implicitDefEqProofs only [push_cast, sevalprocAttr, eq_self], ?_, ?_, ?_, ?_, ?_⟩ ?_
  · rw [← hL0]; exact hX.ext (by repeat (first | exact Ext.refl _ | refine Ext.tick ?_ | refine Ext.push ?_ (by omega) _ | refine Ext.put ?_ (by omega) _))
  · rw [← hL0]; exact (FS.refl h0 (Fe, Fs) out0).ext (by repeat (first | exact Ext.refl _ | refine Ext.tick ?_ | refine Ext.push ?_ (by omega) _ | refine Ext.put ?_ (by omega) _))
  · intro e; have := ho0 _ e; rw [← hL0] at this; simp at this; omega
  · rw [← hL0]; simp -implicitDefEqProofs only [push_cast, sevalprocAttr, eq_self]; rfl
  · rw [← hL0]; simp -implicitDefEqProofs only [push_cast, sevalprocAttr, eq_self]; omega
  clear hX hb hF hFe hL0
  rintro n ⟨env, h⟩ ⟨j, out, hj', rfl, e0, e2, e9, e10, hX, hS, hLo, hL, eL⟩
  simp only at e0 e2 e9 e10 hX hS hL eL
  have e3 : True := trivial; have e4 : True := trivial; have e11 : True := trivial; have e13 : True := trivial; have e14 : True := trivial; have e15 : True := trivial
  unfold l66_1
  refine yI fun hF => ?_
  by_cases hj : j < l.length
  · have hdj : decide ((j : Int) < (l.length : Int)) = true := by simp; omega
    repeat' (first | ((try clear hf); with_reducible refine zM fun env K hE hK hf => ?_; have n : _ ∧ _ ∧ _ ∧ _ ∧ _ ∧ _ ∧ _ ∧ _ ∧ _ ∧ _ := ⟨hE 0, hE 2, hE 3, hE 4, hE 9, hE 10, hE 11, hE 13, hE 14, hE 15⟩; simp -implicitDefEqProofs only [push_cast, reduceIte, Nat.reduceEqDiff, e0, e2, e3, e4, e9, e10, e11, e13, e14, e15] at n; clear hE e0 e2 e3 e4 e9 e10 e11 e13 e14 e15; obtain ⟨e0, e2, e3, e4, e9, e10, e11, e13, e14, e15⟩ := n) | (with_reducible refine hK _ _ ?_; clear hK K) | (with_reducible first | refine zJ ?_ | refine zU ?_ | refine zB ?_ | refine zG ?_ | refine zE ?_ | refine zL ?_ | refine zT ?_ | refine zD ?_ | refine zH ?_ | refine zV ?_ | refine zF ?_ | refine zA (by decide) ?_ | refine zP ?_ | refine zO ?_ | refine zK ?_ | refine yB ?_ | refine yC ?_ | refine zW (by assumption) ?_ | refine zY (by assumption) ?_) | (refine zI rfl ?_) | (simp -implicitDefEqProofs only [push_cast, sevalprocAttr, eq_self, e0, e2, e3, e4, e9, e10, e11, e13, e14, e15, hdj]) | (simp -implicitDefEqProofs (disch := omega) only [zR, zZ, zS, zQ, e0, e2, e3, e4, e9, e10, e11, e13, e14, e15, hdj]) | (with_reducible refine yE ?_ ?_) | (refine zN rfl (fun bb => ?_) (fun bb => ?_) <;> simp only [bb]) | (with_reducible refine zX (fun bb => ?_) (fun bb => ?_)) | ((with_reducible refine And.intro ?_ ?_); omega) | fail)
    have hlc : ∀ h, mapO (lend 7 h) (qN (yY l j)) = some (qN (yY l j)) := fun h => qS (lastC_imms _)
    have hol := onceE_len l t l.length j hj'
    have hmul : 5 * l.length * j ≤ 5 * 1024 * 1024 := Nat.mul_le_mul (by omega) (by omega)
    refine yN (I66a h0 (Fe, Fs) l t (re, rs) (de, ds) out0 L j) j ⟨0, out, by omega, by omega, by simp -implicitDefEqProofs only [push_cast, sevalprocAttr, eq_self, e0], by simp -implicitDefEqProofs only [push_cast, sevalprocAttr, eq_self, e2], by simp -implicitDefEqProofs only [push_cast, sevalprocAttr, eq_self, e3], by simp -implicitDefEqProofs only [push_cast, sevalprocAttr, eq_self, e9], by simp -implicitDefEqProofs only [push_cast, sevalprocAttr, eq_self, e10], by simp -implicitDefEqProofs only [push_cast, sevalprocAttr, eq_self], by simp -implicitDefEqProofs only [push_cast, sevalprocAttr, eq_self], es_yes (by simp [toE]) (hX.ext (by repeat (first | exact Ext.refl _ | refine Ext.tick ?_ | refine Ext.push ?_ (by omega) _ | refine Ext.put ?_ (by omega) _))), hS.ext (by repeat (first | exact Ext.refl _ | refine Ext.tick ?_ | refine Ext.push ?_ (by omega) _ | refine Ext.put ?_ (by omega) _)), hLo, by simp -implicitDefEqProofs only [push_cast, sevalprocAttr, eq_self, hL], by simp -implicitDefEqProofs only [push_cast, sevalprocAttr, eq_self]; omega⟩ ?_
    clear hX hS hLo hL eL hF
    rintro n ⟨env, h⟩ ⟨i, out, hij', rfl, e0, e2, e3, e9, e10, e13, e14, hX, hS, hLo, hL, eL⟩
    simp only at e0 e2 e3 e9 e10 e13 e14 hX hS hL eL
    have e4 : True := trivial; have e11 : True := trivial; have e15 : True := trivial
    unfold l66_0
    refine yI fun hF => ?_
    have hb := hX.fin
    have hd := hX.ds
    have hFe : Fe ≤ h.ep := hX.eF
    have hde : de ≤ h.ep := hX.ed
    have hlen := toE_len l t j i
    have hlen2 : (onceE l t j ++ toE l t j i).length ≤ 6000000 := by rw [List.length_append]; omega
    by_cases hij : i < j
    · have hdi : decide ((i : Int) < (j : Int)) = true := by simp; omega
      have hi : i < l.length := by omega
      repeat' (first | ((try clear hf); with_reducible refine zM fun env K hE hK hf => ?_; have n : _ ∧ _ ∧ _ ∧ _ ∧ _ ∧ _ ∧ _ ∧ _ ∧ _ ∧ _ := ⟨hE 0, hE 2, hE 3, hE 4, hE 9, hE 10, hE 11, hE 13, hE 14, hE 15⟩; simp -implicitDefEqProofs only [push_cast, reduceIte, Nat.reduceEqDiff, e0, e2, e3, e4, e9, e10, e11, e13, e14, e15] at n; clear hE e0 e2 e3 e4 e9 e10 e11 e13 e14 e15; obtain ⟨e0, e2, e3, e4, e9, e10, e11, e13, e14, e15⟩ := n) | (with_reducible refine hK _ _ ?_; clear hK K) | (with_reducible first | refine zJ ?_ | refine zU ?_ | refine zB ?_ | refine zG ?_ | refine zE ?_ | refine zL ?_ | refine zT ?_ | refine zD ?_ | refine zH ?_ | refine zV ?_ | refine zF ?_ | refine zA (by decide) ?_ | refine zP ?_ | refine zO ?_ | refine zK ?_ | refine yB ?_ | refine yC ?_ | refine zW (by assumption) ?_ | refine zY (by assumption) ?_) | (refine zI rfl ?_) | (simp -implicitDefEqProofs only [push_cast, sevalprocAttr, eq_self, e0, e2, e3, e4, e9, e10, e11, e13, e14, e15, hdi, hb, hd, hF.at, finC_0]) | (simp -implicitDefEqProofs (disch := omega) only [zR, zZ, zS, zQ, e0, e2, e3, e4, e9, e10, e11, e13, e14, e15, hdi, hb, hd, hF.at, finC_0]) | (with_reducible refine yE ?_ ?_) | (refine zN rfl (fun bb => ?_) (fun bb => ?_) <;> simp only [bb]) | (with_reducible refine zX (fun bb => ?_) (fun bb => ?_)) | ((with_reducible refine And.intro ?_ ?_); omega) | (refine call_fin2 hX (by repeat (first | exact Ext.refl _ | refine Ext.tick ?_ | refine Ext.push ?_ (by omega) _ | refine Ext.put ?_ (by omega) _)) (by simp -implicitDefEqProofs only [push_cast, sevalprocAttr, eq_self, lend_ptrF, hL, hlc]) (fun o ho => f96 l t o ho (yY l j) i j hj (by omega) hl) ?_) | (refine call_fin hX (by repeat (first | exact Ext.refl _ | refine Ext.tick ?_ | refine Ext.push ?_ (by omega) _ | refine Ext.put ?_ (by omega) _)) (fun o ho => f98 l t o ho i hi) rfl ?_) | (refine yD (f100 l i j hij hj hl (by omega)) ?_) | (refine call_put (e := ⟨0, 0, latS t l[i], 0, 0⟩) hX (by repeat (first | exact Ext.refl _ | refine Ext.tick ?_ | refine Ext.push ?_ (by omega) _ | refine Ext.put ?_ (by omega) _)) (by simp -implicitDefEqProofs only [push_cast, sevalprocAttr, eq_self]; rfl) (by first | omega | (dsimp only; omega)) (by first | (simp -implicitDefEqProofs only [push_cast, sevalprocAttr, eq_self]; done) | (simp -implicitDefEqProofs only [push_cast, sevalprocAttr, eq_self]; omega)) (by first | omega | (simp only [List.length_append, List.length_cons, List.length_nil]; omega)) ?_; intro h out hX hF hs; have q := hs.2 _ eL hLF hLo; replace hL := q.1.trans hL; replace hLo := q.2; replace eL := Nat.le_trans eL hs.1; replace hS := FS.trans hS hs; have hb := hX.fin; have hd := hX.ds; have hFe : Fe ≤ h.ep := hX.eF; have hde : de ≤ h.ep := hX.ed) | (refine call_pair hX (by repeat (first | exact Ext.refl _ | refine Ext.tick ?_ | refine Ext.push ?_ (by omega) _ | refine Ext.put ?_ (by omega) _)) hi hj hl ht (by first | omega | (simp only [List.length_append, List.length_cons, List.length_nil]; omega)) ?_; intro h out hX hF hs; have q := hs.2 _ eL hLF hLo; replace hL := q.1.trans hL; replace hLo := q.2; replace eL := Nat.le_trans eL hs.1; replace hS := FS.trans hS hs; have hb := hX.fin; have hd := hX.ds; have hFe : Fe ≤ h.ep := hX.eF; have hde : de ≤ h.ep := hX.ed) | fail)
      all_goals
        refine ⟨j - (i + 1), by omega, i + 1, _, by omega, rfl, by simp -implicitDefEqProofs only [push_cast, sevalprocAttr, eq_self, e0], by simp -implicitDefEqProofs only [push_cast, sevalprocAttr, eq_self, e2], by simp -implicitDefEqProofs only [push_cast, sevalprocAttr, eq_self, e3], by simp -implicitDefEqProofs only [push_cast, sevalprocAttr, eq_self, e9], by simp -implicitDefEqProofs only [push_cast, sevalprocAttr, eq_self, e10], by simp -implicitDefEqProofs only [push_cast, sevalprocAttr, eq_self, e13], by simp -implicitDefEqProofs only [push_cast, sevalprocAttr, eq_self], es_yes ?_ (hX.ext (by repeat (first | exact Ext.refl _ | refine Ext.tick ?_ | refine Ext.push ?_ (by omega) _ | refine Ext.put ?_ (by omega) _))), hS.ext (by repeat (first | exact Ext.refl _ | refine Ext.tick ?_ | refine Ext.push ?_ (by omega) _ | refine Ext.put ?_ (by omega) _)), hLo, by simp -implicitDefEqProofs only [push_cast, sevalprocAttr, eq_self, hL], by simp -implicitDefEqProofs only [push_cast, sevalprocAttr, eq_self]; omega⟩
        simp only [toE, ijE, ← qD hi, ← qD hj]
        first
          | (rw [if_pos (by assumption)]; simp [meetL]; done)
          | (rw [if_neg (by simp [*])]; simp [meetL]; done)
    · have hdi : decide ((i : Int) < (j : Int)) = false := by simp; omega
      obtain rfl : i = j := by omega
      have hdj2 := dS_at hj
      obtain ⟨d1, d2⟩ := dS_lt (hl _ (List.getElem_mem hj))
      repeat' (first | ((try clear hf); with_reducible refine zM fun env K hE hK hf => ?_; have n : _ ∧ _ ∧ _ ∧ _ ∧ _ ∧ _ ∧ _ ∧ _ ∧ _ ∧ _ := ⟨hE 0, hE 2, hE 3, hE 4, hE 9, hE 10, hE 11, hE 13, hE 14, hE 15⟩; simp -implicitDefEqProofs only [push_cast, reduceIte, Nat.reduceEqDiff, e0, e2, e3, e4, e9, e10, e11, e13, e14, e15] at n; clear hE e0 e2 e3 e4 e9 e10 e11 e13 e14 e15; obtain ⟨e0, e2, e3, e4, e9, e10, e11, e13, e14, e15⟩ := n) | (with_reducible refine hK _ _ ?_; clear hK K) | (with_reducible first | refine zJ ?_ | refine zU ?_ | refine zB ?_ | refine zG ?_ | refine zE ?_ | refine zL ?_ | refine zT ?_ | refine zD ?_ | refine zH ?_ | refine zV ?_ | refine zF ?_ | refine zA (by decide) ?_ | refine zP ?_ | refine zO ?_ | refine zK ?_ | refine yB ?_ | refine yC ?_ | refine zW (by assumption) ?_ | refine zY (by assumption) ?_) | (refine zI rfl ?_) | (simp -implicitDefEqProofs only [push_cast, sevalprocAttr, eq_self, e0, e2, e3, e4, e9, e10, e11, e13, e14, e15, hdi, hb, hd, hF.at, finC_15, yP, hdj2, idxAddr_ptr, hL]) | (simp -implicitDefEqProofs (disch := omega) only [zR, zZ, zS, zQ, e0, e2, e3, e4, e9, e10, e11, e13, e14, e15, hdi, hb, hd, hF.at, finC_15, yP, hdj2, idxAddr_ptr, hL]) | (with_reducible refine yE ?_ ?_) | (refine zN rfl (fun bb => ?_) (fun bb => ?_) <;> simp only [bb]) | (with_reducible refine zX (fun bb => ?_) (fun bb => ?_)) | ((with_reducible refine And.intro ?_ ?_); omega) | fail)
      · have h9 : 0 ≤ dS l[i] := by simpa using ‹decide (0 ≤ dS l[i]) = true›
        have hk : (dS l[i]).toNat < 32 := by omega
        have hfun : (fun r => if r = (dS l[i]).toNat then ((i : Int) + 1) else yY l i r) = yY l (i + 1) := by
          funext r
          rw [show yY l (i + 1) r = _ from rfl]
          simp only [yY, ← qD hj]
          by_cases hr : r = (dS l[i]).toNat
          · rw [if_pos hr, if_pos ⟨h9, hr⟩]
          · rw [if_neg hr, if_neg (fun h => hr h.2)]
        have hp := (lastC_put (yY l i) hk ((i : Int) + 1)).trans (congrArg qN hfun)
        have hle : (dS l[i]).toNat + 1 ≤ (qN (yY l i)).length := by rw [lastC_len]; omega
        repeat' (first | ((try clear hf); with_reducible refine zM fun env K hE hK hf => ?_; have n : _ ∧ _ ∧ _ ∧ _ ∧ _ ∧ _ ∧ _ ∧ _ ∧ _ ∧ _ := ⟨hE 0, hE 2, hE 3, hE 4, hE 9, hE 10, hE 11, hE 13, hE 14, hE 15⟩; simp -implicitDefEqProofs only [push_cast, reduceIte, Nat.reduceEqDiff, e0, e2, e3, e4, e9, e10, e11, e13, e14, e15] at n; clear hE e0 e2 e3 e4 e9 e10 e11 e13 e14 e15; obtain ⟨e0, e2, e3, e4, e9, e10, e11, e13, e14, e15⟩ := n) | (with_reducible refine hK _ _ ?_; clear hK K) | (with_reducible first | refine zJ ?_ | refine zU ?_ | refine zB ?_ | refine zG ?_ | refine zE ?_ | refine zL ?_ | refine zT ?_ | refine zD ?_ | refine zH ?_ | refine zV ?_ | refine zF ?_ | refine zA (by decide) ?_ | refine zP ?_ | refine zO ?_ | refine zK ?_ | refine yB ?_ | refine yC ?_ | refine zW (by assumption) ?_ | refine zY (by assumption) ?_) | (refine zI rfl ?_) | (simp -implicitDefEqProofs only [push_cast, sevalprocAttr, eq_self, e0, e2, e3, e4, e9, e10, e11, e13, e14, e15, hb, hd, hF.at, hp, hL]) | (simp -implicitDefEqProofs (disch := omega) only [zR, zZ, zS, zQ, e0, e2, e3, e4, e9, e10, e11, e13, e14, e15, hb, hd, hF.at, hp, hL]) | (with_reducible refine yE ?_ ?_) | (refine zN rfl (fun bb => ?_) (fun bb => ?_) <;> simp only [bb]) | (with_reducible refine zX (fun bb => ?_) (fun bb => ?_)) | ((with_reducible refine And.intro ?_ ?_); omega) | fail)
        refine ⟨l.length - (i + 1), by omega, i + 1, _, by omega, rfl, by simp -implicitDefEqProofs only [push_cast, sevalprocAttr, eq_self, e0], by simp -implicitDefEqProofs only [push_cast, sevalprocAttr, eq_self, e2], by simp -implicitDefEqProofs only [push_cast, sevalprocAttr, eq_self, e9], by simp -implicitDefEqProofs only [push_cast, sevalprocAttr, eq_self], ((hX.ext (by repeat (first | exact Ext.refl _ | refine Ext.tick ?_))).putL _ hLF hLr hLd hLo).tick, ((hS.ext (by repeat (first | exact Ext.refl _ | refine Ext.tick ?_))).putL hLe _).tick, hLo, by simp -implicitDefEqProofs only [push_cast, sevalprocAttr, eq_self], by simp -implicitDefEqProofs only [push_cast, sevalprocAttr, eq_self]; omega⟩
      · have h9 : ¬ 0 ≤ dS l[i] := by simpa using ‹decide (0 ≤ dS l[i]) = false›
        have hp : qN (yY l (i + 1)) = qN (yY l i) := by
          unfold qN
          apply List.map_congr_left
          intro r _
          simp only [yY, ← qD hj]
          rw [if_neg (fun h => h9 h.1)]
        refine ⟨l.length - (i + 1), by omega, i + 1, _, by omega, rfl, by simp -implicitDefEqProofs only [push_cast, sevalprocAttr, eq_self, e0], by simp -implicitDefEqProofs only [push_cast, sevalprocAttr, eq_self, e2], by simp -implicitDefEqProofs only [push_cast, sevalprocAttr, eq_self, e9], by simp -implicitDefEqProofs only [push_cast, sevalprocAttr, eq_self], hX.ext (by repeat (first | exact Ext.refl _ | refine Ext.tick ?_ | refine Ext.push ?_ (by omega) _ | refine Ext.put ?_ (by omega) _)), hS.ext (by repeat (first | exact Ext.refl _ | refine Ext.tick ?_ | refine Ext.push ?_ (by omega) _ | refine Ext.put ?_ (by omega) _)), hLo, by simp -implicitDefEqProofs only [push_cast, sevalprocAttr, eq_self, hL, hp], by simp -implicitDefEqProofs only [push_cast, sevalprocAttr, eq_self]; omega⟩
  · have hdj : decide ((j : Int) < (l.length : Int)) = false := by simp; omega
    repeat' (first | ((try clear hf); with_reducible refine zM fun env K hE hK hf => ?_; have n : _ ∧ _ ∧ _ ∧ _ ∧ _ ∧ _ ∧ _ ∧ _ ∧ _ ∧ _ := ⟨hE 0, hE 2, hE 3, hE 4, hE 9, hE 10, hE 11, hE 13, hE 14, hE 15⟩; simp -implicitDefEqProofs only [push_cast, reduceIte, Nat.reduceEqDiff, e0, e2, e3, e4, e9, e10, e11, e13, e14, e15] at n; clear hE e0 e2 e3 e4 e9 e10 e11 e13 e14 e15; obtain ⟨e0, e2, e3, e4, e9, e10, e11, e13, e14, e15⟩ := n) | (with_reducible refine hK _ _ ?_; clear hK K) | (with_reducible first | refine zJ ?_ | refine zU ?_ | refine zB ?_ | refine zG ?_ | refine zE ?_ | refine zL ?_ | refine zT ?_ | refine zD ?_ | refine zH ?_ | refine zV ?_ | refine zF ?_ | refine zA (by decide) ?_ | refine zP ?_ | refine zO ?_ | refine zK ?_ | refine yB ?_ | refine yC ?_ | refine zW (by assumption) ?_ | refine zY (by assumption) ?_) | (refine zI rfl ?_) | (simp -implicitDefEqProofs only [push_cast, sevalprocAttr, eq_self, e0, e2, e3, e4, e9, e10, e11, e13, e14, e15, hdj]) | (simp -implicitDefEqProofs (disch := omega) only [zR, zZ, zS, zQ, e0, e2, e3, e4, e9, e10, e11, e13, e14, e15, hdj]) | (with_reducible refine yE ?_ ?_) | (refine zN rfl (fun bb => ?_) (fun bb => ?_) <;> simp only [bb]) | (with_reducible refine zX (fun bb => ?_) (fun bb => ?_)) | ((with_reducible refine And.intro ?_ ?_); omega) | fail)
    obtain rfl : j = l.length := by omega
    exact ⟨out, hX.ext (Ext.refl h).tick, hS.ext (Ext.refl h).tick⟩
end Go.Proofs.Hx

set_option linter.unusedVariables false
set_option linter.unusedSimpArgs false
namespace Go.Proofs.Hx
open Go Go.Proofs
attribute [local irreducible] yM awp opK goV goM yV yZ qF yQ HV HVF HC
/-- The finder while it is made: reads and d as they stand. -/
def finW (l : List Opn) (t : Tab) (a b : AV) : List AV := .row (l.map opC) :: (tabC t ++ [a, b, .nil])
theorem finW_14 (l : List Opn) (t : Tab) (a b : AV) : (finW l t a b)[14]? = some a := rfl
theorem finW_15 (l : List Opn) (t : Tab) (a b : AV) : (finW l t a b)[15]? = some b := rfl
theorem finW_put14 (l : List Opn) (t : Tab) (a b v : AV) : (finW l t a b).take 14 ++ [v] ++ (finW l t a b).drop (14 + 1) = finW l t v b := rfl
theorem finW_put15 (l : List Opn) (t : Tab) (a b v : AV) : (finW l t a b).take 15 ++ [v] ++ (finW l t a b).drop (15 + 1) = finW l t a v := rfl
theorem finW_len (l : List Opn) (t : Tab) (a b : AV) : (finW l t a b).length = 17 := rfl
attribute [push_cast] finW_14 finW_15 finW_put14 finW_put15 finW_len
theorem Ext.kill {h g : Hp} (e : Ext h g) {a b : Nat} (hid : h.ep < a) : Ext h (g.kill (a, b)) :=
  ⟨e.1, fun x hx => by rw [kill_ne _ _ _ (fun e' => by rw [e'] at hx; simp at hx; omega)]; exact e.2 x hx⟩
structure FinW (h0 h : Hp) (F : Id) (l : List Opn) (t : Tab) (j : Nat) (a b : AV) : Prop where
  fin : h.hp F = some ⟨true, finW l t a b⟩
  st : (j = 0 ∧ a = .nil ∧ b = .nil) ∨ ∃ re rs de ds : Nat, a = .sl (re, rs) 0 j 1 ∧ b = .sl (de, ds) 0 j 1 ∧ h.hp (re, rs) = some ⟨true, (l.take j).flatMap regRow⟩ ∧ h.hp (de, ds) = some ⟨true, (l.take j).flatMap dRow⟩ ∧
    re ≤ h.ep ∧ de ≤ h.ep ∧ (re, rs) ≠ F ∧ (de, ds) ≠ F ∧ (re, rs) ≠ (de, ds) ∧ h0.ep < re ∧ h0.ep < de
  eF : F.1 ≤ h.ep
  lF : h0.ep < F.1
  ex : Ext h0 h
def I65 (h0 : Hp) (F : Id) (l : List Opn) (t : Tab) (n : Nat) (σ : St) : Prop := ∃ (j : Nat) (a b : AV), j ≤ l.length ∧ n = l.length - j ∧ σ.env 0 = .row (l.map opC) ∧ σ.env 5 = .ptr F 0 ∧ σ.env 14 = i64 l.length ∧ σ.env 15 = i64 j ∧ FinW h0 σ.h F l t j a b
set_option maxHeartbeats 1000000 in
theorem f65 {h0 : Hp} {l : List Opn} {t : Tab} (hl : ∀ o ∈ l, o.ok) (hn : l.length ≤ 1024) :
    HC Try.prog 65 [.row (l.map opC), .agg (tabC t)] h0 fun r h' => ∃ F a b, r = .ptr F 0 ∧ FinW h0 h' F l t l.length a b := by
  refine HC_of_awp yL cf65 (by simp) fun hF => ?_
  unfold ac65 re65
  refine yF fun env hE => ?_; have e0 := hE 0; have e1 := hE 1; have e3 := hE 3; have e4 := hE 4; have e5 := hE 5; have e6 := hE 6; have e7 := hE 7; have e8 := hE 8; have e14 := hE 14; have e15 := hE 15; have e16 := hE 16; simp -implicitDefEqProofs only [push_cast] at e0 e1 e3 e4 e5 e6 e7 e8 e14 e15 e16; clear hE
  repeat' (first | ((try clear hf); with_reducible refine zM fun env K hE hK hf => ?_; have n : _ ∧ _ ∧ _ ∧ _ ∧ _ ∧ _ ∧ _ ∧ _ ∧ _ ∧ _ ∧ _ := ⟨hE 0, hE 1, hE 3, hE 4, hE 5, hE 6, hE 7, hE 8, hE 14, hE 15, hE 16⟩; simp -implicitDefEqProofs only [push_cast, reduceIte, Nat.reduceEqDiff, e0, e1, e3, e4, e5, e6, e7, e8, e14, e15, e16] at n; clear hE e0 e1 e3 e4 e5 e6 e7 e8 e14 e15 e16; obtain ⟨e0, e1, e3, e4, e5, e6, e7, e8, e14, e15, e16⟩ := n) | (with_reducible refine hK _ _ ?_; clear hK K) | (with_reducible first | refine zJ ?_ | refine zU ?_ | refine zB ?_ | refine zG ?_ | refine zE ?_ | refine zL ?_ | refine zT ?_ | refine zD ?_ | refine zH ?_ | refine zV ?_ | refine zF ?_ | refine zA (by decide) ?_ | refine zP ?_ | refine zO ?_ | refine zK ?_ | refine yB ?_ | refine yC ?_ | refine zW (by assumption) ?_ | refine zY (by assumption) ?_) | (refine zI rfl ?_) | (simp -implicitDefEqProofs only [push_cast, sevalprocAttr, eq_self, e0, e1, e3, e4, e5, e6, e7, e8, e14, e15, e16, hF.at, yK]) | (simp -implicitDefEqProofs (disch := omega) only [zR, zZ, zS, zQ, e0, e1, e3, e4, e5, e6, e7, e8, e14, e15, e16, hF.at, yK]) | (with_reducible refine yE ?_ ?_) | (refine zN rfl (fun bb => ?_) (fun bb => ?_) <;> simp only [bb]) | (with_reducible refine zX (fun bb => ?_) (fun bb => ?_)) | ((with_reducible refine And.intro ?_ ?_); omega) | fail)
  generalize hF0 : (h0.ep + 1 + 1 + 1, 12) = F
  have hFl : h0.ep < F.1 := by rw [← hF0]; show h0.ep < h0.ep + 1 + 1 + 1; omega
  refine yN (I65 h0 F l t) l.length ⟨0, .nil, .nil, by omega, by omega, by simp -implicitDefEqProofs only [push_cast, sevalprocAttr, eq_self, e0], by simp -implicitDefEqProofs only [push_cast, sevalprocAttr, eq_self, e5, hF0], by simp -implicitDefEqProofs only [push_cast, sevalprocAttr, eq_self], by simp -implicitDefEqProofs only [push_cast, sevalprocAttr, eq_self], ⟨?_, .inl ⟨rfl, rfl, rfl⟩, ?_, hFl, ?_⟩⟩ ?_
  · rw [← hF0]; simp -implicitDefEqProofs only [push_cast, sevalprocAttr, eq_self]; rfl
  · rw [← hF0]; show h0.ep + 1 + 1 + 1 ≤ _; simp -implicitDefEqProofs only [push_cast, sevalprocAttr, eq_self]; omega
  · rw [← hF0]; exact (by repeat (first | exact Ext.refl _ | refine Ext.tick ?_ | refine Ext.push ?_ (by omega) _ | refine Ext.put ?_ (by omega) _))
  obtain ⟨Fe, Fs⟩ := F
  simp only at hFl
  clear hF hF0
  rintro n ⟨env, h⟩ ⟨j, a, b, hj', rfl, e0, e5, e14, e15, ⟨hb, hst, hFe, hlF, hex⟩⟩
  simp only at e0 e5 e14 e15 hb hst hFe hlF hex
  have e1 : True := trivial; have e3 : True := trivial; have e4 : True := trivial; have e6 : True := trivial; have e7 : True := trivial; have e8 : True := trivial; have e16 : True := trivial
  unfold l65_0
  refine yI fun hF => ?_
  by_cases hj : j < l.length
  · have hd : decide ((j : Int) < (l.length : Int)) = true := by simp; omega
    have ho := hl _ (List.getElem_mem hj)
    have hw : IntKind.i64.wrap (wrS l[j]).1 = (wrS l[j]).1 := by
      have h := ho
      unfold Opn.ok at h
      apply wrap64 <;> (unfold wrS; split <;> simp <;> omega)
    have htk : ∀ f : Opn → List AV, (l.take (j + 1)).flatMap f = (l.take j).flatMap f ++ f l[j] := fun f => by
      rw [List.take_succ_eq_append_getElem hj, List.flatMap_append]
      simp
    rcases hst with ⟨hj0, rfl, rfl⟩ | ⟨re, rs, de, ds, rfl, rfl, h1, h2, g1, g2, g3, g4, g5, g6, g7⟩
    · have hA : ∀ (h' : Hp) (id' : Id) (x : List AV), appV h' id' 1 24 1 x .nil = some (.sl id' 0 1 1, h'.push id' x) := fun h' id' x => appV_nil _ _ (by decide) (by decide)
      have hA2 : ∀ (h' : Hp) (id' : Id) (x : List AV), appV h' id' 1 8 1 x .nil = some (.sl id' 0 1 1, h'.push id' x) := fun h' id' x => appV_nil _ _ (by decide) (by decide)
      repeat' (first | ((try clear hf); with_reducible refine zM fun env K hE hK hf => ?_; have n : _ ∧ _ ∧ _ ∧ _ ∧ _ ∧ _ ∧ _ ∧ _ ∧ _ ∧ _ ∧ _ := ⟨hE 0, hE 1, hE 3, hE 4, hE 5, hE 6, hE 7, hE 8, hE 14, hE 15, hE 16⟩; simp -implicitDefEqProofs only [push_cast, reduceIte, Nat.reduceEqDiff, e0, e1, e3, e4, e5, e6, e7, e8, e14, e15, e16] at n; clear hE e0 e1 e3 e4 e5 e6 e7 e8 e14 e15 e16; obtain ⟨e0, e1, e3, e4, e5, e6, e7, e8, e14, e15, e16⟩ := n) | (with_reducible refine hK _ _ ?_; clear hK K) | (with_reducible first | refine zJ ?_ | refine zU ?_ | refine zB ?_ | refine zG ?_ | refine zE ?_ | refine zL ?_ | refine zT ?_ | refine zD ?_ | refine zH ?_ | refine zV ?_ | refine zF ?_ | refine zA (by decide) ?_ | refine zP ?_ | refine zO ?_ | refine zK ?_ | refine yB ?_ | refine yC ?_ | refine zW (by assumption) ?_ | refine zY (by assumption) ?_) | (refine zI rfl ?_) | (simp -implicitDefEqProofs only [push_cast, sevalprocAttr, eq_self, e0, e1, e3, e4, e5, e6, e7, e8, e14, e15, e16, hd, hF.at, hb, hA, hA2, yP, qJ hj]) | (simp -implicitDefEqProofs (disch := omega) only [zR, zZ, zS, zQ, e0, e1, e3, e4, e5, e6, e7, e8, e14, e15, e16, hd, hF.at, hb, hA, hA2, yP, qJ hj]) | (with_reducible refine yE ?_ ?_) | (refine zN rfl (fun bb => ?_) (fun bb => ?_) <;> simp only [bb]) | (with_reducible refine zX (fun bb => ?_) (fun bb => ?_)) | ((with_reducible refine And.intro ?_ ?_); omega) | (refine call_ownq (qS rfl) (f54 l[j] ho) ?_) | (refine yD (f52 l[j] ho) ?_) | fail)
      all_goals
        subst hj0
        refine ⟨l.length - (0 + 1), by omega, 0 + 1, .sl (h.ep + 1 + 1 + 1, 29) 0 (0 + 1) 1, .sl (h.ep + 1 + 1 + 1 + 1 + 1 + 1, 46) 0 (0 + 1) 1, by omega, rfl, by simp -implicitDefEqProofs only [push_cast, sevalprocAttr, eq_self, e0], by simp -implicitDefEqProofs only [push_cast, sevalprocAttr, eq_self, e5], by simp -implicitDefEqProofs only [push_cast, sevalprocAttr, eq_self, e14], by simp -implicitDefEqProofs only [push_cast, sevalprocAttr, eq_self], ⟨?_, .inr ⟨_, _, _, _, rfl, rfl, ?_, ?_, ?_, ?_, ?_, ?_, ?_, by omega, by omega⟩, ?_, hlF, (by repeat (first | assumption | refine Ext.tick ?_ | refine Ext.push ?_ (by omega) _ | refine Ext.put ?_ (by omega) _))⟩⟩
        · simp -implicitDefEqProofs (disch := first | decide | omega) only [tick_hp, push_self, put_self, zR, zZ, push_slot, put_slot]
        · simp -implicitDefEqProofs (disch := first | decide | omega) only [tick_hp, push_self, put_self, zR, zZ, push_slot, put_slot]
          rw [htk]
          rfl
        · simp -implicitDefEqProofs (disch := first | decide | omega) only [tick_hp, push_self, put_self, zR, zZ, push_slot, put_slot]
          rw [htk]
          simp [dRow, bb, hw]
        · simp -implicitDefEqProofs only [push_cast, sevalprocAttr, eq_self]; omega
        · simp -implicitDefEqProofs only [push_cast, sevalprocAttr, eq_self]; omega
        · intro e; have := congrArg Prod.fst e; simp at this; omega
        · intro e; have := congrArg Prod.fst e; simp at this; omega
        · intro e; have := congrArg Prod.fst e; simp at this
        · simp -implicitDefEqProofs only [push_cast, sevalprocAttr, eq_self]; omega
    · have hlr : ((l.take j).flatMap regRow).length = j * 1 := by rw [flat1_len (fun _ => rfl)]; simp; omega
      have hld : ((l.take j).flatMap dRow).length = j * 1 := by rw [flat1_len (fun _ => rfl)]; simp; omega
      have htr : ((l.take j).flatMap regRow).take j = (l.take j).flatMap regRow := by rw [List.take_of_length_le (by omega)]
      have htd : ((l.take j).flatMap dRow).take j = (l.take j).flatMap dRow := by rw [List.take_of_length_le (by omega)]
      have hdl : ∀ x, ((l.take j).flatMap dRow ++ [x]).take j = (l.take j).flatMap dRow := fun x => by rw [List.take_append_of_le_length (by omega)]; exact htd
      have k1 : ∀ h' : Hp, (h'.kill (re, rs)).hp (Fe, Fs) = h'.hp (Fe, Fs) := fun h' => kill_ne _ _ _ (Ne.symm g3)
      have k2 : ∀ h' : Hp, (h'.kill (de, ds)).hp (Fe, Fs) = h'.hp (Fe, Fs) := fun h' => kill_ne _ _ _ (Ne.symm g4)
      have k3 : ∀ h' : Hp, (h'.kill (re, rs)).hp (de, ds) = h'.hp (de, ds) := fun h' => kill_ne _ _ _ (Ne.symm g5)
      have hle : j + 1 ≤ ((l.take j).flatMap dRow ++ [AV.lit (.int .i64 (-1))]).length := by simp only [List.length_append, hld, List.length_cons, List.length_nil]; omega
      have hdd : ∀ x, ((l.take j).flatMap dRow ++ [x]).drop (j + 1) = [] := fun x => List.drop_eq_nil_of_le (by simp only [List.length_append, hld, List.length_cons, List.length_nil]; omega)
      have k4 : ∀ (h' : Hp) (c : List AV), (h'.put (Fe, Fs) c).hp (de, ds) = h'.hp (de, ds) := fun h' c => put_ne _ _ _ _ g4
      repeat' (first | ((try clear hf); with_reducible refine zM fun env K hE hK hf => ?_; have n : _ ∧ _ ∧ _ ∧ _ ∧ _ ∧ _ ∧ _ ∧ _ ∧ _ ∧ _ ∧ _ := ⟨hE 0, hE 1, hE 3, hE 4, hE 5, hE 6, hE 7, hE 8, hE 14, hE 15, hE 16⟩; simp -implicitDefEqProofs only [push_cast, reduceIte, Nat.reduceEqDiff, e0, e1, e3, e4, e5, e6, e7, e8, e14, e15, e16] at n; clear hE e0 e1 e3 e4 e5 e6 e7 e8 e14 e15 e16; obtain ⟨e0, e1, e3, e4, e5, e6, e7, e8, e14, e15, e16⟩ := n) | (with_reducible refine hK _ _ ?_; clear hK K) | (with_reducible first | refine zJ ?_ | refine zU ?_ | refine zB ?_ | refine zG ?_ | refine zE ?_ | refine zL ?_ | refine zT ?_ | refine zD ?_ | refine zH ?_ | refine zV ?_ | refine zF ?_ | refine zA (by decide) ?_ | refine zP ?_ | refine zO ?_ | refine zK ?_ | refine yB ?_ | refine yC ?_ | refine zW (by assumption) ?_ | refine zY (by assumption) ?_) | (refine zI rfl ?_) | (simp -implicitDefEqProofs only [push_cast, sevalprocAttr, eq_self, e0, e1, e3, e4, e5, e6, e7, e8, e14, e15, e16, hd, hF.at, hb, h1, h2, appV_sl_eq, yP, qJ hj, htr, htd, hdl, hdd, List.append_nil, k1, k2, k3, k4]) | (simp -implicitDefEqProofs (disch := omega) only [zR, zZ, zS, zQ, e0, e1, e3, e4, e5, e6, e7, e8, e14, e15, e16, hd, hF.at, hb, h1, h2, appV_sl_eq, yP, qJ hj, htr, htd, hdl, hdd, List.append_nil, k1, k2, k3, k4]) | (with_reducible refine yE ?_ ?_) | (refine zN rfl (fun bb => ?_) (fun bb => ?_) <;> simp only [bb]) | (with_reducible refine zX (fun bb => ?_) (fun bb => ?_)) | ((with_reducible refine And.intro ?_ ?_); omega) | (refine call_ownq (qS rfl) (f54 l[j] ho) ?_) | (refine yD (f52 l[j] ho) ?_) | fail)
      all_goals
        refine ⟨l.length - (j + 1), by omega, j + 1, .sl (h.ep + 1 + 1 + 1, 29) 0 (j + 1) 1, .sl (h.ep + 1 + 1 + 1 + 1 + 1 + 1, 46) 0 (j + 1) 1, by omega, rfl, by simp -implicitDefEqProofs only [push_cast, sevalprocAttr, eq_self, e0], by simp -implicitDefEqProofs only [push_cast, sevalprocAttr, eq_self, e5], by simp -implicitDefEqProofs only [push_cast, sevalprocAttr, eq_self, e14], by simp -implicitDefEqProofs only [push_cast, sevalprocAttr, eq_self], ⟨?_, .inr ⟨_, _, _, _, rfl, rfl, ?_, ?_, ?_, ?_, ?_, ?_, ?_, by omega, by omega⟩, ?_, hlF, (by repeat (first | assumption | refine Ext.tick ?_ | refine Ext.push ?_ (by omega) _ | refine Ext.put ?_ (by omega) _ | refine Ext.kill ?_ (by omega)))⟩⟩
        · simp -implicitDefEqProofs (disch := first | decide | omega) only [tick_hp, push_self, put_self, zR, zZ, push_slot, put_slot, zS, k1, k2, k3, k4]
        · simp -implicitDefEqProofs (disch := first | decide | omega) only [tick_hp, push_self, put_self, zR, zZ, push_slot, put_slot, zS, k1, k2, k3, k4]
          rw [htk]
          rfl
        · simp -implicitDefEqProofs (disch := first | decide | omega) only [tick_hp, push_self, put_self, zR, zZ, push_slot, put_slot, zS, k1, k2, k3, k4]
          rw [htk]
          simp [dRow, bb, hw]
        · simp -implicitDefEqProofs only [push_cast, sevalprocAttr, eq_self]; omega
        · simp -implicitDefEqProofs only [push_cast, sevalprocAttr, eq_self]; omega
        · intro e; have := congrArg Prod.fst e; simp at this; omega
        · intro e; have := congrArg Prod.fst e; simp at this; omega
        · intro e; have := congrArg Prod.fst e; simp at this
        · simp -implicitDefEqProofs only [push_cast, sevalprocAttr, eq_self]; omega
  · have hd : decide ((j : Int) < (l.length : Int)) = false := by simp; omega
    repeat' (first | ((try clear hf); with_reducible refine zM fun env K hE hK hf => ?_; have n : _ ∧ _ ∧ _ ∧ _ ∧ _ ∧ _ ∧ _ ∧ _ ∧ _ ∧ _ ∧ _ := ⟨hE 0, hE 1, hE 3, hE 4, hE 5, hE 6, hE 7, hE 8, hE 14, hE 15, hE 16⟩; simp -implicitDefEqProofs only [push_cast, reduceIte, Nat.reduceEqDiff, e0, e1, e3, e4, e5, e6, e7, e8, e14, e15, e16] at n; clear hE e0 e1 e3 e4 e5 e6 e7 e8 e14 e15 e16; obtain ⟨e0, e1, e3, e4, e5, e6, e7, e8, e14, e15, e16⟩ := n) | (with_reducible refine hK _ _ ?_; clear hK K) | (with_reducible first | refine zJ ?_ | refine zU ?_ | refine zB ?_ | refine zG ?_ | refine zE ?_ | refine zL ?_ | refine zT ?_ | refine zD ?_ | refine zH ?_ | refine zV ?_ | refine zF ?_ | refine zA (by decide) ?_ | refine zP ?_ | refine zO ?_ | refine zK ?_ | refine yB ?_ | refine yC ?_ | refine zW (by assumption) ?_ | refine zY (by assumption) ?_) | (refine zI rfl ?_) | (simp -implicitDefEqProofs only [push_cast, sevalprocAttr, eq_self, e0, e1, e3, e4, e5, e6, e7, e8, e14, e15, e16, hd]) | (simp -implicitDefEqProofs (disch := omega) only [zR, zZ, zS, zQ, e0, e1, e3, e4, e5, e6, e7, e8, e14, e15, e16, hd]) | (with_reducible refine yE ?_ ?_) | (refine zN rfl (fun bb => ?_) (fun bb => ?_) <;> simp only [bb]) | (with_reducible refine zX (fun bb => ?_) (fun bb => ?_)) | ((with_reducible refine And.intro ?_ ?_); omega) | fail)
    obtain rfl : j = l.length := by omega
    exact ⟨(Fe, Fs), a, b, rfl, hb, hst.imp id fun ⟨re, rs, de, ds, e1, e2, e3, e4, e5, e6, r⟩ => ⟨re, rs, de, ds, e1, e2, e3, e4, by rw [qO, qO]; omega, by rw [qO, qO]; omega, r⟩, by rw [qO, qO]; simp only; omega, hlF, hex.tick.tick⟩
end Go.Proofs.Hx

set_option linter.unusedVariables false
set_option linter.unusedSimpArgs false
namespace Go.Proofs.Hx
open Go Go.Proofs
attribute [local irreducible] yM awp opK goV goM yV yZ qF yQ HV HVF HC
/-- The finder, made. -/
theorem FinW.finH {h0 h : Hp} {F : Id} {l : List Opn} {t : Tab} {a b : AV} (w : FinW h0 h F l t l.length a b) (hp : 0 < l.length) : ∃ rid did, FinH h F l t [] rid did .nil := by
  rcases w.st with ⟨h1, _, _⟩ | ⟨re, rs, de, ds, rfl, rfl, e1, e2, e3, e4, e5, e6, e7, e8, e9⟩
  · omega
  · rw [List.take_length] at e1 e2
    exact ⟨(re, rs), (de, ds), w.fin, e1, e2, .inl ⟨rfl, rfl⟩, w.eF, e3, e4, e5, e6, e7, fun id h => by simp [idOf] at h⟩
theorem call_nf {d : Option Nat} {K : St → Prop} {env : Nat → AV} {g : Hp} {l : List Opn} {t : Tab} (hl : ∀ o ∈ l, o.ok) (hn : l.length ≤ 1024)
    (k : ∀ h' F a b, FinW g h' F l t l.length a b → qQ h' → K ⟨putA env d (.ptr F 0), h'.tick⟩) :
    yV Try.prog d K env g false (.fn 65 []) [.row (l.map opC), .agg (tabC t)] :=
  call_hc (HC.mono (f65 hl hn) fun r h' ⟨F, a, b, hr, w⟩ hf => by rw [hr]; exact k h' F a b w hf)
theorem call_once {d : Option Nat} {K : St → Prop} {env : Nat → AV} {g : Hp} {F : Id} {l : List Opn} {t : Tab} {rid did : Id} (hX : FinH g F l t [] rid did .nil) (hl : ∀ o ∈ l, o.ok) (ht : qM t) (hn : l.length ≤ 1024)
    (k : ∀ h' out', FinH h' F l t (onceE l t l.length) rid did out' → qQ h' → FS g F .nil h' out' → K ⟨putA env d (.tup []), h'.tick⟩) :
    yV Try.prog d K env g false (.fn 66 []) [.ptr F 0] :=
  call_hc (HC.mono (f66 hX (fun x h => by simp [idOf] at h) hl ht hn) fun r h' ⟨hr, out', h1, h2⟩ hf => by rw [hr]; exact k h' out' h1 hf h2)
theorem Ext.tr {h g k : Hp} (a : Ext h g) (b : Ext g k) : Ext h k := ⟨Nat.le_trans a.1 b.1, fun x hx => (b.2 x (Nat.le_trans hx a.1)).trans (a.2 x hx)⟩
theorem Ext.le {h g : Hp} (a : Ext h g) : h.ep ≤ g.ep := a.1
end Go.Proofs.Hx

set_option linter.unusedVariables false
set_option linter.unusedSimpArgs false
namespace Go.Proofs.Hx
open Go Go.Proofs
attribute [local irreducible] yM awp opK goV goM yV yZ qF yQ HV HVF HC
/-- once over no operation. -/
theorem f66'n {h0 : Hp} {F : Id} {t : Tab} {a b : AV} (hb : h0.hp F = some ⟨true, finW [] t a b⟩) (hFe : F.1 ≤ h0.ep) :
    HC Try.prog 66 [.ptr F 0] h0 fun r h' => r = .tup [] ∧ Ext h0 h' := by
  refine HC_of_awp yL cf66 (by simp) fun hF => ?_
  unfold ac66 re66
  refine yF fun env hE => ?_; have e0 := hE 0; have e2 := hE 2; have e3 := hE 3; have e4 := hE 4; have e9 := hE 9; have e10 := hE 10; have e11 := hE 11; have e13 := hE 13; have e14 := hE 14; have e15 := hE 15; simp -implicitDefEqProofs only [push_cast] at e0 e2 e3 e4 e9 e10 e11 e13 e14 e15; clear hE
  obtain ⟨Fe, Fs⟩ := F
  have h00 : (finW [] t a b)[0]? = some (.row []) := rfl
  have h01 : lenV (.row []) = some (.lit (.int .i64 0)) := rfl
  repeat' (first | ((try clear hf); with_reducible refine zM fun env K hE hK hf => ?_; have n : _ ∧ _ ∧ _ ∧ _ ∧ _ ∧ _ ∧ _ ∧ _ ∧ _ ∧ _ := ⟨hE 0, hE 2, hE 3, hE 4, hE 9, hE 10, hE 11, hE 13, hE 14, hE 15⟩; simp -implicitDefEqProofs only [push_cast, reduceIte, Nat.reduceEqDiff, e0, e2, e3, e4, e9, e10, e11, e13, e14, e15] at n; clear hE e0 e2 e3 e4 e9 e10 e11 e13 e14 e15; obtain ⟨e0, e2, e3, e4, e9, e10, e11, e13, e14, e15⟩ := n) | (with_reducible refine hK _ _ ?_; clear hK K) | (with_reducible first | refine zJ ?_ | refine zU ?_ | refine zB ?_ | refine zG ?_ | refine zE ?_ | refine zL ?_ | refine zT ?_ | refine zD ?_ | refine zH ?_ | refine zV ?_ | refine zF ?_ | refine zA (by decide) ?_ | refine zP ?_ | refine zO ?_ | refine zK ?_ | refine yB ?_ | refine yC ?_ | refine zW (by assumption) ?_ | refine zY (by assumption) ?_) | (refine zI rfl ?_) | (simp -implicitDefEqProofs only [push_cast, sevalprocAttr, eq_self, e0, e2, e3, e4, e9, e10, e11, e13, e14, e15, hb, hF.at, h00, h01]) | (simp -implicitDefEqProofs (disch := omega) only [zR, zZ, zS, zQ, e0, e2, e3, e4, e9, e10, e11, e13, e14, e15, hb, hF.at, h00, h01]) | (with_reducible refine yE ?_ ?_) | (refine zN rfl (fun bb => ?_) (fun bb => ?_) <;> simp only [bb]) | (with_reducible refine zX (fun bb => ?_) (fun bb => ?_)) | ((with_reducible refine And.intro ?_ ?_); omega) | fail)
  refine yN (fun n σ => σ.env 9 = i64 0 ∧ σ.env 10 = i64 0 ∧ Ext h0 σ.h) 0 ⟨by simp -implicitDefEqProofs only [push_cast, sevalprocAttr, eq_self], by simp -implicitDefEqProofs only [push_cast, sevalprocAttr, eq_self], (by repeat (first | exact Ext.refl _ | assumption | refine Ext.tick ?_ | refine Ext.push ?_ (by omega) _ | refine Ext.put ?_ (by omega) _))⟩ ?_
  rintro n ⟨env, h⟩ ⟨e9, e10, hE⟩
  simp only at e9 e10 hE
  have e0 : True := trivial; have e2 : True := trivial; have e3 : True := trivial; have e4 : True := trivial; have e11 : True := trivial; have e13 : True := trivial; have e14 : True := trivial; have e15 : True := trivial
  unfold l66_1
  refine yI fun hF => ?_
  repeat' (first | ((try clear hf); with_reducible refine zM fun env K hE hK hf => ?_; have n : _ ∧ _ ∧ _ ∧ _ ∧ _ ∧ _ ∧ _ ∧ _ ∧ _ ∧ _ := ⟨hE 0, hE 2, hE 3, hE 4, hE 9, hE 10, hE 11, hE 13, hE 14, hE 15⟩; simp -implicitDefEqProofs only [push_cast, reduceIte, Nat.reduceEqDiff, e0, e2, e3, e4, e9, e10, e11, e13, e14, e15] at n; clear hE e0 e2 e3 e4 e9 e10 e11 e13 e14 e15; obtain ⟨e0, e2, e3, e4, e9, e10, e11, e13, e14, e15⟩ := n) | (with_reducible refine hK _ _ ?_; clear hK K) | (with_reducible first | refine zJ ?_ | refine zU ?_ | refine zB ?_ | refine zG ?_ | refine zE ?_ | refine zL ?_ | refine zT ?_ | refine zD ?_ | refine zH ?_ | refine zV ?_ | refine zF ?_ | refine zA (by decide) ?_ | refine zP ?_ | refine zO ?_ | refine zK ?_ | refine yB ?_ | refine yC ?_ | refine zW (by assumption) ?_ | refine zY (by assumption) ?_) | (refine zI rfl ?_) | (simp -implicitDefEqProofs only [push_cast, sevalprocAttr, eq_self, e0, e2, e3, e4, e9, e10, e11, e13, e14, e15]) | (simp -implicitDefEqProofs (disch := omega) only [zR, zZ, zS, zQ, e0, e2, e3, e4, e9, e10, e11, e13, e14, e15]) | (with_reducible refine yE ?_ ?_) | (refine zN rfl (fun bb => ?_) (fun bb => ?_) <;> simp only [bb]) | (with_reducible refine zX (fun bb => ?_) (fun bb => ?_)) | ((with_reducible refine And.intro ?_ ?_); omega) | fail)
  exact (show Ext h0 _ from (by repeat (first | exact Ext.refl _ | assumption | refine Ext.tick ?_ | refine Ext.push ?_ (by omega) _ | refine Ext.put ?_ (by omega) _)))
theorem errR_ok {l : List Opn} {t : Tab} (h : errR l t = 0) : qM t ∧ l.length ≤ 1024 ∧ ∀ o ∈ l, opOK o := by
  unfold errR tabE at h
  by_cases h1 : qM t
  · by_cases h2 : 1024 < l.length
    · simp [h1, h2] at h
    · by_cases h3 : ∀ o ∈ l, opOK o
      · exact ⟨h1, by omega, h3⟩
      · simp only [if_pos h1, if_neg h2, if_neg h3] at h; simp at h
  · simp [h1] at h
end Go.Proofs.Hx

set_option linter.unusedVariables false
set_option linter.unusedSimpArgs false
namespace Go.Proofs.Hx
open Go Go.Proofs
/-! ### Slices that grow, whatever they lie in -/
def killA (h : Hp) (a : AV) : Hp := match idOf a with | some t => h.kill t | none => h
theorem killA_ep (h : Hp) (a : AV) : (killA h a).ep = h.ep := by unfold killA; split <;> rfl
theorem killA_ne (h : Hp) (a : AV) {x : Id} (hx : idOf a ≠ some x) : (killA h a).hp x = h.hp x := by
  unfold killA
  split
  · rename_i t e
    exact kill_ne _ _ _ (fun e' => hx (by rw [e, e']))
  · rfl
theorem Ext.killA {h g : Hp} (e : Ext h g) {a : AV} (ha : ∀ x, idOf a = some x → h.ep < x.1) : Ext h (Hx.killA g a) :=
  ⟨by rw [killA_ep]; exact e.1, fun x hx => by rw [killA_ne _ _ (fun e' => by have := ha x e'; omega)]; exact e.2 x hx⟩
/-- A slice of 'es', each with cells of its own. -/
structure SlO {α : Type} (f : α → List AV) (sz : Nat) (h : Hp) (a : AV) (es : List α) : Prop where
  st : (a = .nil ∧ es = []) ∨ (∃ id, a = .sl id 0 es.length sz ∧ h.hp id = some ⟨true, es.flatMap f⟩ ∧ id.1 ≤ h.ep)
theorem SlO.nil {α : Type} (f : α → List AV) (sz : Nat) (h : Hp) : SlO f sz h .nil [] := ⟨.inl ⟨rfl, rfl⟩⟩
theorem SlO.ext {α : Type} {f : α → List AV} {sz : Nat} {h g : Hp} {a : AV} {es : List α} (s : SlO f sz h a es) (he : Ext h g) : SlO f sz g a es := by
  rcases s.st with h1 | ⟨id, h1, h2, h3⟩
  · exact ⟨.inl h1⟩
  · exact ⟨.inr ⟨id, h1, (he.2 id h3).trans h2, Nat.le_trans h3 he.1⟩⟩
theorem SlO.len {α : Type} {f : α → List AV} {sz : Nat} {h : Hp} {a : AV} {es : List α} (s : SlO f sz h a es) : lenV a = some (i64 es.length) := by
  rcases s.st with ⟨rfl, rfl⟩ | ⟨id, rfl, h2, h3⟩
  · exact lenV_nil
  · exact lenV_sl _ _ _ _
theorem SlO.id_le {α : Type} {f : α → List AV} {sz : Nat} {h : Hp} {a : AV} {es : List α} (s : SlO f sz h a es) {x : Id} (hx : idOf a = some x) : x.1 ≤ h.ep := by
  rcases s.st with ⟨rfl, rfl⟩ | ⟨id, rfl, h2, h3⟩
  · simp [idOf] at hx
  · simp [idOf] at hx; subst hx; exact h3
/-- The same, where the slice has not been touched. -/
theorem SlO.keep {α : Type} {f : α → List AV} {sz : Nat} {h g : Hp} {a : AV} {es : List α} (s : SlO f sz h a es) (hk : ∀ x, idOf a = some x → g.hp x = h.hp x) (he : h.ep ≤ g.ep) : SlO f sz g a es := by
  rcases s.st with h1 | ⟨id, h1, h2, h3⟩
  · exact ⟨.inl h1⟩
  · exact ⟨.inr ⟨id, h1, (hk id (by rw [h1]; rfl)).trans h2, Nat.le_trans h3 he⟩⟩
/-- It has memory, where there is an element. -/
theorem SlO.blk {α : Type} {f : α → List AV} {sz : Nat} {h : Hp} {a : AV} {es : List α} (s : SlO f sz h a es) (hp : 0 < es.length) : ∃ e n, a = .sl (e, n) 0 es.length sz ∧ h.hp (e, n) = some ⟨true, es.flatMap f⟩ ∧ e ≤ h.ep := by
  rcases s.st with ⟨rfl, rfl⟩ | ⟨⟨e, n⟩, h1, h2, h3⟩
  · simp at hp
  · exact ⟨e, n, h1, h2, h3⟩
theorem flat_len {α : Type} {f : α → List AV} {sz : Nat} (hf : ∀ a, (f a).length = sz) (l : List α) : (l.flatMap f).length = l.length * sz := by
  induction l with
  | nil => simp
  | cons a l ih => rw [List.flatMap_cons, List.length_append, hf, ih, List.length_cons, Nat.add_mul]; omega
theorem SlO.app {α : Type} {f : α → List AV} {sz : Nat} {h : Hp} {a : AV} {es : List α} (s : SlO f sz h a es) (hf : ∀ a, (f a).length = sz) {bytes n : Nat} {new : List AV} (id : Id) (hn : n ≠ 0) (ho : new.all one = true)
    (hb : (es.length + n + (es.length + n) / 4 + 512) * bytes ≤ 281474976710656) : appV h id sz bytes n new a = some (.sl id 0 (es.length + n) sz, (killA h a).push id (es.flatMap f ++ new)) := by
  rcases s.st with ⟨rfl, rfl⟩ | ⟨t, rfl, h2, h3⟩
  · simp only [List.length_nil, Nat.zero_add] at hb ⊢
    rw [appV_nil _ _ hn (Nat.le_trans (Nat.mul_le_mul_right bytes (by omega)) hb)]
    rfl
  · rw [appV_sl_eq, h2]
    simp only [Option.bind_some]
    rw [if_pos ⟨trivial, trivial, ho, hb⟩, List.drop_zero, ← flat_len hf, List.take_length]
    rfl
theorem OutR.slo {h : Hp} {a : AV} {es : List Edg} (o : OutR h a es) : SlO edC 5 h a es := ⟨o⟩
theorem rep1 (n : Nat) (a : AV) : (List.replicate n [a]).flatten = List.replicate n a := by
  induction n with
  | zero => rfl
  | succ n ih => rw [List.replicate_succ, List.flatten_cons, ih]; rfl
/-! ### Rows of slices -/
structure RowsO {α : Type} (f : α → List AV) (sz : Nat) (h : Hp) (E : Nat) (c : List AV) (fs : Nat → List α) : Prop where
  get : ∀ (i : Nat) (a : AV), c[i]? = some a → SlO f sz h a (fs i) ∧ ∀ x, idOf a = some x → E < x.1
  sep : ∀ (i j : Nat) (a b : AV) (x : Id), c[i]? = some a → c[j]? = some b → i ≠ j → idOf a = some x → idOf b ≠ some x
theorem RowsO.keep {α : Type} {f : α → List AV} {sz : Nat} {h g : Hp} {E : Nat} {c : List AV} {fs : Nat → List α} (r : RowsO f sz h E c fs) (hk : ∀ x, E < x.1 → x.1 ≤ h.ep → g.hp x = h.hp x) (he : h.ep ≤ g.ep) : RowsO f sz g E c fs :=
  ⟨fun i a hi => ⟨(r.get i a hi).1.keep (fun x hx => hk x ((r.get i a hi).2 x hx) ((r.get i a hi).1.id_le hx)) he, (r.get i a hi).2⟩, r.sep⟩
theorem RowsO.ext {α : Type} {f : α → List AV} {sz : Nat} {h g : Hp} {E : Nat} {c : List AV} {fs : Nat → List α} (r : RowsO f sz h E c fs) (he : Ext h g) : RowsO f sz g E c fs := r.keep (fun x _ hx => he.2 x hx) he.1
/-- One of the rows grows. -/
theorem RowsO.app {α : Type} {f : α → List AV} {sz : Nat} {h g : Hp} {E : Nat} {c : List AV} {fs : Nat → List α} (r : RowsO f sz h E c fs) {k : Nat} {a : AV} (hk : c[k]? = some a) {id : Id} (hid : h.ep < id.1) (hE : E ≤ h.ep) (e : α)
    (hg : g.hp id = some ⟨true, (fs k).flatMap f ++ f e⟩) (hi : id.1 ≤ g.ep) (he : h.ep ≤ g.ep) (ho : ∀ x, E < x.1 → x.1 ≤ h.ep → idOf a ≠ some x → g.hp x = h.hp x) :
    RowsO f sz g E (c.set k (.sl id 0 ((fs k).length + 1) sz)) (fun i => if i = k then fs k ++ [e] else fs i) := by
  have hkl : k < c.length := (List.getElem?_eq_some_iff.1 hk).1
  have new : ∀ (i : Nat) (b : AV), (c.set k (.sl id 0 ((fs k).length + 1) sz))[i]? = some b → (i = k ∧ b = .sl id 0 ((fs k).length + 1) sz) ∨ (i ≠ k ∧ c[i]? = some b) := by
    intro i b hb
    rw [List.getElem?_set] at hb
    by_cases e1 : k = i
    · subst e1
      rw [if_pos rfl, if_pos hkl] at hb
      cases hb
      exact .inl ⟨rfl, rfl⟩
    · rw [if_neg e1] at hb
      exact .inr ⟨Ne.symm e1, hb⟩
  refine ⟨fun i b hb => ?_, fun i j b d x hb hd hij hx => ?_⟩
  · rcases new i b hb with ⟨rfl, rfl⟩ | ⟨h1, h2⟩
    · refine ⟨⟨.inr ⟨id, by simp, ?_, hi⟩⟩, fun x hx => by simp [idOf] at hx; subst hx; omega⟩
      rw [hg]
      simp
    · obtain ⟨g1, g2⟩ := r.get i b h2
      refine ⟨?_, g2⟩
      rw [if_neg h1]
      exact g1.keep (fun x hx => ho x (g2 x hx) (g1.id_le hx) (r.sep i k b a x h2 hk h1 hx)) he
  · rcases new i b hb with ⟨rfl, rfl⟩ | ⟨h1, h2⟩ <;> rcases new j d hd with ⟨rfl, rfl⟩ | ⟨h3, h4⟩
    · exact absurd rfl hij
    · simp [idOf] at hx
      subst hx
      intro h
      have := (r.get j d h4).1.id_le h
      omega
    · intro h
      simp [idOf] at h
      subst h
      have := (r.get i b h2).1.id_le hx
      omega
    · exact r.sep i j b d x h2 h4 hij hx
theorem yG {x y : Int} (h : x = y) : (.lit (.int .i64 x) : AV) = i64 y := by rw [h]
theorem yX {P : Program} {l : List zC} {s : List (Nat × Nat)} {b c : ACode} {Q : AEx → St → Prop} {env : Nat → AV} {h : Hp} (k : qQ h → awp P (.seq (.seq (.ops l s) b) c) Q ⟨env, h⟩) : awp P (.seq (.seq (.ops l s) b) c) Q ⟨env, h⟩ := fun hf => k hf hf
theorem yW {P : Program} {l : List zC} {s : List (Nat × Nat)} {b c d : ACode} {Q : AEx → St → Prop} {env : Nat → AV} {h : Hp} (k : qQ h → awp P (.seq (.seq (.seq (.ops l s) b) c) d) Q ⟨env, h⟩) : awp P (.seq (.seq (.seq (.ops l s) b) c) d) Q ⟨env, h⟩ := fun hf => k hf hf
theorem ed_0 (e : Edg) : (edC e)[0]? = some (i64 e.f) := rfl
theorem ed_1 (e : Edg) : (edC e)[1]? = some (i64 e.t) := rfl
theorem ed_2 (e : Edg) : (edC e)[2]? = some (i64 e.l) := rfl
theorem ed_3 (e : Edg) : (edC e)[3]? = some (i64 e.d) := rfl
theorem ed_drop (e : Edg) : (edC e).drop 5 = [] := rfl
attribute [push_cast] yK lenV_sl lenV_nil qR op_0 one_sl ed_0 ed_1 ed_2 ed_3 edC_take edC_len edC_one ed_drop killA_ep
end Go.Proofs.Hx

set_option linter.unusedVariables false
set_option linter.unusedSimpArgs false
namespace Go.Proofs.Hx
open Go Go.Proofs
attribute [local irreducible] yM awp opK goV goM yV yZ qF yQ HV HVF HC
/-! ### The reference's kinds -/
def refA (s : Shp) : List AV := [.lit (.string s.nm), i64 s.cl, bl s.d, bl s.a, bl s.b, bl s.n, bl s.im]
theorem refA_len (s : Shp) : (refA s).length = 7 := rfl
theorem refA_one (s : Shp) : (refA s).all one = true := rfl
theorem refA_1 (s : Shp) : (refA s)[1]? = some (i64 s.cl) := rfl
theorem refA_2 (s : Shp) : (refA s)[2]? = some (bl s.d) := rfl
theorem refA_3 (s : Shp) : (refA s)[3]? = some (bl s.a) := rfl
theorem refA_4 (s : Shp) : (refA s)[4]? = some (bl s.b) := rfl
theorem refA_5 (s : Shp) : (refA s)[5]? = some (bl s.n) := rfl
theorem refA_6 (s : Shp) : (refA s)[6]? = some (bl s.im) := rfl
theorem refA_drop (s : Shp) : (refA s).drop 7 = [] := rfl
attribute [push_cast] refA_len refA_one refA_1 refA_2 refA_3 refA_4 refA_5 refA_6 refA_drop
def tblRef : Tbl := [(86, 57, ac86, re86), (109, 24, ac109, re109)]
theorem qA : TblOk Try.prog tblRef := by simp only [TblOk, tblRef, List.forall_mem_cons, List.not_mem_nil, false_imp_iff, implies_true, and_true]; exact ⟨cf86, cf109⟩
theorem ref_0 : HV Try.prog 86 [.lit (.int .i8 0)] (.tup [.agg (refA (shpT 0)), bl (shpT 0).is]) := yU yL (T := tblRef) qA 1000 rfl (by kernel_rfl) (by kernel_rfl)
theorem ref_1 : HV Try.prog 86 [.lit (.int .i8 1)] (.tup [.agg (refA (shpT 1)), bl (shpT 1).is]) := yU yL (T := tblRef) qA 1000 rfl (by kernel_rfl) (by kernel_rfl)
theorem ref_2 : HV Try.prog 86 [.lit (.int .i8 2)] (.tup [.agg (refA (shpT 2)), bl (shpT 2).is]) := yU yL (T := tblRef) qA 1000 rfl (by kernel_rfl) (by kernel_rfl)
theorem ref_3 : HV Try.prog 86 [.lit (.int .i8 3)] (.tup [.agg (refA (shpT 3)), bl (shpT 3).is]) := yU yL (T := tblRef) qA 1000 rfl (by kernel_rfl) (by kernel_rfl)
theorem ref_4 : HV Try.prog 86 [.lit (.int .i8 4)] (.tup [.agg (refA (shpT 4)), bl (shpT 4).is]) := yU yL (T := tblRef) qA 1000 rfl (by kernel_rfl) (by kernel_rfl)
theorem ref_5 : HV Try.prog 86 [.lit (.int .i8 5)] (.tup [.agg (refA (shpT 5)), bl (shpT 5).is]) := yU yL (T := tblRef) qA 1000 rfl (by kernel_rfl) (by kernel_rfl)
theorem ref_6 : HV Try.prog 86 [.lit (.int .i8 6)] (.tup [.agg (refA (shpT 6)), bl (shpT 6).is]) := yU yL (T := tblRef) qA 1000 rfl (by kernel_rfl) (by kernel_rfl)
theorem ref_7 : HV Try.prog 86 [.lit (.int .i8 7)] (.tup [.agg (refA (shpT 7)), bl (shpT 7).is]) := yU yL (T := tblRef) qA 1000 rfl (by kernel_rfl) (by kernel_rfl)
theorem ref_8 : HV Try.prog 86 [.lit (.int .i8 8)] (.tup [.agg (refA (shpT 8)), bl (shpT 8).is]) := yU yL (T := tblRef) qA 1000 rfl (by kernel_rfl) (by kernel_rfl)
theorem ref_9 : HV Try.prog 86 [.lit (.int .i8 9)] (.tup [.agg (refA (shpT 9)), bl (shpT 9).is]) := yU yL (T := tblRef) qA 1000 rfl (by kernel_rfl) (by kernel_rfl)
theorem ref_10 : HV Try.prog 86 [.lit (.int .i8 10)] (.tup [.agg (refA (shpT 10)), bl (shpT 10).is]) := yU yL (T := tblRef) qA 1000 rfl (by kernel_rfl) (by kernel_rfl)
theorem ref_11 : HV Try.prog 86 [.lit (.int .i8 11)] (.tup [.agg (refA (shpT 11)), bl (shpT 11).is]) := yU yL (T := tblRef) qA 1000 rfl (by kernel_rfl) (by kernel_rfl)
theorem ref_12 : HV Try.prog 86 [.lit (.int .i8 12)] (.tup [.agg (refA (shpT 12)), bl (shpT 12).is]) := yU yL (T := tblRef) qA 1000 rfl (by kernel_rfl) (by kernel_rfl)
theorem ref_13 : HV Try.prog 86 [.lit (.int .i8 13)] (.tup [.agg (refA (shpT 13)), bl (shpT 13).is]) := yU yL (T := tblRef) qA 1000 rfl (by kernel_rfl) (by kernel_rfl)
theorem ref_14 : HV Try.prog 86 [.lit (.int .i8 14)] (.tup [.agg (refA (shpT 14)), bl (shpT 14).is]) := yU yL (T := tblRef) qA 1000 rfl (by kernel_rfl) (by kernel_rfl)
theorem ref_15 : HV Try.prog 86 [.lit (.int .i8 15)] (.tup [.agg (refA (shpT 15)), bl (shpT 15).is]) := yU yL (T := tblRef) qA 1000 rfl (by kernel_rfl) (by kernel_rfl)
theorem ref_16 : HV Try.prog 86 [.lit (.int .i8 16)] (.tup [.agg (refA (shpT 16)), bl (shpT 16).is]) := yU yL (T := tblRef) qA 1000 rfl (by kernel_rfl) (by kernel_rfl)
theorem ref_17 : HV Try.prog 86 [.lit (.int .i8 17)] (.tup [.agg (refA (shpT 17)), bl (shpT 17).is]) := yU yL (T := tblRef) qA 1000 rfl (by kernel_rfl) (by kernel_rfl)
theorem ref_18 : HV Try.prog 86 [.lit (.int .i8 18)] (.tup [.agg (refA (shpT 18)), bl (shpT 18).is]) := yU yL (T := tblRef) qA 1000 rfl (by kernel_rfl) (by kernel_rfl)
theorem ref_19 : HV Try.prog 86 [.lit (.int .i8 19)] (.tup [.agg (refA (shpT 19)), bl (shpT 19).is]) := yU yL (T := tblRef) qA 1000 rfl (by kernel_rfl) (by kernel_rfl)
theorem ref_20 : HV Try.prog 86 [.lit (.int .i8 20)] (.tup [.agg (refA (shpT 20)), bl (shpT 20).is]) := yU yL (T := tblRef) qA 1000 rfl (by kernel_rfl) (by kernel_rfl)
theorem ref_21 : HV Try.prog 86 [.lit (.int .i8 21)] (.tup [.agg (refA (shpT 21)), bl (shpT 21).is]) := yU yL (T := tblRef) qA 1000 rfl (by kernel_rfl) (by kernel_rfl)
theorem ref_22 : HV Try.prog 86 [.lit (.int .i8 22)] (.tup [.agg (refA (shpT 22)), bl (shpT 22).is]) := yU yL (T := tblRef) qA 1000 rfl (by kernel_rfl) (by kernel_rfl)
theorem ref_23 : HV Try.prog 86 [.lit (.int .i8 23)] (.tup [.agg (refA (shpT 23)), bl (shpT 23).is]) := yU yL (T := tblRef) qA 1000 rfl (by kernel_rfl) (by kernel_rfl)
theorem ref_ok {i : Nat} (h : i < 24) : HV Try.prog 86 [.lit (.int .i8 (i : Int))] (.tup [.agg (refA (shpT i)), bl (shpT i).is]) := by
  match i, h with
  | 0, _ => exact ref_0
  | 1, _ => exact ref_1
  | 2, _ => exact ref_2
  | 3, _ => exact ref_3
  | 4, _ => exact ref_4
  | 5, _ => exact ref_5
  | 6, _ => exact ref_6
  | 7, _ => exact ref_7
  | 8, _ => exact ref_8
  | 9, _ => exact ref_9
  | 10, _ => exact ref_10
  | 11, _ => exact ref_11
  | 12, _ => exact ref_12
  | 13, _ => exact ref_13
  | 14, _ => exact ref_14
  | 15, _ => exact ref_15
  | 16, _ => exact ref_16
  | 17, _ => exact ref_17
  | 18, _ => exact ref_18
  | 19, _ => exact ref_19
  | 20, _ => exact ref_20
  | 21, _ => exact ref_21
  | 22, _ => exact ref_22
  | 23, _ => exact ref_23
  | n + 24, h => omega
theorem f109 (n : Int) (hn : n < 0 ∨ 24 ≤ n) : HV Try.prog 109 [.lit (.int .i8 n)] (.tup [.agg (refA noShp), bl false]) := by
  refine yJ yL cf109 (by simp) rfl ?_ rfl
  unfold ac109 re109
  refine yF fun env hE => ?_; have e0 := hE 0; have e2 := hE 2; have e3 := hE 3; have e4 := hE 4; simp -implicitDefEqProofs only [push_cast] at e0 e2 e3 e4; clear hE
  have d18 : decide (n = 18) = false := decide_eq_false (by omega)
  have d19 : decide (n = 19) = false := decide_eq_false (by omega)
  have d20 : decide (n = 20) = false := decide_eq_false (by omega)
  have d21 : decide (n = 21) = false := decide_eq_false (by omega)
  have d22 : decide (n = 22) = false := decide_eq_false (by omega)
  have d23 : decide (n = 23) = false := decide_eq_false (by omega)
  repeat' (first | ((try clear hf); with_reducible refine zM fun env K hE hK hf => ?_; have n : _ ∧ _ ∧ _ ∧ _ := ⟨hE 0, hE 2, hE 3, hE 4⟩; simp -implicitDefEqProofs only [push_cast, reduceIte, Nat.reduceEqDiff, e0, e2, e3, e4] at n; clear hE e0 e2 e3 e4; obtain ⟨e0, e2, e3, e4⟩ := n) | (with_reducible refine hK _ _ ?_; clear hK K) | (with_reducible first | refine zJ ?_ | refine zU ?_ | refine zB ?_ | refine zG ?_ | refine zE ?_ | refine zL ?_ | refine zT ?_ | refine zD ?_ | refine zH ?_ | refine zV ?_ | refine zF ?_ | refine zA (by decide) ?_ | refine zP ?_ | refine zO ?_ | refine zK ?_ | refine yB ?_ | refine yC ?_ | refine zW (by assumption) ?_ | refine zY (by assumption) ?_) | (refine zI rfl ?_) | (simp -implicitDefEqProofs only [push_cast, sevalprocAttr, eq_self, e0, e2, e3, e4, d18, d19, d20, d21, d22, d23]) | (simp -implicitDefEqProofs (disch := omega) only [zR, zZ, zS, zQ, e0, e2, e3, e4, d18, d19, d20, d21, d22, d23]) | (with_reducible refine yE ?_ ?_) | (refine zN rfl (fun bb => ?_) (fun bb => ?_) <;> (first | have bp := of_decide_eq_true bb | have bp := of_decide_eq_false bb | skip) <;> simp only [bb]) | (with_reducible refine zX (fun bb => ?_) (fun bb => ?_) <;> (first | have bp := of_decide_eq_true bb | have bp := of_decide_eq_false bb | skip)) | ((with_reducible refine And.intro ?_ ?_); omega) | fail)
  all_goals rfl
theorem f86 (n : Int) : HV Try.prog 86 [.lit (.int .i8 n)] (.tup [.agg (refA (ofS n)), bl (ofS n).is]) := by
  by_cases hn : n < 0 ∨ 24 ≤ n
  rotate_left
  · obtain ⟨i, rfl⟩ : ∃ i : Nat, n = i := ⟨n.toNat, by omega⟩
    rw [show ofS (i : Int) = shpT i from by have := ofS_ok (n := i) (by omega); simpa using this]
    exact ref_ok (by omega)
  rw [ofS_bad hn]
  refine yJ yL cf86 (by simp) rfl ?_ rfl
  unfold ac86 re86
  refine yF fun env hE => ?_; have e0 := hE 0; have e2 := hE 2; have e3 := hE 3; have e4 := hE 4; have e5 := hE 5; have e6 := hE 6; have e13 := hE 13; have e33 := hE 33; simp -implicitDefEqProofs only [push_cast] at e0 e2 e3 e4 e5 e6 e13 e33; clear hE
  have d0 : decide (n = 0) = false := decide_eq_false (by omega)
  have d1 : decide (n = 1) = false := decide_eq_false (by omega)
  have d2 : decide (n = 2) = false := decide_eq_false (by omega)
  have d3 : decide (n = 3) = false := decide_eq_false (by omega)
  have d4 : decide (n = 4) = false := decide_eq_false (by omega)
  have d5 : decide (n = 5) = false := decide_eq_false (by omega)
  have d6 : decide (n = 6) = false := decide_eq_false (by omega)
  have d7 : decide (n = 7) = false := decide_eq_false (by omega)
  have d8 : decide (n = 8) = false := decide_eq_false (by omega)
  have d9 : decide (n = 9) = false := decide_eq_false (by omega)
  have d10 : decide (n = 10) = false := decide_eq_false (by omega)
  have d11 : decide (n = 11) = false := decide_eq_false (by omega)
  have d12 : decide (n = 12) = false := decide_eq_false (by omega)
  have d13 : decide (n = 13) = false := decide_eq_false (by omega)
  have d14 : decide (n = 14) = false := decide_eq_false (by omega)
  have d15 : decide (n = 15) = false := decide_eq_false (by omega)
  have d16 : decide (n = 16) = false := decide_eq_false (by omega)
  have d17 : decide (n = 17) = false := decide_eq_false (by omega)
  have d18 : decide (n = 18) = false := decide_eq_false (by omega)
  have d19 : decide (n = 19) = false := decide_eq_false (by omega)
  have d20 : decide (n = 20) = false := decide_eq_false (by omega)
  have d21 : decide (n = 21) = false := decide_eq_false (by omega)
  have d22 : decide (n = 22) = false := decide_eq_false (by omega)
  have d23 : decide (n = 23) = false := decide_eq_false (by omega)
  repeat' (first | ((try clear hf); with_reducible refine zM fun env K hE hK hf => ?_; have n : _ ∧ _ ∧ _ ∧ _ ∧ _ ∧ _ ∧ _ ∧ _ := ⟨hE 0, hE 2, hE 3, hE 4, hE 5, hE 6, hE 13, hE 33⟩; simp -implicitDefEqProofs only [push_cast, reduceIte, Nat.reduceEqDiff, e0, e2, e3, e4, e5, e6, e13, e33] at n; clear hE e0 e2 e3 e4 e5 e6 e13 e33; obtain ⟨e0, e2, e3, e4, e5, e6, e13, e33⟩ := n) | (with_reducible refine hK _ _ ?_; clear hK K) | (with_reducible first | refine zJ ?_ | refine zU ?_ | refine zB ?_ | refine zG ?_ | refine zE ?_ | refine zL ?_ | refine zT ?_ | refine zD ?_ | refine zH ?_ | refine zV ?_ | refine zF ?_ | refine zA (by decide) ?_ | refine zP ?_ | refine zO ?_ | refine zK ?_ | refine yB ?_ | refine yC ?_ | refine zW (by assumption) ?_ | refine zY (by assumption) ?_) | (refine zI rfl ?_) | (simp -implicitDefEqProofs only [push_cast, sevalprocAttr, eq_self, e0, e2, e3, e4, e5, e6, e13, e33, d0, d1, d2, d3, d4, d5, d6, d7, d8, d9, d10, d11, d12, d13, d14, d15, d16, d17, d18, d19, d20, d21, d22, d23]) | (simp -implicitDefEqProofs (disch := omega) only [zR, zZ, zS, zQ, e0, e2, e3, e4, e5, e6, e13, e33, d0, d1, d2, d3, d4, d5, d6, d7, d8, d9, d10, d11, d12, d13, d14, d15, d16, d17, d18, d19, d20, d21, d22, d23]) | (with_reducible refine yE ?_ ?_) | (refine zN rfl (fun bb => ?_) (fun bb => ?_) <;> (first | have bp := of_decide_eq_true bb | have bp := of_decide_eq_false bb | skip) <;> simp only [bb]) | (with_reducible refine zX (fun bb => ?_) (fun bb => ?_) <;> (first | have bp := of_decide_eq_true bb | have bp := of_decide_eq_false bb | skip)) | ((with_reducible refine And.intro ?_ ?_); omega) | (refine yD (f109 n hn) ?_) | fail)
  all_goals rfl
theorem f51 (n : Int) : HV Try.prog 51 [.lit (.int .i8 n)] (.tup [.lit (.int .i64 (clsS n).1), .lit (.bool (clsS n).2)]) := by
  refine yJ yL cf51 (by simp) rfl ?_ (by simp [imm, imms])
  unfold ac51 re51
  refine yF fun env hE => ?_; have e0 := hE 0; have e2 := hE 2; have e3 := hE 3; have e4 := hE 4; have e5 := hE 5; simp -implicitDefEqProofs only [push_cast] at e0 e2 e3 e4 e5; clear hE
  repeat' (first | ((try clear hf); with_reducible refine zM fun env K hE hK hf => ?_; have n : _ ∧ _ ∧ _ ∧ _ ∧ _ := ⟨hE 0, hE 2, hE 3, hE 4, hE 5⟩; simp -implicitDefEqProofs only [push_cast, reduceIte, Nat.reduceEqDiff, e0, e2, e3, e4, e5] at n; clear hE e0 e2 e3 e4 e5; obtain ⟨e0, e2, e3, e4, e5⟩ := n) | (with_reducible refine hK _ _ ?_; clear hK K) | (with_reducible first | refine zJ ?_ | refine zU ?_ | refine zB ?_ | refine zG ?_ | refine zE ?_ | refine zL ?_ | refine zT ?_ | refine zD ?_ | refine zH ?_ | refine zV ?_ | refine zF ?_ | refine zA (by decide) ?_ | refine zP ?_ | refine zO ?_ | refine zK ?_ | refine yB ?_ | refine yC ?_ | refine zW (by assumption) ?_ | refine zY (by assumption) ?_) | (refine zI rfl ?_) | (simp -implicitDefEqProofs only [push_cast, sevalprocAttr, eq_self, e0, e2, e3, e4, e5]) | (simp -implicitDefEqProofs (disch := omega) only [zR, zZ, zS, zQ, e0, e2, e3, e4, e5]) | (with_reducible refine yE ?_ ?_) | (refine zN rfl (fun bb => ?_) (fun bb => ?_) <;> (first | have bp := of_decide_eq_true bb | have bp := of_decide_eq_false bb | skip) <;> simp only [bb]) | (with_reducible refine zX (fun bb => ?_) (fun bb => ?_) <;> (first | have bp := of_decide_eq_true bb | have bp := of_decide_eq_false bb | skip)) | ((with_reducible refine And.intro ?_ ?_); omega) | (refine yD (f86 n) ?_) | fail)
  all_goals ((try clear hf); (try clear e0 e2 e3 e4 e5); simp only [clsS]; simp at *; first | (simp [*]; done) | (rw [if_neg (by simp [*])]; simp))
set_option maxHeartbeats 4000000 in
theorem f111 (o : Opn) (h : o.ok) : HV Try.prog 111 [.agg (opC o)] (i64 (chkE o)) := by
  refine yJ yL cf111 (by simp) rfl ?_ rfl
  unfold ac111 re111
  refine yF fun env hE => ?_; have e0 := hE 0; have e1 := hE 1; have e2 := hE 2; have e3 := hE 3; have e4 := hE 4; simp -implicitDefEqProofs only [push_cast] at e0 e1 e2 e3 e4; clear hE
  repeat' (first | ((try clear hf); with_reducible refine zM fun env K hE hK hf => ?_; have n : _ ∧ _ ∧ _ ∧ _ ∧ _ := ⟨hE 0, hE 1, hE 2, hE 3, hE 4⟩; simp -implicitDefEqProofs only [push_cast, reduceIte, Nat.reduceEqDiff, e0, e1, e2, e3, e4] at n; clear hE e0 e1 e2 e3 e4; obtain ⟨e0, e1, e2, e3, e4⟩ := n) | (with_reducible refine hK _ _ ?_; clear hK K) | (with_reducible first | refine zJ ?_ | refine zU ?_ | refine zB ?_ | refine zG ?_ | refine zE ?_ | refine zL ?_ | refine zT ?_ | refine zD ?_ | refine zH ?_ | refine zV ?_ | refine zF ?_ | refine zA (by decide) ?_ | refine zP ?_ | refine zO ?_ | refine zK ?_ | refine yB ?_ | refine yC ?_ | refine zW (by assumption) ?_ | refine zY (by assumption) ?_) | (refine zI rfl ?_) | (simp -implicitDefEqProofs only [push_cast, sevalprocAttr, eq_self, e0, e1, e2, e3, e4, opC]) | (simp -implicitDefEqProofs (disch := omega) only [zR, zZ, zS, zQ, e0, e1, e2, e3, e4, opC]) | (with_reducible refine yE ?_ ?_) | (refine zN rfl (fun bb => ?_) (fun bb => ?_) <;> (first | have bp := of_decide_eq_true bb | have bp := of_decide_eq_false bb | skip) <;> simp only [bb]) | (with_reducible refine zX (fun bb => ?_) (fun bb => ?_) <;> (first | have bp := of_decide_eq_true bb | have bp := of_decide_eq_false bb | skip)) | ((with_reducible refine And.intro ?_ ?_); omega) | (refine yD (f86 o.k) ?_) | fail)
  all_goals ((try clear hf); (try clear e0 e1 e2 e3 e4); simp only [chkE, chkP]; simp at *; simp [*]; try omega)
theorem f88 (o : Opn) (h : o.ok) : HV Try.prog 88 [.agg (opC o)] (.tup [u8 (wrS o).1, bl (wrS o).2]) := by
  refine yJ yL cf88 (by simp) rfl ?_ rfl
  unfold ac88 re88
  refine yF fun env hE => ?_; have e0 := hE 0; have e1 := hE 1; have e2 := hE 2; have e3 := hE 3; have e4 := hE 4; simp -implicitDefEqProofs only [push_cast] at e0 e1 e2 e3 e4; clear hE
  repeat' (first | ((try clear hf); with_reducible refine zM fun env K hE hK hf => ?_; have n : _ ∧ _ ∧ _ ∧ _ ∧ _ := ⟨hE 0, hE 1, hE 2, hE 3, hE 4⟩; simp -implicitDefEqProofs only [push_cast, reduceIte, Nat.reduceEqDiff, e0, e1, e2, e3, e4] at n; clear hE e0 e1 e2 e3 e4; obtain ⟨e0, e1, e2, e3, e4⟩ := n) | (with_reducible refine hK _ _ ?_; clear hK K) | (with_reducible first | refine zJ ?_ | refine zU ?_ | refine zB ?_ | refine zG ?_ | refine zE ?_ | refine zL ?_ | refine zT ?_ | refine zD ?_ | refine zH ?_ | refine zV ?_ | refine zF ?_ | refine zA (by decide) ?_ | refine zP ?_ | refine zO ?_ | refine zK ?_ | refine yB ?_ | refine yC ?_ | refine zW (by assumption) ?_ | refine zY (by assumption) ?_) | (refine zI rfl ?_) | (simp -implicitDefEqProofs only [push_cast, sevalprocAttr, eq_self, e0, e1, e2, e3, e4, opC]) | (simp -implicitDefEqProofs (disch := omega) only [zR, zZ, zS, zQ, e0, e1, e2, e3, e4, opC]) | (with_reducible refine yE ?_ ?_) | (refine zN rfl (fun bb => ?_) (fun bb => ?_) <;> (first | have bp := of_decide_eq_true bb | have bp := of_decide_eq_false bb | skip) <;> simp only [bb]) | (with_reducible refine zX (fun bb => ?_) (fun bb => ?_) <;> (first | have bp := of_decide_eq_true bb | have bp := of_decide_eq_false bb | skip)) | ((with_reducible refine And.intro ?_ ?_); omega) | (refine yD (f86 o.k) ?_) | (refine yD (f111 o h) ?_) | fail)
  all_goals ((try clear hf); (try clear e0 e1 e2 e3 e4); simp only [wrS]; simp at *; simp [*])
end Go.Proofs.Hx

set_option linter.unusedVariables false
set_option linter.unusedSimpArgs false
namespace Go.Proofs.Hx
open Go Go.Proofs
attribute [local irreducible] yM awp opK goV goM yV yZ qF yQ HV HVF HC
theorem f89 (o : Opn) (h : o.ok) : HVF Try.prog 89 [.agg (opC o)] (.row (regsC (rdS o))) := by
  refine HVF_of_awp yL cf89 (by simp) rfl ?_ (by simp [imm]; exact qI fun i x hx => by simp [regsC] at hx; obtain ⟨a, _, rfl⟩ := hx; rfl)
  unfold ac89 re89
  refine yF fun env hE => ?_; have e0 := hE 0; have e1 := hE 1; have e2 := hE 2; have e3 := hE 3; have e5 := hE 5; simp -implicitDefEqProofs only [push_cast] at e0 e1 e2 e3 e5; clear hE
  have hA : ∀ (h' : Hp) (id' : Id) (x : List AV), appV h' id' 1 1 1 x .nil = some (.sl id' 0 1 1, h'.push id' x) := fun h' id' x => appV_nil _ _ (by decide) (by decide)
  repeat' (first | ((try clear hf); with_reducible refine zM fun env K hE hK hf => ?_; have n : _ ∧ _ ∧ _ ∧ _ ∧ _ := ⟨hE 0, hE 1, hE 2, hE 3, hE 5⟩; simp -implicitDefEqProofs only [push_cast, reduceIte, Nat.reduceEqDiff, e0, e1, e2, e3, e5] at n; clear hE e0 e1 e2 e3 e5; obtain ⟨e0, e1, e2, e3, e5⟩ := n) | (with_reducible refine hK _ _ ?_; clear hK K) | (with_reducible first | refine zJ ?_ | refine zU ?_ | refine zB ?_ | refine zG ?_ | refine zE ?_ | refine zL ?_ | refine zT ?_ | refine zD ?_ | refine zH ?_ | refine zV ?_ | refine zF ?_ | refine zA (by decide) ?_ | refine zP ?_ | refine zO ?_ | refine zK ?_ | refine yB ?_ | refine yC ?_ | refine zW (by assumption) ?_ | refine zY (by assumption) ?_) | (refine zI rfl ?_) | (simp -implicitDefEqProofs only [push_cast, sevalprocAttr, eq_self, e0, e1, e2, e3, e5, opC, hA, appV_sl_eq]) | (simp -implicitDefEqProofs (disch := omega) only [zR, zZ, zS, zQ, e0, e1, e2, e3, e5, opC, hA, appV_sl_eq]) | (with_reducible refine yE ?_ ?_) | (refine zN rfl (fun bb => ?_) (fun bb => ?_) <;> (first | have bp := of_decide_eq_true bb | have bp := of_decide_eq_false bb | skip) <;> simp only [bb]) | (with_reducible refine zX (fun bb => ?_) (fun bb => ?_) <;> (first | have bp := of_decide_eq_true bb | have bp := of_decide_eq_false bb | skip)) | ((with_reducible refine And.intro ?_ ?_); omega) | (refine yD (f86 o.k) ?_) | (refine yD (f111 o h) ?_) | fail)
  all_goals ((try clear hf); (try clear e0 e1 e2 e3 e5); clear hA; simp only [rdS, regsC]; by_cases hab : o.a = o.b <;> simp_all)
theorem f56 (o : Opn) (ho : o.ok) (r : Int) : HV Try.prog 56 [.agg (opC o), u8 r] (bl (seesS o r)) := by
  refine yJ yL cf56 (by simp) rfl ?_ rfl
  unfold ac56 re56
  refine yF fun env hE => ?_; have e0 := hE 0; have e1 := hE 1; have e2 := hE 2; have e4 := hE 4; have e5 := hE 5; have e6 := hE 6; simp -implicitDefEqProofs only [push_cast] at e0 e1 e2 e4 e5 e6; clear hE
  repeat' (first | ((try clear hf); with_reducible refine zM fun env K hE hK hf => ?_; have n : _ ∧ _ ∧ _ ∧ _ ∧ _ ∧ _ := ⟨hE 0, hE 1, hE 2, hE 4, hE 5, hE 6⟩; simp -implicitDefEqProofs only [push_cast, reduceIte, Nat.reduceEqDiff, e0, e1, e2, e4, e5, e6] at n; clear hE e0 e1 e2 e4 e5 e6; obtain ⟨e0, e1, e2, e4, e5, e6⟩ := n) | (with_reducible refine hK _ _ ?_; clear hK K) | (with_reducible first | refine zJ ?_ | refine zU ?_ | refine zB ?_ | refine zG ?_ | refine zE ?_ | refine zL ?_ | refine zT ?_ | refine zD ?_ | refine zH ?_ | refine zV ?_ | refine zF ?_ | refine zA (by decide) ?_ | refine zP ?_ | refine zO ?_ | refine zK ?_ | refine yB ?_ | refine yC ?_ | refine zW (by assumption) ?_ | refine zY (by assumption) ?_) | (refine zI rfl ?_) | (simp -implicitDefEqProofs only [push_cast, sevalprocAttr, eq_self, e0, e1, e2, e4, e5, e6, opC]) | (simp -implicitDefEqProofs (disch := omega) only [zR, zZ, zS, zQ, e0, e1, e2, e4, e5, e6, opC]) | (with_reducible refine yE ?_ ?_) | (refine zN rfl (fun bb => ?_) (fun bb => ?_) <;> (first | have bp := of_decide_eq_true bb | have bp := of_decide_eq_false bb | skip) <;> simp only [bb]) | (with_reducible refine zX (fun bb => ?_) (fun bb => ?_) <;> (first | have bp := of_decide_eq_true bb | have bp := of_decide_eq_false bb | skip)) | ((with_reducible refine And.intro ?_ ?_); omega) | (refine call_own (qS rfl) (f89 o ho) ?_) | fail)
  refine yF fun env hE => ?_; have n : _ ∧ _ ∧ _ ∧ _ ∧ _ ∧ _ := ⟨hE 0, hE 1, hE 2, hE 4, hE 5, hE 6⟩; simp -implicitDefEqProofs only [push_cast, reduceIte, Nat.reduceEqDiff, e0, e1, e2, e4, e5, e6] at n; clear hE e0 e1 e2 e4 e5 e6; obtain ⟨e0, e1, e2, e4, e5, e6⟩ := n; have E56_0_0 := e0; have E56_0_1 := e1; have E56_0_2 := e2; have E56_0_5 := e5
  refine yN (fun nn σ => ∃ (k : Nat), nn = (rdS o).length - k ∧ σ.env 0 = env 0 ∧ σ.env 1 = env 1 ∧ σ.env 2 = env 2 ∧ σ.env 5 = env 5 ∧ σ.env 6 = i64 k ∧ (k ≤ (rdS o).length ∧ ∀ (j : Nat) (hj : j < k) (h : j < (rdS o).length), (rdS o)[j] ≠ r)) _ ⟨0, rfl, rfl, rfl, rfl, rfl, by refine e6.trans ?_; first | rfl | exact yG (by omega) | (simp -implicitDefEqProofs (disch := omega) only [zQ]; first | rfl | exact yG (by omega)), ?_⟩ ?_
  · exact ⟨by omega, fun j hj => by omega⟩
  clear e0 e1 e2 e4 e5 e6; rintro nn ⟨env, h⟩ ⟨k, rfl, q0, q1, q2, q5, e6, hI⟩; simp only at q0 q1 q2 q5 e6 hI; (first | have e0 := q0.trans E56_0_0 | have e0 := True.intro); (first | have e1 := q1.trans E56_0_1 | have e1 := True.intro); (first | have e2 := q2.trans E56_0_2 | have e2 := True.intro); (first | have e5 := q5.trans E56_0_5 | have e5 := True.intro); clear q0 q1 q2 q5; have e4 := True.intro
  obtain ⟨hk, hall⟩ := hI
  unfold l56_0
  have hrl := rdS_len o
  by_cases hlt : k < (rdS o).length
  · have hd : decide ((k : Int) < ((rdS o).length : Int)) = true := decide_eq_true (by omega)
    have hr := regs_at hlt .i64
    have hm := rdS_mem ho (List.getElem_mem hlt)
    repeat' (first | ((try clear hf); with_reducible refine zM fun env K hE hK hf => ?_; have n : _ ∧ _ ∧ _ ∧ _ ∧ _ ∧ _ := ⟨hE 0, hE 1, hE 2, hE 4, hE 5, hE 6⟩; simp -implicitDefEqProofs only [push_cast, reduceIte, Nat.reduceEqDiff, e0, e1, e2, e4, e5, e6] at n; clear hE e0 e1 e2 e4 e5 e6; obtain ⟨e0, e1, e2, e4, e5, e6⟩ := n) | (with_reducible refine hK _ _ ?_; clear hK K) | (with_reducible first | refine zJ ?_ | refine zU ?_ | refine zB ?_ | refine zG ?_ | refine zE ?_ | refine zL ?_ | refine zT ?_ | refine zD ?_ | refine zH ?_ | refine zV ?_ | refine zF ?_ | refine zA (by decide) ?_ | refine zP ?_ | refine zO ?_ | refine zK ?_ | refine yB ?_ | refine yC ?_ | refine zW (by assumption) ?_ | refine zY (by assumption) ?_) | (refine zI rfl ?_) | (simp -implicitDefEqProofs only [push_cast, sevalprocAttr, eq_self, e0, e1, e2, e4, e5, e6, hd, hr, qC]) | (simp -implicitDefEqProofs (disch := omega) only [zR, zZ, zS, zQ, e0, e1, e2, e4, e5, e6, hd, hr, qC]) | (with_reducible refine yE ?_ ?_) | (refine zN rfl (fun bb => ?_) (fun bb => ?_) <;> (first | have bp := of_decide_eq_true bb | have bp := of_decide_eq_false bb | skip) <;> simp only [bb]) | (with_reducible refine zX (fun bb => ?_) (fun bb => ?_) <;> (first | have bp := of_decide_eq_true bb | have bp := of_decide_eq_false bb | skip)) | ((with_reducible refine And.intro ?_ ?_); omega) | fail)
    · have : seesS o r = true := by
        unfold seesS
        rw [List.any_eq_true]
        exact ⟨_, List.getElem_mem hlt, decide_eq_true (by assumption)⟩
      rw [this]
    · refine ⟨_, ?_, k + 1, rfl, E56_0_0.symm, E56_0_1.symm, E56_0_2.symm, E56_0_5.symm, by first | rfl | exact yG (by omega) | (simp -implicitDefEqProofs (disch := omega) only [zQ]; first | rfl | exact yG (by omega)), ?_⟩
      · omega
      · refine ⟨by omega, fun j hj h => ?_⟩
        by_cases e : j < k
        · exact hall j e h
        · obtain rfl : j = k := by omega
          assumption
  · have hd : decide ((k : Int) < ((rdS o).length : Int)) = false := decide_eq_false (by omega)
    repeat' (first | ((try clear hf); with_reducible refine zM fun env K hE hK hf => ?_; have n : _ ∧ _ ∧ _ ∧ _ ∧ _ ∧ _ := ⟨hE 0, hE 1, hE 2, hE 4, hE 5, hE 6⟩; simp -implicitDefEqProofs only [push_cast, reduceIte, Nat.reduceEqDiff, e0, e1, e2, e4, e5, e6] at n; clear hE e0 e1 e2 e4 e5 e6; obtain ⟨e0, e1, e2, e4, e5, e6⟩ := n) | (with_reducible refine hK _ _ ?_; clear hK K) | (with_reducible first | refine zJ ?_ | refine zU ?_ | refine zB ?_ | refine zG ?_ | refine zE ?_ | refine zL ?_ | refine zT ?_ | refine zD ?_ | refine zH ?_ | refine zV ?_ | refine zF ?_ | refine zA (by decide) ?_ | refine zP ?_ | refine zO ?_ | refine zK ?_ | refine yB ?_ | refine yC ?_ | refine zW (by assumption) ?_ | refine zY (by assumption) ?_) | (refine zI rfl ?_) | (simp -implicitDefEqProofs only [push_cast, sevalprocAttr, eq_self, e0, e1, e2, e4, e5, e6, hd, qC]) | (simp -implicitDefEqProofs (disch := omega) only [zR, zZ, zS, zQ, e0, e1, e2, e4, e5, e6, hd, qC]) | (with_reducible refine yE ?_ ?_) | (refine zN rfl (fun bb => ?_) (fun bb => ?_) <;> (first | have bp := of_decide_eq_true bb | have bp := of_decide_eq_false bb | skip) <;> simp only [bb]) | (with_reducible refine zX (fun bb => ?_) (fun bb => ?_) <;> (first | have bp := of_decide_eq_true bb | have bp := of_decide_eq_false bb | skip)) | ((with_reducible refine And.intro ?_ ?_); omega) | fail)
    have : seesS o r = false := by
      unfold seesS
      rw [List.any_eq_false]
      intro x hx
      obtain ⟨j, hj, rfl⟩ := List.getElem_of_mem hx
      simpa using hall j (by omega) hj
    rw [this]
theorem f69 (t : Tab) : HV Try.prog 69 [.agg (tabC t)] (i64 (tabE t)) := by
  refine yJ yL cf69 (by simp) rfl ?_ rfl
  unfold ac69 re69
  refine yF fun env hE => ?_; have e0 := hE 0; have e1 := hE 1; have e2 := hE 2; have e3 := hE 3; simp -implicitDefEqProofs only [push_cast] at e0 e1 e2 e3; clear hE
  repeat' (first | ((try clear hf); with_reducible refine zM fun env K hE hK hf => ?_; have n : _ ∧ _ ∧ _ ∧ _ := ⟨hE 0, hE 1, hE 2, hE 3⟩; simp -implicitDefEqProofs only [push_cast, reduceIte, Nat.reduceEqDiff, e0, e1, e2, e3] at n; clear hE e0 e1 e2 e3; obtain ⟨e0, e1, e2, e3⟩ := n) | (with_reducible refine hK _ _ ?_; clear hK K) | (with_reducible first | refine zJ ?_ | refine zU ?_ | refine zB ?_ | refine zG ?_ | refine zE ?_ | refine zL ?_ | refine zT ?_ | refine zD ?_ | refine zH ?_ | refine zV ?_ | refine zF ?_ | refine zA (by decide) ?_ | refine zP ?_ | refine zO ?_ | refine zK ?_ | refine yB ?_ | refine yC ?_ | refine zW (by assumption) ?_ | refine zY (by assumption) ?_) | (refine zI rfl ?_) | (simp -implicitDefEqProofs only [push_cast, sevalprocAttr, eq_self, e0, e1, e2, e3]) | (simp -implicitDefEqProofs (disch := omega) only [zR, zZ, zS, zQ, e0, e1, e2, e3]) | (with_reducible refine yE ?_ ?_) | (refine zN rfl (fun bb => ?_) (fun bb => ?_) <;> (first | have bp := of_decide_eq_true bb | have bp := of_decide_eq_false bb | skip) <;> simp only [bb]) | (with_reducible refine zX (fun bb => ?_) (fun bb => ?_) <;> (first | have bp := of_decide_eq_true bb | have bp := of_decide_eq_false bb | skip)) | ((with_reducible refine And.intro ?_ ?_); omega) | fail)
  refine yF fun env hE => ?_; have n : _ ∧ _ ∧ _ ∧ _ := ⟨hE 0, hE 1, hE 2, hE 3⟩; simp -implicitDefEqProofs only [push_cast, reduceIte, Nat.reduceEqDiff, e0, e1, e2, e3] at n; clear hE e0 e1 e2 e3; obtain ⟨e0, e1, e2, e3⟩ := n; have E69_0_0 := e0; have E69_0_1 := e1
  refine yN (fun nn σ => ∃ (c : Nat), nn = 4 - c ∧ σ.env 0 = env 0 ∧ σ.env 1 = env 1 ∧ σ.env 3 = i64 c ∧ (c ≤ 4 ∧ σ.h.hp (2, 1) = some ⟨true, tabC t⟩ ∧ ∀ j, j < c → okC t j)) _ ⟨0, rfl, rfl, rfl, by refine e3.trans ?_; first | rfl | exact yG (by omega) | (simp -implicitDefEqProofs (disch := omega) only [zQ]; first | rfl | exact yG (by omega)), ?_⟩ ?_
  · exact ⟨by omega, by simp -implicitDefEqProofs only [push_cast, sevalprocAttr, eq_self], fun j hj => by omega⟩
  clear e0 e1 e2 e3; rintro nn ⟨env, h⟩ ⟨c, rfl, q0, q1, e3, hI⟩; simp only at q0 q1 e3 hI; (first | have e0 := q0.trans E69_0_0 | have e0 := True.intro); (first | have e1 := q1.trans E69_0_1 | have e1 := True.intro); clear q0 q1; have e2 := True.intro
  obtain ⟨hc4, hb, hall⟩ := hI
  unfold l69_0
  by_cases hc : c < 4
  · have hx := tab_u t hc
    have hy := tab_l t hc
    have hz := tab_b t hc
    have hd : decide ((c : Int) < 4) = true := decide_eq_true (by omega)
    repeat' (first | ((try clear hf); with_reducible refine zM fun env K hE hK hf => ?_; have n : _ ∧ _ ∧ _ ∧ _ := ⟨hE 0, hE 1, hE 2, hE 3⟩; simp -implicitDefEqProofs only [push_cast, reduceIte, Nat.reduceEqDiff, e0, e1, e2, e3] at n; clear hE e0 e1 e2 e3; obtain ⟨e0, e1, e2, e3⟩ := n) | (with_reducible refine hK _ _ ?_; clear hK K) | (with_reducible first | refine zJ ?_ | refine zU ?_ | refine zB ?_ | refine zG ?_ | refine zE ?_ | refine zL ?_ | refine zT ?_ | refine zD ?_ | refine zH ?_ | refine zV ?_ | refine zF ?_ | refine zA (by decide) ?_ | refine zP ?_ | refine zO ?_ | refine zK ?_ | refine yB ?_ | refine yC ?_ | refine zW (by assumption) ?_ | refine zY (by assumption) ?_) | (refine zI rfl ?_) | (simp -implicitDefEqProofs only [push_cast, sevalprocAttr, eq_self, e0, e1, e2, e3, hd, hb, hx, hy, hz]) | (simp -implicitDefEqProofs (disch := omega) only [zR, zZ, zS, zQ, e0, e1, e2, e3, hd, hb, hx, hy, hz]) | (with_reducible refine yE ?_ ?_) | (refine zN rfl (fun bb => ?_) (fun bb => ?_) <;> (first | have bp := of_decide_eq_true bb | have bp := of_decide_eq_false bb | skip) <;> simp only [bb]) | (with_reducible refine zX (fun bb => ?_) (fun bb => ?_) <;> (first | have bp := of_decide_eq_true bb | have bp := of_decide_eq_false bb | skip)) | ((with_reducible refine And.intro ?_ ?_); omega) | fail)
    all_goals first
      | (rw [tabE_bad]; intro h; have := h.1 c hc; unfold okC at this; omega)
      | skip
    refine ⟨_, ?_, c + 1, rfl, E69_0_0.symm, E69_0_1.symm, by first | rfl | exact yG (by omega) | (simp -implicitDefEqProofs (disch := omega) only [zQ]; first | rfl | exact yG (by omega)), ?_⟩
    · omega
    · refine ⟨by omega, fun j hj => ?_⟩
      by_cases e : j < c
      · exact hall j e
      · obtain rfl : j = c := by omega
        unfold okC; omega
  · have hd : decide ((c : Int) < 4) = false := decide_eq_false (by omega)
    repeat' (first | ((try clear hf); with_reducible refine zM fun env K hE hK hf => ?_; have n : _ ∧ _ ∧ _ ∧ _ := ⟨hE 0, hE 1, hE 2, hE 3⟩; simp -implicitDefEqProofs only [push_cast, reduceIte, Nat.reduceEqDiff, e0, e1, e2, e3] at n; clear hE e0 e1 e2 e3; obtain ⟨e0, e1, e2, e3⟩ := n) | (with_reducible refine hK _ _ ?_; clear hK K) | (with_reducible first | refine zJ ?_ | refine zU ?_ | refine zB ?_ | refine zG ?_ | refine zE ?_ | refine zL ?_ | refine zT ?_ | refine zD ?_ | refine zH ?_ | refine zV ?_ | refine zF ?_ | refine zA (by decide) ?_ | refine zP ?_ | refine zO ?_ | refine zK ?_ | refine yB ?_ | refine yC ?_ | refine zW (by assumption) ?_ | refine zY (by assumption) ?_) | (refine zI rfl ?_) | (simp -implicitDefEqProofs only [push_cast, sevalprocAttr, eq_self, e0, e1, e2, e3, hd, hb, tab_d]) | (simp -implicitDefEqProofs (disch := omega) only [zR, zZ, zS, zQ, e0, e1, e2, e3, hd, hb, tab_d]) | (with_reducible refine yE ?_ ?_) | (refine zN rfl (fun bb => ?_) (fun bb => ?_) <;> (first | have bp := of_decide_eq_true bb | have bp := of_decide_eq_false bb | skip) <;> simp only [bb]) | (with_reducible refine zX (fun bb => ?_) (fun bb => ?_) <;> (first | have bp := of_decide_eq_true bb | have bp := of_decide_eq_false bb | skip)) | ((with_reducible refine And.intro ?_ ?_); omega) | fail)
    all_goals first
      | (rw [tabE_bad]; intro h; have := h.2; omega)
      | (rw [tabE_ok]; exact ⟨fun j hj => hall j (by omega), by omega⟩)
end Go.Proofs.Hx

set_option linter.unusedVariables false
set_option linter.unusedSimpArgs false
namespace Go.Proofs.Hx
open Go Go.Proofs
attribute [local irreducible] yM awp opK goV goM yV yZ qF yQ HV HVF HC
theorem op_d0 (o : Opn) : ((opC o).drop 0)[0]? = some (.lit (.int .i8 o.k)) := rfl
theorem op_d1 (o : Opn) : ((opC o).drop 1)[0]? = some (u8 o.d) := rfl
theorem op_d2 (o : Opn) : ((opC o).drop 2)[0]? = some (u8 o.a) := rfl
theorem op_d3 (o : Opn) : ((opC o).drop 3)[0]? = some (u8 o.b) := rfl
theorem op_d4 (o : Opn) : ((opC o).drop 4)[0]? = some (i64 o.im) := rfl
attribute [push_cast] op_d0 op_d1 op_d2 op_d3 op_d4 op_1 op_2 op_3 op_4 opC_take opC_len opC_one
theorem tmod_zero (z : Int) : z.tmod 256 = 0 ↔ z % 256 = 0 := by
  constructor
  · intro h; exact Int.emod_eq_zero_of_dvd (Int.dvd_of_tmod_eq_zero h)
  · intro h; exact Int.tmod_eq_zero_of_dvd (Int.dvd_of_emod_eq_zero h)
theorem im_eq (x y : Int) : decide ((IntKind.i64.wrap (x - y)).tmod 256 = 0) = decide (IntKind.wrap .u8 x = IntKind.wrap .u8 y) := by
  apply decide_eq_decide.2
  rw [tmod_zero]
  simp only [IntKind.wrap, IntKind.bits, IntKind.signed, Bool.true_and, Bool.false_and, decide_eq_true_eq, ge_iff_le, Bool.false_eq_true, if_false]
  split <;> omega
def twoS (a b : Opn) : Bool := memS a && memS b && (decide (a.k = 16) || decide (b.k = 16))
theorem f115 (l : List Opn) (i j : Nat) (hi : i < l.length) (hj : j < l.length) (hl : ∀ o ∈ l, o.ok) : HV Try.prog 115 [.row (l.map opC), i64 i, i64 j] (bl (twoS l[i] l[j])) := by
  refine yJ yL cf115 (by simp) (by simp [imms, imm, yR]) ?_ rfl
  unfold ac115 re115
  refine yF fun env hE => ?_; have e0 := hE 0; have e1 := hE 1; have e2 := hE 2; have e6 := hE 6; have e7 := hE 7; have e8 := hE 8; have e9 := hE 9; simp -implicitDefEqProofs only [push_cast] at e0 e1 e2 e6 e7 e8 e9; clear hE
  have hr := qJ hi .i64
  have hq := qJ hj .i64
  have ho := hl _ (List.getElem_mem hi)
  have hp := hl _ (List.getElem_mem hj)
  generalize l[i] = a at *
  generalize l[j] = b at *
  have d1 : decide ((i : Int) < 0) = false := decide_eq_false (by omega)
  have d2 : decide ((j : Int) < 0) = false := decide_eq_false (by omega)
  have d3 : decide ((l.length : Int) ≤ (i : Int)) = false := decide_eq_false (by omega)
  have d4 : decide ((l.length : Int) ≤ (j : Int)) = false := decide_eq_false (by omega)
  repeat' (first | ((try clear hf); with_reducible refine zM fun env K hE hK hf => ?_; have n : _ ∧ _ ∧ _ ∧ _ ∧ _ ∧ _ ∧ _ := ⟨hE 0, hE 1, hE 2, hE 6, hE 7, hE 8, hE 9⟩; simp -implicitDefEqProofs only [push_cast, reduceIte, Nat.reduceEqDiff, e0, e1, e2, e6, e7, e8, e9] at n; clear hE e0 e1 e2 e6 e7 e8 e9; obtain ⟨e0, e1, e2, e6, e7, e8, e9⟩ := n) | (with_reducible refine hK _ _ ?_; clear hK K) | (with_reducible first | refine zJ ?_ | refine zU ?_ | refine zB ?_ | refine zG ?_ | refine zE ?_ | refine zL ?_ | refine zT ?_ | refine zD ?_ | refine zH ?_ | refine zV ?_ | refine zF ?_ | refine zA (by decide) ?_ | refine zP ?_ | refine zO ?_ | refine zK ?_ | refine yB ?_ | refine yC ?_ | refine zW (by assumption) ?_ | refine zY (by assumption) ?_) | (refine zI rfl ?_) | (simp -implicitDefEqProofs only [push_cast, sevalprocAttr, eq_self, e0, e1, e2, e6, e7, e8, e9, hr, hq, d1, d2, d3, d4, opC_take, opC_len, opC_one]) | (simp -implicitDefEqProofs (disch := omega) only [zR, zZ, zS, zQ, e0, e1, e2, e6, e7, e8, e9, hr, hq, d1, d2, d3, d4, opC_take, opC_len, opC_one]) | (with_reducible refine yE ?_ ?_) | (refine zN rfl (fun bb => ?_) (fun bb => ?_) <;> (first | have bp := of_decide_eq_true bb | have bp := of_decide_eq_false bb | skip) <;> simp only [bb]) | (with_reducible refine zX (fun bb => ?_) (fun bb => ?_) <;> (first | have bp := of_decide_eq_true bb | have bp := of_decide_eq_false bb | skip)) | ((with_reducible refine And.intro ?_ ?_); omega) | (refine yD (f111 a ho) ?_) | (refine yD (f111 b hp) ?_) | fail)
  all_goals ((try clear hf); (try clear e0 e1 e2 e6 e7 e8 e9); clear hr hq ho hp hl; simp only [twoS, memS]; simp_all)
theorem written_iff {l : List Opn} {f t : Nat} {r : Int} (ht : t ≤ l.length) : writtenS ((l.drop f).take (t - f)) r = true ↔ ∃ q, f ≤ q ∧ q < t ∧ ((wrS (opAt l q)).2 && decide ((wrS (opAt l q)).1 = r)) = true := by
  unfold writtenS
  rw [List.any_eq_true]
  constructor
  · rintro ⟨x, hx, h⟩
    obtain ⟨q, hq, rfl⟩ := List.getElem_of_mem hx
    simp only [List.length_take, List.length_drop] at hq
    refine ⟨f + q, by omega, by omega, ?_⟩
    rw [← qD (by omega)]
    simpa using h
  · rintro ⟨q, h1, h2, h⟩
    rw [← qD (by omega)] at h
    refine ⟨l[q]'(by omega), ?_, h⟩
    have : ((l.drop f).take (t - f))[q - f]? = some (l[q]'(by omega)) := by
      rw [List.getElem?_take_of_lt (by omega), List.getElem?_drop, show f + (q - f) = q by omega, List.getElem?_eq_getElem]
    exact List.mem_of_getElem? this
def apS (a b : Opn) (s : List Opn) : Bool := !(decide (a.a ≠ b.a) || decide (IntKind.wrap .u8 a.im = IntKind.wrap .u8 b.im)) && !(writtenS s a.a)
set_option maxHeartbeats 1000000 in
theorem f116 (l : List Opn) (i j f t : Nat) (hi : i < l.length) (hj : j < l.length) (hl : ∀ o ∈ l, o.ok) (h1 : f ≤ t) (h2 : t ≤ l.length) (hn : l.length ≤ 1000000) :
    HV Try.prog 116 [.row (l.map opC), i64 i, i64 j, i64 f, i64 t] (bl (apS l[i] l[j] ((l.drop f).take (t - f)))) := by
  refine yJ yL cf116 (by simp) (by simp [imms, imm, yR]) ?_ rfl
  unfold ac116 re116
  refine yF fun env hE => ?_; have e0 := hE 0; have e1 := hE 1; have e2 := hE 2; have e3 := hE 3; have e4 := hE 4; have e10 := hE 10; have e11 := hE 11; have e12 := hE 12; have e13 := hE 13; simp -implicitDefEqProofs only [push_cast] at e0 e1 e2 e3 e4 e10 e11 e12 e13; clear hE
  have hr := qJ hi .i64
  have hq := qJ hj .i64
  have hwi := written_iff (l := l) (f := f) (t := t) (r := l[i].a) h2
  generalize hai : l[i] = a at *
  generalize l[j] = b at *
  by_cases hc : (decide (a.a ≠ b.a) || decide (IntKind.wrap .u8 a.im = IntKind.wrap .u8 b.im)) = true
  · have hs : apS a b ((l.drop f).take (t - f)) = false := by unfold apS; rw [hc]; rfl
    rw [hs]
    by_cases h3 : a.a = b.a
    · have d1 : decide (a.a ≠ b.a) = false := decide_eq_false (fun h => h h3)
      have d2 : decide (IntKind.wrap .u8 a.im = IntKind.wrap .u8 b.im) = true := by rw [d1, Bool.false_or] at hc; exact hc
      repeat' (first | ((try clear hf); with_reducible refine zM fun env K hE hK hf => ?_; have n : _ ∧ _ ∧ _ ∧ _ ∧ _ ∧ _ ∧ _ ∧ _ ∧ _ := ⟨hE 0, hE 1, hE 2, hE 3, hE 4, hE 10, hE 11, hE 12, hE 13⟩; simp -implicitDefEqProofs only [push_cast, reduceIte, Nat.reduceEqDiff, e0, e1, e2, e3, e4, e10, e11, e12, e13] at n; clear hE e0 e1 e2 e3 e4 e10 e11 e12 e13; obtain ⟨e0, e1, e2, e3, e4, e10, e11, e12, e13⟩ := n) | (with_reducible refine hK _ _ ?_; clear hK K) | (with_reducible first | refine zJ ?_ | refine zU ?_ | refine zB ?_ | refine zG ?_ | refine zE ?_ | refine zL ?_ | refine zT ?_ | refine zD ?_ | refine zH ?_ | refine zV ?_ | refine zF ?_ | refine zA (by decide) ?_ | refine zP ?_ | refine zO ?_ | refine zK ?_ | refine yB ?_ | refine yC ?_ | refine zW (by assumption) ?_ | refine zY (by assumption) ?_) | (refine zI rfl ?_) | (simp -implicitDefEqProofs only [push_cast, sevalprocAttr, eq_self, e0, e1, e2, e3, e4, e10, e11, e12, e13, hr, hq, d1, d2, op_2, op_4, im_eq]) | (simp -implicitDefEqProofs (disch := omega) only [zR, zZ, zS, zQ, e0, e1, e2, e3, e4, e10, e11, e12, e13, hr, hq, d1, d2, op_2, op_4, im_eq]) | (with_reducible refine yE ?_ ?_) | (refine zN rfl (fun bb => ?_) (fun bb => ?_) <;> (first | have bp := of_decide_eq_true bb | have bp := of_decide_eq_false bb | skip) <;> simp only [bb]) | (with_reducible refine zX (fun bb => ?_) (fun bb => ?_) <;> (first | have bp := of_decide_eq_true bb | have bp := of_decide_eq_false bb | skip)) | ((with_reducible refine And.intro ?_ ?_); omega) | fail)
    · have d1 : decide (a.a ≠ b.a) = true := decide_eq_true h3
      repeat' (first | ((try clear hf); with_reducible refine zM fun env K hE hK hf => ?_; have n : _ ∧ _ ∧ _ ∧ _ ∧ _ ∧ _ ∧ _ ∧ _ ∧ _ := ⟨hE 0, hE 1, hE 2, hE 3, hE 4, hE 10, hE 11, hE 12, hE 13⟩; simp -implicitDefEqProofs only [push_cast, reduceIte, Nat.reduceEqDiff, e0, e1, e2, e3, e4, e10, e11, e12, e13] at n; clear hE e0 e1 e2 e3 e4 e10 e11 e12 e13; obtain ⟨e0, e1, e2, e3, e4, e10, e11, e12, e13⟩ := n) | (with_reducible refine hK _ _ ?_; clear hK K) | (with_reducible first | refine zJ ?_ | refine zU ?_ | refine zB ?_ | refine zG ?_ | refine zE ?_ | refine zL ?_ | refine zT ?_ | refine zD ?_ | refine zH ?_ | refine zV ?_ | refine zF ?_ | refine zA (by decide) ?_ | refine zP ?_ | refine zO ?_ | refine zK ?_ | refine yB ?_ | refine yC ?_ | refine zW (by assumption) ?_ | refine zY (by assumption) ?_) | (refine zI rfl ?_) | (simp -implicitDefEqProofs only [push_cast, sevalprocAttr, eq_self, e0, e1, e2, e3, e4, e10, e11, e12, e13, hr, hq, d1, op_2, op_4, im_eq]) | (simp -implicitDefEqProofs (disch := omega) only [zR, zZ, zS, zQ, e0, e1, e2, e3, e4, e10, e11, e12, e13, hr, hq, d1, op_2, op_4, im_eq]) | (with_reducible refine yE ?_ ?_) | (refine zN rfl (fun bb => ?_) (fun bb => ?_) <;> (first | have bp := of_decide_eq_true bb | have bp := of_decide_eq_false bb | skip) <;> simp only [bb]) | (with_reducible refine zX (fun bb => ?_) (fun bb => ?_) <;> (first | have bp := of_decide_eq_true bb | have bp := of_decide_eq_false bb | skip)) | ((with_reducible refine And.intro ?_ ?_); omega) | fail)
  · rw [Bool.not_eq_true, Bool.or_eq_false_iff] at hc
    obtain ⟨d1, d2⟩ := hc
    have hs : apS a b ((l.drop f).take (t - f)) = !(writtenS ((l.drop f).take (t - f)) a.a) := by unfold apS; rw [d1, d2]; rfl
    repeat' (first | ((try clear hf); with_reducible refine zM fun env K hE hK hf => ?_; have n : _ ∧ _ ∧ _ ∧ _ ∧ _ ∧ _ ∧ _ ∧ _ ∧ _ := ⟨hE 0, hE 1, hE 2, hE 3, hE 4, hE 10, hE 11, hE 12, hE 13⟩; simp -implicitDefEqProofs only [push_cast, reduceIte, Nat.reduceEqDiff, e0, e1, e2, e3, e4, e10, e11, e12, e13] at n; clear hE e0 e1 e2 e3 e4 e10 e11 e12 e13; obtain ⟨e0, e1, e2, e3, e4, e10, e11, e12, e13⟩ := n) | (with_reducible refine hK _ _ ?_; clear hK K) | (with_reducible first | refine zJ ?_ | refine zU ?_ | refine zB ?_ | refine zG ?_ | refine zE ?_ | refine zL ?_ | refine zT ?_ | refine zD ?_ | refine zH ?_ | refine zV ?_ | refine zF ?_ | refine zA (by decide) ?_ | refine zP ?_ | refine zO ?_ | refine zK ?_ | refine yB ?_ | refine yC ?_ | refine zW (by assumption) ?_ | refine zY (by assumption) ?_) | (refine zI rfl ?_) | (simp -implicitDefEqProofs only [push_cast, sevalprocAttr, eq_self, e0, e1, e2, e3, e4, e10, e11, e12, e13, hr, hq, d1, d2, op_2, op_4, im_eq]) | (simp -implicitDefEqProofs (disch := omega) only [zR, zZ, zS, zQ, e0, e1, e2, e3, e4, e10, e11, e12, e13, hr, hq, d1, d2, op_2, op_4, im_eq]) | (with_reducible refine yE ?_ ?_) | (refine zN rfl (fun bb => ?_) (fun bb => ?_) <;> (first | have bp := of_decide_eq_true bb | have bp := of_decide_eq_false bb | skip) <;> simp only [bb]) | (with_reducible refine zX (fun bb => ?_) (fun bb => ?_) <;> (first | have bp := of_decide_eq_true bb | have bp := of_decide_eq_false bb | skip)) | ((with_reducible refine And.intro ?_ ?_); omega) | fail)
    refine yF fun env hE => ?_; have n : _ ∧ _ ∧ _ ∧ _ ∧ _ ∧ _ ∧ _ ∧ _ ∧ _ := ⟨hE 0, hE 1, hE 2, hE 3, hE 4, hE 10, hE 11, hE 12, hE 13⟩; simp -implicitDefEqProofs only [push_cast, reduceIte, Nat.reduceEqDiff, e0, e1, e2, e3, e4, e10, e11, e12, e13] at n; clear hE e0 e1 e2 e3 e4 e10 e11 e12 e13; obtain ⟨e0, e1, e2, e3, e4, e10, e11, e12, e13⟩ := n; have E116_0_0 := e0; have E116_0_1 := e1; have E116_0_2 := e2; have E116_0_3 := e3; have E116_0_4 := e4
    refine yN (fun nn σ => ∃ (k : Nat), nn = t - k ∧ σ.env 0 = env 0 ∧ σ.env 1 = env 1 ∧ σ.env 2 = env 2 ∧ σ.env 3 = env 3 ∧ σ.env 4 = env 4 ∧ σ.env 11 = i64 k ∧ (f ≤ k ∧ k ≤ t ∧ (∀ q, f ≤ q → q < k → ((wrS (opAt l q)).2 && decide ((wrS (opAt l q)).1 = a.a)) = false))) _ ⟨f, rfl, rfl, rfl, rfl, rfl, rfl, by refine e11.trans ?_; first | rfl | exact yG (by omega) | (simp -implicitDefEqProofs (disch := omega) only [zQ]; first | rfl | exact yG (by omega)), ?_⟩ ?_
    · exact ⟨by omega, by omega, fun q h1 h2 => by omega⟩
    clear e0 e1 e2 e3 e4 e10 e11 e12 e13; rintro nn ⟨env, h⟩ ⟨k, rfl, q0, q1, q2, q3, q4, e11, hI⟩; simp only at q0 q1 q2 q3 q4 e11 hI; (first | have e0 := q0.trans E116_0_0 | have e0 := True.intro); (first | have e1 := q1.trans E116_0_1 | have e1 := True.intro); (first | have e2 := q2.trans E116_0_2 | have e2 := True.intro); (first | have e3 := q3.trans E116_0_3 | have e3 := True.intro); (first | have e4 := q4.trans E116_0_4 | have e4 := True.intro); clear q0 q1 q2 q3 q4; have e10 := True.intro; have e12 := True.intro; have e13 := True.intro
    obtain ⟨k1, k2, hall⟩ := hI
    unfold l116_0
    by_cases hlt : k < t
    · have hd : decide ((k : Int) < (t : Int)) = true := decide_eq_true (by omega)
      have hr2 := qJ (l := l) (k := k) (by omega) .i64
      have ho := hl _ (List.getElem_mem (show k < l.length by omega))
      have hoe := qD (l := l) (j := k) (by omega)
      generalize l[k] = o at *
      by_cases hw : ((wrS o).2 && decide ((wrS o).1 = a.a)) = true
      · have w := hw
        rw [Bool.and_eq_true] at hw
        obtain ⟨w1, w2⟩ := hw
        repeat' (first | ((try clear hf); with_reducible refine zM fun env K hE hK hf => ?_; have n : _ ∧ _ ∧ _ ∧ _ ∧ _ ∧ _ ∧ _ ∧ _ ∧ _ := ⟨hE 0, hE 1, hE 2, hE 3, hE 4, hE 10, hE 11, hE 12, hE 13⟩; simp -implicitDefEqProofs only [push_cast, reduceIte, Nat.reduceEqDiff, e0, e1, e2, e3, e4, e10, e11, e12, e13] at n; clear hE e0 e1 e2 e3 e4 e10 e11 e12 e13; obtain ⟨e0, e1, e2, e3, e4, e10, e11, e12, e13⟩ := n) | (with_reducible refine hK _ _ ?_; clear hK K) | (with_reducible first | refine zJ ?_ | refine zU ?_ | refine zB ?_ | refine zG ?_ | refine zE ?_ | refine zL ?_ | refine zT ?_ | refine zD ?_ | refine zH ?_ | refine zV ?_ | refine zF ?_ | refine zA (by decide) ?_ | refine zP ?_ | refine zO ?_ | refine zK ?_ | refine yB ?_ | refine yC ?_ | refine zW (by assumption) ?_ | refine zY (by assumption) ?_) | (refine zI rfl ?_) | (simp -implicitDefEqProofs only [push_cast, sevalprocAttr, eq_self, e0, e1, e2, e3, e4, e10, e11, e12, e13, hd, hr, hr2, w1, w2]) | (simp -implicitDefEqProofs (disch := omega) only [zR, zZ, zS, zQ, e0, e1, e2, e3, e4, e10, e11, e12, e13, hd, hr, hr2, w1, w2]) | (with_reducible refine yE ?_ ?_) | (refine zN rfl (fun bb => ?_) (fun bb => ?_) <;> (first | have bp := of_decide_eq_true bb | have bp := of_decide_eq_false bb | skip) <;> simp only [bb]) | (with_reducible refine zX (fun bb => ?_) (fun bb => ?_) <;> (first | have bp := of_decide_eq_true bb | have bp := of_decide_eq_false bb | skip)) | ((with_reducible refine And.intro ?_ ?_); omega) | (refine yD (f88 o ho) ?_) | fail)
        rw [hs, hwi.2 ⟨k, k1, hlt, by rw [← hoe]; exact w⟩]
        rfl
      · rw [Bool.not_eq_true] at hw
        have w := hw
        rw [Bool.and_eq_false_iff] at hw
        rcases hw with w1 | w1
        · repeat' (first | ((try clear hf); with_reducible refine zM fun env K hE hK hf => ?_; have n : _ ∧ _ ∧ _ ∧ _ ∧ _ ∧ _ ∧ _ ∧ _ ∧ _ := ⟨hE 0, hE 1, hE 2, hE 3, hE 4, hE 10, hE 11, hE 12, hE 13⟩; simp -implicitDefEqProofs only [push_cast, reduceIte, Nat.reduceEqDiff, e0, e1, e2, e3, e4, e10, e11, e12, e13] at n; clear hE e0 e1 e2 e3 e4 e10 e11 e12 e13; obtain ⟨e0, e1, e2, e3, e4, e10, e11, e12, e13⟩ := n) | (with_reducible refine hK _ _ ?_; clear hK K) | (with_reducible first | refine zJ ?_ | refine zU ?_ | refine zB ?_ | refine zG ?_ | refine zE ?_ | refine zL ?_ | refine zT ?_ | refine zD ?_ | refine zH ?_ | refine zV ?_ | refine zF ?_ | refine zA (by decide) ?_ | refine zP ?_ | refine zO ?_ | refine zK ?_ | refine yB ?_ | refine yC ?_ | refine zW (by assumption) ?_ | refine zY (by assumption) ?_) | (refine zI rfl ?_) | (simp -implicitDefEqProofs only [push_cast, sevalprocAttr, eq_self, e0, e1, e2, e3, e4, e10, e11, e12, e13, hd, hr, hr2, w1]) | (simp -implicitDefEqProofs (disch := omega) only [zR, zZ, zS, zQ, e0, e1, e2, e3, e4, e10, e11, e12, e13, hd, hr, hr2, w1]) | (with_reducible refine yE ?_ ?_) | (refine zN rfl (fun bb => ?_) (fun bb => ?_) <;> (first | have bp := of_decide_eq_true bb | have bp := of_decide_eq_false bb | skip) <;> simp only [bb]) | (with_reducible refine zX (fun bb => ?_) (fun bb => ?_) <;> (first | have bp := of_decide_eq_true bb | have bp := of_decide_eq_false bb | skip)) | ((with_reducible refine And.intro ?_ ?_); omega) | (refine yD (f88 o ho) ?_) | fail)
          refine ⟨_, ?_, k + 1, rfl, E116_0_0.symm, E116_0_1.symm, E116_0_2.symm, E116_0_3.symm, E116_0_4.symm, by first | rfl | exact yG (by omega) | (simp -implicitDefEqProofs (disch := omega) only [zQ]; first | rfl | exact yG (by omega)), ?_⟩
          · omega
          · refine ⟨by omega, by omega, fun q h1 h2 => ?_⟩
            by_cases e : q < k
            · exact hall q h1 e
            · obtain rfl : q = k := by omega
              rw [← hoe]; exact w
        · repeat' (first | ((try clear hf); with_reducible refine zM fun env K hE hK hf => ?_; have n : _ ∧ _ ∧ _ ∧ _ ∧ _ ∧ _ ∧ _ ∧ _ ∧ _ := ⟨hE 0, hE 1, hE 2, hE 3, hE 4, hE 10, hE 11, hE 12, hE 13⟩; simp -implicitDefEqProofs only [push_cast, reduceIte, Nat.reduceEqDiff, e0, e1, e2, e3, e4, e10, e11, e12, e13] at n; clear hE e0 e1 e2 e3 e4 e10 e11 e12 e13; obtain ⟨e0, e1, e2, e3, e4, e10, e11, e12, e13⟩ := n) | (with_reducible refine hK _ _ ?_; clear hK K) | (with_reducible first | refine zJ ?_ | refine zU ?_ | refine zB ?_ | refine zG ?_ | refine zE ?_ | refine zL ?_ | refine zT ?_ | refine zD ?_ | refine zH ?_ | refine zV ?_ | refine zF ?_ | refine zA (by decide) ?_ | refine zP ?_ | refine zO ?_ | refine zK ?_ | refine yB ?_ | refine yC ?_ | refine zW (by assumption) ?_ | refine zY (by assumption) ?_) | (refine zI rfl ?_) | (simp -implicitDefEqProofs only [push_cast, sevalprocAttr, eq_self, e0, e1, e2, e3, e4, e10, e11, e12, e13, hd, hr, hr2, w1]) | (simp -implicitDefEqProofs (disch := omega) only [zR, zZ, zS, zQ, e0, e1, e2, e3, e4, e10, e11, e12, e13, hd, hr, hr2, w1]) | (with_reducible refine yE ?_ ?_) | (refine zN rfl (fun bb => ?_) (fun bb => ?_) <;> (first | have bp := of_decide_eq_true bb | have bp := of_decide_eq_false bb | skip) <;> simp only [bb]) | (with_reducible refine zX (fun bb => ?_) (fun bb => ?_) <;> (first | have bp := of_decide_eq_true bb | have bp := of_decide_eq_false bb | skip)) | ((with_reducible refine And.intro ?_ ?_); omega) | (refine yD (f88 o ho) ?_) | fail)
          all_goals
            refine ⟨_, ?_, k + 1, rfl, E116_0_0.symm, E116_0_1.symm, E116_0_2.symm, E116_0_3.symm, E116_0_4.symm, by first | rfl | exact yG (by omega) | (simp -implicitDefEqProofs (disch := omega) only [zQ]; first | rfl | exact yG (by omega)), ?_⟩
            · omega
            · refine ⟨by omega, by omega, fun q h1 h2 => ?_⟩
              by_cases e : q < k
              · exact hall q h1 e
              · obtain rfl : q = k := by omega
                rw [← hoe]; exact w
    · have hd : decide ((k : Int) < (t : Int)) = false := decide_eq_false (by omega)
      repeat' (first | ((try clear hf); with_reducible refine zM fun env K hE hK hf => ?_; have n : _ ∧ _ ∧ _ ∧ _ ∧ _ ∧ _ ∧ _ ∧ _ ∧ _ := ⟨hE 0, hE 1, hE 2, hE 3, hE 4, hE 10, hE 11, hE 12, hE 13⟩; simp -implicitDefEqProofs only [push_cast, reduceIte, Nat.reduceEqDiff, e0, e1, e2, e3, e4, e10, e11, e12, e13] at n; clear hE e0 e1 e2 e3 e4 e10 e11 e12 e13; obtain ⟨e0, e1, e2, e3, e4, e10, e11, e12, e13⟩ := n) | (with_reducible refine hK _ _ ?_; clear hK K) | (with_reducible first | refine zJ ?_ | refine zU ?_ | refine zB ?_ | refine zG ?_ | refine zE ?_ | refine zL ?_ | refine zT ?_ | refine zD ?_ | refine zH ?_ | refine zV ?_ | refine zF ?_ | refine zA (by decide) ?_ | refine zP ?_ | refine zO ?_ | refine zK ?_ | refine yB ?_ | refine yC ?_ | refine zW (by assumption) ?_ | refine zY (by assumption) ?_) | (refine zI rfl ?_) | (simp -implicitDefEqProofs only [push_cast, sevalprocAttr, eq_self, e0, e1, e2, e3, e4, e10, e11, e12, e13, hd]) | (simp -implicitDefEqProofs (disch := omega) only [zR, zZ, zS, zQ, e0, e1, e2, e3, e4, e10, e11, e12, e13, hd]) | (with_reducible refine yE ?_ ?_) | (refine zN rfl (fun bb => ?_) (fun bb => ?_) <;> (first | have bp := of_decide_eq_true bb | have bp := of_decide_eq_false bb | skip) <;> simp only [bb]) | (with_reducible refine zX (fun bb => ?_) (fun bb => ?_) <;> (first | have bp := of_decide_eq_true bb | have bp := of_decide_eq_false bb | skip)) | ((with_reducible refine And.intro ?_ ?_); omega) | fail)
      have : writtenS ((l.drop f).take (t - f)) a.a = false := by
        rw [← Bool.not_eq_true]
        intro h
        obtain ⟨q, h1, h2, h3⟩ := hwi.1 h
        rw [hall q h1 (by omega)] at h3
        cases h3
      rw [hs, this]
      rfl
theorem meet_ref (a b : Opn) (s : List Opn) : (twoS a b && !(apS a b s)) = meetS a b s := by
  unfold twoS apS meetS memS
  by_cases h1 : a.k = 15 <;> by_cases h2 : a.k = 16 <;> by_cases h3 : b.k = 15 <;> by_cases h4 : b.k = 16 <;> simp [h1, h2, h3, h4] <;> (try omega)
theorem f102 (l : List Opn) (i j : Nat) (hij : i < j) (hj : j < l.length) (hl : ∀ o ∈ l, o.ok) (hn : l.length ≤ 1000000) :
    HV Try.prog 102 [.row (l.map opC), i64 i, i64 j] (bl (meetL l i j (by omega) hj)) := by
  refine yJ yL cf102 (by simp) (by simp [imms, imm, yR]) ?_ rfl
  unfold ac102 re102
  refine yF fun env hE => ?_; have e0 := hE 0; have e1 := hE 1; have e2 := hE 2; have e6 := hE 6; simp -implicitDefEqProofs only [push_cast] at e0 e1 e2 e6; clear hE
  have d1 : decide ((i : Int) < (j : Int)) = true := decide_eq_true (by omega)
  have hm := meet_ref (l[i]'(by omega)) l[j] ((l.drop i).take (j - i))
  unfold meetL
  rw [← hm]
  have h1 := f115 l i j (by omega) hj hl
  have h2 := f116 l i j i j (by omega) hj hl (by omega) (by omega) hn
  generalize twoS (l[i]'(by omega)) l[j] = b1 at *
  generalize apS (l[i]'(by omega)) l[j] ((l.drop i).take (j - i)) = b2 at *
  repeat' (first | ((try clear hf); with_reducible refine zM fun env K hE hK hf => ?_; have n : _ ∧ _ ∧ _ ∧ _ := ⟨hE 0, hE 1, hE 2, hE 6⟩; simp -implicitDefEqProofs only [push_cast, reduceIte, Nat.reduceEqDiff, e0, e1, e2, e6] at n; clear hE e0 e1 e2 e6; obtain ⟨e0, e1, e2, e6⟩ := n) | (with_reducible refine hK _ _ ?_; clear hK K) | (with_reducible first | refine zJ ?_ | refine zU ?_ | refine zB ?_ | refine zG ?_ | refine zE ?_ | refine zL ?_ | refine zT ?_ | refine zD ?_ | refine zH ?_ | refine zV ?_ | refine zF ?_ | refine zA (by decide) ?_ | refine zP ?_ | refine zO ?_ | refine zK ?_ | refine yB ?_ | refine yC ?_ | refine zW (by assumption) ?_ | refine zY (by assumption) ?_) | (refine zI rfl ?_) | (simp -implicitDefEqProofs only [push_cast, sevalprocAttr, eq_self, e0, e1, e2, e6, d1]) | (simp -implicitDefEqProofs (disch := omega) only [zR, zZ, zS, zQ, e0, e1, e2, e6, d1]) | (with_reducible refine yE ?_ ?_) | (refine zN rfl (fun bb => ?_) (fun bb => ?_) <;> (first | have bp := of_decide_eq_true bb | have bp := of_decide_eq_false bb | skip) <;> simp only [bb]) | (with_reducible refine zX (fun bb => ?_) (fun bb => ?_) <;> (first | have bp := of_decide_eq_true bb | have bp := of_decide_eq_false bb | skip)) | ((with_reducible refine And.intro ?_ ?_); omega) | (refine yD h1 ?_) | (refine yD h2 ?_) | fail)
  all_goals ((try clear hf); (try clear e0 e1 e2 e6); simp_all)
theorem f95 (l : List Opn) (i j : Nat) (hi : i < l.length) (hj : j < l.length) (hl : ∀ o ∈ l, o.ok) (hn : l.length ≤ 1000000) :
    HV Try.prog 95 [.row (l.map opC), i64 i, i64 j] (bl (meetS l[i] l[j] l)) := by
  refine yJ yL cf95 (by simp) (by simp [imms, imm, yR]) ?_ rfl
  unfold ac95 re95
  refine yF fun env hE => ?_; have e0 := hE 0; have e1 := hE 1; have e2 := hE 2; have e6 := hE 6; simp -implicitDefEqProofs only [push_cast] at e0 e1 e2 e6; clear hE
  have hm := meet_ref l[i] l[j] l
  rw [← hm]
  have h1 := f115 l i j hi hj hl
  have h2 := f116 l i j 0 l.length hi hj hl (by omega) (by omega) hn
  rw [Nat.sub_zero, List.drop_zero, List.take_length] at h2
  generalize twoS l[i] l[j] = b1 at *
  generalize apS l[i] l[j] l = b2 at *
  repeat' (first | ((try clear hf); with_reducible refine zM fun env K hE hK hf => ?_; have n : _ ∧ _ ∧ _ ∧ _ := ⟨hE 0, hE 1, hE 2, hE 6⟩; simp -implicitDefEqProofs only [push_cast, reduceIte, Nat.reduceEqDiff, e0, e1, e2, e6] at n; clear hE e0 e1 e2 e6; obtain ⟨e0, e1, e2, e6⟩ := n) | (with_reducible refine hK _ _ ?_; clear hK K) | (with_reducible first | refine zJ ?_ | refine zU ?_ | refine zB ?_ | refine zG ?_ | refine zE ?_ | refine zL ?_ | refine zT ?_ | refine zD ?_ | refine zH ?_ | refine zV ?_ | refine zF ?_ | refine zA (by decide) ?_ | refine zP ?_ | refine zO ?_ | refine zK ?_ | refine yB ?_ | refine yC ?_ | refine zW (by assumption) ?_ | refine zY (by assumption) ?_) | (refine zI rfl ?_) | (simp -implicitDefEqProofs only [push_cast, sevalprocAttr, eq_self, e0, e1, e2, e6]) | (simp -implicitDefEqProofs (disch := omega) only [zR, zZ, zS, zQ, e0, e1, e2, e6]) | (with_reducible refine yE ?_ ?_) | (refine zN rfl (fun bb => ?_) (fun bb => ?_) <;> (first | have bp := of_decide_eq_true bb | have bp := of_decide_eq_false bb | skip) <;> simp only [bb]) | (with_reducible refine zX (fun bb => ?_) (fun bb => ?_) <;> (first | have bp := of_decide_eq_true bb | have bp := of_decide_eq_false bb | skip)) | ((with_reducible refine And.intro ?_ ?_); omega) | (refine yD h1 ?_) | (refine yD h2 ?_) | fail)
  all_goals ((try clear hf); (try clear e0 e1 e2 e6); simp_all)
end Go.Proofs.Hx

set_option linter.unusedVariables false
set_option linter.unusedSimpArgs false
namespace Go.Proofs.Hx
open Go Go.Proofs
attribute [local irreducible] yM awp opK goV goM yV yZ qF yQ HV HVF HC
/-! ### Appends, whatever they find -/
theorem goM_app1 {α : Type} {f : α → List AV} {sz : Nat} {d : Option Nat} {K : St → Prop} {env : Nat → AV} {h : Hp} {a : AV} {es : List α} (s : SlO f sz h a es) (hf : ∀ a, (f a).length = sz) {bytes : Nat} {id : Id} {e : α} (ho : (f e).all one = true)
    (hb : (es.length + 1 + (es.length + 1) / 4 + 512) * bytes ≤ 281474976710656) (hid : idOf a ≠ some id) (hle : id.1 ≤ h.ep)
    (k : ∀ h' a', SlO f sz h' a' (es ++ [e]) → (∀ x, idOf a' = some x → x = id) → h'.ep = h.ep → (∀ x, x ≠ id → idOf a ≠ some x → h'.hp x = h.hp x) → K ⟨putA env d a', h'⟩) : goM d K env (appV h id sz bytes 1 (f e) a) := by
  refine goM_of _ _ (s.app hf id (by decide) ho hb) (k _ _ ⟨.inr ⟨id, by simp, ?_, by rw [push_ep, killA_ep]; exact hle⟩⟩ (fun x hx => by simp [idOf] at hx; exact hx.symm) (by rw [push_ep, killA_ep]) fun x h1 h2 => ?_)
  · rw [push_self]; simp
  · rw [push_ne _ _ _ _ h1, killA_ne _ _ h2]
theorem goM_appN {α : Type} {f : α → List AV} {sz : Nat} {d : Option Nat} {K : St → Prop} {env : Nat → AV} {h : Hp} {a : AV} {es : List α} (s : SlO f sz h a es) (hf : ∀ a, (f a).length = sz) {bytes : Nat} {id : Id} {fs : List α} (ho : (fs.flatMap f).all one = true)
    (hb : (es.length + fs.length + (es.length + fs.length) / 4 + 512) * bytes ≤ 281474976710656) (hid : idOf a ≠ some id) (hle : id.1 ≤ h.ep)
    (k : ∀ h' a', SlO f sz h' a' (es ++ fs) → (∀ x, idOf a' = some x → x = id) → h'.ep = h.ep → (∀ x, x ≠ id → idOf a ≠ some x → h'.hp x = h.hp x) → K ⟨putA env d a', h'⟩) : goM d K env (appV h id sz bytes fs.length (fs.flatMap f) a) := by
  rcases (show fs = [] ∨ fs.length ≠ 0 from by cases fs <;> simp) with h0 | h0
  · subst h0
    rcases s.st with ⟨rfl, rfl⟩ | ⟨t, rfl, h2, h3⟩
    · exact goM_of _ _ (appV_nil0 _ _ _ _ _) (k _ _ (SlO.nil _ _ _) (fun x hx => by simp [idOf] at hx) rfl fun x _ _ => rfl)
    · refine goM_of (.sl id 0 (es.length + 0) sz) ((h.kill t).push id ((es.flatMap f).take (es.length * sz) ++ [])) ?_ (k _ _ ⟨.inr ⟨id, by simp, ?_, hle⟩⟩ (fun x hx => by simp [idOf] at hx; exact hx.symm) rfl fun x h1 h2 => ?_)
      · rw [appV_sl_eq, h2]
        simp only [Option.bind_some]
        simp only [List.length_nil, Nat.add_zero] at hb ⊢
        rw [if_pos ⟨trivial, trivial, rfl, hb⟩, List.drop_zero]
        rfl
      · rw [push_self, ← flat_len hf, List.take_length]; simp
      · rw [push_ne _ _ _ _ h1, kill_ne _ _ _ (fun e => h2 (by rw [e]; rfl))]
  · refine goM_of _ _ (s.app hf id h0 ho hb) (k _ _ ⟨.inr ⟨id, by simp, ?_, by rw [push_ep, killA_ep]; exact hle⟩⟩ (fun x hx => by simp [idOf] at hx; exact hx.symm) (by rw [push_ep, killA_ep]) fun x h1 h2 => ?_)
    · rw [push_self]; simp
    · rw [push_ne _ _ _ _ h1, killA_ne _ _ h2]
theorem app_src {α : Type} (f : α → List AV) (sz : Nat) (hf : ∀ a, (f a).length = sz) (h : Hp) (es : List α) : appSrc h sz (.row (es.map f)) = some (es.length, es.flatMap f) := by
  rw [appSrc_row h (fun x hx => by simp at hx; obtain ⟨a, _, rfl⟩ := hx; exact hf a), List.length_map]
  rfl
theorem flat_one {α : Type} {f : α → List AV} (ho : ∀ a, (f a).all one = true) (es : List α) : (es.flatMap f).all one = true := by
  induction es with
  | nil => rfl
  | cons a es ih => rw [List.flatMap_cons, List.all_append, ho, ih]; rfl
theorem SlO.lendF {α : Type} {f : α → List AV} {sz : Nat} {h : Hp} {a : AV} {es : List α} (s : SlO f sz h a es) (hf : ∀ a, (f a).length = sz) (hat : ∀ a, ∀ x ∈ f a, atom x = true) (d : Nat) : Hx.lendF (d + 1) h a = some (.row (es.map f)) := by
  rcases s.st with ⟨rfl, rfl⟩ | ⟨t, rfl, h2, h3⟩
  · exact lendF_nil d h
  · rw [lendF_sl h2 (by rw [flat_len hf]; omega) (fun x hx => ?_), List.drop_zero, ← flat_len hf, List.take_length, chunks_map f sz hf]
    have := List.mem_of_mem_drop (List.mem_of_mem_take hx)
    rw [List.mem_flatMap] at this
    obtain ⟨e, _, he⟩ := this
    exact hat e x he
theorem edC_atom (e : Edg) : ∀ x ∈ edC e, atom x = true := by
  intro x hx
  simp only [edC, List.mem_cons, List.not_mem_nil, or_false] at hx
  rcases hx with rfl | rfl | rfl | rfl | rfl <;> rfl
/-! ### The reference's dependences -/
theorem f90 (l : List Opn) (t : Tab) (hl : ∀ o ∈ l, o.ok) : HV Try.prog 90 [.row (l.map opC), .agg (tabC t)] (i64 (errR l t)) := by
  refine yJ yL cf90 (by simp) (by simp [imms, imm, yR, tab_imms]) ?_ rfl
  unfold ac90 re90
  refine yF fun env hE => ?_; have e0 := hE 0; have e1 := hE 1; have e3 := hE 3; have e4 := hE 4; have e5 := hE 5; have e6 := hE 6; simp -implicitDefEqProofs only [push_cast] at e0 e1 e3 e4 e5 e6; clear hE
  by_cases h1 : qM t
  rotate_left
  · have hE : errR l t = 20 := by simp [errR, tabE_bad h1]
    have ht := tabE_bad h1
    rw [hE]
    have d0 : decide ((20 : Int) ≠ 0) = true := rfl
    repeat' (first | ((try clear hf); with_reducible refine zM fun env K hE hK hf => ?_; have n : _ ∧ _ ∧ _ ∧ _ ∧ _ ∧ _ := ⟨hE 0, hE 1, hE 3, hE 4, hE 5, hE 6⟩; simp -implicitDefEqProofs only [push_cast, reduceIte, Nat.reduceEqDiff, e0, e1, e3, e4, e5, e6] at n; clear hE e0 e1 e3 e4 e5 e6; obtain ⟨e0, e1, e3, e4, e5, e6⟩ := n) | (with_reducible refine hK _ _ ?_; clear hK K) | (with_reducible first | refine zJ ?_ | refine zU ?_ | refine zB ?_ | refine zG ?_ | refine zE ?_ | refine zL ?_ | refine zT ?_ | refine zD ?_ | refine zH ?_ | refine zV ?_ | refine zF ?_ | refine zA (by decide) ?_ | refine zP ?_ | refine zO ?_ | refine zK ?_ | refine yB ?_ | refine yC ?_ | refine zW (by assumption) ?_ | refine zY (by assumption) ?_) | (refine zI rfl ?_) | (simp -implicitDefEqProofs only [push_cast, sevalprocAttr, eq_self, e0, e1, e3, e4, e5, e6, ht, d0]) | (simp -implicitDefEqProofs (disch := omega) only [zR, zZ, zS, zQ, e0, e1, e3, e4, e5, e6, ht, d0]) | (with_reducible refine yE ?_ ?_) | (refine zN rfl (fun bb => ?_) (fun bb => ?_) <;> (first | have bp := of_decide_eq_true bb | have bp := of_decide_eq_false bb | skip) <;> simp only [bb]) | (with_reducible refine zX (fun bb => ?_) (fun bb => ?_) <;> (first | have bp := of_decide_eq_true bb | have bp := of_decide_eq_false bb | skip)) | ((with_reducible refine And.intro ?_ ?_); omega) | (refine yD (f69 t) ?_) | fail)
  have ht := tabE_ok h1
  by_cases h2 : 1024 < l.length
  · have hE : errR l t = 3 := by simp [errR, ht, h2]
    have d1 : decide (1024 < (l.length : Int)) = true := decide_eq_true (by omega)
    rw [hE]
    repeat' (first | ((try clear hf); with_reducible refine zM fun env K hE hK hf => ?_; have n : _ ∧ _ ∧ _ ∧ _ ∧ _ ∧ _ := ⟨hE 0, hE 1, hE 3, hE 4, hE 5, hE 6⟩; simp -implicitDefEqProofs only [push_cast, reduceIte, Nat.reduceEqDiff, e0, e1, e3, e4, e5, e6] at n; clear hE e0 e1 e3 e4 e5 e6; obtain ⟨e0, e1, e3, e4, e5, e6⟩ := n) | (with_reducible refine hK _ _ ?_; clear hK K) | (with_reducible first | refine zJ ?_ | refine zU ?_ | refine zB ?_ | refine zG ?_ | refine zE ?_ | refine zL ?_ | refine zT ?_ | refine zD ?_ | refine zH ?_ | refine zV ?_ | refine zF ?_ | refine zA (by decide) ?_ | refine zP ?_ | refine zO ?_ | refine zK ?_ | refine yB ?_ | refine yC ?_ | refine zW (by assumption) ?_ | refine zY (by assumption) ?_) | (refine zI rfl ?_) | (simp -implicitDefEqProofs only [push_cast, sevalprocAttr, eq_self, e0, e1, e3, e4, e5, e6, ht, d1]) | (simp -implicitDefEqProofs (disch := omega) only [zR, zZ, zS, zQ, e0, e1, e3, e4, e5, e6, ht, d1]) | (with_reducible refine yE ?_ ?_) | (refine zN rfl (fun bb => ?_) (fun bb => ?_) <;> (first | have bp := of_decide_eq_true bb | have bp := of_decide_eq_false bb | skip) <;> simp only [bb]) | (with_reducible refine zX (fun bb => ?_) (fun bb => ?_) <;> (first | have bp := of_decide_eq_true bb | have bp := of_decide_eq_false bb | skip)) | ((with_reducible refine And.intro ?_ ?_); omega) | (refine yD (f69 t) ?_) | fail)
  have d1 : decide (1024 < (l.length : Int)) = false := decide_eq_false (by omega)
  repeat' (first | ((try clear hf); with_reducible refine zM fun env K hE hK hf => ?_; have n : _ ∧ _ ∧ _ ∧ _ ∧ _ ∧ _ := ⟨hE 0, hE 1, hE 3, hE 4, hE 5, hE 6⟩; simp -implicitDefEqProofs only [push_cast, reduceIte, Nat.reduceEqDiff, e0, e1, e3, e4, e5, e6] at n; clear hE e0 e1 e3 e4 e5 e6; obtain ⟨e0, e1, e3, e4, e5, e6⟩ := n) | (with_reducible refine hK _ _ ?_; clear hK K) | (with_reducible first | refine zJ ?_ | refine zU ?_ | refine zB ?_ | refine zG ?_ | refine zE ?_ | refine zL ?_ | refine zT ?_ | refine zD ?_ | refine zH ?_ | refine zV ?_ | refine zF ?_ | refine zA (by decide) ?_ | refine zP ?_ | refine zO ?_ | refine zK ?_ | refine yB ?_ | refine yC ?_ | refine zW (by assumption) ?_ | refine zY (by assumption) ?_) | (refine zI rfl ?_) | (simp -implicitDefEqProofs only [push_cast, sevalprocAttr, eq_self, e0, e1, e3, e4, e5, e6, ht, d1]) | (simp -implicitDefEqProofs (disch := omega) only [zR, zZ, zS, zQ, e0, e1, e3, e4, e5, e6, ht, d1]) | (with_reducible refine yE ?_ ?_) | (refine zN rfl (fun bb => ?_) (fun bb => ?_) <;> (first | have bp := of_decide_eq_true bb | have bp := of_decide_eq_false bb | skip) <;> simp only [bb]) | (with_reducible refine zX (fun bb => ?_) (fun bb => ?_) <;> (first | have bp := of_decide_eq_true bb | have bp := of_decide_eq_false bb | skip)) | ((with_reducible refine And.intro ?_ ?_); omega) | (refine yD (f69 t) ?_) | fail)
  refine yF fun env hE => ?_; have n : _ ∧ _ ∧ _ ∧ _ ∧ _ ∧ _ := ⟨hE 0, hE 1, hE 3, hE 4, hE 5, hE 6⟩; simp -implicitDefEqProofs only [push_cast, reduceIte, Nat.reduceEqDiff, e0, e1, e3, e4, e5, e6] at n; clear hE e0 e1 e3 e4 e5 e6; obtain ⟨e0, e1, e3, e4, e5, e6⟩ := n; have E90_0_0 := e0; have E90_0_1 := e1; have E90_0_3 := e3; have E90_0_5 := e5
  refine yN (fun nn σ => ∃ (k : Nat), nn = l.length - k ∧ σ.env 0 = env 0 ∧ σ.env 1 = env 1 ∧ σ.env 3 = env 3 ∧ σ.env 5 = env 5 ∧ σ.env 6 = i64 k ∧ (k ≤ l.length ∧ ∀ j (hj : j < k) (h : j < l.length), opOK l[j])) _ ⟨0, rfl, rfl, rfl, rfl, rfl, by refine e6.trans ?_; first | rfl | exact yG (by omega) | (simp -implicitDefEqProofs (disch := omega) only [zQ]; first | rfl | exact yG (by omega)), ?_⟩ ?_
  · exact ⟨by omega, fun j hj => by omega⟩
  clear e0 e1 e3 e4 e5 e6; rintro nn ⟨env, h⟩ ⟨k, rfl, q0, q1, q3, q5, e6, hI⟩; simp only at q0 q1 q3 q5 e6 hI; (first | have e0 := q0.trans E90_0_0 | have e0 := True.intro); (first | have e1 := q1.trans E90_0_1 | have e1 := True.intro); (first | have e3 := q3.trans E90_0_3 | have e3 := True.intro); (first | have e5 := q5.trans E90_0_5 | have e5 := True.intro); clear q0 q1 q3 q5; have e4 := True.intro
  obtain ⟨hk, hall⟩ := hI
  unfold l90_0
  by_cases hlt : k < l.length
  · have hd : decide ((k : Int) < (l.length : Int)) = true := decide_eq_true (by omega)
    have hr := qJ hlt .i64
    have ho := hl _ (List.getElem_mem hlt)
    by_cases hok : opOK l[k]
    · have h3 : decide (l[k].k < 1) = false := decide_eq_false (by have := hok.1; omega)
      have h4 : decide (17 < l[k].k) = false := decide_eq_false (by have := hok.2.1; omega)
      have h5 := hok.2.2
      repeat' (first | ((try clear hf); with_reducible refine zM fun env K hE hK hf => ?_; have n : _ ∧ _ ∧ _ ∧ _ ∧ _ ∧ _ := ⟨hE 0, hE 1, hE 3, hE 4, hE 5, hE 6⟩; simp -implicitDefEqProofs only [push_cast, reduceIte, Nat.reduceEqDiff, e0, e1, e3, e4, e5, e6] at n; clear hE e0 e1 e3 e4 e5 e6; obtain ⟨e0, e1, e3, e4, e5, e6⟩ := n) | (with_reducible refine hK _ _ ?_; clear hK K) | (with_reducible first | refine zJ ?_ | refine zU ?_ | refine zB ?_ | refine zG ?_ | refine zE ?_ | refine zL ?_ | refine zT ?_ | refine zD ?_ | refine zH ?_ | refine zV ?_ | refine zF ?_ | refine zA (by decide) ?_ | refine zP ?_ | refine zO ?_ | refine zK ?_ | refine yB ?_ | refine yC ?_ | refine zW (by assumption) ?_ | refine zY (by assumption) ?_) | (refine zI rfl ?_) | (simp -implicitDefEqProofs only [push_cast, sevalprocAttr, eq_self, e0, e1, e3, e4, e5, e6, hd, hr, h3, h4, h5]) | (simp -implicitDefEqProofs (disch := omega) only [zR, zZ, zS, zQ, e0, e1, e3, e4, e5, e6, hd, hr, h3, h4, h5]) | (with_reducible refine yE ?_ ?_) | (refine zN rfl (fun bb => ?_) (fun bb => ?_) <;> (first | have bp := of_decide_eq_true bb | have bp := of_decide_eq_false bb | skip) <;> simp only [bb]) | (with_reducible refine zX (fun bb => ?_) (fun bb => ?_) <;> (first | have bp := of_decide_eq_true bb | have bp := of_decide_eq_false bb | skip)) | ((with_reducible refine And.intro ?_ ?_); omega) | (refine yD (f111 _ ho) ?_) | fail)
      refine ⟨_, ?_, k + 1, rfl, E90_0_0.symm, E90_0_1.symm, E90_0_3.symm, E90_0_5.symm, by first | rfl | exact yG (by omega) | (simp -implicitDefEqProofs (disch := omega) only [zQ]; first | rfl | exact yG (by omega)), ?_⟩
      · omega
      · refine ⟨by omega, fun j hj h => ?_⟩
        by_cases e : j < k
        · exact hall j e h
        · obtain rfl : j = k := by omega
          exact hok
    · have hE : errR l t = 30 := by
        unfold errR
        rw [if_neg (by omega), if_neg h2, if_neg (fun h => hok (h _ (List.getElem_mem hlt)))]
      rw [hE]
      have hn : ¬ (1 ≤ l[k].k ∧ l[k].k ≤ 17 ∧ chkE l[k] = 0) := hok
      repeat' (first | ((try clear hf); with_reducible refine zM fun env K hE hK hf => ?_; have n : _ ∧ _ ∧ _ ∧ _ ∧ _ ∧ _ := ⟨hE 0, hE 1, hE 3, hE 4, hE 5, hE 6⟩; simp -implicitDefEqProofs only [push_cast, reduceIte, Nat.reduceEqDiff, e0, e1, e3, e4, e5, e6] at n; clear hE e0 e1 e3 e4 e5 e6; obtain ⟨e0, e1, e3, e4, e5, e6⟩ := n) | (with_reducible refine hK _ _ ?_; clear hK K) | (with_reducible first | refine zJ ?_ | refine zU ?_ | refine zB ?_ | refine zG ?_ | refine zE ?_ | refine zL ?_ | refine zT ?_ | refine zD ?_ | refine zH ?_ | refine zV ?_ | refine zF ?_ | refine zA (by decide) ?_ | refine zP ?_ | refine zO ?_ | refine zK ?_ | refine yB ?_ | refine yC ?_ | refine zW (by assumption) ?_ | refine zY (by assumption) ?_) | (refine zI rfl ?_) | (simp -implicitDefEqProofs only [push_cast, sevalprocAttr, eq_self, e0, e1, e3, e4, e5, e6, hd, hr]) | (simp -implicitDefEqProofs (disch := omega) only [zR, zZ, zS, zQ, e0, e1, e3, e4, e5, e6, hd, hr]) | (with_reducible refine yE ?_ ?_) | (refine zN rfl (fun bb => ?_) (fun bb => ?_) <;> (first | have bp := of_decide_eq_true bb | have bp := of_decide_eq_false bb | skip) <;> simp only [bb]) | (with_reducible refine zX (fun bb => ?_) (fun bb => ?_) <;> (first | have bp := of_decide_eq_true bb | have bp := of_decide_eq_false bb | skip)) | ((with_reducible refine And.intro ?_ ?_); omega) | (refine yD (f111 _ ho) ?_) | fail)
      all_goals first
        | rfl
        | (exfalso; omega)
  · have hd : decide ((k : Int) < (l.length : Int)) = false := decide_eq_false (by omega)
    have hE : errR l t = 0 := by
      unfold errR
      rw [if_neg (by omega), if_neg h2, if_pos (fun o ho => by obtain ⟨j, hj, rfl⟩ := List.getElem_of_mem ho; exact hall j (by omega) hj)]
    rw [hE]
    repeat' (first | ((try clear hf); with_reducible refine zM fun env K hE hK hf => ?_; have n : _ ∧ _ ∧ _ ∧ _ ∧ _ ∧ _ := ⟨hE 0, hE 1, hE 3, hE 4, hE 5, hE 6⟩; simp -implicitDefEqProofs only [push_cast, reduceIte, Nat.reduceEqDiff, e0, e1, e3, e4, e5, e6] at n; clear hE e0 e1 e3 e4 e5 e6; obtain ⟨e0, e1, e3, e4, e5, e6⟩ := n) | (with_reducible refine hK _ _ ?_; clear hK K) | (with_reducible first | refine zJ ?_ | refine zU ?_ | refine zB ?_ | refine zG ?_ | refine zE ?_ | refine zL ?_ | refine zT ?_ | refine zD ?_ | refine zH ?_ | refine zV ?_ | refine zF ?_ | refine zA (by decide) ?_ | refine zP ?_ | refine zO ?_ | refine zK ?_ | refine yB ?_ | refine yC ?_ | refine zW (by assumption) ?_ | refine zY (by assumption) ?_) | (refine zI rfl ?_) | (simp -implicitDefEqProofs only [push_cast, sevalprocAttr, eq_self, e0, e1, e3, e4, e5, e6, hd]) | (simp -implicitDefEqProofs (disch := omega) only [zR, zZ, zS, zQ, e0, e1, e3, e4, e5, e6, hd]) | (with_reducible refine yE ?_ ?_) | (refine zN rfl (fun bb => ?_) (fun bb => ?_) <;> (first | have bp := of_decide_eq_true bb | have bp := of_decide_eq_false bb | skip) <;> simp only [bb]) | (with_reducible refine zX (fun bb => ?_) (fun bb => ?_) <;> (first | have bp := of_decide_eq_true bb | have bp := of_decide_eq_false bb | skip)) | ((with_reducible refine And.intro ?_ ?_); omega) | fail)
theorem f93 (o : Opn) (t : Tab) : HV Try.prog 93 [.agg (opC o), .agg (tabC t)] (i64 (latS t o)) := by
  refine yJ yL cf93 (by simp) rfl ?_ rfl
  unfold ac93 re93
  refine yF fun env hE => ?_; have e0 := hE 0; have e1 := hE 1; have e2 := hE 2; have e3 := hE 3; have e4 := hE 4; have e5 := hE 5; simp -implicitDefEqProofs only [push_cast] at e0 e1 e2 e3 e4 e5; clear hE
  have hc := clsN_eq o
  have hc4 := clsN_lt o
  have hq := tab_l t hc4
  repeat' (first | ((try clear hf); with_reducible refine zM fun env K hE hK hf => ?_; have n : _ ∧ _ ∧ _ ∧ _ ∧ _ ∧ _ := ⟨hE 0, hE 1, hE 2, hE 3, hE 4, hE 5⟩; simp -implicitDefEqProofs only [push_cast, reduceIte, Nat.reduceEqDiff, e0, e1, e2, e3, e4, e5] at n; clear hE e0 e1 e2 e3 e4 e5; obtain ⟨e0, e1, e2, e3, e4, e5⟩ := n) | (with_reducible refine hK _ _ ?_; clear hK K) | (with_reducible first | refine zJ ?_ | refine zU ?_ | refine zB ?_ | refine zG ?_ | refine zE ?_ | refine zL ?_ | refine zT ?_ | refine zD ?_ | refine zH ?_ | refine zV ?_ | refine zF ?_ | refine zA (by decide) ?_ | refine zP ?_ | refine zO ?_ | refine zK ?_ | refine yB ?_ | refine yC ?_ | refine zW (by assumption) ?_ | refine zY (by assumption) ?_) | (refine zI rfl ?_) | (simp -implicitDefEqProofs only [push_cast, sevalprocAttr, eq_self, e0, e1, e2, e3, e4, e5, hc, hq]) | (simp -implicitDefEqProofs (disch := omega) only [zR, zZ, zS, zQ, e0, e1, e2, e3, e4, e5, hc, hq]) | (with_reducible refine yE ?_ ?_) | (refine zN rfl (fun bb => ?_) (fun bb => ?_) <;> (first | have bp := of_decide_eq_true bb | have bp := of_decide_eq_false bb | skip) <;> simp only [bb]) | (with_reducible refine zX (fun bb => ?_) (fun bb => ?_) <;> (first | have bp := of_decide_eq_true bb | have bp := of_decide_eq_false bb | skip)) | ((with_reducible refine And.intro ?_ ?_); omega) | (refine yD (f51 _) ?_) | fail)
  rfl
theorem f113 (o : Opn) (ho : o.ok) (r : Int) : HV Try.prog 113 [.agg (opC o), u8 r] (bl ((wrS o).2 && decide ((wrS o).1 = r))) := by
  refine yJ yL cf113 (by simp) rfl ?_ rfl
  unfold ac113 re113
  refine yF fun env hE => ?_; have e0 := hE 0; have e1 := hE 1; have e2 := hE 2; have e4 := hE 4; have e5 := hE 5; have e6 := hE 6; simp -implicitDefEqProofs only [push_cast] at e0 e1 e2 e4 e5 e6; clear hE
  repeat' (first | ((try clear hf); with_reducible refine zM fun env K hE hK hf => ?_; have n : _ ∧ _ ∧ _ ∧ _ ∧ _ ∧ _ := ⟨hE 0, hE 1, hE 2, hE 4, hE 5, hE 6⟩; simp -implicitDefEqProofs only [push_cast, reduceIte, Nat.reduceEqDiff, e0, e1, e2, e4, e5, e6] at n; clear hE e0 e1 e2 e4 e5 e6; obtain ⟨e0, e1, e2, e4, e5, e6⟩ := n) | (with_reducible refine hK _ _ ?_; clear hK K) | (with_reducible first | refine zJ ?_ | refine zU ?_ | refine zB ?_ | refine zG ?_ | refine zE ?_ | refine zL ?_ | refine zT ?_ | refine zD ?_ | refine zH ?_ | refine zV ?_ | refine zF ?_ | refine zA (by decide) ?_ | refine zP ?_ | refine zO ?_ | refine zK ?_ | refine yB ?_ | refine yC ?_ | refine zW (by assumption) ?_ | refine zY (by assumption) ?_) | (refine zI rfl ?_) | (simp -implicitDefEqProofs only [push_cast, sevalprocAttr, eq_self, e0, e1, e2, e4, e5, e6]) | (simp -implicitDefEqProofs (disch := omega) only [zR, zZ, zS, zQ, e0, e1, e2, e4, e5, e6]) | (with_reducible refine yE ?_ ?_) | (refine zN rfl (fun bb => ?_) (fun bb => ?_) <;> (first | have bp := of_decide_eq_true bb | have bp := of_decide_eq_false bb | skip) <;> simp only [bb]) | (with_reducible refine zX (fun bb => ?_) (fun bb => ?_) <;> (first | have bp := of_decide_eq_true bb | have bp := of_decide_eq_false bb | skip)) | ((with_reducible refine And.intro ?_ ?_); omega) | (refine yD (f88 o ho) ?_) | fail)
  all_goals ((try clear hf); (try clear e0 e1 e2 e4 e5 e6); simp_all)
theorem f114 (o : Opn) : HV Try.prog 114 [.agg (opC o)] (bl (effS o)) := by
  refine yJ yL cf114 (by simp) rfl ?_ rfl
  unfold ac114 re114
  refine yF fun env hE => ?_; have e0 := hE 0; have e1 := hE 1; have e2 := hE 2; simp -implicitDefEqProofs only [push_cast] at e0 e1 e2; clear hE
  repeat' (first | ((try clear hf); with_reducible refine zM fun env K hE hK hf => ?_; have n : _ ∧ _ ∧ _ := ⟨hE 0, hE 1, hE 2⟩; simp -implicitDefEqProofs only [push_cast, reduceIte, Nat.reduceEqDiff, e0, e1, e2] at n; clear hE e0 e1 e2; obtain ⟨e0, e1, e2⟩ := n) | (with_reducible refine hK _ _ ?_; clear hK K) | (with_reducible first | refine zJ ?_ | refine zU ?_ | refine zB ?_ | refine zG ?_ | refine zE ?_ | refine zL ?_ | refine zT ?_ | refine zD ?_ | refine zH ?_ | refine zV ?_ | refine zF ?_ | refine zA (by decide) ?_ | refine zP ?_ | refine zO ?_ | refine zK ?_ | refine yB ?_ | refine yC ?_ | refine zW (by assumption) ?_ | refine zY (by assumption) ?_) | (refine zI rfl ?_) | (simp -implicitDefEqProofs only [push_cast, sevalprocAttr, eq_self, e0, e1, e2]) | (simp -implicitDefEqProofs (disch := omega) only [zR, zZ, zS, zQ, e0, e1, e2]) | (with_reducible refine yE ?_ ?_) | (refine zN rfl (fun bb => ?_) (fun bb => ?_) <;> (first | have bp := of_decide_eq_true bb | have bp := of_decide_eq_false bb | skip) <;> simp only [bb]) | (with_reducible refine zX (fun bb => ?_) (fun bb => ?_) <;> (first | have bp := of_decide_eq_true bb | have bp := of_decide_eq_false bb | skip)) | ((with_reducible refine And.intro ?_ ?_); omega) | fail)
  all_goals ((try clear hf); (try clear e0 e1 e2); unfold effS; simp_all)
theorem wr_dS {o : Opn} (ho : o.ok) {r : Int} (hr : 0 ≤ r) : ((wrS o).2 && decide ((wrS o).1 = r)) = true ↔ 0 ≤ dS o ∧ r.toNat = (dS o).toNat := by
  have h1 : 0 ≤ (wrS o).1 := by
    unfold Opn.ok at ho
    unfold wrS; split <;> simp; omega
  unfold dS
  cases h : (wrS o).2
  · simp
  · simp; omega
set_option maxHeartbeats 1000000 in
theorem f112 (l : List Opn) (n : Nat) (r : Int) (hr : 0 ≤ r) (hn : n ≤ l.length) (hl : ∀ o ∈ l, o.ok) (hb : l.length ≤ 1000000) : HV Try.prog 112 [.row (l.map opC), i64 n, u8 r] (i64 (yY l n r.toNat - 1)) := by
  refine yJ yL cf112 (by simp) (by simp [imms, imm, yR]) ?_ rfl
  unfold ac112 re112
  refine yF fun env hE => ?_; have e0 := hE 0; have e1 := hE 1; have e2 := hE 2; have e6 := hE 6; have e7 := hE 7; simp -implicitDefEqProofs only [push_cast] at e0 e1 e2 e6 e7; clear hE
  repeat' (first | ((try clear hf); with_reducible refine zM fun env K hE hK hf => ?_; have n : _ ∧ _ ∧ _ ∧ _ ∧ _ := ⟨hE 0, hE 1, hE 2, hE 6, hE 7⟩; simp -implicitDefEqProofs only [push_cast, reduceIte, Nat.reduceEqDiff, e0, e1, e2, e6, e7] at n; clear hE e0 e1 e2 e6 e7; obtain ⟨e0, e1, e2, e6, e7⟩ := n) | (with_reducible refine hK _ _ ?_; clear hK K) | (with_reducible first | refine zJ ?_ | refine zU ?_ | refine zB ?_ | refine zG ?_ | refine zE ?_ | refine zL ?_ | refine zT ?_ | refine zD ?_ | refine zH ?_ | refine zV ?_ | refine zF ?_ | refine zA (by decide) ?_ | refine zP ?_ | refine zO ?_ | refine zK ?_ | refine yB ?_ | refine yC ?_ | refine zW (by assumption) ?_ | refine zY (by assumption) ?_) | (refine zI rfl ?_) | (simp -implicitDefEqProofs only [push_cast, sevalprocAttr, eq_self, e0, e1, e2, e6, e7]) | (simp -implicitDefEqProofs (disch := omega) only [zR, zZ, zS, zQ, e0, e1, e2, e6, e7]) | (with_reducible refine yE ?_ ?_) | (refine zN rfl (fun bb => ?_) (fun bb => ?_) <;> (first | have bp := of_decide_eq_true bb | have bp := of_decide_eq_false bb | skip) <;> simp only [bb]) | (with_reducible refine zX (fun bb => ?_) (fun bb => ?_) <;> (first | have bp := of_decide_eq_true bb | have bp := of_decide_eq_false bb | skip)) | ((with_reducible refine And.intro ?_ ?_); omega) | fail)
  refine yF fun env hE => ?_; have n : _ ∧ _ ∧ _ ∧ _ ∧ _ := ⟨hE 0, hE 1, hE 2, hE 6, hE 7⟩; simp -implicitDefEqProofs only [push_cast, reduceIte, Nat.reduceEqDiff, e0, e1, e2, e6, e7] at n; clear hE e0 e1 e2 e6 e7; obtain ⟨e0, e1, e2, e6, e7⟩ := n; have E112_0_0 := e0; have E112_0_1 := e1; have E112_0_2 := e2
  refine yN (fun nn σ => ∃ (m : Nat), nn = m + m ∧ σ.env 0 = env 0 ∧ σ.env 1 = env 1 ∧ σ.env 2 = env 2 ∧ σ.env 7 = i64 ((m : Int) - 1) ∧ (m ≤ n ∧ yY l n r.toNat = yY l m r.toNat)) _ ⟨n, rfl, rfl, rfl, rfl, by refine e7.trans ?_; first | rfl | exact yG (by omega) | (simp -implicitDefEqProofs (disch := omega) only [zQ]; first | rfl | exact yG (by omega)), ?_⟩ ?_
  · exact ⟨by omega, rfl⟩
  clear e0 e1 e2 e6 e7; rintro nn ⟨env, h⟩ ⟨m, rfl, q0, q1, q2, e7, hI⟩; simp only at q0 q1 q2 e7 hI; (first | have e0 := q0.trans E112_0_0 | have e0 := True.intro); (first | have e1 := q1.trans E112_0_1 | have e1 := True.intro); (first | have e2 := q2.trans E112_0_2 | have e2 := True.intro); clear q0 q1 q2; have e6 := True.intro
  obtain ⟨hm, hlast⟩ := hI
  unfold l112_0
  by_cases hlt : 0 < m
  · have hd : decide ((0 : Int) ≤ (m : Int) - 1) = true := decide_eq_true (by omega)
    obtain ⟨k, hk⟩ : ∃ k, m = k + 1 := ⟨m - 1, by omega⟩
    have hmk : (m : Int) - 1 = (k : Int) := by omega
    rw [hmk] at hd e7
    have hkl : k < l.length := by omega
    have hr2 := qJ hkl .i64
    have ho := hl _ (List.getElem_mem hkl)
    have hw := wr_dS ho hr
    have hoe := qD hkl
    have hLs : yY l (k + 1) r.toNat = if 0 ≤ dS l[k] ∧ r.toNat = (dS l[k]).toNat then (k : Int) + 1 else yY l k r.toNat := by rw [hoe]; rfl
    by_cases hc : ((wrS l[k]).2 && decide ((wrS l[k]).1 = r)) = true
    · repeat' (first | ((try clear hf); with_reducible refine zM fun env K hE hK hf => ?_; have n : _ ∧ _ ∧ _ ∧ _ ∧ _ := ⟨hE 0, hE 1, hE 2, hE 6, hE 7⟩; simp -implicitDefEqProofs only [push_cast, reduceIte, Nat.reduceEqDiff, e0, e1, e2, e6, e7] at n; clear hE e0 e1 e2 e6 e7; obtain ⟨e0, e1, e2, e6, e7⟩ := n) | (with_reducible refine hK _ _ ?_; clear hK K) | (with_reducible first | refine zJ ?_ | refine zU ?_ | refine zB ?_ | refine zG ?_ | refine zE ?_ | refine zL ?_ | refine zT ?_ | refine zD ?_ | refine zH ?_ | refine zV ?_ | refine zF ?_ | refine zA (by decide) ?_ | refine zP ?_ | refine zO ?_ | refine zK ?_ | refine yB ?_ | refine yC ?_ | refine zW (by assumption) ?_ | refine zY (by assumption) ?_) | (refine zI rfl ?_) | (simp -implicitDefEqProofs only [push_cast, sevalprocAttr, eq_self, e0, e1, e2, e6, e7, hd, hr2, hc]) | (simp -implicitDefEqProofs (disch := omega) only [zR, zZ, zS, zQ, e0, e1, e2, e6, e7, hd, hr2, hc]) | (with_reducible refine yE ?_ ?_) | (refine zN rfl (fun bb => ?_) (fun bb => ?_) <;> (first | have bp := of_decide_eq_true bb | have bp := of_decide_eq_false bb | skip) <;> simp only [bb]) | (with_reducible refine zX (fun bb => ?_) (fun bb => ?_) <;> (first | have bp := of_decide_eq_true bb | have bp := of_decide_eq_false bb | skip)) | ((with_reducible refine And.intro ?_ ?_); omega) | (refine yD (f113 _ ho r) ?_) | fail)
      rw [hlast, hk, hLs, if_pos (hw.1 hc)]
      exact congrArg some (yG (by omega))
    · have hc2 := hc
      rw [Bool.not_eq_true] at hc
      repeat' (first | ((try clear hf); with_reducible refine zM fun env K hE hK hf => ?_; have n : _ ∧ _ ∧ _ ∧ _ ∧ _ := ⟨hE 0, hE 1, hE 2, hE 6, hE 7⟩; simp -implicitDefEqProofs only [push_cast, reduceIte, Nat.reduceEqDiff, e0, e1, e2, e6, e7] at n; clear hE e0 e1 e2 e6 e7; obtain ⟨e0, e1, e2, e6, e7⟩ := n) | (with_reducible refine hK _ _ ?_; clear hK K) | (with_reducible first | refine zJ ?_ | refine zU ?_ | refine zB ?_ | refine zG ?_ | refine zE ?_ | refine zL ?_ | refine zT ?_ | refine zD ?_ | refine zH ?_ | refine zV ?_ | refine zF ?_ | refine zA (by decide) ?_ | refine zP ?_ | refine zO ?_ | refine zK ?_ | refine yB ?_ | refine yC ?_ | refine zW (by assumption) ?_ | refine zY (by assumption) ?_) | (refine zI rfl ?_) | (simp -implicitDefEqProofs only [push_cast, sevalprocAttr, eq_self, e0, e1, e2, e6, e7, hd, hr2, hc]) | (simp -implicitDefEqProofs (disch := omega) only [zR, zZ, zS, zQ, e0, e1, e2, e6, e7, hd, hr2, hc]) | (with_reducible refine yE ?_ ?_) | (refine zN rfl (fun bb => ?_) (fun bb => ?_) <;> (first | have bp := of_decide_eq_true bb | have bp := of_decide_eq_false bb | skip) <;> simp only [bb]) | (with_reducible refine zX (fun bb => ?_) (fun bb => ?_) <;> (first | have bp := of_decide_eq_true bb | have bp := of_decide_eq_false bb | skip)) | ((with_reducible refine And.intro ?_ ?_); omega) | (refine yD (f113 _ ho r) ?_) | fail)
      refine ⟨_, ?_, k, rfl, E112_0_0.symm, E112_0_1.symm, E112_0_2.symm, by first | rfl | exact yG (by omega) | (simp -implicitDefEqProofs (disch := omega) only [zQ]; first | rfl | exact yG (by omega)), ?_⟩
      · omega
      · refine ⟨by omega, ?_⟩
        rw [hlast, hk, hLs, if_neg (fun h => hc2 (hw.2 h))]
  · have hd : decide ((0 : Int) ≤ (m : Int) - 1) = false := decide_eq_false (by omega)
    repeat' (first | ((try clear hf); with_reducible refine zM fun env K hE hK hf => ?_; have n : _ ∧ _ ∧ _ ∧ _ ∧ _ := ⟨hE 0, hE 1, hE 2, hE 6, hE 7⟩; simp -implicitDefEqProofs only [push_cast, reduceIte, Nat.reduceEqDiff, e0, e1, e2, e6, e7] at n; clear hE e0 e1 e2 e6 e7; obtain ⟨e0, e1, e2, e6, e7⟩ := n) | (with_reducible refine hK _ _ ?_; clear hK K) | (with_reducible first | refine zJ ?_ | refine zU ?_ | refine zB ?_ | refine zG ?_ | refine zE ?_ | refine zL ?_ | refine zT ?_ | refine zD ?_ | refine zH ?_ | refine zV ?_ | refine zF ?_ | refine zA (by decide) ?_ | refine zP ?_ | refine zO ?_ | refine zK ?_ | refine yB ?_ | refine yC ?_ | refine zW (by assumption) ?_ | refine zY (by assumption) ?_) | (refine zI rfl ?_) | (simp -implicitDefEqProofs only [push_cast, sevalprocAttr, eq_self, e0, e1, e2, e6, e7, hd]) | (simp -implicitDefEqProofs (disch := omega) only [zR, zZ, zS, zQ, e0, e1, e2, e6, e7, hd]) | (with_reducible refine yE ?_ ?_) | (refine zN rfl (fun bb => ?_) (fun bb => ?_) <;> (first | have bp := of_decide_eq_true bb | have bp := of_decide_eq_false bb | skip) <;> simp only [bb]) | (with_reducible refine zX (fun bb => ?_) (fun bb => ?_) <;> (first | have bp := of_decide_eq_true bb | have bp := of_decide_eq_false bb | skip)) | ((with_reducible refine And.intro ?_ ?_); omega) | fail)
    obtain rfl : m = 0 := by omega
    rw [hlast]
    rfl
end Go.Proofs.Hx
