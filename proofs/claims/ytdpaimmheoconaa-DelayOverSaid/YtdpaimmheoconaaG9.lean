import Derived.Test.YtdpaimmheoconaaG7
import Derived.Test.YtdpaimmheoconaaW26
import Derived.Test.YtdpaimmheoconaaG6
set_option linter.unusedVariables false
set_option linter.unusedSimpArgs false
namespace Go.Proofs.Hx
open Go Go.Proofs
attribute [local irreducible] yR awp opK goV goM qB yW qE yT HV HVF HC
theorem qZ (k k' k'' : IntKind) (a b c : Int) : maxV [.lit (.int k a), .lit (.int k' b), .lit (.int k'' c)] = some (.lit (.int k (if c > (if b > a then b else a) then c else (if b > a then b else a)))) := rfl
def wQ (l : List Opn) (t : Tab) (cs : List Int) (k : Nat) : Int := cs.getD k 0 + t.l (clsN (opAt l k))
def YC (l : List Opn) (t : Tab) (cs : List Int) : Nat → Int
 | 0 => 0
 | k + 1 => mx (mx (YC l t cs k) (wQ l t cs k)) (cs.getD k 0 + t.b (clsN (opAt l k)))
def WC (l : List Opn) (t : Tab) (cs : List Int) : Nat → Int
 | 0 => 0
 | k + 1 => mx (WC l t cs k) (wQ l t cs k)
def WB (l : List Opn) (t : Tab) (cs : List Int) (a : Int) : Nat → Int
 | 0 => 0
 | k + 1 => if (wrS (opAt l k)).2 = true ∧ (wrS (opAt l k)).1 = a then wQ l t cs k else WB l t cs a k
theorem mx_ge (a b : Int) : a ≤ mx a b ∧ b ≤ mx a b := by unfold mx; split <;> omega
theorem land_bnd {l : List Opn} {t : Tab} {cs : List Int} (ht : YK t) (h : ∀ x ∈ cs, 0 ≤ x ∧ x ≤ 65536) (k : Nat) : 0 ≤ cs.getD k 0 ∧ cs.getD k 0 ≤ 65536 ∧ 0 ≤ wQ l t cs k ∧ wQ l t cs k ≤ 65544 ∧ cs.getD k 0 + t.b (clsN (opAt l k)) ≤ 65540 := by
 have h0 : 0 ≤ cs.getD k 0 ∧ cs.getD k 0 ≤ 65536 := by
  rw [gD]
  by_cases hk : k < cs.length
  · rw [List.getElem?_eq_getElem hk]; exact h _ (List.getElem_mem hk)
  · rw [List.getElem?_eq_none (by omega)]; simp
 have := ht.1 _ (wY (opAt l k))
 unfold okC at this
 unfold wQ
 omega
theorem when_bnd {l : List Opn} {t : Tab} {cs : List Int} (ht : YK t) (h : ∀ x ∈ cs, 0 ≤ x ∧ x ≤ 65536) (a : Int) : ∀ k, (0 ≤ YC l t cs k ∧ YC l t cs k ≤ 65544) ∧ (0 ≤ WC l t cs k ∧ WC l t cs k ≤ 65544) ∧ (0 ≤ WB l t cs a k ∧ WB l t cs a k ≤ 65544)
 | 0 => by simp [YC, WC, WB]
 | k + 1 => by
   have hi := when_bnd (l := l) ht h a k
   have hl := land_bnd (l := l) ht h k
   simp only [YC, WC, WB, mx]
   refine ⟨?_, ?_, ?_⟩ <;> (repeat' split) <;> omega
theorem f58 (l : List Opn) (t : Tab) (cs : List Int) (a : Int) (hl : ∀ o ∈ l, o.ok) (hn : l.length ≤ 100000) (hln : cs.length = l.length) (ht : YK t) (hcr : ∀ x ∈ cs, 0 ≤ x ∧ x ≤ 65536) {ca : AV} (hca : CycA ca cs) :
 HV Try.prog 58 [.row (l.map opC), .agg (tabC t), ca, u8 a] (.agg [i64 (YC l t cs l.length), i64 (WC l t cs l.length), i64 (WB l t cs a l.length)]) := by
 refine qK qM cf58 (by simp) (by simp [imms, imm, uM, wV, hca.imm]) ?_ (by simp [imm, imms])
 unfold ac58 re58
 refine yN fun env hE => ?_; have ee := cj16 hE 0 1 2 3 5 8 9 10 11 13 14 15 16 17 18 19; simp -implicitDefEqProofs only [push_cast] at ee; clear hE
 repeat' (first | ((try clear hf); with_reducible refine yD fun env K hE hK hf => ?_; have n := cj16 hE 0 1 2 3 5 8 9 10 11 13 14 15 16 17 18 19; simp -implicitDefEqProofs only [push_cast, reduceIte, Nat.reduceEqDiff, ee] at n; clear hE ee; have ee := n; clear n) | (with_reducible first | (refine hK _ _ ?_; clear hK K) | (refine Zi ?_; constructor) | refine yB (by decide) ?_ | refine yH (by assumption) ?_ | refine yJ (by assumption) ?_) | (refine yC rfl ?_) | (simp -implicitDefEqProofs only [push_cast, sevalprocAttr, eq_self, ee, qD]) | (simp (disch := omega) only [yF, yK, yG, yL]) | ((first | refine yE rfl (fun bb => ?_) (fun bb => ?_) | with_reducible refine yI (fun bb => ?_) (fun bb => ?_)) <;> (first | have bp := oT bb | have bp := oF bb | skip) <;> try simp only [bb]) | ((with_reducible refine And.intro ?_ ?_); omega) | (with_reducible refine yM ?_ ?_))
 refine yN fun env hE => ?_; have n := cj16 hE 0 1 2 3 5 8 9 10 11 13 14 15 16 17 18 19; simp -implicitDefEqProofs only [push_cast, reduceIte, Nat.reduceEqDiff, ee] at n; clear hE ee; have ee := n; clear n; have E58_0 := ee; obtain ⟨e0, e1, e2, e3, e5, e8, e9, e10, e11, e13, e14, e15, e16, e17, e18, e19⟩ := ee
 refine qC (fun nn σ => ∃ (k : Nat), nn = l.length - k ∧ kp [0, 1, 2, 3, 5, 8, 16, 17] σ.env env ∧ σ.env 18 = i64 k ∧ (k ≤ l.length ∧ σ.h.hp (2, 5) = some ⟨true, tabC t⟩ ∧ σ.h.hp (2, 8) = some ⟨true, [i64 (YC l t cs k), i64 (WC l t cs k), i64 (WB l t cs a k)]⟩ ∧ 2 ≤ σ.h.ep)) _ ⟨0, rfl, qP _ _, by refine e18.trans ?_; first | rfl | exact yP (by omega) | exact i64w (by omega), ?_⟩ ?_
 · exact ⟨by omega, by simp -implicitDefEqProofs only [push_cast, sevalprocAttr, eq_self], by simp -implicitDefEqProofs only [push_cast, sevalprocAttr, eq_self]; rfl, by simp -implicitDefEqProofs only [push_cast, sevalprocAttr, eq_self]⟩
 clear e0 e1 e2 e3 e5 e8 e9 e10 e11 e13 e14 e15 e16 e17 e18 e19; rintro nn ⟨env, h⟩ ⟨k, rfl, q, e18, hI⟩; simp only at e18 hI; simp only [kp, and_true, E58_0] at q; have ee : _ ∧ _ := ⟨e18, q⟩; clear e18 q
 obtain ⟨hk, hb5, hb8, hep⟩ := hI
 unfold l58_0
 (first | refine yS fun hF => ?_ | refine yY fun hF => ?_ | refine yX fun hF => ?_)
 by_cases hlt : k < l.length
 · have hd : decide ((k : Int) < (l.length : Int)) = true := dT (by omega)
   have hro := wL hlt .i64
   have hr := hca.at (k := k) (by omega)
   have hcl := clsN_eq l[k]
   have hcc := wY l[k]
   have hq4 := tab_l t hcc
   have hq8 := tab_b t hcc
   have hlb := land_bnd (l := l) ht hcr k
   have hwb := when_bnd (l := l) ht hcr a k
   have hok := hl l[k] (List.getElem_mem hlt)
   have hD : YC l t cs (k + 1) = mx (mx (YC l t cs k) (wQ l t cs k)) (cs.getD k 0 + t.b (clsN (opAt l k))) := rfl
   have hL : WC l t cs (k + 1) = mx (WC l t cs k) (wQ l t cs k) := rfl
   have hO : WB l t cs a (k + 1) = if (wrS (opAt l k)).2 = true ∧ (wrS (opAt l k)).1 = a then wQ l t cs k else WB l t cs a k := rfl
   have hbu := ht.1 _ hcc
   unfold okC at hbu
   unfold wQ at *
   rw [← uI hlt] at hD hL hO hlb
   generalize l[k] = o at *
   generalize cs.getD k 0 = v at *
   have hw1 : IntKind.i64.wrap (v + t.l (clsN o)) = v + t.l (clsN o) := qS (by omega) (by omega)
   have hw2 : IntKind.i64.wrap (v + t.b (clsN o)) = v + t.b (clsN o) := qS (by omega) (by omega)
   simp only [mx] at hD hL
   by_cases h1 : (wrS o).2 = true
   · by_cases h2 : (wrS o).1 = a
     · have d2 : decide ((wrS o).1 = a) = true := dT h2
       rw [if_pos ⟨h1, h2⟩] at hO
       repeat' (first | ((try clear hf); with_reducible refine yD fun env K hE hK hf => ?_; have n := cj16 hE 0 1 2 3 5 8 9 10 11 13 14 15 16 17 18 19; simp -implicitDefEqProofs only [push_cast, reduceIte, Nat.reduceEqDiff, ee] at n; clear hE ee; have ee := n; clear n) | (with_reducible first | (refine hK _ _ ?_; clear hK K) | (refine Zi ?_; constructor) | refine yB (by decide) ?_ | refine yH (by assumption) ?_ | refine yJ (by assumption) ?_) | (refine yC rfl ?_) | (simp -implicitDefEqProofs only [push_cast, sevalprocAttr, eq_self, ee, hd, hF.at, hr, hro, hb5, hb8, hq4, hq8, op_0, hcl, hw1, hw2, yZ, qZ, h1, d2]) | (simp (disch := omega) only [yF, yK, yG, yL, hF.at, yZ, qZ, h1]) | ((first | refine yE rfl (fun bb => ?_) (fun bb => ?_) | with_reducible refine yI (fun bb => ?_) (fun bb => ?_)) <;> (first | have bp := oT bb | have bp := oF bb | skip) <;> try simp only [bb]) | ((with_reducible refine And.intro ?_ ?_); omega) | (refine yO (f15 _) ?_) | (refine yO (f16 _ hok) ?_) | (with_reducible refine yM ?_ ?_))
       refine ⟨_, ?_, k + 1, rfl, by simp -implicitDefEqProofs only [kp, push_cast, reduceIte, Nat.reduceEqDiff, ee, E58_0, and_self], by first | rfl | exact yP (by omega) | exact i64w (by omega), ?_⟩
       · omega
       · refine ⟨by omega, ?_⟩
         rw [hD, hL, hO]; rfl
     · have d2 : decide ((wrS o).1 = a) = false := dF h2
       rw [if_neg (fun h => h2 h.2)] at hO
       repeat' (first | ((try clear hf); with_reducible refine yD fun env K hE hK hf => ?_; have n := cj16 hE 0 1 2 3 5 8 9 10 11 13 14 15 16 17 18 19; simp -implicitDefEqProofs only [push_cast, reduceIte, Nat.reduceEqDiff, ee] at n; clear hE ee; have ee := n; clear n) | (with_reducible first | (refine hK _ _ ?_; clear hK K) | (refine Zi ?_; constructor) | refine yB (by decide) ?_ | refine yH (by assumption) ?_ | refine yJ (by assumption) ?_) | (refine yC rfl ?_) | (simp -implicitDefEqProofs only [push_cast, sevalprocAttr, eq_self, ee, hd, hF.at, hr, hro, hb5, hb8, hq4, hq8, op_0, hcl, hw1, hw2, yZ, qZ, h1, d2]) | (simp (disch := omega) only [yF, yK, yG, yL, hF.at, yZ, qZ, h1]) | ((first | refine yE rfl (fun bb => ?_) (fun bb => ?_) | with_reducible refine yI (fun bb => ?_) (fun bb => ?_)) <;> (first | have bp := oT bb | have bp := oF bb | skip) <;> try simp only [bb]) | ((with_reducible refine And.intro ?_ ?_); omega) | (refine yO (f15 _) ?_) | (refine yO (f16 _ hok) ?_) | (with_reducible refine yM ?_ ?_))
       refine ⟨_, ?_, k + 1, rfl, by simp -implicitDefEqProofs only [kp, push_cast, reduceIte, Nat.reduceEqDiff, ee, E58_0, and_self], by first | rfl | exact yP (by omega) | exact i64w (by omega), ?_⟩
       · omega
       · refine ⟨by omega, ?_⟩
         rw [hD, hL, hO]; rfl
   · have h1 : (wrS o).2 = false := by simpa using h1
     rw [if_neg (fun h => by rw [h1] at h; exact absurd h.1 (by decide))] at hO
     repeat' (first | ((try clear hf); with_reducible refine yD fun env K hE hK hf => ?_; have n := cj16 hE 0 1 2 3 5 8 9 10 11 13 14 15 16 17 18 19; simp -implicitDefEqProofs only [push_cast, reduceIte, Nat.reduceEqDiff, ee] at n; clear hE ee; have ee := n; clear n) | (with_reducible first | (refine hK _ _ ?_; clear hK K) | (refine Zi ?_; constructor) | refine yB (by decide) ?_ | refine yH (by assumption) ?_ | refine yJ (by assumption) ?_) | (refine yC rfl ?_) | (simp -implicitDefEqProofs only [push_cast, sevalprocAttr, eq_self, ee, hd, hF.at, hr, hro, hb5, hb8, hq4, hq8, op_0, hcl, hw1, hw2, yZ, qZ, h1]) | (simp (disch := omega) only [yF, yK, yG, yL, hF.at, yZ, qZ, h1]) | ((first | refine yE rfl (fun bb => ?_) (fun bb => ?_) | with_reducible refine yI (fun bb => ?_) (fun bb => ?_)) <;> (first | have bp := oT bb | have bp := oF bb | skip) <;> try simp only [bb]) | ((with_reducible refine And.intro ?_ ?_); omega) | (refine yO (f15 _) ?_) | (refine yO (f16 _ hok) ?_) | (with_reducible refine yM ?_ ?_))
     refine ⟨_, ?_, k + 1, rfl, by simp -implicitDefEqProofs only [kp, push_cast, reduceIte, Nat.reduceEqDiff, ee, E58_0, and_self], by first | rfl | exact yP (by omega) | exact i64w (by omega), ?_⟩
     · omega
     · refine ⟨by omega, ?_⟩
       rw [hD, hL, hO]; rfl
 · have hd : decide ((k : Int) < (l.length : Int)) = false := dF (by omega)
   obtain rfl : k = l.length := by omega
   repeat' (first | ((try clear hf); with_reducible refine yD fun env K hE hK hf => ?_; have n := cj16 hE 0 1 2 3 5 8 9 10 11 13 14 15 16 17 18 19; simp -implicitDefEqProofs only [push_cast, reduceIte, Nat.reduceEqDiff, ee] at n; clear hE ee; have ee := n; clear n) | (with_reducible first | (refine hK _ _ ?_; clear hK K) | (refine Zi ?_; constructor) | refine yB (by decide) ?_ | refine yH (by assumption) ?_ | refine yJ (by assumption) ?_) | (refine yC rfl ?_) | (simp -implicitDefEqProofs only [push_cast, sevalprocAttr, eq_self, ee, hd, hb8]) | (simp (disch := omega) only [yF, yK, yG, yL]) | ((first | refine yE rfl (fun bb => ?_) (fun bb => ?_) | with_reducible refine yI (fun bb => ?_) (fun bb => ?_)) <;> (first | have bp := oT bb | have bp := oF bb | skip) <;> try simp only [bb]) | ((with_reducible refine And.intro ?_ ?_); omega) | (with_reducible refine yM ?_ ?_))
structure uG where
 l : List Opn
 e : Int
 a : Int
 body : List Opn
 th : Int
 el : Int
def YS (b : uG) : List AV := [.row (b.l.map opC), .lit (.int .i8 b.e), u8 b.a, .row (b.body.map opC), i64 b.th, i64 b.el]
def qR (t : Tab) : Int := mx 0 (t.b 3 - 1 - t.d)
open Classical in
noncomputable def endS (b : uG) (t : Tab) (cs : List Int) : Int × Int × Int :=
 if ¬ YK t then (0, 0, 20) else if t.u 3 = 0 then (0, 0, 21) else if b.e < 0 ∨ 3 < b.e ∨ (b.e ≠ 0 ∧ 32 ≤ b.a) then (0, 0, 50) else if ¬ checkP b.l t cs then (0, 0, 160) else
 if b.e = 3 then (-1, YC b.l t cs b.l.length, 0) else
 if b.e = 2 then (mx (qR t) (WC b.l t cs b.l.length), mx (qR t) (WC b.l t cs b.l.length) + 1, 0) else
 let n := mx (YC b.l t cs b.l.length) ((if b.e = 1 then mx (qR t) (WB b.l t cs b.a b.l.length) else qR t) + 1 + t.d)
 (n - 1 - t.d, n, 0)
noncomputable def endA (b : uG) (t : Tab) (cs : List Int) : AV := .tup [i64 (endS b t cs).1, i64 (endS b t cs).2.1, i64 (endS b t cs).2.2]
theorem block_imms (b : uG) : imms (YS b) = true := by simp [YS, imms, imm, wV]
theorem f14 (b : uG) (t : Tab) (cs : List Int) (hl : ∀ o ∈ b.l, o.ok) (hcn : cs.length ≤ 100000000000000) {ca : AV} (hca : CycA ca cs) :
 HV Try.prog 14 [.agg (YS b), .agg (tabC t), ca] (endA b t cs) := by
 refine qK qM cf14 (by simp) (by simp [imms, imm, uM, block_imms, hca.imm]) ?_ (by simp [endA, imm, imms])
 unfold ac14 re14
 refine yN fun env hE => ?_; have ee := cj13 hE 0 1 2 3 4 6 7 8 9 10 11 23 61; simp -implicitDefEqProofs only [push_cast] at ee; clear hE
 have hB0 : (YS b)[0]? = some (.row (b.l.map opC)) := rfl
 have hB1 : (YS b)[1]? = some (.lit (.int .i8 b.e)) := rfl
 have hB2 : (YS b)[2]? = some (u8 b.a) := rfl
 have hT3 := tab_u t (c := 3) (by omega)
 have hT11 : (tabC t)[11]? = some (i64 (t.b 3)) := tab_b t (c := 3) (by omega)
 have hT12 := tab_d t
 by_cases h1 : YK t
 rotate_left
 · have hE := tabE_bad h1
   have d1 : decide (¬ tabE t = 0) = true := dT (by omega)
   have hS : endS b t cs = (0, 0, 20) := if_pos h1
   repeat' (first | ((try clear hf); with_reducible refine yD fun env K hE hK hf => ?_; have n := cj13 hE 0 1 2 3 4 6 7 8 9 10 11 23 61; simp -implicitDefEqProofs only [push_cast, reduceIte, Nat.reduceEqDiff, ee] at n; clear hE ee; have ee := n; clear n) | (with_reducible first | (refine hK _ _ ?_; clear hK K) | (refine Zi ?_; constructor) | refine yB (by decide) ?_ | refine yH (by assumption) ?_ | refine yJ (by assumption) ?_) | (refine yC rfl ?_) | (simp -implicitDefEqProofs only [push_cast, sevalprocAttr, eq_self, ee, d1]) | (simp (disch := omega) only [yF, yK, yG, yL]) | ((first | refine yE rfl (fun bb => ?_) (fun bb => ?_) | with_reducible refine yI (fun bb => ?_) (fun bb => ?_)) <;> (first | have bp := oT bb | have bp := oF bb | skip) <;> try simp only [bb]) | ((with_reducible refine And.intro ?_ ?_); omega) | (refine yO (f56 t) ?_) | (with_reducible refine yM ?_ ?_))
   rw [endA, hS, hE]
   rfl
 have hE := tabE_ok h1
 have d1 : decide (¬ tabE t = 0) = false := dF (by omega)
 have hb3 := h1.1 3 (by omega)
 have hdl := h1.2
 unfold okC at hb3
 by_cases h2 : t.u 3 = 0
 · have d2 : decide (t.u 3 = 0) = true := dT h2
   have hS : endS b t cs = (0, 0, 21) := by unfold endS; rw [if_neg (fun h => h h1), if_pos h2]
   repeat' (first | ((try clear hf); with_reducible refine yD fun env K hE hK hf => ?_; have n := cj13 hE 0 1 2 3 4 6 7 8 9 10 11 23 61; simp -implicitDefEqProofs only [push_cast, reduceIte, Nat.reduceEqDiff, ee] at n; clear hE ee; have ee := n; clear n) | (with_reducible first | (refine hK _ _ ?_; clear hK K) | (refine Zi ?_; constructor) | refine yB (by decide) ?_ | refine yH (by assumption) ?_ | refine yJ (by assumption) ?_) | (refine yC rfl ?_) | (simp -implicitDefEqProofs only [push_cast, sevalprocAttr, eq_self, ee, d1, d2, hT3]) | (simp (disch := omega) only [yF, yK, yG, yL, hT3]) | ((first | refine yE rfl (fun bb => ?_) (fun bb => ?_) | with_reducible refine yI (fun bb => ?_) (fun bb => ?_)) <;> (first | have bp := oT bb | have bp := oF bb | skip) <;> try simp only [bb]) | ((with_reducible refine And.intro ?_ ?_); omega) | (refine yO (f56 t) ?_) | (with_reducible refine yM ?_ ?_))
   rw [endA, hS]
   rfl
 have d2 : decide (t.u 3 = 0) = false := dF h2
 by_cases h3 : b.e < 0 ∨ 3 < b.e ∨ (b.e ≠ 0 ∧ 32 ≤ b.a)
 · have hS : endS b t cs = (0, 0, 50) := by unfold endS; rw [if_neg (fun h => h h1), if_neg h2, if_pos h3]
   by_cases h4 : b.e < 0
   · have d3 : decide (b.e < 0) = true := dT h4
     repeat' (first | ((try clear hf); with_reducible refine yD fun env K hE hK hf => ?_; have n := cj13 hE 0 1 2 3 4 6 7 8 9 10 11 23 61; simp -implicitDefEqProofs only [push_cast, reduceIte, Nat.reduceEqDiff, ee] at n; clear hE ee; have ee := n; clear n) | (with_reducible first | (refine hK _ _ ?_; clear hK K) | (refine Zi ?_; constructor) | refine yB (by decide) ?_ | refine yH (by assumption) ?_ | refine yJ (by assumption) ?_) | (refine yC rfl ?_) | (simp -implicitDefEqProofs only [push_cast, sevalprocAttr, eq_self, ee, d1, d2, d3, hT3, hB1]) | (simp (disch := omega) only [yF, yK, yG, yL, hT3, hB1]) | ((first | refine yE rfl (fun bb => ?_) (fun bb => ?_) | with_reducible refine yI (fun bb => ?_) (fun bb => ?_)) <;> (first | have bp := oT bb | have bp := oF bb | skip) <;> try simp only [bb]) | ((with_reducible refine And.intro ?_ ?_); omega) | (refine yO (f56 t) ?_) | (with_reducible refine yM ?_ ?_))
     rw [endA, hS]
     rfl
   have d3 : decide (b.e < 0) = false := dF h4
   by_cases h5 : 3 < b.e
   · have d4 : decide (3 < b.e) = true := dT h5
     repeat' (first | ((try clear hf); with_reducible refine yD fun env K hE hK hf => ?_; have n := cj13 hE 0 1 2 3 4 6 7 8 9 10 11 23 61; simp -implicitDefEqProofs only [push_cast, reduceIte, Nat.reduceEqDiff, ee] at n; clear hE ee; have ee := n; clear n) | (with_reducible first | (refine hK _ _ ?_; clear hK K) | (refine Zi ?_; constructor) | refine yB (by decide) ?_ | refine yH (by assumption) ?_ | refine yJ (by assumption) ?_) | (refine yC rfl ?_) | (simp -implicitDefEqProofs only [push_cast, sevalprocAttr, eq_self, ee, d1, d2, d3, d4, hT3, hB1]) | (simp (disch := omega) only [yF, yK, yG, yL, hT3, hB1]) | ((first | refine yE rfl (fun bb => ?_) (fun bb => ?_) | with_reducible refine yI (fun bb => ?_) (fun bb => ?_)) <;> (first | have bp := oT bb | have bp := oF bb | skip) <;> try simp only [bb]) | ((with_reducible refine And.intro ?_ ?_); omega) | (refine yO (f56 t) ?_) | (with_reducible refine yM ?_ ?_))
     rw [endA, hS]
     rfl
   have d4 : decide (3 < b.e) = false := dF h5
   have h6 : b.e ≠ 0 ∧ 32 ≤ b.a := by rcases h3 with h | h | h; exact absurd h h4; exact absurd h h5; exact h
   have d5 : decide (¬ b.e = 0) = true := dT h6.1
   have d6 : decide (32 ≤ b.a) = true := dT h6.2
   repeat' (first | ((try clear hf); with_reducible refine yD fun env K hE hK hf => ?_; have n := cj13 hE 0 1 2 3 4 6 7 8 9 10 11 23 61; simp -implicitDefEqProofs only [push_cast, reduceIte, Nat.reduceEqDiff, ee] at n; clear hE ee; have ee := n; clear n) | (with_reducible first | (refine hK _ _ ?_; clear hK K) | (refine Zi ?_; constructor) | refine yB (by decide) ?_ | refine yH (by assumption) ?_ | refine yJ (by assumption) ?_) | (refine yC rfl ?_) | (simp -implicitDefEqProofs only [push_cast, sevalprocAttr, eq_self, ee, d1, d2, d3, d4, d5, d6, hT3, hB1, hB2]) | (simp (disch := omega) only [yF, yK, yG, yL, hT3, hB1, hB2]) | ((first | refine yE rfl (fun bb => ?_) (fun bb => ?_) | with_reducible refine yI (fun bb => ?_) (fun bb => ?_)) <;> (first | have bp := oT bb | have bp := oF bb | skip) <;> try simp only [bb]) | ((with_reducible refine And.intro ?_ ?_); omega) | (refine yO (f56 t) ?_) | (with_reducible refine yM ?_ ?_))
   rw [endA, hS]
   rfl
 have d3 : decide (b.e < 0) = false := dF (fun h => h3 (.inl h))
 have d4 : decide (3 < b.e) = false := dF (fun h => h3 (.inr (.inl h)))
 by_cases hck : checkP b.l t cs
 rotate_left
 · have hS : endS b t cs = (0, 0, 160) := by unfold endS; rw [if_neg (fun h => h h1), if_neg h2, if_neg h3, if_pos hck]
   have hcb := UK hck
   by_cases h5 : b.e = 0
   · have d5 : decide (¬ b.e = 0) = false := dF (fun h => h h5)
     repeat' (first | ((try clear hf); with_reducible refine yD fun env K hE hK hf => ?_; have n := cj13 hE 0 1 2 3 4 6 7 8 9 10 11 23 61; simp -implicitDefEqProofs only [push_cast, reduceIte, Nat.reduceEqDiff, ee] at n; clear hE ee; have ee := n; clear n) | (with_reducible first | (refine hK _ _ ?_; clear hK K) | (refine Zi ?_; constructor) | refine yB (by decide) ?_ | refine yH (by assumption) ?_ | refine yJ (by assumption) ?_) | (refine yC rfl ?_) | (simp -implicitDefEqProofs only [push_cast, sevalprocAttr, eq_self, ee, d1, d2, d3, d4, d5, hT3, hB0, hB1, hB2, hcb]) | (simp (disch := omega) only [yF, yK, yG, yL, hT3, hB0, hB1, hB2, hcb]) | ((first | refine yE rfl (fun bb => ?_) (fun bb => ?_) | with_reducible refine yI (fun bb => ?_) (fun bb => ?_)) <;> (first | have bp := oT bb | have bp := oF bb | skip) <;> try simp only [bb]) | ((with_reducible refine And.intro ?_ ?_); omega) | (refine yO (f56 t) ?_) | (refine yO (f57 b.l t cs hl hcn hca) ?_) | (with_reducible refine yM ?_ ?_))
     rw [endA, hS]
     rfl
   · have d5 : decide (¬ b.e = 0) = true := dT h5
     have d6 : decide (32 ≤ b.a) = false := dF (fun h => h3 (.inr (.inr ⟨h5, h⟩)))
     repeat' (first | ((try clear hf); with_reducible refine yD fun env K hE hK hf => ?_; have n := cj13 hE 0 1 2 3 4 6 7 8 9 10 11 23 61; simp -implicitDefEqProofs only [push_cast, reduceIte, Nat.reduceEqDiff, ee] at n; clear hE ee; have ee := n; clear n) | (with_reducible first | (refine hK _ _ ?_; clear hK K) | (refine Zi ?_; constructor) | refine yB (by decide) ?_ | refine yH (by assumption) ?_ | refine yJ (by assumption) ?_) | (refine yC rfl ?_) | (simp -implicitDefEqProofs only [push_cast, sevalprocAttr, eq_self, ee, d1, d2, d3, d4, d5, d6, hT3, hB0, hB1, hB2, hcb]) | (simp (disch := omega) only [yF, yK, yG, yL, hT3, hB0, hB1, hB2, hcb]) | ((first | refine yE rfl (fun bb => ?_) (fun bb => ?_) | with_reducible refine yI (fun bb => ?_) (fun bb => ?_)) <;> (first | have bp := oT bb | have bp := oF bb | skip) <;> try simp only [bb]) | ((with_reducible refine And.intro ?_ ?_); omega) | (refine yO (f56 t) ?_) | (refine yO (f57 b.l t cs hl hcn hca) ?_) | (with_reducible refine yM ?_ ?_))
     rw [endA, hS]
     rfl
 have hcb := checkB_t hck
 have hn : b.l.length ≤ 100000 := by have := (wX hck.1).2.1; omega
 have hwb := when_bnd (l := b.l) h1 hck.2.2.2.1 b.a b.l.length
 have hmx : ∀ x y : Int, (if y > x then y else x) = mx x y := fun _ _ => rfl
 have hld : mx 0 (t.b 3 - 1 - t.d) = qR t := rfl
 have hlb : 0 ≤ qR t ∧ qR t ≤ 4 := by unfold qR mx; split <;> omega
 have hmb : ∀ x y : Int, mx x y = x ∨ mx x y = y := fun x y => by unfold mx; split; exact .inr rfl; exact .inl rfl
 have hw1 : IntKind.i64.wrap (t.b 3 - 1) = t.b 3 - 1 := qS (by omega) (by omega)
 have hw2 : IntKind.i64.wrap (t.b 3 - 1 - t.d) = t.b 3 - 1 - t.d := qS (by omega) (by omega)
 by_cases h5 : b.e = 0
 · have d5 : decide (¬ b.e = 0) = false := dF (fun h => h h5)
   have d7 : decide (b.e = 3) = false := dF (by omega)
   have d8 : decide (b.e = 2) = false := dF (by omega)
   have d9 : decide (b.e = 1) = false := dF (by omega)
   have hw3 : IntKind.i64.wrap (qR t + 1) = qR t + 1 := qS (by omega) (by omega)
   have hw4 : IntKind.i64.wrap (qR t + 1 + t.d) = qR t + 1 + t.d := qS (by omega) (by omega)
   have hnb := hmb (YC b.l t cs b.l.length) (qR t + 1 + t.d)
   have hS : endS b t cs = (mx (YC b.l t cs b.l.length) (qR t + 1 + t.d) - 1 - t.d, mx (YC b.l t cs b.l.length) (qR t + 1 + t.d), 0) := by
    unfold endS
    rw [if_neg (fun h => h h1), if_neg h2, if_neg h3, if_neg (fun h => h hck), if_neg (by omega), if_neg (by omega), if_neg (by omega)]
   have hw5 : IntKind.i64.wrap (mx (YC b.l t cs b.l.length) (qR t + 1 + t.d) - 1) = mx (YC b.l t cs b.l.length) (qR t + 1 + t.d) - 1 := qS (by omega) (by omega)
   have hw6 : IntKind.i64.wrap (mx (YC b.l t cs b.l.length) (qR t + 1 + t.d) - 1 - t.d) = mx (YC b.l t cs b.l.length) (qR t + 1 + t.d) - 1 - t.d := qS (by omega) (by omega)
   repeat' (first | ((try clear hf); with_reducible refine yD fun env K hE hK hf => ?_; have n := cj13 hE 0 1 2 3 4 6 7 8 9 10 11 23 61; simp -implicitDefEqProofs only [push_cast, reduceIte, Nat.reduceEqDiff, ee] at n; clear hE ee; have ee := n; clear n) | (with_reducible first | (refine hK _ _ ?_; clear hK K) | (refine Zi ?_; constructor) | refine yB (by decide) ?_ | refine yH (by assumption) ?_ | refine yJ (by assumption) ?_) | (refine yC rfl ?_) | (simp -implicitDefEqProofs only [push_cast, sevalprocAttr, eq_self, ee, d1, d2, d3, d4, hT3, hT11, hT12, hB0, hB1, hB2, hcb, hmx, yZ, qZ, hw1, hw2, hld, d5, d7, d8, d9, hw3, hw4, hw5, hw6]) | (simp (disch := omega) only [yF, yK, yG, yL, hT3, hT11, hT12, hB0, hB1, hB2, hcb, hmx, yZ, qZ, hld]) | ((first | refine yE rfl (fun bb => ?_) (fun bb => ?_) | with_reducible refine yI (fun bb => ?_) (fun bb => ?_)) <;> (first | have bp := oT bb | have bp := oF bb | skip) <;> try simp only [bb]) | ((with_reducible refine And.intro ?_ ?_); omega) | (refine yO (f56 t) ?_) | (refine yO (f57 b.l t cs hl hcn hca) ?_) | (refine yO (f58 b.l t cs b.a hl hn hck.2.2.1 h1 hck.2.2.2.1 hca) ?_) | (with_reducible refine yM ?_ ?_))
   rw [endA, hS]
   rfl
 have d5 : decide (¬ b.e = 0) = true := dT h5
 have d6 : decide (32 ≤ b.a) = false := dF (fun h => h3 (.inr (.inr ⟨h5, h⟩)))
 by_cases h6 : b.e = 3
 · have d7 : decide (b.e = 3) = true := dT h6
   have hS : endS b t cs = (-1, YC b.l t cs b.l.length, 0) := by
    unfold endS
    rw [if_neg (fun h => h h1), if_neg h2, if_neg h3, if_neg (fun h => h hck), if_pos h6]
   repeat' (first | ((try clear hf); with_reducible refine yD fun env K hE hK hf => ?_; have n := cj13 hE 0 1 2 3 4 6 7 8 9 10 11 23 61; simp -implicitDefEqProofs only [push_cast, reduceIte, Nat.reduceEqDiff, ee] at n; clear hE ee; have ee := n; clear n) | (with_reducible first | (refine hK _ _ ?_; clear hK K) | (refine Zi ?_; constructor) | refine yB (by decide) ?_ | refine yH (by assumption) ?_ | refine yJ (by assumption) ?_) | (refine yC rfl ?_) | (simp -implicitDefEqProofs only [push_cast, sevalprocAttr, eq_self, ee, d1, d2, d3, d4, hT3, hT11, hT12, hB0, hB1, hB2, hcb, hmx, yZ, qZ, hw1, hw2, hld, d5, d6, d7]) | (simp (disch := omega) only [yF, yK, yG, yL, hT3, hT11, hT12, hB0, hB1, hB2, hcb, hmx, yZ, qZ, hld]) | ((first | refine yE rfl (fun bb => ?_) (fun bb => ?_) | with_reducible refine yI (fun bb => ?_) (fun bb => ?_)) <;> (first | have bp := oT bb | have bp := oF bb | skip) <;> try simp only [bb]) | ((with_reducible refine And.intro ?_ ?_); omega) | (refine yO (f56 t) ?_) | (refine yO (f57 b.l t cs hl hcn hca) ?_) | (refine yO (f58 b.l t cs b.a hl hn hck.2.2.1 h1 hck.2.2.2.1 hca) ?_) | (with_reducible refine yM ?_ ?_))
   rw [endA, hS]
   rfl
 have d7 : decide (b.e = 3) = false := dF h6
 by_cases h7 : b.e = 2
 · have d8 : decide (b.e = 2) = true := dT h7
   have hnb := hmb (qR t) (WC b.l t cs b.l.length)
   have hw5 : IntKind.i64.wrap (mx (qR t) (WC b.l t cs b.l.length) + 1) = mx (qR t) (WC b.l t cs b.l.length) + 1 := qS (by omega) (by omega)
   have hS : endS b t cs = (mx (qR t) (WC b.l t cs b.l.length), mx (qR t) (WC b.l t cs b.l.length) + 1, 0) := by
    unfold endS
    rw [if_neg (fun h => h h1), if_neg h2, if_neg h3, if_neg (fun h => h hck), if_neg h6, if_pos h7]
   repeat' (first | ((try clear hf); with_reducible refine yD fun env K hE hK hf => ?_; have n := cj13 hE 0 1 2 3 4 6 7 8 9 10 11 23 61; simp -implicitDefEqProofs only [push_cast, reduceIte, Nat.reduceEqDiff, ee] at n; clear hE ee; have ee := n; clear n) | (with_reducible first | (refine hK _ _ ?_; clear hK K) | (refine Zi ?_; constructor) | refine yB (by decide) ?_ | refine yH (by assumption) ?_ | refine yJ (by assumption) ?_) | (refine yC rfl ?_) | (simp -implicitDefEqProofs only [push_cast, sevalprocAttr, eq_self, ee, d1, d2, d3, d4, hT3, hT11, hT12, hB0, hB1, hB2, hcb, hmx, yZ, qZ, hw1, hw2, hld, d5, d6, d7, d8, hw5]) | (simp (disch := omega) only [yF, yK, yG, yL, hT3, hT11, hT12, hB0, hB1, hB2, hcb, hmx, yZ, qZ, hld]) | ((first | refine yE rfl (fun bb => ?_) (fun bb => ?_) | with_reducible refine yI (fun bb => ?_) (fun bb => ?_)) <;> (first | have bp := oT bb | have bp := oF bb | skip) <;> try simp only [bb]) | ((with_reducible refine And.intro ?_ ?_); omega) | (refine yO (f56 t) ?_) | (refine yO (f57 b.l t cs hl hcn hca) ?_) | (refine yO (f58 b.l t cs b.a hl hn hck.2.2.1 h1 hck.2.2.2.1 hca) ?_) | (with_reducible refine yM ?_ ?_))
   rw [endA, hS]
   rfl
 have d8 : decide (b.e = 2) = false := dF h7
 have h8 : b.e = 1 := by omega
 have d9 : decide (b.e = 1) = true := dT h8
 have hlo := hmb (qR t) (WB b.l t cs b.a b.l.length)
 have hS : endS b t cs = (mx (YC b.l t cs b.l.length) (mx (qR t) (WB b.l t cs b.a b.l.length) + 1 + t.d) - 1 - t.d, mx (YC b.l t cs b.l.length) (mx (qR t) (WB b.l t cs b.a b.l.length) + 1 + t.d), 0) := by
  unfold endS
  rw [if_neg (fun h => h h1), if_neg h2, if_neg h3, if_neg (fun h => h hck), if_neg h6, if_neg h7, if_pos h8]
 generalize hlq : mx (qR t) (WB b.l t cs b.a b.l.length) = lq at *
 have hnb := hmb (YC b.l t cs b.l.length) (lq + 1 + t.d)
 have hw3 : IntKind.i64.wrap (lq + 1) = lq + 1 := qS (by omega) (by omega)
 have hw4 : IntKind.i64.wrap (lq + 1 + t.d) = lq + 1 + t.d := qS (by omega) (by omega)
 have hw5 : IntKind.i64.wrap (mx (YC b.l t cs b.l.length) (lq + 1 + t.d) - 1) = mx (YC b.l t cs b.l.length) (lq + 1 + t.d) - 1 := qS (by omega) (by omega)
 have hw6 : IntKind.i64.wrap (mx (YC b.l t cs b.l.length) (lq + 1 + t.d) - 1 - t.d) = mx (YC b.l t cs b.l.length) (lq + 1 + t.d) - 1 - t.d := qS (by omega) (by omega)
 repeat' (first | ((try clear hf); with_reducible refine yD fun env K hE hK hf => ?_; have n := cj13 hE 0 1 2 3 4 6 7 8 9 10 11 23 61; simp -implicitDefEqProofs only [push_cast, reduceIte, Nat.reduceEqDiff, ee] at n; clear hE ee; have ee := n; clear n) | (with_reducible first | (refine hK _ _ ?_; clear hK K) | (refine Zi ?_; constructor) | refine yB (by decide) ?_ | refine yH (by assumption) ?_ | refine yJ (by assumption) ?_) | (refine yC rfl ?_) | (simp -implicitDefEqProofs only [push_cast, sevalprocAttr, eq_self, ee, d1, d2, d3, d4, hT3, hT11, hT12, hB0, hB1, hB2, hcb, hmx, yZ, qZ, hw1, hw2, hld, hlq, d5, d6, d7, d8, d9, hw3, hw4, hw5, hw6]) | (simp (disch := omega) only [yF, yK, yG, yL, hT3, hT11, hT12, hB0, hB1, hB2, hcb, hmx, yZ, qZ, hld, hlq]) | ((first | refine yE rfl (fun bb => ?_) (fun bb => ?_) | with_reducible refine yI (fun bb => ?_) (fun bb => ?_)) <;> (first | have bp := oT bb | have bp := oF bb | skip) <;> try simp only [bb]) | ((with_reducible refine And.intro ?_ ?_); omega) | (refine yO (f56 t) ?_) | (refine yO (f57 b.l t cs hl hcn hca) ?_) | (refine yO (f58 b.l t cs b.a hl hn hck.2.2.1 h1 hck.2.2.2.1 hca) ?_) | (with_reducible refine yM ?_ ?_))
 rw [endA, hS]
 rfl
def useR (l : List Opn) (t : Tab) (cs : List Int) : Nat → Int → Int → Int
 | 0, _, _ => 0
 | k + 1, c, y => useR l t cs k c y + if c = (clsN (opAt l k) : Int) ∧ 0 ≤ cs.getD k 0 ∧ cs.getD k 0 ≤ y ∧ y < cs.getD k 0 + t.b (clsN (opAt l k)) then 1 else 0
theorem useR_bnd (l : List Opn) (t : Tab) (cs : List Int) : ∀ (k : Nat) (c y : Int), 0 ≤ useR l t cs k c y ∧ useR l t cs k c y ≤ k
 | 0, c, y => by simp [useR]
 | k + 1, c, y => by
   have := useR_bnd l t cs k c y
   simp only [useR]
   split <;> omega
theorem useR_eq (l : List Opn) (t : Tab) (cs : List Int) (h : ∀ x ∈ cs, 0 ≤ x) : ∀ (k : Nat) (c y : Int), k ≤ cs.length → useR l t cs k c y = useN l t cs k c y
 | 0, _, _, _ => rfl
 | k + 1, c, y, hk => by
   simp only [useR, useN, useR_eq l t cs h k c y (by omega)]
   have : 0 ≤ cs.getD k 0 := h _ (by rw [gD, List.getElem?_eq_getElem (by omega)]; exact List.getElem_mem _)
   simp only [this, true_and]
end Go.Proofs.Hx
set_option linter.unusedVariables false
set_option linter.unusedSimpArgs false
namespace Go.Proofs.Hx
open Go Go.Proofs
def roomG (l : List Opn) (t : Tab) (cs : List Int) (i : Nat) (y : Int) : Prop := ∀ j : Nat, (j : Int) < t.b (clsN (opAt l i)) → useR l t cs l.length (clsN (opAt l i)) (y + j) + 1 ≤ t.u (clsN (opAt l i))
def fitP (l : List Opn) (t : Tab) (ES : List Edg) (cs : List Int) (i : Nat) (y : Int) : Prop := cs.getD i 0 < 0 ∧ wC (inE ES i) cs y = true ∧ roomG l t cs i y
def WA (cs : List Int) : Prop := ∀ x ∈ cs, 0 ≤ x
open Classical in
noncomputable def nextG (l : List Opn) (t : Tab) (ES : List Edg) (os : List Int) (s : List Int × Int) : List Int × Int :=
 if WA s.1 then s else match os.find? (fun i => decide (fitP l t ES s.1 i.toNat s.2)) with
  | some i => (s.1.set i.toNat s.2, s.2)
  | none => (s.1, s.2 + 1)
noncomputable def iterG (l : List Opn) (t : Tab) (ES : List Edg) (os : List Int) : Nat → List Int × Int
 | 0 => (List.replicate l.length (-1), 0)
 | m + 1 => nextG l t ES os (iterG l t ES os m)
def GoS (l : List Opn) (t : Tab) (ES : List Edg) (os : List Int) (cs : List Int) (y : Int) : Prop := ∃ m, iterG l t ES os m = (cs, y)
section
variable {l : List Opn} {t : Tab} {ES : List Edg} {os : List Int}
theorem GoS.init : GoS l t ES os (List.replicate l.length (-1)) 0 := ⟨0, rfl⟩
theorem GoS.put {cs : List Int} {y : Int} (h : GoS l t ES os cs y) (hl : cs.length = l.length) {k : Nat} {i : Int} (hk : os[k]? = some i) (hi : i.toNat < l.length) (hno : ∀ j x, j < k → os[j]? = some x → ¬ fitP l t ES cs x.toNat y) (hf : fitP l t ES cs i.toNat y) : GoS l t ES os (cs.set i.toNat y) y := by
 obtain ⟨m, hm⟩ := h
 refine ⟨m + 1, ?_⟩
 have hnd : ¬ WA cs := fun h => by
  have h1 := hf.1
  rw [gD, List.getElem?_eq_getElem (by omega)] at h1
  have := h _ (List.getElem_mem (show i.toNat < cs.length by omega))
  simp only [Option.getD_some] at h1
  omega
 show nextG l t ES os (iterG l t ES os m) = _
 rw [hm]
 unfold nextG
 simp only []
 rw [if_neg hnd]
 have hfind : os.find? (fun i => @decide (fitP l t ES cs i.toNat y) (Classical.propDecidable _)) = some i := by
  rw [List.find?_eq_some_iff_getElem]
  obtain ⟨hlt, he⟩ := List.getElem?_eq_some_iff.1 hk
  refine ⟨by simpa using hf, k, hlt, he, fun j hj => ?_⟩
  have := hno j (os[j]'(by omega)) hj (List.getElem?_eq_getElem _)
  simpa using this
 rw [hfind]
theorem GoS.next {cs : List Int} {y : Int} (h : GoS l t ES os cs y) (hnd : ¬ WA cs) (hno : ∀ (j : Nat) x, os[j]? = some x → ¬ fitP l t ES cs x.toNat y) : GoS l t ES os cs (y + 1) := by
 obtain ⟨m, hm⟩ := h
 refine ⟨m + 1, ?_⟩
 show nextG l t ES os (iterG l t ES os m) = _
 rw [hm]
 unfold nextG
 simp only []
 rw [if_neg hnd]
 have hfind : os.find? (fun i => @decide (fitP l t ES cs i.toNat y) (Classical.propDecidable _)) = none := by
  rw [List.find?_eq_none]
  intro x hx
  obtain ⟨j, hj⟩ := List.getElem?_of_mem hx
  have := hno j x hj
  simpa using this
 rw [hfind]
theorem iter_done {m : Nat} {cs : List Int} {y : Int} (h : iterG l t ES os m = (cs, y)) (hd : WA cs) : ∀ k, iterG l t ES os (m + k) = (cs, y)
 | 0 => h
 | k + 1 => by
   rw [← Nat.add_assoc, iterG, iter_done h hd k, nextG, if_pos hd]
theorem GoS.uniq {cs cs' : List Int} {y y' : Int} (h : GoS l t ES os cs y) (h' : GoS l t ES os cs' y') (hd : WA cs) (hd' : WA cs') : cs = cs' := by
 obtain ⟨m, hm⟩ := h
 obtain ⟨m', hm'⟩ := h'
 have h1 := iter_done hm hd m'
 have h2 := iter_done hm' hd' m
 rw [Nat.add_comm, h2] at h1
 cases h1; rfl
def cntG (cs : List Int) : Nat := cs.countP fun x => decide (0 ≤ x)
def rejP (l : List Opn) (t : Tab) (ES : List Edg) (cs : List Int) (i : Nat) (y : Int) : Prop :=
 (∃ e ∈ ES, e.t = (i : Int) ∧ (cs.getD e.f.toNat 0 < 0 ∨ y < cs.getD e.f.toNat 0 + e.l)) ∨ ∃ j : Nat, (j : Int) < t.b (clsN (opAt l i)) ∧ t.u (clsN (opAt l i)) < useR l t cs l.length (clsN (opAt l i)) (y + j) + 1
theorem not_fit {cs : List Int} {i : Nat} {y : Int} (h : ¬ fitP l t ES cs i y) (hi : cs.getD i 0 < 0) : rejP l t ES cs i y := by
 unfold rejP
 by_cases h1 : wC (inE ES i) cs y = true
 · right
   have h2 : ¬ roomG l t cs i y := fun h2 => h ⟨hi, h1, h2⟩
   unfold roomG at h2
   simp only [Classical.not_forall] at h2
   obtain ⟨j, hj, h3⟩ := h2
   exact ⟨j, hj, by omega⟩
 · left
   simp only [wC, List.all_eq_true, Bool.and_eq_true, decide_eq_true_eq, Classical.not_forall, inE, List.mem_filter] at h1
   obtain ⟨e, ⟨he, het⟩, h3⟩ := h1
   exact ⟨e, he, het, by omega⟩
theorem getDs_set (cs : List Int) (i : Nat) (y : Int) (hi : i < cs.length) (j : Nat) : (cs.set i y).getD j 0 = if j = i then y else cs.getD j 0 := by
 simp only [gD, List.getElem?_set]
 by_cases e : j = i
 · subst e; simp [hi]
 · rw [if_neg (fun h => e h.symm), if_neg e]
theorem useR_set {cs : List Int} {i : Nat} {y : Int} (hi : i < cs.length) (h0 : cs.getD i 0 < 0) (hy : 0 ≤ y) (c y' : Int) : ∀ k, useR l t (cs.set i y) k c y' = useR l t cs k c y' + if i < k ∧ c = (clsN (opAt l i) : Int) ∧ y ≤ y' ∧ y' < y + t.b (clsN (opAt l i)) then 1 else 0
 | 0 => by simp [useR]
 | k + 1 => by
   simp only [useR, useR_set hi h0 hy c y' k, getDs_set cs i y hi]
   by_cases e : k = i
   · subst e
     rw [if_pos rfl, if_neg (fun h => by omega), if_neg (c := c = _ ∧ 0 ≤ cs.getD k 0 ∧ _) (fun h => by omega)]
     by_cases h : c = (clsN (opAt l k) : Int) ∧ y ≤ y' ∧ y' < y + t.b (clsN (opAt l k))
     · rw [if_pos ⟨h.1, hy, h.2⟩, if_pos ⟨by omega, h⟩]
     · rw [if_neg (fun g => h ⟨g.1, g.2.2⟩), if_neg (fun g => h g.2)]
   · rw [if_neg e]
     have : (i < k + 1) ↔ (i < k) := by omega
     simp only [this]
     omega
theorem getD_bnd {cs : List Int} {a b : Int} (h : ∀ x ∈ cs, a ≤ x ∧ x ≤ b) (ha : a ≤ 0) (hb : 0 ≤ b) (j : Nat) : a ≤ cs.getD j 0 ∧ cs.getD j 0 ≤ b := by
 rw [gD]
 by_cases hk : j < cs.length
 · rw [List.getElem?_eq_getElem hk]; exact h _ (List.getElem_mem hk)
 · rw [List.getElem?_eq_none (by omega)]; exact ⟨ha, hb⟩
structure InvG (l : List Opn) (t : Tab) (ES : List Edg) (cs : List Int) (y : Int) : Prop where
 len : cs.length = l.length
 y0 : 0 ≤ y
 rng : ∀ x ∈ cs, -1 ≤ x ∧ x ≤ y
 yb : y ≤ 8 * cntG cs
 pb : ∀ x ∈ cs, x + 8 ≤ 8 * cntG cs ∨ x < 0
 ed : ∀ e ∈ ES, 0 ≤ cs.getD e.t.toNat 0 → 0 ≤ cs.getD e.f.toNat 0 ∧ cs.getD e.f.toNat 0 + e.l ≤ cs.getD e.t.toNat 0
 un : ∀ c : Nat, c < 4 → ∀ y', useR l t cs l.length c y' ≤ t.u c
 ea : ∀ i < l.length, ∀ a, 0 ≤ a → a < (if cs.getD i 0 < 0 then y else cs.getD i 0) → rejP l t ES cs i a
theorem cnt_le (cs : List Int) : cntG cs ≤ cs.length := List.countP_le_length
theorem cnt_set {cs : List Int} {i : Nat} {y : Int} (hi : i < cs.length) (h0 : cs.getD i 0 < 0) (hy : 0 ≤ y) : cntG (cs.set i y) = cntG cs + 1 := by
 rw [gD, List.getElem?_eq_getElem hi, Option.getD_some] at h0
 unfold cntG
 rw [List.countP_set hi, if_neg (by simpa using h0), if_pos (by simpa using hy)]
 omega
theorem cnt_done {cs : List Int} : WA cs ↔ cntG cs = cs.length := by
 unfold WA cntG
 rw [List.countP_eq_length]
 simp
theorem InvG.put {cs : List Int} {y : Int} (I : InvG l t ES cs y) (hES : ∀ e ∈ ES, edOK l.length e) {i : Nat} (hi : i < l.length) (hf : fitP l t ES cs i y) : InvG l t ES (cs.set i y) y := by
 obtain ⟨h0, hth, hrm⟩ := hf
 have hlc := I.len
 have hc := cnt_set (by omega) h0 I.y0
 have hyb := I.yb
 have hy0 := I.y0
 have hg := getDs_set cs i y (by omega)
 have hgb := getD_bnd I.rng (by omega) I.y0
 have hu := fun c y' => useR_set (l := l) (t := t) (i := i) (by omega) h0 I.y0 c y' l.length
 refine ⟨by simpa using I.len, I.y0, fun x hx => ?_, by omega, fun x hx => ?_, fun e he h1 => ?_, fun c hc4 y' => ?_, fun k hk a ha hlt => ?_⟩
 · rcases List.mem_or_eq_of_mem_set hx with h | h
   · exact I.rng x h
   · subst h; omega
 · rcases List.mem_or_eq_of_mem_set hx with h | h
   · have := I.pb x h; omega
   · subst h; left; omega
 · obtain ⟨x1, x2, x3, x4, x5⟩ := hES e he
   have g1 := hg e.t.toNat
   have g2 := hg e.f.toNat
   rw [g1] at h1
   rw [g1, g2]
   by_cases e1 : e.t.toNat = i
   · rw [if_pos e1] at h1 ⊢
     simp only [wC, List.all_eq_true, Bool.and_eq_true, decide_eq_true_eq, inE, List.mem_filter] at hth
     have := hth e ⟨he, by omega⟩
     rw [if_neg (by omega)]
     exact this
   · rw [if_neg e1] at h1 ⊢
     have := I.ed e he h1
     split
     · rename_i e2; rw [e2] at this; omega
     · exact this
 · rw [hu]
   split
   · rename_i h
     have := hrm (y' - y).toNat (by omega)
     rw [show y + ((y' - y).toNat : Int) = y' by omega, ← show c = clsN (opAt l i) by omega] at this
     exact this
   · have := I.un c hc4 y'; omega
 · have hold : rejP l t ES cs k a ∧ a < y := by
    rw [hg] at hlt
    by_cases e1 : k = i
    · rw [if_pos e1, if_neg (by omega)] at hlt
      exact ⟨I.ea k hk a ha (by rw [e1, if_pos h0]; exact hlt), hlt⟩
    · rw [if_neg e1] at hlt
      have := hgb k
      refine ⟨I.ea k hk a ha hlt, ?_⟩
      split at hlt <;> omega
   rcases hold.1 with ⟨e, he, het, h⟩ | ⟨j, hj, h⟩
   · refine .inl ⟨e, he, het, ?_⟩
     obtain ⟨x1, x2, x3, x4, x5⟩ := hES e he
     rw [hg]
     split
     · right; omega
     · exact h
   · refine .inr ⟨j, hj, ?_⟩
     rw [hu]
     split <;> omega
theorem InvG.next {cs : List Int} {y : Int} (I : InvG l t ES cs y) (hES : ∀ e ∈ ES, edOK l.length e) (ht : YK t) (hlk : WP l t = false) (hcov : ∀ i < l.length, (i : Int) ∈ os) (hnd : ¬ WA cs) (hno : ∀ (j : Nat) x, os[j]? = some x → ¬ fitP l t ES cs x.toNat y) : InvG l t ES cs (y + 1) := by
 have hlc := I.len
 have hy0 := I.y0
 have hyb := I.yb
 have hgb := getD_bnd I.rng (by omega) I.y0
 have hnf : ∀ i < l.length, ¬ fitP l t ES cs i y := fun i hi => by
  obtain ⟨j, hj⟩ := List.getElem?_of_mem (hcov i hi)
  have := hno j _ hj
  rwa [Int.toNat_natCast] at this
 have key : y + 1 ≤ 8 * cntG cs := by
  refine Classical.byContradiction fun hcon => ?_
  -- the least one that is not there
  have hex : ∃ i, i < l.length ∧ cs.getD i 0 < 0 := by
   refine Classical.byContradiction fun hh => hnd fun x hx => ?_
   obtain ⟨j, hj⟩ := List.getElem?_of_mem hx
   have hjl := (List.getElem?_eq_some_iff.1 hj).1
   have : ¬ cs.getD j 0 < 0 := fun h => hh ⟨j, by omega, h⟩
   rw [gD, hj] at this
   simpa using this
  have hmin : ∃ i, i < l.length ∧ cs.getD i 0 < 0 ∧ ∀ j < i, 0 ≤ cs.getD j 0 := by
   obtain ⟨i, hi⟩ := hex
   induction i using Nat.strongRecOn with
   | _ i ih =>
     by_cases h : ∀ j < i, 0 ≤ cs.getD j 0
     · exact ⟨i, hi.1, hi.2, h⟩
     · simp only [Classical.not_forall] at h
       obtain ⟨j, hj, hh⟩ := h
       exact ih j hj ⟨by omega, by omega⟩
  obtain ⟨i, hi, h0, hlt⟩ := hmin
  have hpb : ∀ j, 0 ≤ cs.getD j 0 → cs.getD j 0 + 8 ≤ y ∨ l.length ≤ j := fun j hj => by
   by_cases hjl : j < cs.length
   · have := I.pb (cs.getD j 0) (by rw [gD, List.getElem?_eq_getElem hjl]; exact List.getElem_mem hjl)
     left; omega
   · right; omega
  refine hnf i hi ⟨h0, ?_, fun j hj => ?_⟩
  · simp only [wC, List.all_eq_true, Bool.and_eq_true, decide_eq_true_eq, inE, List.mem_filter]
    rintro e ⟨he, het⟩
    obtain ⟨x1, x2, x3, x4, x5⟩ := hES e he
    have h1 := hlt e.f.toNat (by omega)
    have h2 := hpb e.f.toNat h1
    omega
  · have hz : useR l t cs l.length (clsN (opAt l i)) (y + j) = 0 := by
     have : ∀ k, k ≤ l.length → useR l t cs k (clsN (opAt l i)) (y + j) = 0 := fun k => by
      induction k with
      | zero => exact fun _ => rfl
      | succ k ih =>
        intro hk
        rw [useR, ih (by omega), if_neg]; · rfl
        intro hh
        have := hpb k hh.2.1
        have hb := ht.1 _ (wY (opAt l k))
        unfold okC at hb
        omega
     exact this _ (Nat.le_refl _)
    rw [hz]
    have hu := ht.1 _ (wY (opAt l i))
    unfold okC at hu
    have hne : t.u (clsN (opAt l i)) ≠ 0 := fun e => by
     have : WP l t = true := by
      simp only [WP, List.any_eq_true, decide_eq_true_eq]
      exact ⟨l[i], List.getElem_mem hi, by rw [uI hi]; exact e⟩
     rw [hlk] at this; cases this
    omega
 refine ⟨I.len, by omega, fun x hx => by have := I.rng x hx; omega, key, I.pb, I.ed, I.un, fun i hi a ha hlt => ?_⟩
 split at hlt
 · rename_i h0
   by_cases e : a = y
   · subst e; exact not_fit (hnf i hi) h0
   · exact I.ea i hi a ha (by rw [if_pos h0]; omega)
 · rename_i h0
   exact I.ea i hi a ha (by rw [if_neg h0]; exact hlt)
theorem InvG.init (ht : YK t) (hES : ∀ e ∈ ES, edOK l.length e) : InvG l t ES (List.replicate l.length (-1)) 0 := by
 have hr : ∀ j, j < l.length → (List.replicate l.length (-1 : Int)).getD j 0 = -1 := fun j hj => by
  rw [gD, List.getElem?_replicate, if_pos hj]; rfl
 refine ⟨by simp, by omega, fun x hx => ?_, by omega, fun x hx => ?_, fun e he h => ?_, fun c hc y' => ?_, fun i hi a ha hlt => ?_⟩
 · rw [List.mem_replicate] at hx; omega
 · rw [List.mem_replicate] at hx; omega
 · obtain ⟨x1, x2, x3, x4, x5⟩ := hES e he
   rw [hr _ (by omega)] at h; omega
 · have : useR l t (List.replicate l.length (-1)) l.length c y' = 0 := by
    have : ∀ k, k ≤ l.length → useR l t (List.replicate l.length (-1)) k c y' = 0 := fun k => by
     induction k with
     | zero => exact fun _ => rfl
     | succ k ih =>
       intro hk
       rw [useR, ih (by omega), if_neg]; · rfl
       rw [hr k (by omega)]; omega
    exact this _ (Nat.le_refl _)
   have hu := ht.1 c hc
   unfold okC at hu
   omega
 · rw [hr i hi, if_pos (by omega)] at hlt; omega
theorem GoS.inv (hES : ∀ e ∈ ES, edOK l.length e) (ht : YK t) (hlk : WP l t = false) (hos : ∀ x ∈ os, 0 ≤ x ∧ x < l.length) (hcov : ∀ i < l.length, (i : Int) ∈ os) {cs : List Int} {y : Int} (h : GoS l t ES os cs y) : InvG l t ES cs y := by
 obtain ⟨m, hm⟩ := h
 have key : ∀ m, InvG l t ES (iterG l t ES os m).1 (iterG l t ES os m).2 := fun m => by
  induction m with
  | zero => exact InvG.init ht hES
  | succ m ih =>
    simp only [iterG, nextG]
    split
    · exact ih
    · rename_i hnd
      split
      · rename_i i hf
        have h1 := List.find?_some hf
        have h2 := hos i (List.mem_of_find?_eq_some hf)
        exact ih.put hES (by omega) (by simpa using h1)
      · rename_i hf
        rw [List.find?_eq_none] at hf
        refine ih.next hES ht hlk hcov hnd fun j x hj => ?_
        have := hf x (List.mem_of_getElem? hj)
        simpa using this
 have := key m
 rwa [hm] at this
end
open Classical in
noncomputable def finG (l : List Opn) (t : Tab) (ES : List Edg) (os : List Int) : List Int := if h : ∃ cs y, GoS l t ES os cs y ∧ WA cs then h.choose else []
theorem finG_of {l : List Opn} {t : Tab} {ES : List Edg} {os cs : List Int} {y : Int} (h : GoS l t ES os cs y) (hd : WA cs) : finG l t ES os = cs := by
 have hex : ∃ cs y, GoS l t ES os cs y ∧ WA cs := ⟨cs, y, h, hd⟩
 unfold finG
 rw [dif_pos hex]
 obtain ⟨y', h1, h2⟩ := hex.choose_spec
 exact h1.uniq h h2 hd
end Go.Proofs.Hx
set_option linter.unusedVariables false
set_option linter.unusedSimpArgs false
namespace Go.Proofs.Hx
open Go Go.Proofs
attribute [local irreducible] yR awp opK goV goM qB yW qE yT HV HVF HC
def rotS (d : Nat → Int) (a m b : Nat) : Nat → Int := fun k => if a ≤ k ∧ k < a + (b - m) then d (k - a + m) else if a + (b - m) ≤ k ∧ k < b then d (k - (a + (b - m)) + a) else d k
theorem rot_gt (d : Nat → Int) {m i j : Nat} (h1 : j < i) (h2 : i ≤ m) (h3 : 0 < j) : rotS (WD d (m - i) m j) (m - (i - j)) m (m + j) = rotS d (m - i) m (m + j) := by
 funext k
 simp only [rotS, WD]
 (repeat' split) <;> first | rfl | (exfalso; omega) | (congr 1; omega)
theorem rot_lt (d : Nat → Int) {m i j : Nat} (h1 : i < j) (h2 : i ≤ m) (h3 : 0 < i) : rotS (WD d (m - i) (m + j - i) i) (m - i) m (m + (j - i)) = rotS d (m - i) m (m + j) := by
 funext k
 simp only [rotS, WD]
 (repeat' split) <;> first | rfl | (exfalso; omega) | (congr 1; omega)
theorem rot_eq (d : Nat → Int) {m i : Nat} (h2 : i ≤ m) : WD d (m - i) m i = rotS d (m - i) m (m + i) := by
 funext k
 simp only [rotS, WD]
 (repeat' split) <;> first | rfl | (exfalso; omega) | (congr 1; omega)
set_option maxHeartbeats 1000000 in
theorem f162 {h0 : Hp} {id : Id} {n : Nat} {d : Nat → Int} {f : AV} (hb : h0.hp id = some ⟨true, arrC n d⟩) (hi : id.1 ≤ h0.ep) (hn : n ≤ 1000000) {a m b : Nat} (h1 : a < m) (h2 : m < b) (h3 : b ≤ n) :
 HC Try.prog 162 [.sl id 0 n 1, i64 a, i64 m, i64 b, f] h0 (SortQ h0 id n fun d' => d' = rotS d a m b) := by
 refine qJ qM cf162 (by simp) fun hF => ?_
 unfold ac162 re162
 refine yN fun env hE => ?_; have ee := cj7 hE 0 1 2 3 4 10 11; simp -implicitDefEqProofs only [push_cast] at ee; clear hE
 repeat' (first | ((try clear hf); with_reducible refine yD fun env K hE hK hf => ?_; have n := cj7 hE 0 1 2 3 4 10 11; simp -implicitDefEqProofs only [push_cast, reduceIte, Nat.reduceEqDiff, ee] at n; clear hE ee; have ee := n; clear n) | (with_reducible first | (refine hK _ _ ?_; clear hK K) | (refine Zi ?_; constructor) | refine yB (by decide) ?_ | refine yH (by assumption) ?_ | refine yJ (by assumption) ?_) | (refine yC rfl ?_) | (simp -implicitDefEqProofs only [push_cast, sevalprocAttr, eq_self, ee]) | (simp (disch := omega) only [yF, yK, yG, yL]) | ((first | refine yE rfl (fun bb => ?_) (fun bb => ?_) | with_reducible refine yI (fun bb => ?_) (fun bb => ?_)) <;> (first | have bp := oT bb | have bp := oF bb | skip) <;> try simp only [bb]) | ((with_reducible refine And.intro ?_ ?_); omega) | (with_reducible refine yM ?_ ?_))
 refine yN fun env hE => ?_; have n := cj7 hE 0 1 2 3 4 10 11; simp -implicitDefEqProofs only [push_cast, reduceIte, Nat.reduceEqDiff, ee] at n; clear hE ee; have ee := n; clear n; have E162_0 := ee; obtain ⟨e0, e1, e2, e3, e4, e10, e11⟩ := ee
 refine qC (fun nn σ => ∃ (i j : Nat) (D : Nat → Int), nn = i + j ∧ kp [0, 1, 2, 3, 4] σ.env env ∧ σ.env 10 = i64 i ∧ σ.env 11 = i64 j ∧ (0 < i ∧ 0 < j ∧ i ≤ m ∧ m + j ≤ n ∧ σ.h.hp id = some ⟨true, arrC n D⟩ ∧ rotS D (m - i) m (m + j) = rotS d a m b ∧ Fr1 id h0 σ.h)) _ ⟨m - a, b - m, d, rfl, qP _ _, by refine e10.trans ?_; first | rfl | exact yP (by omega) | exact i64w (by omega), by refine e11.trans ?_; first | rfl | exact yP (by omega) | exact i64w (by omega), ?_⟩ ?_
 · refine ⟨by omega, by omega, by omega, by omega, by simp -implicitDefEqProofs only [push_cast, sevalprocAttr, eq_self, hb], ?_, (Fr1.refl _ _).tick.tick.tick⟩
   rw [show m - (m - a) = a by omega, show m + (b - m) = b by omega]
 clear e0 e1 e2 e3 e4 e10 e11; rintro nn ⟨env, h⟩ ⟨i, j, D, rfl, q, e10, e11, hI⟩; simp only at e10 e11 hI; simp only [kp, and_true, E162_0] at q; have ee : _ ∧ _ ∧ _ := ⟨e10, e11, q⟩; clear e10 e11 q
 obtain ⟨hi0, hj0, him, hjn, hbk, hD, hx⟩ := hI
 unfold l162_0
 (first | refine yS fun hF => ?_ | refine yY fun hF => ?_ | refine yX fun hF => ?_)
 have hle := hx.ep
 by_cases hne : i = j
 · subst hne
   have hd : decide ((i : Int) ≠ (i : Int)) = false := by simp
   have hci : ((m : Int) - (i : Int)) = ((m - i : Nat) : Int) := by omega
   repeat' (first | ((try clear hf); with_reducible refine yD fun env K hE hK hf => ?_; have n := cj7 hE 0 1 2 3 4 10 11; simp -implicitDefEqProofs only [push_cast, reduceIte, Nat.reduceEqDiff, ee] at n; clear hE ee; have ee := n; clear n) | (with_reducible first | (refine hK _ _ ?_; clear hK K) | (refine Zi ?_; constructor) | refine yB (by decide) ?_ | refine yH (by assumption) ?_ | refine yJ (by assumption) ?_) | (refine yC rfl ?_) | (simp -implicitDefEqProofs only [push_cast, sevalprocAttr, eq_self, ee, hd, hci]) | (simp (disch := omega) only [yF, yK, yG, yL, hci]) | ((first | refine yE rfl (fun bb => ?_) (fun bb => ?_) | with_reducible refine yI (fun bb => ?_) (fun bb => ?_)) <;> (first | have bp := oT bb | have bp := oF bb | skip) <;> try simp only [bb]) | ((with_reducible refine And.intro ?_ ?_); omega) | (refine qH (HC.mono (f169 (id := id) (n := n) (d := D) (a := m - i) (b := m) (m := i) (by simp -implicitDefEqProofs only [push_cast, sevalprocAttr, eq_self, hbk]) (by simp -implicitDefEqProofs only [push_cast, sevalprocAttr, eq_self]; omega) hn (by omega) (by omega)) ?_); rintro r g ⟨rfl, hg, D', hb', rfl⟩ hF') | (with_reducible refine yM ?_ ?_))
   exact ⟨rfl, (hx.tick.tick.trans hg).tick, _, hb', by rw [rot_eq D him, hD]⟩
 · have hd : decide ((i : Int) ≠ (j : Int)) = true := dT (by omega)
   by_cases hgt : j < i
   · have hd2 : decide ((j : Int) < (i : Int)) = true := dT (by omega)
     have hci : ((m : Int) - (i : Int)) = ((m - i : Nat) : Int) := by omega
     repeat' (first | ((try clear hf); with_reducible refine yD fun env K hE hK hf => ?_; have n := cj7 hE 0 1 2 3 4 10 11; simp -implicitDefEqProofs only [push_cast, reduceIte, Nat.reduceEqDiff, ee] at n; clear hE ee; have ee := n; clear n) | (with_reducible first | (refine hK _ _ ?_; clear hK K) | (refine Zi ?_; constructor) | refine yB (by decide) ?_ | refine yH (by assumption) ?_ | refine yJ (by assumption) ?_) | (refine yC rfl ?_) | (simp -implicitDefEqProofs only [push_cast, sevalprocAttr, eq_self, ee, hd, hd2, hci]) | (simp (disch := omega) only [yF, yK, yG, yL, hci]) | ((first | refine yE rfl (fun bb => ?_) (fun bb => ?_) | with_reducible refine yI (fun bb => ?_) (fun bb => ?_)) <;> (first | have bp := oT bb | have bp := oF bb | skip) <;> try simp only [bb]) | ((with_reducible refine And.intro ?_ ?_); omega) | (refine qH (HC.mono (f169 (id := id) (n := n) (d := D) (a := m - i) (b := m) (m := j) (by simp -implicitDefEqProofs only [push_cast, sevalprocAttr, eq_self, hbk]) (by simp -implicitDefEqProofs only [push_cast, sevalprocAttr, eq_self]; omega) hn (by omega) (by omega)) ?_); rintro r g ⟨rfl, hg, D', hb', rfl⟩ hF') | (with_reducible refine yM ?_ ?_))
     refine ⟨_, ?_, i - j, j, WD D (m - i) m j, rfl, by simp -implicitDefEqProofs only [kp, push_cast, reduceIte, Nat.reduceEqDiff, ee, E162_0, and_self], by first | rfl | exact yP (by omega) | exact i64w (by omega), by first | rfl | exact yP (by omega) | exact i64w (by omega), ?_⟩
     · omega
     · exact ⟨by omega, by omega, by omega, by omega, hb', by rw [rot_gt D hgt him hj0, hD], (hx.tick.tick.tick.trans hg).tick.tick⟩
   · have hd2 : decide ((j : Int) < (i : Int)) = false := dF (by omega)
     have hci : ((m : Int) - (i : Int)) = ((m - i : Nat) : Int) := by omega
     have hcj2 : ((m : Int) + (j : Int) - (i : Int)) = ((m + j - i : Nat) : Int) := by omega
     repeat' (first | ((try clear hf); with_reducible refine yD fun env K hE hK hf => ?_; have n := cj7 hE 0 1 2 3 4 10 11; simp -implicitDefEqProofs only [push_cast, reduceIte, Nat.reduceEqDiff, ee] at n; clear hE ee; have ee := n; clear n) | (with_reducible first | (refine hK _ _ ?_; clear hK K) | (refine Zi ?_; constructor) | refine yB (by decide) ?_ | refine yH (by assumption) ?_ | refine yJ (by assumption) ?_) | (refine yC rfl ?_) | (simp -implicitDefEqProofs only [push_cast, sevalprocAttr, eq_self, ee, hd, hd2, hci, hcj2]) | (simp (disch := omega) only [yF, yK, yG, yL, hci, hcj2]) | ((first | refine yE rfl (fun bb => ?_) (fun bb => ?_) | with_reducible refine yI (fun bb => ?_) (fun bb => ?_)) <;> (first | have bp := oT bb | have bp := oF bb | skip) <;> try simp only [bb]) | ((with_reducible refine And.intro ?_ ?_); omega) | (refine qH (HC.mono (f169 (id := id) (n := n) (d := D) (a := m - i) (b := m + j - i) (m := i) (by simp -implicitDefEqProofs only [push_cast, sevalprocAttr, eq_self, hbk]) (by simp -implicitDefEqProofs only [push_cast, sevalprocAttr, eq_self]; omega) hn (by omega) (by omega)) ?_); rintro r g ⟨rfl, hg, D', hb', rfl⟩ hF') | (with_reducible refine yM ?_ ?_))
     refine ⟨_, ?_, i, j - i, WD D (m - i) (m + j - i) i, rfl, by simp -implicitDefEqProofs only [kp, push_cast, reduceIte, Nat.reduceEqDiff, ee, E162_0, and_self], by first | rfl | exact yP (by omega) | exact i64w (by omega), by first | rfl | exact yP (by omega) | exact i64w (by omega), ?_⟩
     · omega
     · exact ⟨by omega, by omega, by omega, by omega, hb', by rw [rot_lt D (by omega) him hi0, hD], (hx.tick.tick.tick.trans hg).tick.tick⟩
end Go.Proofs.Hx
set_option linter.unusedVariables false
set_option linter.unusedSimpArgs false
namespace Go.Proofs.Hx
open Go Go.Proofs
def kR (key : Int → Int) (x y : Int) : Prop := key y < key x ∨ (key x = key y ∧ x < y)
theorem kR.trans {key : Int → Int} {x y z : Int} (h : kR key x y) (k : kR key y z) : kR key x z := by unfold kR at *; omega
def cnt (d : Nat → Int) (a : Nat) : Nat → Int → Nat
 | 0, _ => 0
 | m + 1, v => cnt d a m v + if d (a + m) = v then 1 else 0
theorem cnt_shift {d e : Nat → Int} {a b m : Nat} (h : ∀ k, k < m → d (a + k) = e (b + k)) (v : Int) : cnt d a m v = cnt e b m v := by
 induction m with
 | zero => rfl
 | succ m ih => simp only [cnt]; rw [ih (fun k hk => h k (by omega)), h m (by omega)]
theorem cnt_add (d : Nat → Int) (a m p : Nat) (v : Int) : cnt d a (m + p) v = cnt d a m v + cnt d (a + m) p v := by
 induction p with
 | zero => simp [cnt]
 | succ p ih => rw [← Nat.add_assoc]; simp only [cnt]; rw [ih, Nat.add_assoc a m p]; omega
theorem cnt_pos {d : Nat → Int} {a m : Nat} {v : Int} : 0 < cnt d a m v ↔ ∃ k, k < m ∧ d (a + k) = v := by
 induction m with
 | zero => simp [cnt]
 | succ m ih =>
   simp only [cnt]
   constructor
   · intro h
     by_cases e : d (a + m) = v
     · exact ⟨m, by omega, e⟩
     · rw [if_neg e] at h
       obtain ⟨k, h1, h2⟩ := ih.1 (by omega)
       exact ⟨k, by omega, h2⟩
   · rintro ⟨k, h1, h2⟩
     by_cases e : k = m
     · subst e; rw [if_pos h2]; omega
     · have := ih.2 ⟨k, by omega, h2⟩; omega
structure SP (d d' : Nat → Int) (a b : Nat) : Prop where
 out : ∀ k, k < a ∨ b ≤ k → d' k = d k
 num : ∀ v, cnt d' a (b - a) v = cnt d a (b - a) v
theorem SP.refl (d : Nat → Int) (a b : Nat) : SP d d a b := ⟨fun _ _ => rfl, fun _ => rfl⟩
theorem SP.trans {d e f : Nat → Int} {a b : Nat} (h : SP d e a b) (k : SP e f a b) : SP d f a b := ⟨fun i hi => (k.out i hi).trans (h.out i hi), fun v => (k.num v).trans (h.num v)⟩
theorem SP.widen {d e : Nat → Int} {a b a' b' : Nat} (h : SP d e a b) (h1 : a' ≤ a) (h2 : b ≤ b') (hab : a ≤ b) : SP d e a' b' := by
 refine ⟨fun k hk => h.out k (by omega), fun v => ?_⟩
 have e1 : b' - a' = (a - a') + (b - a) + (b' - b) := by omega
 rw [e1, cnt_add, cnt_add, cnt_add, cnt_add, show a' + (a - a') = a by omega, show a' + (a - a' + (b - a)) = b by omega, h.num]
 rw [cnt_shift (d := e) (e := d) (a := a') (b := a') (fun k hk => h.out _ (by omega)), cnt_shift (d := e) (e := d) (a := b) (b := b) (fun k hk => h.out _ (by omega))]
theorem SP.all {d e : Nat → Int} {a b : Nat} (h : SP d e a b) {Q : Int → Prop} (hq : ∀ k, a ≤ k → k < b → Q (d k)) : ∀ k, a ≤ k → k < b → Q (e k) := by
 intro k h1 h2
 have : 0 < cnt e a (b - a) (e k) := cnt_pos.2 ⟨k - a, by omega, by congr 1; omega⟩
 rw [h.num] at this
 obtain ⟨j, h3, h4⟩ := cnt_pos.1 this
 rw [← h4]
 exact hq _ (by omega) (by omega)
theorem SP.rot (d : Nat → Int) {a m b : Nat} (h1 : a ≤ m) (h2 : m ≤ b) : SP d (rotS d a m b) a b := by
 refine ⟨fun k hk => by unfold rotS; rw [if_neg (by omega), if_neg (by omega)], fun v => ?_⟩
 have e1 : cnt (rotS d a m b) a (b - a) v = cnt (rotS d a m b) a (b - m) v + cnt (rotS d a m b) (a + (b - m)) (m - a) v := by rw [← cnt_add]; congr 1; omega
 have e2 : cnt d a (b - a) v = cnt d a (m - a) v + cnt d m (b - m) v := by rw [show b - a = (m - a) + (b - m) by omega, cnt_add, show a + (m - a) = m by omega]
 rw [e1, e2, cnt_shift (d := rotS d a m b) (e := d) (a := a) (b := m), cnt_shift (d := rotS d a m b) (e := d) (a := a + (b - m)) (b := a)]
 · omega
 · intro k hk; unfold rotS; rw [if_neg (by omega), if_pos (by omega)]; congr 1; omega
 · intro k hk; unfold rotS; rw [if_pos (by omega)]; congr 1; omega
theorem SP.rotIn (d : Nat → Int) {a b s m e : Nat} (h1 : a ≤ s) (h2 : s ≤ m) (h3 : m ≤ e) (h4 : e ≤ b) : SP d (rotS d s m e) a b := (SP.rot d h2 h3).widen h1 h4 (by omega)
def srt (key : Int → Int) (d : Nat → Int) (a b : Nat) : Prop := ∀ i j, a ≤ i → i < j → j < b → kR key (d i) (d j)
theorem srt_ins {key : Int → Int} {D : Nat → Int} {a i j : Nat} (hs : srt key D a i) (h1 : a ≤ j) (h2 : j ≤ i) (hr : ∀ k, j ≤ k → k < i → kR key (D i) (D k)) (hl : a < j → kR key (D (j - 1)) (D i)) : srt key (rotS D j i (i + 1)) a (i + 1) := by
 have hl2 : ∀ p, a ≤ p → p < j → kR key (D p) (D i) := fun p hp1 hp2 => by
  by_cases e : p = j - 1
  · subst e; exact hl (by omega)
  · exact (hs p (j - 1) hp1 (by omega) (by omega)).trans (hl (by omega))
 have hv : ∀ k, a ≤ k → k < i + 1 → rotS D j i (i + 1) k = if k < j then D k else if k = j then D i else D (k - 1) := by
  intro k hk1 hk2
  unfold rotS
  (repeat' split) <;> first | rfl | (exfalso; omega) | (congr 1; omega)
 intro p q hp hpq hq
 rw [hv p hp (by omega), hv q (by omega) hq]
 by_cases c1 : q < j
 · rw [if_pos c1, if_pos (by omega)]; exact hs p q hp hpq (by omega)
 · rw [if_neg c1]
   by_cases c2 : q = j
   · rw [if_pos c2, if_pos (by omega)]; exact hl2 p hp (by omega)
   · rw [if_neg c2]
     by_cases c3 : p < j
     · rw [if_pos c3]; exact hs p (q - 1) hp (by omega) (by omega)
     · rw [if_neg c3]
       by_cases c4 : p = j
       · rw [if_pos c4]; exact hr (q - 1) (by omega) (by omega)
       · rw [if_neg c4]; exact hs (p - 1) (q - 1) (by omega) (by omega) (by omega)
theorem rot_down (D : Nat → Int) {i j : Nat} (h1 : 0 < j) (h2 : j ≤ i) : fset (fset (rotS D j i (i + 1)) j (rotS D j i (i + 1) (j - 1))) (j - 1) (rotS D j i (i + 1) j) = rotS D (j - 1) i (i + 1) := by
 funext k
 simp only [rotS, fset]
 (repeat' split) <;> first | rfl | (exfalso; omega) | (congr 1; omega)
theorem rot_id (D : Nat → Int) (i : Nat) : rotS D i i (i + 1) = D := by
 funext k
 simp only [rotS]
 (repeat' split) <;> first | rfl | (exfalso; omega) | (congr 1; omega)
theorem rot_at (D : Nat → Int) {i j : Nat} (h : j ≤ i) : rotS D j i (i + 1) j = D i := by
 simp only [rotS]
 (repeat' split) <;> first | rfl | (exfalso; omega) | (congr 1; omega)
theorem rot_lo (D : Nat → Int) {i j k : Nat} (h : k < j) : rotS D j i (i + 1) k = D k := by
 simp only [rotS]
 (repeat' split) <;> first | rfl | (exfalso; omega) | (congr 1; omega)
def CmpAt (P : Program) (f : AV) (key : Int → Int) (dom : Int → Prop) (g : Hp) : Prop :=
 ∀ (d : Option Nat) (K : St → Prop) (env : Nat → AV) (a b : Int), dom a → dom b → K ⟨putA env d (i64 (key b - key a)), g⟩ → qB P d K env g true f [i64 a, i64 b]
end Go.Proofs.Hx
set_option linter.unusedVariables false
set_option linter.unusedSimpArgs false
namespace Go.Proofs.Hx
open Go Go.Proofs
attribute [local irreducible] yR awp opK goV goM qB yW qE yT HV HVF HC
theorem uS {P : Program} {f : AV} {key : Int → Int} {dom : Int → Prop} {id : Id} {h0 g : Hp} {d : Option Nat} {K : St → Prop} {env : Nat → AV} {a b : Int} (hc : ∀ g, Fr1 id h0 g → CmpAt P f key dom g) (hg : Fr1 id h0 g) (ha : dom a) (hb : dom b)
 (k : K ⟨putA env d (i64 (key b - key a)), g⟩) : qB P d K env g true f [i64 a, i64 b] := hc g hg d K env a b ha hb k
set_option maxHeartbeats 1000000 in
theorem f143 {h0 : Hp} {id : Id} {n : Nat} {d : Nat → Int} {f : AV} {key : Int → Int} {dom : Int → Prop} (hc : ∀ g, Fr1 id h0 g → CmpAt Try.prog f key dom g) (hb : h0.hp id = some ⟨true, arrC n d⟩) (hi : id.1 ≤ h0.ep) (hn : n ≤ 1000000) {a b : Nat} (h1 : a ≤ b) (h2 : b ≤ n)
 (hdom : ∀ k, k < n → dom (d k)) (hkey : ∀ x, dom x → -1000000 ≤ key x ∧ key x ≤ 1000000) (hid : ∀ k, a ≤ k → k < b → d k = k) :
 HC Try.prog 143 [.sl id 0 n 1, i64 a, i64 b, f] h0 (SortQ h0 id n fun d' => SP d d' a b ∧ srt key d' a b) := by
 refine qJ qM cf143 (by simp) fun hF => ?_
 unfold ac143 re143
 refine yN fun env hE => ?_; have ee := cj6 hE 0 1 2 3 8 9; simp -implicitDefEqProofs only [push_cast] at ee; clear hE
 obtain ⟨ie, is⟩ := id
 simp only at hi
 repeat' (first | ((try clear hf); with_reducible refine yD fun env K hE hK hf => ?_; have n := cj6 hE 0 1 2 3 8 9; simp -implicitDefEqProofs only [push_cast, reduceIte, Nat.reduceEqDiff, ee] at n; clear hE ee; have ee := n; clear n) | (with_reducible first | (refine hK _ _ ?_; clear hK K) | (refine Zi ?_; constructor) | refine yB (by decide) ?_ | refine yH (by assumption) ?_ | refine yJ (by assumption) ?_) | (refine yC rfl ?_) | (simp -implicitDefEqProofs only [push_cast, sevalprocAttr, eq_self, ee]) | (simp (disch := omega) only [yF, yK, yG, yL]) | ((first | refine yE rfl (fun bb => ?_) (fun bb => ?_) | with_reducible refine yI (fun bb => ?_) (fun bb => ?_)) <;> (first | have bp := oT bb | have bp := oF bb | skip) <;> try simp only [bb]) | ((with_reducible refine And.intro ?_ ?_); omega) | (with_reducible refine yM ?_ ?_))
 refine yN fun env hE => ?_; have n := cj6 hE 0 1 2 3 8 9; simp -implicitDefEqProofs only [push_cast, reduceIte, Nat.reduceEqDiff, ee] at n; clear hE ee; have ee := n; clear n; have E143_1 := ee; obtain ⟨e0, e1, e2, e3, e8, e9⟩ := ee
 refine qC (fun nn σ => ∃ (i : Nat) (D : Nat → Int), nn = n + 1 - i ∧ kp [0, 1, 2, 3] σ.env env ∧ σ.env 8 = i64 i ∧ (a + 1 ≤ i ∧ (i ≤ b ∨ i = a + 1) ∧ (i = a + 1 → D = d) ∧ σ.h.hp (ie, is) = some ⟨true, arrC n D⟩ ∧ SP d D a i ∧ srt key D a i ∧ Fr1 (ie, is) h0 σ.h)) _ ⟨a + 1, d, rfl, qP _ _, by refine e8.trans ?_; first | rfl | exact yP (by omega) | exact i64w (by omega), ?_⟩ ?_
 · exact ⟨by omega, by omega, fun _ => rfl, by simp -implicitDefEqProofs only [push_cast, sevalprocAttr, eq_self, hb], SP.refl _ _ _, fun p q h1 h2 h3 => by omega, (by repeat (first | assumption | exact Fr1.refl _ _ | refine Fr1.tick ?_ | refine Fr1.put ?_ _ | refine Fr1.push ?_ (by omega) _))⟩
 clear e0 e1 e2 e3 e8 e9; rintro nn ⟨env, h⟩ ⟨i, D, rfl, q, e8, hI⟩; simp only at e8 hI; simp only [kp, and_true, E143_1] at q; have ee : _ ∧ _ := ⟨e8, q⟩; clear e8 q
 obtain ⟨hi1, hi2, hi3, hbk, hsp, hst, hx⟩ := hI
 unfold l143_1
 (first | refine yS fun hF => ?_ | refine yY fun hF => ?_ | refine yX fun hF => ?_)
 have hle := hx.ep
 by_cases hlt : i < b
 · have hd : decide ((i : Int) < (b : Int)) = true := dT (by omega)
   have hDi : D i = i := by rw [hsp.out i (by omega)]; exact hid i (by omega) hlt
   have hDl : ∀ k, a ≤ k → k < i → D k < i := by
    intro k hk1 hk2
    exact hsp.all (Q := fun x => x < (i : Int)) (fun k h1 h2 => by rw [hid k h1 (by omega)]; omega) k hk1 hk2
   have hDd : ∀ k, k < n → dom (D k) := fun k hk => (hsp.widen (a' := 0) (b' := n) (by omega) (by omega) (by omega)).all (Q := dom) (fun k _ hk => hdom k hk) k (by omega) hk
   repeat' (first | ((try clear hf); with_reducible refine yD fun env K hE hK hf => ?_; have n := cj6 hE 0 1 2 3 8 9; simp -implicitDefEqProofs only [push_cast, reduceIte, Nat.reduceEqDiff, ee] at n; clear hE ee; have ee := n; clear n) | (with_reducible first | (refine hK _ _ ?_; clear hK K) | (refine Zi ?_; constructor) | refine yB (by decide) ?_ | refine yH (by assumption) ?_ | refine yJ (by assumption) ?_) | (refine yC rfl ?_) | (simp -implicitDefEqProofs only [push_cast, sevalprocAttr, eq_self, ee, hd]) | (simp (disch := omega) only [yF, yK, yG, yL]) | ((first | refine yE rfl (fun bb => ?_) (fun bb => ?_) | with_reducible refine yI (fun bb => ?_) (fun bb => ?_)) <;> (first | have bp := oT bb | have bp := oF bb | skip) <;> try simp only [bb]) | ((with_reducible refine And.intro ?_ ?_); omega) | (with_reducible refine yM ?_ ?_))
   refine yN fun env hE => ?_; have n := cj6 hE 0 1 2 3 8 9; simp -implicitDefEqProofs only [push_cast, reduceIte, Nat.reduceEqDiff, ee] at n; clear hE ee; have ee := n; clear n; have E143_0 := ee; obtain ⟨e0, e1, e2, e3, e8, e9⟩ := ee
   refine qC (fun nn σ => ∃ (j : Nat), nn = j - a ∧ kp [0, 1, 2, 3, 8] σ.env env ∧ σ.env 9 = i64 j ∧ (a ≤ j ∧ j ≤ i ∧ σ.h.hp (ie, is) = some ⟨true, arrC n (rotS D j i (i + 1))⟩ ∧ (∀ k, j ≤ k → k < i → kR key (D i) (D k)) ∧ Fr1 (ie, is) h0 σ.h)) _ ⟨i, rfl, qP _ _, by refine e9.trans ?_; first | rfl | exact yP (by omega) | exact i64w (by omega), ?_⟩ ?_
   · exact ⟨by omega, by omega, by simp -implicitDefEqProofs only [push_cast, sevalprocAttr, eq_self, rot_id, hbk], fun k h1 h2 => by omega, (by repeat (first | assumption | exact Fr1.refl _ _ | refine Fr1.tick ?_ | refine Fr1.put ?_ _ | refine Fr1.push ?_ (by omega) _))⟩
   clear e0 e1 e2 e3 e8 e9; rintro nn ⟨env, h⟩ ⟨j, rfl, q, e9, hI⟩; simp only at e9 hI; simp only [kp, and_true, E143_0] at q; have ee : _ ∧ _ := ⟨e9, q⟩; clear e9 q
   obtain ⟨hj1, hj2, hbj, hjr, hxj⟩ := hI
   unfold l143_0
   (first | refine yS fun hF => ?_ | refine yY fun hF => ?_ | refine yX fun hF => ?_)
   have hle := hxj.ep
   by_cases hja : a < j
   · have hd : decide ((a : Int) < (j : Int)) = true := dT (by omega)
     have ht1 : ((j : Int) - 1).toNat = j - 1 := by omega
     have hv1 : (arrC n (rotS D j i (i + 1)))[j]? = some (i64 (D i)) := by rw [YJ _ (by omega), rot_at D hj2]
     have hv2 : (arrC n (rotS D j i (i + 1)))[j - 1]? = some (i64 (D (j - 1))) := by rw [YJ _ (by omega), rot_lo D (by omega)]
     have hp1 := fun D => WX (n := n) D (k := j) (by omega)
     have hp2 := fun D => WX (n := n) D (k := j - 1) (by omega)
     have hk1 := hkey _ (hDd i (by omega))
     have hk2 := hkey _ (hDd (j - 1) (by omega))
     by_cases hw : key (D (j - 1)) < key (D i)
     · have hd2 : decide (key (D (j - 1)) - key (D i) < 0) = true := dT (by omega)
       repeat' (first | ((try clear hf); with_reducible refine yD fun env K hE hK hf => ?_; have n := cj6 hE 0 1 2 3 8 9; simp -implicitDefEqProofs only [push_cast, reduceIte, Nat.reduceEqDiff, ee] at n; clear hE ee; have ee := n; clear n) | (with_reducible first | (refine hK _ _ ?_; clear hK K) | (refine Zi ?_; constructor) | refine yB (by decide) ?_ | refine yH (by assumption) ?_ | refine yJ (by assumption) ?_) | (refine yC rfl ?_) | (simp -implicitDefEqProofs only [push_cast, sevalprocAttr, eq_self, ee, hd, hd2, hbj, ht1, hv1, hv2, hp1, hp2]) | (simp (disch := omega) only [yF, yK, yG, yL, hbj, ht1, hv1, hv2, hp1, hp2]) | ((first | refine yE rfl (fun bb => ?_) (fun bb => ?_) | with_reducible refine yI (fun bb => ?_) (fun bb => ?_)) <;> (first | have bp := oT bb | have bp := oF bb | skip) <;> try simp only [bb]) | ((with_reducible refine And.intro ?_ ?_); omega) | (refine uS hc (by repeat (first | assumption | exact Fr1.refl _ _ | refine Fr1.tick ?_ | refine Fr1.put ?_ _ | refine Fr1.push ?_ (by omega) _)) (hDd _ (by omega)) (hDd _ (by omega)) ?_) | (with_reducible refine yM ?_ ?_))
       refine ⟨_, ?_, j - 1, rfl, by simp -implicitDefEqProofs only [kp, push_cast, reduceIte, Nat.reduceEqDiff, ee, E143_0, and_self], by first | rfl | exact yP (by omega) | exact i64w (by omega), ?_⟩
       · omega
       · have hrd := rot_down D (i := i) (j := j) (by omega) hj2
         rw [rot_at D hj2, rot_lo D (by omega)] at hrd
         refine ⟨by omega, by omega, by rw [hrd], fun k hk1 hk2 => ?_, (by repeat (first | assumption | exact Fr1.refl _ _ | refine Fr1.tick ?_ | refine Fr1.put ?_ _ | refine Fr1.push ?_ (by omega) _))⟩
         by_cases e : k = j - 1
         · subst e; exact .inl hw
         · exact hjr k (by omega) hk2
     · have hd2 : decide (key (D (j - 1)) - key (D i) < 0) = false := dF (by omega)
       have hl : kR key (D (j - 1)) (D i) := by have := hDl (j - 1) (by omega) (by omega); unfold kR; omega
       repeat' (first | ((try clear hf); with_reducible refine yD fun env K hE hK hf => ?_; have n := cj6 hE 0 1 2 3 8 9; simp -implicitDefEqProofs only [push_cast, reduceIte, Nat.reduceEqDiff, ee] at n; clear hE ee; have ee := n; clear n) | (with_reducible first | (refine hK _ _ ?_; clear hK K) | (refine Zi ?_; constructor) | refine yB (by decide) ?_ | refine yH (by assumption) ?_ | refine yJ (by assumption) ?_) | (refine yC rfl ?_) | (simp -implicitDefEqProofs only [push_cast, sevalprocAttr, eq_self, ee, hd, hd2, hbj, ht1, hv1, hv2, hp1, hp2]) | (simp (disch := omega) only [yF, yK, yG, yL, hbj, ht1, hv1, hv2, hp1, hp2]) | ((first | refine yE rfl (fun bb => ?_) (fun bb => ?_) | with_reducible refine yI (fun bb => ?_) (fun bb => ?_)) <;> (first | have bp := oT bb | have bp := oF bb | skip) <;> try simp only [bb]) | ((with_reducible refine And.intro ?_ ?_); omega) | (refine uS hc (by repeat (first | assumption | exact Fr1.refl _ _ | refine Fr1.tick ?_ | refine Fr1.put ?_ _ | refine Fr1.push ?_ (by omega) _)) (hDd _ (by omega)) (hDd _ (by omega)) ?_) | (with_reducible refine yM ?_ ?_))
       refine ⟨_, ?_, i + 1, rotS D j i (i + 1), rfl, by simp -implicitDefEqProofs only [kp, push_cast, reduceIte, Nat.reduceEqDiff, ee, E143_1, and_self], by first | rfl | exact yP (by omega) | exact i64w (by omega), ?_⟩
       · omega
       · refine ⟨by omega, by omega, fun h => by omega, rfl, (hsp.widen (Nat.le_refl _) (Nat.le_succ _) (by omega)).trans (SP.rotIn D hj1 hj2 (by omega) (Nat.le_refl _)), srt_ins hst hj1 hj2 hjr (fun _ => hl), (by repeat (first | assumption | exact Fr1.refl _ _ | refine Fr1.tick ?_ | refine Fr1.put ?_ _ | refine Fr1.push ?_ (by omega) _))⟩
   · have hd : decide ((a : Int) < (j : Int)) = false := dF (by omega)
     repeat' (first | ((try clear hf); with_reducible refine yD fun env K hE hK hf => ?_; have n := cj6 hE 0 1 2 3 8 9; simp -implicitDefEqProofs only [push_cast, reduceIte, Nat.reduceEqDiff, ee] at n; clear hE ee; have ee := n; clear n) | (with_reducible first | (refine hK _ _ ?_; clear hK K) | (refine Zi ?_; constructor) | refine yB (by decide) ?_ | refine yH (by assumption) ?_ | refine yJ (by assumption) ?_) | (refine yC rfl ?_) | (simp -implicitDefEqProofs only [push_cast, sevalprocAttr, eq_self, ee, hd, hbj]) | (simp (disch := omega) only [yF, yK, yG, yL, hbj]) | ((first | refine yE rfl (fun bb => ?_) (fun bb => ?_) | with_reducible refine yI (fun bb => ?_) (fun bb => ?_)) <;> (first | have bp := oT bb | have bp := oF bb | skip) <;> try simp only [bb]) | ((with_reducible refine And.intro ?_ ?_); omega) | (with_reducible refine yM ?_ ?_))
     refine ⟨_, ?_, i + 1, rotS D j i (i + 1), rfl, by simp -implicitDefEqProofs only [kp, push_cast, reduceIte, Nat.reduceEqDiff, ee, E143_1, and_self], by first | rfl | exact yP (by omega) | exact i64w (by omega), ?_⟩
     · omega
     · refine ⟨by omega, by omega, fun h => by omega, rfl, (hsp.widen (Nat.le_refl _) (Nat.le_succ _) (by omega)).trans (SP.rotIn D hj1 hj2 (by omega) (Nat.le_refl _)), srt_ins hst hj1 hj2 hjr (fun h => absurd h hja), (by repeat (first | assumption | exact Fr1.refl _ _ | refine Fr1.tick ?_ | refine Fr1.put ?_ _ | refine Fr1.push ?_ (by omega) _))⟩
 · have hd : decide ((i : Int) < (b : Int)) = false := dF (by omega)
   repeat' (first | ((try clear hf); with_reducible refine yD fun env K hE hK hf => ?_; have n := cj6 hE 0 1 2 3 8 9; simp -implicitDefEqProofs only [push_cast, reduceIte, Nat.reduceEqDiff, ee] at n; clear hE ee; have ee := n; clear n) | (with_reducible first | (refine hK _ _ ?_; clear hK K) | (refine Zi ?_; constructor) | refine yB (by decide) ?_ | refine yH (by assumption) ?_ | refine yJ (by assumption) ?_) | (refine yC rfl ?_) | (simp -implicitDefEqProofs only [push_cast, sevalprocAttr, eq_self, ee, hd]) | (simp (disch := omega) only [yF, yK, yG, yL]) | ((first | refine yE rfl (fun bb => ?_) (fun bb => ?_) | with_reducible refine yI (fun bb => ?_) (fun bb => ?_)) <;> (first | have bp := oT bb | have bp := oF bb | skip) <;> try simp only [bb]) | ((with_reducible refine And.intro ?_ ?_); omega) | (with_reducible refine yM ?_ ?_))
   refine ⟨rfl, (by repeat (first | assumption | exact Fr1.refl _ _ | refine Fr1.tick ?_ | refine Fr1.put ?_ _ | refine Fr1.push ?_ (by omega) _)), D, by simp -implicitDefEqProofs only [push_cast, sevalprocAttr, eq_self, hbk], ?_⟩
   rcases hi2 with h | h
   · obtain rfl : i = b := by omega
     exact ⟨hsp, hst⟩
   · rw [hi3 h]
     exact ⟨SP.refl _ _ _, fun p q h1 h2 h3 => by omega⟩
end Go.Proofs.Hx
set_option linter.unusedVariables false
set_option linter.unusedSimpArgs false
namespace Go.Proofs.Hx
open Go Go.Proofs
def tieP (key : Int → Int) (D : Nat → Int) (a m b : Nat) : Prop := ∀ p q, a ≤ p → p < m → m ≤ q → q < b → key (D p) = key (D q) → D p < D q
theorem tie_l {key : Int → Int} {D : Nat → Int} {a m b : Nat} (h : tieP key D a m b) {p q : Nat} (h1 : a ≤ p) (h2 : p < m) (h3 : m ≤ q) (h4 : q < b) (hk : ¬ key (D p) < key (D q)) : kR key (D p) (D q) := by
 have := h p q h1 h2 h3 h4
 unfold kR; omega
theorem tie_r {key : Int → Int} {D : Nat → Int} {p q : Nat} (hk : key (D p) < key (D q)) : kR key (D q) (D p) := .inl hk
theorem srt_key {key : Int → Int} {D : Nat → Int} {a b i j : Nat} (h : srt key D a b) (h1 : a ≤ i) (h2 : i ≤ j) (h3 : j < b) : key (D j) ≤ key (D i) := by
 by_cases e : i = j
 · subst e; omega
 · have := h i j h1 (by omega) h3
   unfold kR at this; omega
theorem srt_up {key : Int → Int} {D : Nat → Int} {a i b : Nat} (hs : srt key D (a + 1) b) (h1 : a + 1 ≤ i) (h2 : i ≤ b) (hl : ∀ k, a + 1 ≤ k → k < i → kR key (D k) (D a)) (hr : ∀ k, i ≤ k → k < b → kR key (D a) (D k)) : srt key (rotS D a (a + 1) i) a b := by
 have hv : ∀ k, a ≤ k → k < b → rotS D a (a + 1) i k = if k + 1 < i then D (k + 1) else if k + 1 = i then D a else D k := by
  intro k hk1 hk2
  unfold rotS
  (repeat' split) <;> first | rfl | (exfalso; omega) | (congr 1; omega)
 intro p q hp hpq hq
 rw [hv p hp (by omega), hv q (by omega) hq]
 by_cases c1 : q + 1 < i
 · rw [if_pos c1, if_pos (by omega)]; exact hs _ _ (by omega) (by omega) (by omega)
 · rw [if_neg c1]
   by_cases c2 : q + 1 = i
   · rw [if_pos c2, if_pos (by omega)]; exact hl _ (by omega) (by omega)
   · rw [if_neg c2]
     by_cases c3 : p + 1 < i
     · rw [if_pos c3]; exact hs _ _ (by omega) (by omega) (by omega)
     · rw [if_neg c3]
       by_cases c4 : p + 1 = i
       · rw [if_pos c4]; exact hr q (by omega) hq
       · rw [if_neg c4]; exact hs p q (by omega) hpq hq
theorem rot_up (D : Nat → Int) {a k : Nat} (h : a ≤ k) : fset (fset (rotS D a (a + 1) (k + 1)) k (rotS D a (a + 1) (k + 1) (k + 1))) (k + 1) (rotS D a (a + 1) (k + 1) k) = rotS D a (a + 1) (k + 2) := by
 funext j
 simp only [rotS, fset]
 (repeat' split) <;> first | rfl | (exfalso; omega) | (congr 1; omega)
theorem rot_id1 (D : Nat → Int) (a : Nat) : rotS D a (a + 1) (a + 1) = D := by
 funext k
 simp only [rotS]
 (repeat' split) <;> first | rfl | (exfalso; omega) | (congr 1; omega)
theorem rot_id2 (D : Nat → Int) {a b : Nat} (h : a ≤ b) : rotS D a a b = D := by
 funext k
 simp only [rotS]
 (repeat' split) <;> first | rfl | (exfalso; omega) | (congr 1; omega)
theorem rot_id3 (D : Nat → Int) {a b : Nat} (h : a ≤ b) : rotS D a b b = D := by
 funext k
 simp only [rotS]
 (repeat' split) <;> first | rfl | (exfalso; omega) | (congr 1; omega)
structure Cut (key : Int → Int) (D1 : Nat → Int) (a s mid e b : Nat) : Prop where
 s1 : srt key D1 a s
 s2 : srt key D1 s mid
 s3 : srt key D1 mid e
 s4 : srt key D1 e b
 t1 : tieP key D1 a s mid
 t2 : tieP key D1 mid e b
 lt : ∀ p q, a ≤ p → p < mid → mid ≤ q → q < b → kR key (D1 p) (D1 q)
theorem cut_ok {key : Int → Int} {D : Nat → Int} {a m b mid s e : Nat} (hs1 : srt key D a m) (hs2 : srt key D m b) (ht : tieP key D a m b) (h0 : s + e = mid + m) (h1 : a ≤ s) (h2 : s ≤ m) (h3 : s ≤ mid) (h4 : m ≤ e) (h5 : e ≤ b) (h6 : mid ≤ e)
 (hA : a < s → e < b → kR key (D (s - 1)) (D e)) (hB : s < m → m < e → kR key (D (e - 1)) (D s)) : Cut key (rotS D s m e) a s mid e b := by
 have v1 : ∀ k, k < s → rotS D s m e k = D k := fun k hk => by unfold rotS; rw [if_neg (by omega), if_neg (by omega)]
 have v2 : ∀ k, s ≤ k → k < mid → rotS D s m e k = D (k - s + m) := fun k hk1 hk2 => by unfold rotS; rw [if_pos (by omega)]
 have v3 : ∀ k, mid ≤ k → k < e → rotS D s m e k = D (k - mid + s) := fun k hk1 hk2 => by unfold rotS; rw [if_neg (by omega), if_pos (by omega)]; congr 1; omega
 have v4 : ∀ k, e ≤ k → rotS D s m e k = D k := fun k hk => by unfold rotS; rw [if_neg (by omega), if_neg (by omega)]
 have ge : ∀ {i j lo hi : Nat}, srt key D lo hi → lo ≤ i → i ≤ j → j < hi → i = j ∨ kR key (D i) (D j) := fun hs h1 h2 h3 => by
  rcases Nat.eq_or_lt_of_le h2 with h | h
  · exact .inl h
  · exact .inr (hs _ _ h1 h h3)
 have hAA : ∀ p q, a ≤ p → p < s → e ≤ q → q < b → kR key (D p) (D q) := by
  intro p q hp1 hp2 hq1 hq2
  have k := hA (by omega) (by omega)
  rcases ge hs1 hp1 (by omega : p ≤ s - 1) (by omega) with h | h <;> rcases ge hs2 (by omega : m ≤ e) hq1 hq2 with h' | h'
  · rw [h, ← h']; exact k
  · rw [h]; exact k.trans h'
  · rw [← h']; exact h.trans k
  · exact (h.trans k).trans h'
 have hBB : ∀ p q, m ≤ p → p < e → s ≤ q → q < m → kR key (D p) (D q) := by
  intro p q hp1 hp2 hq1 hq2
  have k := hB (by omega) (by omega)
  rcases ge hs2 hp1 (by omega : p ≤ e - 1) (by omega) with h | h <;> rcases ge hs1 (by omega : a ≤ s) hq1 hq2 with h' | h'
  · rw [h, ← h']; exact k
  · rw [h]; exact k.trans h'
  · rw [← h']; exact h.trans k
  · exact (h.trans k).trans h'
 refine ⟨?_, ?_, ?_, ?_, ?_, ?_, ?_⟩
 · intro p q hp hpq hq
   rw [v1 p (by omega), v1 q hq]; exact hs1 p q hp hpq (by omega)
 · intro p q hp hpq hq
   rw [v2 p hp (by omega), v2 q (by omega) hq]; exact hs2 _ _ (by omega) (by omega) (by omega)
 · intro p q hp hpq hq
   rw [v3 p hp (by omega), v3 q (by omega) hq]; exact hs1 _ _ (by omega) (by omega) (by omega)
 · intro p q hp hpq hq
   rw [v4 p hp, v4 q (by omega)]; exact hs2 p q (by omega) hpq hq
 · intro p q hp1 hp2 hq1 hq2
   rw [v1 p hp2, v2 q hq1 hq2]; exact ht _ _ hp1 (by omega) (by omega) (by omega)
 · intro p q hp1 hp2 hq1 hq2
   rw [v3 p hp1 hp2, v4 q hq1]; exact ht _ _ (by omega) (by omega) (by omega) (by omega)
 · intro p q hp1 hp2 hq1 hq2
   by_cases c1 : p < s <;> by_cases c2 : q < e
   · rw [v1 p c1, v3 q hq1 c2]; exact hs1 _ _ hp1 (by omega) (by omega)
   · rw [v1 p c1, v4 q (by omega)]; exact hAA p q hp1 c1 (by omega) hq2
   · rw [v2 p (by omega) hp2, v3 q hq1 c2]; exact hBB _ _ (by omega) (by omega) (by omega) (by omega)
   · rw [v2 p (by omega) hp2, v4 q (by omega)]; exact hs2 _ _ (by omega) (by omega) hq2
theorem cut_done {key : Int → Int} {D1 D2 D3 : Nat → Int} {a s mid e b : Nat} (c : Cut key D1 a s mid e b) (p1 : SP D1 D2 a mid) (q1 : srt key D2 a mid) (p2 : SP D2 D3 mid b) (q2 : srt key D3 mid b) (h1 : a ≤ mid) (h2 : mid ≤ b) : SP D1 D3 a b ∧ srt key D3 a b := by
 refine ⟨(p1.widen (Nat.le_refl _) h2 h1).trans (p2.widen h1 (Nat.le_refl _) h2), ?_⟩
 have o3 : ∀ k, k < mid → D3 k = D2 k := fun k hk => p2.out k (.inl hk)
 have o2 : ∀ k, mid ≤ k → D2 k = D1 k := fun k hk => p1.out k (.inr hk)
 have g1 : ∀ q, mid ≤ q → q < b → ∀ p, a ≤ p → p < mid → kR key (D2 p) (D1 q) := fun q hq1 hq2 => p1.all (Q := fun x => kR key x (D1 q)) (fun p hp1 hp2 => c.lt p q hp1 hp2 hq1 hq2)
 have g2 : ∀ p, a ≤ p → p < mid → ∀ q, mid ≤ q → q < b → kR key (D2 p) (D3 q) := fun p hp1 hp2 => p2.all (Q := fun x => kR key (D2 p) x) (fun q hq1 hq2 => by rw [o2 q hq1]; exact g1 q hq1 hq2 p hp1 hp2)
 intro p q hp hpq hq
 by_cases c1 : q < mid
 · rw [o3 p (by omega), o3 q c1]; exact q1 p q hp hpq c1
 · by_cases c2 : p < mid
   · rw [o3 p c2]; exact g2 p hp c2 q (by omega) hq
   · exact q2 p q (by omega) hpq hq
end Go.Proofs.Hx
set_option linter.unusedVariables false
set_option linter.unusedSimpArgs false
namespace Go.Proofs.Hx
open Go Go.Proofs
attribute [local irreducible] yR awp opK goV goM qB yW qE yT HV HVF HC
theorem YH (z : Int) : binV .shr (.lit (.int .u64 z)) (.lit (.int .u64 1)) = some (.lit (.int .u64 (z / 2))) := by
 have : z.fdiv 2 = z / 2 := by rw [Int.fdiv_eq_ediv_of_nonneg z (by decide)]
 show some (AV.lit (.int .u64 (z.fdiv (2 ^ 1)))) = _
 rw [show (2 : Int) ^ 1 = 2 from rfl, this]
theorem wrapu {z : Int} (h1 : 0 ≤ z) (h2 : z ≤ 9223372036854775807) : IntKind.wrap .u64 z = z := by
 simp only [IntKind.wrap, IntKind.bits, IntKind.signed, Bool.false_and, Bool.false_eq_true, if_false]; omega
theorem half_eq {x y c : Nat} (hc : c = (x + y) / 2) (h : x + y ≤ 1000000000) : IntKind.wrap .i64 (IntKind.wrap .u64 (IntKind.wrap .i64 ((x : Int) + (y : Int))) / 2) = (c : Int) ∧ IntKind.wrap .i64 (IntKind.wrap .u64 ((x : Int) + (y : Int)) / 2) = (c : Int) := by
 rw [qS (n := (x : Int) + (y : Int)) (by omega) (by omega), wrapu (by omega) (by omega), qS (by omega) (by omega)]
 omega
def MergeC (f : AV) (key : Int → Int) (dom : Int → Prop) (id : Id) (n : Nat) (P : Nat → Nat → Nat → Prop) : Prop := ∀ (h0 : Hp) (D : Nat → Int) (a m b : Nat), P a m b → (∀ g, Fr1 id h0 g → CmpAt Try.prog f key dom g) → h0.hp id = some ⟨true, arrC n D⟩ → id.1 ≤ h0.ep →
 a < m → m < b → b ≤ n → (∀ k, k < n → dom (D k)) → srt key D a m → srt key D m b → tieP key D a m b →
 HC Try.prog 144 [.sl id 0 n 1, i64 a, i64 m, i64 b, f] h0 (SortQ h0 id n fun d' => SP D d' a b ∧ srt key d' a b)
set_option maxHeartbeats 1000000 in
theorem f144'a {id : Id} {n : Nat} {f : AV} {key : Int → Int} {dom : Int → Prop} (hn : n ≤ 1000000) (hkey : ∀ x, dom x → -1000000 ≤ key x ∧ key x ≤ 1000000) : MergeC f key dom id n fun a m b => m = a + 1 := by
 intro h0 D a m b hm hc hb hi h1 h2 h3 hdom hs1 hs2 htie
 refine qJ qM cf144 (by simp) fun hF => ?_
 unfold ac144 re144
 refine yN fun env hE => ?_; have ee := cj20 hE 0 1 2 3 4 10 11 12 13 14 15 16 17 18 19 20 21 22 23 24; simp -implicitDefEqProofs only [push_cast] at ee; clear hE
 have hd : decide ((m : Int) - (a : Int) = 1) = true := dT (by omega)
 repeat' (first | ((try clear hf); with_reducible refine yD fun env K hE hK hf => ?_; have n := cj20 hE 0 1 2 3 4 10 11 12 13 14 15 16 17 18 19 20 21 22 23 24; simp -implicitDefEqProofs only [push_cast, reduceIte, Nat.reduceEqDiff, ee] at n; clear hE ee; have ee := n; clear n) | (with_reducible first | (refine hK _ _ ?_; clear hK K) | (refine Zi ?_; constructor) | refine yB (by decide) ?_ | refine yH (by assumption) ?_ | refine yJ (by assumption) ?_) | (refine yC rfl ?_) | (simp -implicitDefEqProofs only [push_cast, sevalprocAttr, eq_self, ee, hd]) | (simp (disch := omega) only [yF, yK, yG, yL]) | ((first | refine yE rfl (fun bb => ?_) (fun bb => ?_) | with_reducible refine yI (fun bb => ?_) (fun bb => ?_)) <;> (first | have bp := oT bb | have bp := oF bb | skip) <;> try simp only [bb]) | ((with_reducible refine And.intro ?_ ?_); omega) | (with_reducible refine yM ?_ ?_))
 refine yN fun env hE => ?_; have n := cj20 hE 0 1 2 3 4 10 11 12 13 14 15 16 17 18 19 20 21 22 23 24; simp -implicitDefEqProofs only [push_cast, reduceIte, Nat.reduceEqDiff, ee] at n; clear hE ee; have ee := n; clear n; have E144_0 := ee; obtain ⟨e0, e1, e2, e3, e4, e10, e11, e12, e13, e14, e15, e16, e17, e18, e19, e20, e21, e22, e23, e24⟩ := ee
 refine qC (fun nn σ => ∃ (i j : Nat), nn = j - i ∧ kp [0, 1, 2, 3, 4] σ.env env ∧ σ.env 10 = i64 i ∧ σ.env 11 = i64 j ∧ (m ≤ i ∧ i ≤ j ∧ j ≤ b ∧ (m < i → key (D a) < key (D (i - 1))) ∧ (j < b → ¬ key (D a) < key (D j)) ∧ σ.h.hp id = some ⟨true, arrC n D⟩ ∧ Fr1 id h0 σ.h)) _ ⟨m, b, rfl, qP _ _, by refine e10.trans ?_; first | rfl | exact yP (by omega) | exact i64w (by omega), by refine e11.trans ?_; first | rfl | exact yP (by omega) | exact i64w (by omega), ?_⟩ ?_
 · exact ⟨by omega, by omega, by omega, fun h => by omega, fun h => by omega, by simp -implicitDefEqProofs only [push_cast, sevalprocAttr, eq_self, hb], (by repeat (first | assumption | exact Fr1.refl _ _ | refine Fr1.tick ?_ | refine Fr1.put ?_ _ | refine Fr1.push ?_ (by omega) _))⟩
 clear e0 e1 e2 e3 e4 e10 e11 e12 e13 e14 e15 e16 e17 e18 e19 e20 e21 e22 e23 e24; rintro nn ⟨env, h⟩ ⟨i, j, rfl, q, e10, e11, hI⟩; simp only at e10 e11 hI; simp only [kp, and_true, E144_0] at q; have ee : _ ∧ _ ∧ _ := ⟨e10, e11, q⟩; clear e10 e11 q
 obtain ⟨i1, i2, i3, i4, i5, hbk, hx⟩ := hI
 unfold l144_0
 (first | refine yS fun hF => ?_ | refine yY fun hF => ?_ | refine yX fun hF => ?_)
 have hle := hx.ep
 by_cases hlt : i < j
 · have hd : decide ((i : Int) < (j : Int)) = true := dT (by omega)
   obtain ⟨c, hcc⟩ : ∃ c, c = (i + j) / 2 := ⟨_, rfl⟩
   obtain ⟨hh1, hh2⟩ := half_eq hcc (by omega)
   have hv1 := YJ (n := n) D (k := c) (by omega)
   have hv2 := YJ (n := n) D (k := a) (by omega)
   have k1 := hkey _ (hdom c (by omega))
   have k2 := hkey _ (hdom a (by omega))
   by_cases hw : key (D a) < key (D c)
   · have hd2 : decide (key (D a) - key (D c) < 0) = true := dT (by omega)
     repeat' (first | ((try clear hf); with_reducible refine yD fun env K hE hK hf => ?_; have n := cj20 hE 0 1 2 3 4 10 11 12 13 14 15 16 17 18 19 20 21 22 23 24; simp -implicitDefEqProofs only [push_cast, reduceIte, Nat.reduceEqDiff, ee] at n; clear hE ee; have ee := n; clear n) | (with_reducible first | (refine hK _ _ ?_; clear hK K) | (refine Zi ?_; constructor) | refine yB (by decide) ?_ | refine yH (by assumption) ?_ | refine yJ (by assumption) ?_) | (refine yC rfl ?_) | (simp -implicitDefEqProofs only [push_cast, sevalprocAttr, eq_self, ee, hd, hd2, hbk, YH, hh1, hh2, hv1, hv2]) | (simp (disch := omega) only [yF, yK, yG, yL, hbk, YH, hh1, hh2, hv1, hv2]) | ((first | refine yE rfl (fun bb => ?_) (fun bb => ?_) | with_reducible refine yI (fun bb => ?_) (fun bb => ?_)) <;> (first | have bp := oT bb | have bp := oF bb | skip) <;> try simp only [bb]) | ((with_reducible refine And.intro ?_ ?_); omega) | (refine uS hc (by repeat (first | assumption | exact Fr1.refl _ _ | refine Fr1.tick ?_ | refine Fr1.put ?_ _ | refine Fr1.push ?_ (by omega) _)) (hdom _ (by omega)) (hdom _ (by omega)) ?_) | (with_reducible refine yM ?_ ?_))
     refine ⟨_, ?_, c + 1, j, rfl, by simp -implicitDefEqProofs only [kp, push_cast, reduceIte, Nat.reduceEqDiff, ee, E144_0, and_self], by first | rfl | exact yP (by omega) | (simp only [hh1, hh2]; exact yP (by omega)) | exact i64w (by omega), by first | rfl | exact yP (by omega) | (simp only [hh1, hh2]; exact yP (by omega)) | exact i64w (by omega), ?_⟩
     · omega
     · exact ⟨by omega, by omega, by omega, fun _ => hw, i5, (by repeat (first | assumption | exact Fr1.refl _ _ | refine Fr1.tick ?_ | refine Fr1.put ?_ _ | refine Fr1.push ?_ (by omega) _))⟩
   · have hd2 : decide (key (D a) - key (D c) < 0) = false := dF (by omega)
     repeat' (first | ((try clear hf); with_reducible refine yD fun env K hE hK hf => ?_; have n := cj20 hE 0 1 2 3 4 10 11 12 13 14 15 16 17 18 19 20 21 22 23 24; simp -implicitDefEqProofs only [push_cast, reduceIte, Nat.reduceEqDiff, ee] at n; clear hE ee; have ee := n; clear n) | (with_reducible first | (refine hK _ _ ?_; clear hK K) | (refine Zi ?_; constructor) | refine yB (by decide) ?_ | refine yH (by assumption) ?_ | refine yJ (by assumption) ?_) | (refine yC rfl ?_) | (simp -implicitDefEqProofs only [push_cast, sevalprocAttr, eq_self, ee, hd, hd2, hbk, YH, hh1, hh2, hv1, hv2]) | (simp (disch := omega) only [yF, yK, yG, yL, hbk, YH, hh1, hh2, hv1, hv2]) | ((first | refine yE rfl (fun bb => ?_) (fun bb => ?_) | with_reducible refine yI (fun bb => ?_) (fun bb => ?_)) <;> (first | have bp := oT bb | have bp := oF bb | skip) <;> try simp only [bb]) | ((with_reducible refine And.intro ?_ ?_); omega) | (refine uS hc (by repeat (first | assumption | exact Fr1.refl _ _ | refine Fr1.tick ?_ | refine Fr1.put ?_ _ | refine Fr1.push ?_ (by omega) _)) (hdom _ (by omega)) (hdom _ (by omega)) ?_) | (with_reducible refine yM ?_ ?_))
     refine ⟨_, ?_, i, c, rfl, by simp -implicitDefEqProofs only [kp, push_cast, reduceIte, Nat.reduceEqDiff, ee, E144_0, and_self], by first | rfl | exact yP (by omega) | (simp only [hh1, hh2]; exact yP (by omega)) | exact i64w (by omega), by first | rfl | exact yP (by omega) | (simp only [hh1, hh2]; exact yP (by omega)) | exact i64w (by omega), ?_⟩
     · omega
     · exact ⟨by omega, by omega, by omega, i4, fun _ => hw, (by repeat (first | assumption | exact Fr1.refl _ _ | refine Fr1.tick ?_ | refine Fr1.put ?_ _ | refine Fr1.push ?_ (by omega) _))⟩
 · have hd : decide ((i : Int) < (j : Int)) = false := dF (by omega)
   obtain rfl : i = j := by omega
   repeat' (first | ((try clear hf); with_reducible refine yD fun env K hE hK hf => ?_; have n := cj20 hE 0 1 2 3 4 10 11 12 13 14 15 16 17 18 19 20 21 22 23 24; simp -implicitDefEqProofs only [push_cast, reduceIte, Nat.reduceEqDiff, ee] at n; clear hE ee; have ee := n; clear n) | (with_reducible first | (refine hK _ _ ?_; clear hK K) | (refine Zi ?_; constructor) | refine yB (by decide) ?_ | refine yH (by assumption) ?_ | refine yJ (by assumption) ?_) | (refine yC rfl ?_) | (simp -implicitDefEqProofs only [push_cast, sevalprocAttr, eq_self, ee, hd]) | (simp (disch := omega) only [yF, yK, yG, yL]) | ((first | refine yE rfl (fun bb => ?_) (fun bb => ?_) | with_reducible refine yI (fun bb => ?_) (fun bb => ?_)) <;> (first | have bp := oT bb | have bp := oF bb | skip) <;> try simp only [bb]) | ((with_reducible refine And.intro ?_ ?_); omega) | (with_reducible refine yM ?_ ?_))
   refine yN fun env hE => ?_; have n := cj20 hE 0 1 2 3 4 10 11 12 13 14 15 16 17 18 19 20 21 22 23 24; simp -implicitDefEqProofs only [push_cast, reduceIte, Nat.reduceEqDiff, ee] at n; clear hE ee; have ee := n; clear n; have E144_1 := ee; obtain ⟨e0, e1, e2, e3, e4, e10, e11, e12, e13, e14, e15, e16, e17, e18, e19, e20, e21, e22, e23, e24⟩ := ee
   refine qC (fun nn σ => ∃ (k : Nat), nn = i - k ∧ kp [0, 1, 2, 3, 4, 10, 11, 12] σ.env env ∧ σ.env 13 = i64 k ∧ (a ≤ k ∧ k < i ∧ σ.h.hp id = some ⟨true, arrC n (rotS D a (a + 1) (k + 1))⟩ ∧ Fr1 id h0 σ.h)) _ ⟨a, rfl, qP _ _, by refine e13.trans ?_; first | rfl | exact yP (by omega) | exact i64w (by omega), ?_⟩ ?_
   · exact ⟨by omega, by omega, by simp -implicitDefEqProofs only [push_cast, sevalprocAttr, eq_self, rot_id1, hbk], (by repeat (first | assumption | exact Fr1.refl _ _ | refine Fr1.tick ?_ | refine Fr1.put ?_ _ | refine Fr1.push ?_ (by omega) _))⟩
   clear e0 e1 e2 e3 e4 e10 e11 e12 e13 e14 e15 e16 e17 e18 e19 e20 e21 e22 e23 e24; rintro nn ⟨env, h⟩ ⟨k, rfl, q, e13, hI⟩; simp only at e13 hI; simp only [kp, and_true, E144_1] at q; have ee : _ ∧ _ := ⟨e13, q⟩; clear e13 q
   obtain ⟨q1, q2, hbk, hx⟩ := hI
   unfold l144_1
   (first | refine yS fun hF => ?_ | refine yY fun hF => ?_ | refine yX fun hF => ?_)
   have hle := hx.ep
   by_cases hlt : k + 1 < i
   · have hd : decide ((k : Int) < (i : Int) - 1) = true := dT (by omega)
     have ht1 : ((k : Int) + 1).toNat = k + 1 := by omega
     have hv1 := fun D => YJ (n := n) D (k := k) (by omega)
     have hv2 := fun D => YJ (n := n) D (k := k + 1) (by omega)
     have hp1 := fun D => WX (n := n) D (k := k) (by omega)
     have hp2 := fun D => WX (n := n) D (k := k + 1) (by omega)
     repeat' (first | ((try clear hf); with_reducible refine yD fun env K hE hK hf => ?_; have n := cj20 hE 0 1 2 3 4 10 11 12 13 14 15 16 17 18 19 20 21 22 23 24; simp -implicitDefEqProofs only [push_cast, reduceIte, Nat.reduceEqDiff, ee] at n; clear hE ee; have ee := n; clear n) | (with_reducible first | (refine hK _ _ ?_; clear hK K) | (refine Zi ?_; constructor) | refine yB (by decide) ?_ | refine yH (by assumption) ?_ | refine yJ (by assumption) ?_) | (refine yC rfl ?_) | (simp -implicitDefEqProofs only [push_cast, sevalprocAttr, eq_self, ee, hd, hbk, ht1, hv1, hv2, hp1, hp2]) | (simp (disch := omega) only [yF, yK, yG, yL, hbk, ht1, hv1, hv2, hp1, hp2]) | ((first | refine yE rfl (fun bb => ?_) (fun bb => ?_) | with_reducible refine yI (fun bb => ?_) (fun bb => ?_)) <;> (first | have bp := oT bb | have bp := oF bb | skip) <;> try simp only [bb]) | ((with_reducible refine And.intro ?_ ?_); omega) | (with_reducible refine yM ?_ ?_))
     refine ⟨_, ?_, k + 1, rfl, by simp -implicitDefEqProofs only [kp, push_cast, reduceIte, Nat.reduceEqDiff, ee, E144_1, and_self], by first | rfl | exact yP (by omega) | exact i64w (by omega), ?_⟩
     · omega
     · exact ⟨by omega, by omega, by rw [rot_up D q1], (by repeat (first | assumption | exact Fr1.refl _ _ | refine Fr1.tick ?_ | refine Fr1.put ?_ _ | refine Fr1.push ?_ (by omega) _))⟩
   · have hd : decide ((k : Int) < (i : Int) - 1) = false := dF (by omega)
     repeat' (first | ((try clear hf); with_reducible refine yD fun env K hE hK hf => ?_; have n := cj20 hE 0 1 2 3 4 10 11 12 13 14 15 16 17 18 19 20 21 22 23 24; simp -implicitDefEqProofs only [push_cast, reduceIte, Nat.reduceEqDiff, ee] at n; clear hE ee; have ee := n; clear n) | (with_reducible first | (refine hK _ _ ?_; clear hK K) | (refine Zi ?_; constructor) | refine yB (by decide) ?_ | refine yH (by assumption) ?_ | refine yJ (by assumption) ?_) | (refine yC rfl ?_) | (simp -implicitDefEqProofs only [push_cast, sevalprocAttr, eq_self, ee, hd]) | (simp (disch := omega) only [yF, yK, yG, yL]) | ((first | refine yE rfl (fun bb => ?_) (fun bb => ?_) | with_reducible refine yI (fun bb => ?_) (fun bb => ?_)) <;> (first | have bp := oT bb | have bp := oF bb | skip) <;> try simp only [bb]) | ((with_reducible refine And.intro ?_ ?_); omega) | (with_reducible refine yM ?_ ?_))
     obtain rfl : i = k + 1 := by omega
     subst hm
     refine ⟨rfl, (by repeat (first | assumption | exact Fr1.refl _ _ | refine Fr1.tick ?_ | refine Fr1.put ?_ _ | refine Fr1.push ?_ (by omega) _)), _, by simp -implicitDefEqProofs only [push_cast, sevalprocAttr, eq_self, hbk], SP.rot D (by omega) (by omega) |>.widen (Nat.le_refl _) i3 (by omega), srt_up hs2 (by omega) i3 (fun j h1 h2 => tie_r ?_) (fun j h1 h2 => tie_l htie (Nat.le_refl _) (by omega) (by omega) h2 ?_)⟩
     · have := srt_key hs2 (i := j) (j := k) (by omega) (by omega) (by omega)
       have := i4 (by omega)
       simp only [Nat.add_sub_cancel] at this
       omega
     · have := srt_key hs2 (i := k + 1) (j := j) (by omega) (by omega) (by omega)
       have := i5 (by omega)
       omega
set_option maxHeartbeats 1000000 in
theorem f144'b {id : Id} {n : Nat} {f : AV} {key : Int → Int} {dom : Int → Prop} (hn : n ≤ 1000000) (hkey : ∀ x, dom x → -1000000 ≤ key x ∧ key x ≤ 1000000) : MergeC f key dom id n fun a m b => m ≠ a + 1 ∧ b = m + 1 := by
 intro h0 D a m b hm hc hb hi h1 h2 h3 hdom hs1 hs2 htie
 obtain ⟨hm, hbm⟩ := hm
 refine qJ qM cf144 (by simp) fun hF => ?_
 unfold ac144 re144
 refine yN fun env hE => ?_; have ee := cj20 hE 0 1 2 3 4 10 11 12 13 14 15 16 17 18 19 20 21 22 23 24; simp -implicitDefEqProofs only [push_cast] at ee; clear hE
 have hd : decide ((m : Int) - (a : Int) = 1) = false := dF (by omega)
 have hd2 : decide ((b : Int) - (m : Int) = 1) = true := dT (by omega)
 repeat' (first | ((try clear hf); with_reducible refine yD fun env K hE hK hf => ?_; have n := cj20 hE 0 1 2 3 4 10 11 12 13 14 15 16 17 18 19 20 21 22 23 24; simp -implicitDefEqProofs only [push_cast, reduceIte, Nat.reduceEqDiff, ee] at n; clear hE ee; have ee := n; clear n) | (with_reducible first | (refine hK _ _ ?_; clear hK K) | (refine Zi ?_; constructor) | refine yB (by decide) ?_ | refine yH (by assumption) ?_ | refine yJ (by assumption) ?_) | (refine yC rfl ?_) | (simp -implicitDefEqProofs only [push_cast, sevalprocAttr, eq_self, ee, hd, hd2]) | (simp (disch := omega) only [yF, yK, yG, yL]) | ((first | refine yE rfl (fun bb => ?_) (fun bb => ?_) | with_reducible refine yI (fun bb => ?_) (fun bb => ?_)) <;> (first | have bp := oT bb | have bp := oF bb | skip) <;> try simp only [bb]) | ((with_reducible refine And.intro ?_ ?_); omega) | (with_reducible refine yM ?_ ?_))
 refine yN fun env hE => ?_; have n := cj20 hE 0 1 2 3 4 10 11 12 13 14 15 16 17 18 19 20 21 22 23 24; simp -implicitDefEqProofs only [push_cast, reduceIte, Nat.reduceEqDiff, ee] at n; clear hE ee; have ee := n; clear n; have E144_2 := ee; obtain ⟨e0, e1, e2, e3, e4, e10, e11, e12, e13, e14, e15, e16, e17, e18, e19, e20, e21, e22, e23, e24⟩ := ee
 refine qC (fun nn σ => ∃ (i j : Nat), nn = j - i ∧ kp [0, 1, 2, 3, 4, 10, 11, 12, 13] σ.env env ∧ σ.env 14 = i64 i ∧ σ.env 15 = i64 j ∧ (a ≤ i ∧ i ≤ j ∧ j ≤ m ∧ (a < i → ¬ key (D (i - 1)) < key (D m)) ∧ (j < m → key (D j) < key (D m)) ∧ σ.h.hp id = some ⟨true, arrC n D⟩ ∧ Fr1 id h0 σ.h)) _ ⟨a, m, rfl, qP _ _, by refine e14.trans ?_; first | rfl | exact yP (by omega) | exact i64w (by omega), by refine e15.trans ?_; first | rfl | exact yP (by omega) | exact i64w (by omega), ?_⟩ ?_
 · exact ⟨by omega, by omega, by omega, fun h => by omega, fun h => by omega, by simp -implicitDefEqProofs only [push_cast, sevalprocAttr, eq_self, hb], (by repeat (first | assumption | exact Fr1.refl _ _ | refine Fr1.tick ?_ | refine Fr1.put ?_ _ | refine Fr1.push ?_ (by omega) _))⟩
 clear e0 e1 e2 e3 e4 e10 e11 e12 e13 e14 e15 e16 e17 e18 e19 e20 e21 e22 e23 e24; rintro nn ⟨env, h⟩ ⟨i, j, rfl, q, e14, e15, hI⟩; simp only at e14 e15 hI; simp only [kp, and_true, E144_2] at q; have ee : _ ∧ _ ∧ _ := ⟨e14, e15, q⟩; clear e14 e15 q
 obtain ⟨i1, i2, i3, i4, i5, hbk, hx⟩ := hI
 unfold l144_2
 (first | refine yS fun hF => ?_ | refine yY fun hF => ?_ | refine yX fun hF => ?_)
 have hle := hx.ep
 by_cases hlt : i < j
 · have hd : decide ((i : Int) < (j : Int)) = true := dT (by omega)
   obtain ⟨c, hcc⟩ : ∃ c, c = (i + j) / 2 := ⟨_, rfl⟩
   obtain ⟨hh1, hh2⟩ := half_eq hcc (by omega)
   have hv1 := YJ (n := n) D (k := c) (by omega)
   have hv2 := YJ (n := n) D (k := m) (by omega)
   have k1 := hkey _ (hdom c (by omega))
   have k2 := hkey _ (hdom m (by omega))
   by_cases hw : key (D c) < key (D m)
   · have hd2 : decide (key (D c) - key (D m) < 0) = true := dT (by omega)
     repeat' (first | ((try clear hf); with_reducible refine yD fun env K hE hK hf => ?_; have n := cj20 hE 0 1 2 3 4 10 11 12 13 14 15 16 17 18 19 20 21 22 23 24; simp -implicitDefEqProofs only [push_cast, reduceIte, Nat.reduceEqDiff, ee] at n; clear hE ee; have ee := n; clear n) | (with_reducible first | (refine hK _ _ ?_; clear hK K) | (refine Zi ?_; constructor) | refine yB (by decide) ?_ | refine yH (by assumption) ?_ | refine yJ (by assumption) ?_) | (refine yC rfl ?_) | (simp -implicitDefEqProofs only [push_cast, sevalprocAttr, eq_self, ee, hd, hd2, hbk, YH, hh1, hh2, hv1, hv2]) | (simp (disch := omega) only [yF, yK, yG, yL, hbk, YH, hh1, hh2, hv1, hv2]) | ((first | refine yE rfl (fun bb => ?_) (fun bb => ?_) | with_reducible refine yI (fun bb => ?_) (fun bb => ?_)) <;> (first | have bp := oT bb | have bp := oF bb | skip) <;> try simp only [bb]) | ((with_reducible refine And.intro ?_ ?_); omega) | (refine uS hc (by repeat (first | assumption | exact Fr1.refl _ _ | refine Fr1.tick ?_ | refine Fr1.put ?_ _ | refine Fr1.push ?_ (by omega) _)) (hdom _ (by omega)) (hdom _ (by omega)) ?_) | (with_reducible refine yM ?_ ?_))
     refine ⟨_, ?_, i, c, rfl, by simp -implicitDefEqProofs only [kp, push_cast, reduceIte, Nat.reduceEqDiff, ee, E144_2, and_self], by first | rfl | exact yP (by omega) | (simp only [hh1, hh2]; exact yP (by omega)) | exact i64w (by omega), by first | rfl | exact yP (by omega) | (simp only [hh1, hh2]; exact yP (by omega)) | exact i64w (by omega), ?_⟩
     · omega
     · exact ⟨by omega, by omega, by omega, i4, fun _ => hw, (by repeat (first | assumption | exact Fr1.refl _ _ | refine Fr1.tick ?_ | refine Fr1.put ?_ _ | refine Fr1.push ?_ (by omega) _))⟩
   · have hd2 : decide (key (D c) - key (D m) < 0) = false := dF (by omega)
     repeat' (first | ((try clear hf); with_reducible refine yD fun env K hE hK hf => ?_; have n := cj20 hE 0 1 2 3 4 10 11 12 13 14 15 16 17 18 19 20 21 22 23 24; simp -implicitDefEqProofs only [push_cast, reduceIte, Nat.reduceEqDiff, ee] at n; clear hE ee; have ee := n; clear n) | (with_reducible first | (refine hK _ _ ?_; clear hK K) | (refine Zi ?_; constructor) | refine yB (by decide) ?_ | refine yH (by assumption) ?_ | refine yJ (by assumption) ?_) | (refine yC rfl ?_) | (simp -implicitDefEqProofs only [push_cast, sevalprocAttr, eq_self, ee, hd, hd2, hbk, YH, hh1, hh2, hv1, hv2]) | (simp (disch := omega) only [yF, yK, yG, yL, hbk, YH, hh1, hh2, hv1, hv2]) | ((first | refine yE rfl (fun bb => ?_) (fun bb => ?_) | with_reducible refine yI (fun bb => ?_) (fun bb => ?_)) <;> (first | have bp := oT bb | have bp := oF bb | skip) <;> try simp only [bb]) | ((with_reducible refine And.intro ?_ ?_); omega) | (refine uS hc (by repeat (first | assumption | exact Fr1.refl _ _ | refine Fr1.tick ?_ | refine Fr1.put ?_ _ | refine Fr1.push ?_ (by omega) _)) (hdom _ (by omega)) (hdom _ (by omega)) ?_) | (with_reducible refine yM ?_ ?_))
     refine ⟨_, ?_, c + 1, j, rfl, by simp -implicitDefEqProofs only [kp, push_cast, reduceIte, Nat.reduceEqDiff, ee, E144_2, and_self], by first | rfl | exact yP (by omega) | (simp only [hh1, hh2]; exact yP (by omega)) | exact i64w (by omega), by first | rfl | exact yP (by omega) | (simp only [hh1, hh2]; exact yP (by omega)) | exact i64w (by omega), ?_⟩
     · omega
     · exact ⟨by omega, by omega, by omega, fun _ => hw, i5, (by repeat (first | assumption | exact Fr1.refl _ _ | refine Fr1.tick ?_ | refine Fr1.put ?_ _ | refine Fr1.push ?_ (by omega) _))⟩
 · have hd : decide ((i : Int) < (j : Int)) = false := dF (by omega)
   obtain rfl : i = j := by omega
   repeat' (first | ((try clear hf); with_reducible refine yD fun env K hE hK hf => ?_; have n := cj20 hE 0 1 2 3 4 10 11 12 13 14 15 16 17 18 19 20 21 22 23 24; simp -implicitDefEqProofs only [push_cast, reduceIte, Nat.reduceEqDiff, ee] at n; clear hE ee; have ee := n; clear n) | (with_reducible first | (refine hK _ _ ?_; clear hK K) | (refine Zi ?_; constructor) | refine yB (by decide) ?_ | refine yH (by assumption) ?_ | refine yJ (by assumption) ?_) | (refine yC rfl ?_) | (simp -implicitDefEqProofs only [push_cast, sevalprocAttr, eq_self, ee, hd]) | (simp (disch := omega) only [yF, yK, yG, yL]) | ((first | refine yE rfl (fun bb => ?_) (fun bb => ?_) | with_reducible refine yI (fun bb => ?_) (fun bb => ?_)) <;> (first | have bp := oT bb | have bp := oF bb | skip) <;> try simp only [bb]) | ((with_reducible refine And.intro ?_ ?_); omega) | (with_reducible refine yM ?_ ?_))
   refine yN fun env hE => ?_; have n := cj20 hE 0 1 2 3 4 10 11 12 13 14 15 16 17 18 19 20 21 22 23 24; simp -implicitDefEqProofs only [push_cast, reduceIte, Nat.reduceEqDiff, ee] at n; clear hE ee; have ee := n; clear n; have E144_3 := ee; obtain ⟨e0, e1, e2, e3, e4, e10, e11, e12, e13, e14, e15, e16, e17, e18, e19, e20, e21, e22, e23, e24⟩ := ee
   refine qC (fun nn σ => ∃ (k : Nat), nn = k - i ∧ kp [0, 1, 2, 3, 4, 10, 11, 12, 13, 14, 15, 16] σ.env env ∧ σ.env 17 = i64 k ∧ (i ≤ k ∧ k ≤ m ∧ σ.h.hp id = some ⟨true, arrC n (rotS D k m (m + 1))⟩ ∧ Fr1 id h0 σ.h)) _ ⟨m, rfl, qP _ _, by refine e17.trans ?_; first | rfl | exact yP (by omega) | exact i64w (by omega), ?_⟩ ?_
   · exact ⟨by omega, by omega, by simp -implicitDefEqProofs only [push_cast, sevalprocAttr, eq_self, rot_id, hbk], (by repeat (first | assumption | exact Fr1.refl _ _ | refine Fr1.tick ?_ | refine Fr1.put ?_ _ | refine Fr1.push ?_ (by omega) _))⟩
   clear e0 e1 e2 e3 e4 e10 e11 e12 e13 e14 e15 e16 e17 e18 e19 e20 e21 e22 e23 e24; rintro nn ⟨env, h⟩ ⟨k, rfl, q, e17, hI⟩; simp only at e17 hI; simp only [kp, and_true, E144_3] at q; have ee : _ ∧ _ := ⟨e17, q⟩; clear e17 q
   obtain ⟨q1, q2, hbk, hx⟩ := hI
   unfold l144_3
   (first | refine yS fun hF => ?_ | refine yY fun hF => ?_ | refine yX fun hF => ?_)
   have hle := hx.ep
   by_cases hlt : i < k
   · have hd : decide ((i : Int) < (k : Int)) = true := dT (by omega)
     have ht1 : ((k : Int) - 1).toNat = k - 1 := by omega
     have hv1 := fun D => YJ (n := n) D (k := k) (by omega)
     have hv2 := fun D => YJ (n := n) D (k := k - 1) (by omega)
     have hp1 := fun D => WX (n := n) D (k := k) (by omega)
     have hp2 := fun D => WX (n := n) D (k := k - 1) (by omega)
     repeat' (first | ((try clear hf); with_reducible refine yD fun env K hE hK hf => ?_; have n := cj20 hE 0 1 2 3 4 10 11 12 13 14 15 16 17 18 19 20 21 22 23 24; simp -implicitDefEqProofs only [push_cast, reduceIte, Nat.reduceEqDiff, ee] at n; clear hE ee; have ee := n; clear n) | (with_reducible first | (refine hK _ _ ?_; clear hK K) | (refine Zi ?_; constructor) | refine yB (by decide) ?_ | refine yH (by assumption) ?_ | refine yJ (by assumption) ?_) | (refine yC rfl ?_) | (simp -implicitDefEqProofs only [push_cast, sevalprocAttr, eq_self, ee, hd, hbk, ht1, hv1, hv2, hp1, hp2]) | (simp (disch := omega) only [yF, yK, yG, yL, hbk, ht1, hv1, hv2, hp1, hp2]) | ((first | refine yE rfl (fun bb => ?_) (fun bb => ?_) | with_reducible refine yI (fun bb => ?_) (fun bb => ?_)) <;> (first | have bp := oT bb | have bp := oF bb | skip) <;> try simp only [bb]) | ((with_reducible refine And.intro ?_ ?_); omega) | (with_reducible refine yM ?_ ?_))
     refine ⟨_, ?_, k - 1, rfl, by simp -implicitDefEqProofs only [kp, push_cast, reduceIte, Nat.reduceEqDiff, ee, E144_3, and_self], by first | rfl | exact yP (by omega) | exact i64w (by omega), ?_⟩
     · omega
     · exact ⟨by omega, by omega, by rw [rot_down D (by omega) q2], (by repeat (first | assumption | exact Fr1.refl _ _ | refine Fr1.tick ?_ | refine Fr1.put ?_ _ | refine Fr1.push ?_ (by omega) _))⟩
   · have hd : decide ((i : Int) < (k : Int)) = false := dF (by omega)
     repeat' (first | ((try clear hf); with_reducible refine yD fun env K hE hK hf => ?_; have n := cj20 hE 0 1 2 3 4 10 11 12 13 14 15 16 17 18 19 20 21 22 23 24; simp -implicitDefEqProofs only [push_cast, reduceIte, Nat.reduceEqDiff, ee] at n; clear hE ee; have ee := n; clear n) | (with_reducible first | (refine hK _ _ ?_; clear hK K) | (refine Zi ?_; constructor) | refine yB (by decide) ?_ | refine yH (by assumption) ?_ | refine yJ (by assumption) ?_) | (refine yC rfl ?_) | (simp -implicitDefEqProofs only [push_cast, sevalprocAttr, eq_self, ee, hd]) | (simp (disch := omega) only [yF, yK, yG, yL]) | ((first | refine yE rfl (fun bb => ?_) (fun bb => ?_) | with_reducible refine yI (fun bb => ?_) (fun bb => ?_)) <;> (first | have bp := oT bb | have bp := oF bb | skip) <;> try simp only [bb]) | ((with_reducible refine And.intro ?_ ?_); omega) | (with_reducible refine yM ?_ ?_))
     obtain rfl : i = k := by omega
     subst hbm
     refine ⟨rfl, (by repeat (first | assumption | exact Fr1.refl _ _ | refine Fr1.tick ?_ | refine Fr1.put ?_ _ | refine Fr1.push ?_ (by omega) _)), _, by simp -implicitDefEqProofs only [push_cast, sevalprocAttr, eq_self, hbk], SP.rotIn D (by omega) (by omega) (by omega) (Nat.le_refl _), srt_ins hs1 i1 i3 (fun j h1 h2 => tie_r ?_) (fun h => tie_l htie (by omega) (by omega) (Nat.le_refl _) (by omega) (i4 h))⟩
     have := srt_key hs1 (i := i) (j := j) (by omega) (by omega) (by omega)
     have := i5 (by omega)
     omega
def mergeC : ACode := .seq (.ops r144_43 []) (.cond (.t 213) (.ops r144_44 []) .skip)
def mergeB : ACode := .seq (.seq (.ops r144_41 []) (.cond (.t 199) (.ops r144_42 []) .skip)) mergeC
def mergeA : ACode := .seq (.seq (.ops r144_39 []) (.cond (.t 185) (.ops r144_40 []) .skip)) mergeB
set_option maxHeartbeats 1000000 in
theorem f144'C {env : Nat → AV} {h h0 : Hp} {Q : AEx → St → Prop} {id : Id} {n mid e b : Nat} {f : AV} {key : Int → Int} {dom : Int → Prop} {D : Nat → Int} {post : (Nat → Int) → Prop} (e0 : env 0 = .sl id 0 n 1) (e3 : env 3 = i64 b) (e4 : env 4 = f) (e18 : env 18 = i64 mid) (e24 : env 24 = i64 e)
 (hn : n ≤ 1000000) (hc : ∀ g, Fr1 id h0 g → CmpAt Try.prog f key dom g) (hi : id.1 ≤ h0.ep) (hx : Fr1 id h0 h) (hbk : h.hp id = some ⟨true, arrC n D⟩) (b1 : mid ≤ e) (b2 : e ≤ b) (b3 : b ≤ n) (hdom : ∀ k, k < n → dom (D k)) (s1 : srt key D mid e) (s2 : srt key D e b) (t : tieP key D mid e b)
 {N : Nat} (hN : b - mid < N) (ih : MergeC f key dom id n fun a m b => b - a < N) (hp : ∀ d, SP D d mid b → srt key d mid b → post d)
 (hQ : ∀ env' h' d, Fr1 id h0 h' → h'.hp id = some ⟨true, arrC n d⟩ → post d → Q .normal ⟨env', h'⟩) : awp Try.prog mergeC Q ⟨env, h⟩ := by
 have e1 : True := trivial; have e2 : True := trivial; have e10 : True := trivial; have e11 : True := trivial; have e12 : True := trivial; have e13 : True := trivial; have e14 : True := trivial; have e15 : True := trivial; have e16 : True := trivial; have e17 : True := trivial; have e19 : True := trivial; have e20 : True := trivial; have e21 : True := trivial; have e22 : True := trivial; have e23 : True := trivial
 unfold mergeC
 have hle := hx.ep
 by_cases c1 : mid < e
 · have hd1 : decide ((mid : Int) < (e : Int)) = true := dT (by omega)
   by_cases c2 : e < b
   · have hd2 : decide ((e : Int) < (b : Int)) = true := dT (by omega)
     repeat' (first | ((try clear hf); with_reducible refine yD fun env K hE hK hf => ?_; have n := cj20 hE 0 1 2 3 4 10 11 12 13 14 15 16 17 18 19 20 21 22 23 24; simp -implicitDefEqProofs only [push_cast, reduceIte, Nat.reduceEqDiff, e0, e1, e2, e3, e4, e10, e11, e12, e13, e14, e15, e16, e17, e18, e19, e20, e21, e22, e23, e24] at n; clear hE e0 e1 e2 e3 e4 e10 e11 e12 e13 e14 e15 e16 e17 e18 e19 e20 e21 e22 e23 e24; obtain ⟨e0, e1, e2, e3, e4, e10, e11, e12, e13, e14, e15, e16, e17, e18, e19, e20, e21, e22, e23, e24⟩ := n) | (with_reducible first | (refine hK _ _ ?_; clear hK K) | (refine Zi ?_; constructor) | refine yB (by decide) ?_ | refine yH (by assumption) ?_ | refine yJ (by assumption) ?_) | (refine yC rfl ?_) | (simp -implicitDefEqProofs only [push_cast, sevalprocAttr, eq_self, e0, e1, e2, e3, e4, e10, e11, e12, e13, e14, e15, e16, e17, e18, e19, e20, e21, e22, e23, e24, hd1, hd2]) | (simp (disch := omega) only [yF, yK, yG, yL, hd1, hd2]) | (with_reducible refine yM ?_ ?_) | ((first | refine yE rfl (fun bb => ?_) (fun bb => ?_) | with_reducible refine yI (fun bb => ?_) (fun bb => ?_)) <;> (first | have bp := oT bb | have bp := oF bb | skip) <;> try simp only [bb]) | ((with_reducible refine And.intro ?_ ?_); omega) | (refine qH (HC.mono (ih _ D mid e b hN (fun g hg => hc g (Fr1.trans (by repeat (first | assumption | exact Fr1.refl _ _ | refine Fr1.tick ?_ | refine Fr1.put ?_ _ | refine Fr1.push ?_ (by omega) _)) hg)) (by simp -implicitDefEqProofs only [push_cast, sevalprocAttr, eq_self, hbk]) (by simp -implicitDefEqProofs only [push_cast, sevalprocAttr, eq_self]; omega) c1 c2 b3 hdom s1 s2 t) ?_); rintro r g ⟨rfl, hg, D', hb', hp1, hp2⟩ hF'))
     exact hQ _ _ D' (Fr1.trans (by repeat (first | assumption | exact Fr1.refl _ _ | refine Fr1.tick ?_ | refine Fr1.put ?_ _ | refine Fr1.push ?_ (by omega) _)) hg).tick hb' (hp _ hp1 hp2)
   · have hd2 : decide ((e : Int) < (b : Int)) = false := dF (by omega)
     obtain rfl : e = b := by omega
     repeat' (first | ((try clear hf); with_reducible refine yD fun env K hE hK hf => ?_; have n := cj20 hE 0 1 2 3 4 10 11 12 13 14 15 16 17 18 19 20 21 22 23 24; simp -implicitDefEqProofs only [push_cast, reduceIte, Nat.reduceEqDiff, e0, e1, e2, e3, e4, e10, e11, e12, e13, e14, e15, e16, e17, e18, e19, e20, e21, e22, e23, e24] at n; clear hE e0 e1 e2 e3 e4 e10 e11 e12 e13 e14 e15 e16 e17 e18 e19 e20 e21 e22 e23 e24; obtain ⟨e0, e1, e2, e3, e4, e10, e11, e12, e13, e14, e15, e16, e17, e18, e19, e20, e21, e22, e23, e24⟩ := n) | (with_reducible first | (refine hK _ _ ?_; clear hK K) | (refine Zi ?_; constructor) | refine yB (by decide) ?_ | refine yH (by assumption) ?_ | refine yJ (by assumption) ?_) | (refine yC rfl ?_) | (simp -implicitDefEqProofs only [push_cast, sevalprocAttr, eq_self, e0, e1, e2, e3, e4, e10, e11, e12, e13, e14, e15, e16, e17, e18, e19, e20, e21, e22, e23, e24, hd1, hd2]) | (simp (disch := omega) only [yF, yK, yG, yL, hd1, hd2]) | (with_reducible refine yM ?_ ?_) | ((first | refine yE rfl (fun bb => ?_) (fun bb => ?_) | with_reducible refine yI (fun bb => ?_) (fun bb => ?_)) <;> (first | have bp := oT bb | have bp := oF bb | skip) <;> try simp only [bb]) | ((with_reducible refine And.intro ?_ ?_); omega))
     exact hQ _ _ D (by repeat (first | assumption | exact Fr1.refl _ _ | refine Fr1.tick ?_ | refine Fr1.put ?_ _ | refine Fr1.push ?_ (by omega) _)) (by simp -implicitDefEqProofs only [push_cast, sevalprocAttr, eq_self, hbk]) (hp _ (SP.refl _ _ _) s1)
 · have hd1 : decide ((mid : Int) < (e : Int)) = false := dF (by omega)
   obtain rfl : mid = e := by omega
   repeat' (first | ((try clear hf); with_reducible refine yD fun env K hE hK hf => ?_; have n := cj20 hE 0 1 2 3 4 10 11 12 13 14 15 16 17 18 19 20 21 22 23 24; simp -implicitDefEqProofs only [push_cast, reduceIte, Nat.reduceEqDiff, e0, e1, e2, e3, e4, e10, e11, e12, e13, e14, e15, e16, e17, e18, e19, e20, e21, e22, e23, e24] at n; clear hE e0 e1 e2 e3 e4 e10 e11 e12 e13 e14 e15 e16 e17 e18 e19 e20 e21 e22 e23 e24; obtain ⟨e0, e1, e2, e3, e4, e10, e11, e12, e13, e14, e15, e16, e17, e18, e19, e20, e21, e22, e23, e24⟩ := n) | (with_reducible first | (refine hK _ _ ?_; clear hK K) | (refine Zi ?_; constructor) | refine yB (by decide) ?_ | refine yH (by assumption) ?_ | refine yJ (by assumption) ?_) | (refine yC rfl ?_) | (simp -implicitDefEqProofs only [push_cast, sevalprocAttr, eq_self, e0, e1, e2, e3, e4, e10, e11, e12, e13, e14, e15, e16, e17, e18, e19, e20, e21, e22, e23, e24, hd1]) | (simp (disch := omega) only [yF, yK, yG, yL, hd1]) | (with_reducible refine yM ?_ ?_) | ((first | refine yE rfl (fun bb => ?_) (fun bb => ?_) | with_reducible refine yI (fun bb => ?_) (fun bb => ?_)) <;> (first | have bp := oT bb | have bp := oF bb | skip) <;> try simp only [bb]) | ((with_reducible refine And.intro ?_ ?_); omega))
   exact hQ _ _ D (by repeat (first | assumption | exact Fr1.refl _ _ | refine Fr1.tick ?_ | refine Fr1.put ?_ _ | refine Fr1.push ?_ (by omega) _)) (by simp -implicitDefEqProofs only [push_cast, sevalprocAttr, eq_self, hbk]) (hp _ (SP.refl _ _ _) s2)
set_option maxHeartbeats 1000000 in
theorem f144'B {env : Nat → AV} {h h0 : Hp} {Q : AEx → St → Prop} {id : Id} {n a s mid e b : Nat} {f : AV} {key : Int → Int} {dom : Int → Prop} {D : Nat → Int} {post : (Nat → Int) → Prop} (e0 : env 0 = .sl id 0 n 1) (e1 : env 1 = i64 a) (e3 : env 3 = i64 b) (e4 : env 4 = f) (e18 : env 18 = i64 mid) (e20 : env 20 = i64 s) (e24 : env 24 = i64 e)
 (hn : n ≤ 1000000) (hc : ∀ g, Fr1 id h0 g → CmpAt Try.prog f key dom g) (hi : id.1 ≤ h0.ep) (hx : Fr1 id h0 h) (hbk : h.hp id = some ⟨true, arrC n D⟩) (a1 : a ≤ s) (a2 : s ≤ mid) (b1 : mid ≤ e) (b2 : e ≤ b) (b3 : b ≤ n) (hdom : ∀ k, k < n → dom (D k)) (c : Cut key D a s mid e b)
 {N : Nat} (hN : b - mid < N) (hN2 : mid - a < N) (ih : MergeC f key dom id n fun a m b => b - a < N) (hp : ∀ d, SP D d a b → srt key d a b → post d)
 (hQ : ∀ env' h' d, Fr1 id h0 h' → h'.hp id = some ⟨true, arrC n d⟩ → post d → Q .normal ⟨env', h'⟩) : awp Try.prog mergeB Q ⟨env, h⟩ := by
 have e2 : True := trivial; have e10 : True := trivial; have e11 : True := trivial; have e12 : True := trivial; have e13 : True := trivial; have e14 : True := trivial; have e15 : True := trivial; have e16 : True := trivial; have e17 : True := trivial; have e19 : True := trivial; have e21 : True := trivial; have e22 : True := trivial; have e23 : True := trivial
 unfold mergeB
 have hle := hx.ep
 have fin : ∀ (env' : Nat → AV) (g : Hp) (D2 : Nat → Int), env' 0 = .sl id 0 n 1 → env' 3 = i64 b → env' 4 = f → env' 18 = i64 mid → env' 24 = i64 e → Fr1 id h0 g → g.hp id = some ⟨true, arrC n D2⟩ → SP D D2 a mid → srt key D2 a mid → awp Try.prog mergeC Q ⟨env', g⟩ := by
  intro env' g D2 e0 e3 e4 e18 e24 hg hbg hp1 hp2
  have o2 : ∀ k, mid ≤ k → D2 k = D k := fun k hk => hp1.out k (.inr hk)
  refine f144'C e0 e3 e4 e18 e24 hn hc hi hg hbg b1 b2 b3 (fun k hk => (hp1.widen (a' := 0) (b' := n) (by omega) (by omega) (by omega)).all (Q := dom) (fun k _ hk => hdom k hk) k (by omega) hk) ?_ ?_ ?_ hN ih (fun d q1 q2 => ?_) hQ
  · intro i j h1 h2 h3; rw [o2 i h1, o2 j (by omega)]; exact c.s3 i j h1 h2 h3
  · intro i j h1 h2 h3; rw [o2 i (by omega), o2 j (by omega)]; exact c.s4 i j h1 h2 h3
  · intro i j h1 h2 h3 h4; rw [o2 i h1, o2 j (by omega)]; exact c.t2 i j h1 h2 h3 h4
  · obtain ⟨r1, r2⟩ := cut_done c hp1 hp2 q1 q2 (by omega) (by omega)
    exact hp d r1 r2
 by_cases c1 : a < s
 · have hd1 : decide ((a : Int) < (s : Int)) = true := dT (by omega)
   by_cases c2 : s < mid
   · have hd2 : decide ((s : Int) < (mid : Int)) = true := dT (by omega)
     repeat' (first | ((try clear hf); with_reducible refine yD fun env K hE hK hf => ?_; have n := cj20 hE 0 1 2 3 4 10 11 12 13 14 15 16 17 18 19 20 21 22 23 24; simp -implicitDefEqProofs only [push_cast, reduceIte, Nat.reduceEqDiff, e0, e1, e2, e3, e4, e10, e11, e12, e13, e14, e15, e16, e17, e18, e19, e20, e21, e22, e23, e24] at n; clear hE e0 e1 e2 e3 e4 e10 e11 e12 e13 e14 e15 e16 e17 e18 e19 e20 e21 e22 e23 e24; obtain ⟨e0, e1, e2, e3, e4, e10, e11, e12, e13, e14, e15, e16, e17, e18, e19, e20, e21, e22, e23, e24⟩ := n) | (with_reducible first | (refine hK _ _ ?_; clear hK K) | (refine Zi ?_; constructor) | refine yB (by decide) ?_ | refine yH (by assumption) ?_ | refine yJ (by assumption) ?_) | (refine yC rfl ?_) | (simp -implicitDefEqProofs only [push_cast, sevalprocAttr, eq_self, e0, e1, e2, e3, e4, e10, e11, e12, e13, e14, e15, e16, e17, e18, e19, e20, e21, e22, e23, e24, hd1, hd2]) | (simp (disch := omega) only [yF, yK, yG, yL, hd1, hd2]) | (with_reducible refine yM ?_ ?_) | ((first | refine yE rfl (fun bb => ?_) (fun bb => ?_) | with_reducible refine yI (fun bb => ?_) (fun bb => ?_)) <;> (first | have bp := oT bb | have bp := oF bb | skip) <;> try simp only [bb]) | ((with_reducible refine And.intro ?_ ?_); omega) | (refine qH (HC.mono (ih _ D a s mid hN2 (fun g hg => hc g (Fr1.trans (by repeat (first | assumption | exact Fr1.refl _ _ | refine Fr1.tick ?_ | refine Fr1.put ?_ _ | refine Fr1.push ?_ (by omega) _)) hg)) (by simp -implicitDefEqProofs only [push_cast, sevalprocAttr, eq_self, hbk]) (by simp -implicitDefEqProofs only [push_cast, sevalprocAttr, eq_self]; omega) c1 c2 (by omega) hdom c.s1 c.s2 c.t1) ?_); rintro r g ⟨rfl, hg, D', hb', hp1, hp2⟩ hF'))
     exact fin _ _ D' e0 e3 e4 e18 e24 (Fr1.trans (by repeat (first | assumption | exact Fr1.refl _ _ | refine Fr1.tick ?_ | refine Fr1.put ?_ _ | refine Fr1.push ?_ (by omega) _)) hg).tick hb' hp1 hp2
   · have hd2 : decide ((s : Int) < (mid : Int)) = false := dF (by omega)
     obtain rfl : s = mid := by omega
     repeat' (first | ((try clear hf); with_reducible refine yD fun env K hE hK hf => ?_; have n := cj20 hE 0 1 2 3 4 10 11 12 13 14 15 16 17 18 19 20 21 22 23 24; simp -implicitDefEqProofs only [push_cast, reduceIte, Nat.reduceEqDiff, e0, e1, e2, e3, e4, e10, e11, e12, e13, e14, e15, e16, e17, e18, e19, e20, e21, e22, e23, e24] at n; clear hE e0 e1 e2 e3 e4 e10 e11 e12 e13 e14 e15 e16 e17 e18 e19 e20 e21 e22 e23 e24; obtain ⟨e0, e1, e2, e3, e4, e10, e11, e12, e13, e14, e15, e16, e17, e18, e19, e20, e21, e22, e23, e24⟩ := n) | (with_reducible first | (refine hK _ _ ?_; clear hK K) | (refine Zi ?_; constructor) | refine yB (by decide) ?_ | refine yH (by assumption) ?_ | refine yJ (by assumption) ?_) | (refine yC rfl ?_) | (simp -implicitDefEqProofs only [push_cast, sevalprocAttr, eq_self, e0, e1, e2, e3, e4, e10, e11, e12, e13, e14, e15, e16, e17, e18, e19, e20, e21, e22, e23, e24, hd1, hd2]) | (simp (disch := omega) only [yF, yK, yG, yL, hd1, hd2]) | (with_reducible refine yM ?_ ?_) | ((first | refine yE rfl (fun bb => ?_) (fun bb => ?_) | with_reducible refine yI (fun bb => ?_) (fun bb => ?_)) <;> (first | have bp := oT bb | have bp := oF bb | skip) <;> try simp only [bb]) | ((with_reducible refine And.intro ?_ ?_); omega))
     exact fin _ _ D e0 e3 e4 e18 e24 (by repeat (first | assumption | exact Fr1.refl _ _ | refine Fr1.tick ?_ | refine Fr1.put ?_ _ | refine Fr1.push ?_ (by omega) _)) (by simp -implicitDefEqProofs only [push_cast, sevalprocAttr, eq_self, hbk]) (SP.refl _ _ _) c.s1
 · have hd1 : decide ((a : Int) < (s : Int)) = false := dF (by omega)
   obtain rfl : a = s := by omega
   repeat' (first | ((try clear hf); with_reducible refine yD fun env K hE hK hf => ?_; have n := cj20 hE 0 1 2 3 4 10 11 12 13 14 15 16 17 18 19 20 21 22 23 24; simp -implicitDefEqProofs only [push_cast, reduceIte, Nat.reduceEqDiff, e0, e1, e2, e3, e4, e10, e11, e12, e13, e14, e15, e16, e17, e18, e19, e20, e21, e22, e23, e24] at n; clear hE e0 e1 e2 e3 e4 e10 e11 e12 e13 e14 e15 e16 e17 e18 e19 e20 e21 e22 e23 e24; obtain ⟨e0, e1, e2, e3, e4, e10, e11, e12, e13, e14, e15, e16, e17, e18, e19, e20, e21, e22, e23, e24⟩ := n) | (with_reducible first | (refine hK _ _ ?_; clear hK K) | (refine Zi ?_; constructor) | refine yB (by decide) ?_ | refine yH (by assumption) ?_ | refine yJ (by assumption) ?_) | (refine yC rfl ?_) | (simp -implicitDefEqProofs only [push_cast, sevalprocAttr, eq_self, e0, e1, e2, e3, e4, e10, e11, e12, e13, e14, e15, e16, e17, e18, e19, e20, e21, e22, e23, e24, hd1]) | (simp (disch := omega) only [yF, yK, yG, yL, hd1]) | (with_reducible refine yM ?_ ?_) | ((first | refine yE rfl (fun bb => ?_) (fun bb => ?_) | with_reducible refine yI (fun bb => ?_) (fun bb => ?_)) <;> (first | have bp := oT bb | have bp := oF bb | skip) <;> try simp only [bb]) | ((with_reducible refine And.intro ?_ ?_); omega))
   exact fin _ _ D e0 e3 e4 e18 e24 (by repeat (first | assumption | exact Fr1.refl _ _ | refine Fr1.tick ?_ | refine Fr1.put ?_ _ | refine Fr1.push ?_ (by omega) _)) (by simp -implicitDefEqProofs only [push_cast, sevalprocAttr, eq_self, hbk]) (SP.refl _ _ _) c.s2
set_option maxHeartbeats 1000000 in
theorem f144'A {env : Nat → AV} {h h0 : Hp} {Q : AEx → St → Prop} {id : Id} {n a m s mid e b : Nat} {f : AV} {key : Int → Int} {dom : Int → Prop} {D : Nat → Int} {post : (Nat → Int) → Prop} (e0 : env 0 = .sl id 0 n 1) (e1 : env 1 = i64 a) (e2 : env 2 = i64 m) (e3 : env 3 = i64 b) (e4 : env 4 = f) (e18 : env 18 = i64 mid) (e20 : env 20 = i64 s) (e24 : env 24 = i64 e)
 (hn : n ≤ 1000000) (hc : ∀ g, Fr1 id h0 g → CmpAt Try.prog f key dom g) (hi : id.1 ≤ h0.ep) (hx : Fr1 id h0 h) (hbk : h.hp id = some ⟨true, arrC n D⟩) (a1 : a ≤ s) (a2 : s ≤ mid) (b1 : mid ≤ e) (b2 : e ≤ b) (b3 : b ≤ n) (m1 : s ≤ m) (m2 : m ≤ e) (hdom : ∀ k, k < n → dom (D k)) (c : Cut key (rotS D s m e) a s mid e b)
 {N : Nat} (hN : b - mid < N) (hN2 : mid - a < N) (ih : MergeC f key dom id n fun a m b => b - a < N) (hp : ∀ d, SP (rotS D s m e) d a b → srt key d a b → post d)
 (hQ : ∀ env' h' d, Fr1 id h0 h' → h'.hp id = some ⟨true, arrC n d⟩ → post d → Q .normal ⟨env', h'⟩) : awp Try.prog mergeA Q ⟨env, h⟩ := by
 have e10 : True := trivial; have e11 : True := trivial; have e12 : True := trivial; have e13 : True := trivial; have e14 : True := trivial; have e15 : True := trivial; have e16 : True := trivial; have e17 : True := trivial; have e19 : True := trivial; have e21 : True := trivial; have e22 : True := trivial; have e23 : True := trivial
 unfold mergeA
 have hle := hx.ep
 have hdom1 : ∀ k, k < n → dom (rotS D s m e k) := fun k hk => (SP.rotIn D (a := 0) (b := n) (s := s) (m := m) (e := e) (by omega) (by omega) (by omega) (by omega)).all (Q := dom) (fun k _ hk => hdom k hk) k (by omega) hk
 by_cases c1 : s < m
 · have hd1 : decide ((s : Int) < (m : Int)) = true := dT (by omega)
   by_cases c2 : m < e
   · have hd2 : decide ((m : Int) < (e : Int)) = true := dT (by omega)
     repeat' (first | ((try clear hf); with_reducible refine yD fun env K hE hK hf => ?_; have n := cj20 hE 0 1 2 3 4 10 11 12 13 14 15 16 17 18 19 20 21 22 23 24; simp -implicitDefEqProofs only [push_cast, reduceIte, Nat.reduceEqDiff, e0, e1, e2, e3, e4, e10, e11, e12, e13, e14, e15, e16, e17, e18, e19, e20, e21, e22, e23, e24] at n; clear hE e0 e1 e2 e3 e4 e10 e11 e12 e13 e14 e15 e16 e17 e18 e19 e20 e21 e22 e23 e24; obtain ⟨e0, e1, e2, e3, e4, e10, e11, e12, e13, e14, e15, e16, e17, e18, e19, e20, e21, e22, e23, e24⟩ := n) | (with_reducible first | (refine hK _ _ ?_; clear hK K) | (refine Zi ?_; constructor) | refine yB (by decide) ?_ | refine yH (by assumption) ?_ | refine yJ (by assumption) ?_) | (refine yC rfl ?_) | (simp -implicitDefEqProofs only [push_cast, sevalprocAttr, eq_self, e0, e1, e2, e3, e4, e10, e11, e12, e13, e14, e15, e16, e17, e18, e19, e20, e21, e22, e23, e24, hd1, hd2]) | (simp (disch := omega) only [yF, yK, yG, yL, hd1, hd2]) | (with_reducible refine yM ?_ ?_) | ((first | refine yE rfl (fun bb => ?_) (fun bb => ?_) | with_reducible refine yI (fun bb => ?_) (fun bb => ?_)) <;> (first | have bp := oT bb | have bp := oF bb | skip) <;> try simp only [bb]) | ((with_reducible refine And.intro ?_ ?_); omega) | (refine qH (HC.mono (f162 (d := D) (by simp -implicitDefEqProofs only [push_cast, sevalprocAttr, eq_self, hbk]) (by simp -implicitDefEqProofs only [push_cast, sevalprocAttr, eq_self]; omega) hn c1 c2 (by omega)) ?_); rintro r g ⟨rfl, hg, D', hb', rfl⟩ hF'))
     exact f144'B e0 e1 e3 e4 e18 e20 e24 hn hc hi (Fr1.trans (by repeat (first | assumption | exact Fr1.refl _ _ | refine Fr1.tick ?_ | refine Fr1.put ?_ _ | refine Fr1.push ?_ (by omega) _)) hg).tick hb' a1 a2 b1 b2 b3 hdom1 c hN hN2 ih hp hQ
   · have hd2 : decide ((m : Int) < (e : Int)) = false := dF (by omega)
     obtain rfl : m = e := by omega
     rw [rot_id3 D (by omega)] at c hp hdom1
     repeat' (first | ((try clear hf); with_reducible refine yD fun env K hE hK hf => ?_; have n := cj20 hE 0 1 2 3 4 10 11 12 13 14 15 16 17 18 19 20 21 22 23 24; simp -implicitDefEqProofs only [push_cast, reduceIte, Nat.reduceEqDiff, e0, e1, e2, e3, e4, e10, e11, e12, e13, e14, e15, e16, e17, e18, e19, e20, e21, e22, e23, e24] at n; clear hE e0 e1 e2 e3 e4 e10 e11 e12 e13 e14 e15 e16 e17 e18 e19 e20 e21 e22 e23 e24; obtain ⟨e0, e1, e2, e3, e4, e10, e11, e12, e13, e14, e15, e16, e17, e18, e19, e20, e21, e22, e23, e24⟩ := n) | (with_reducible first | (refine hK _ _ ?_; clear hK K) | (refine Zi ?_; constructor) | refine yB (by decide) ?_ | refine yH (by assumption) ?_ | refine yJ (by assumption) ?_) | (refine yC rfl ?_) | (simp -implicitDefEqProofs only [push_cast, sevalprocAttr, eq_self, e0, e1, e2, e3, e4, e10, e11, e12, e13, e14, e15, e16, e17, e18, e19, e20, e21, e22, e23, e24, hd1, hd2]) | (simp (disch := omega) only [yF, yK, yG, yL, hd1, hd2]) | (with_reducible refine yM ?_ ?_) | ((first | refine yE rfl (fun bb => ?_) (fun bb => ?_) | with_reducible refine yI (fun bb => ?_) (fun bb => ?_)) <;> (first | have bp := oT bb | have bp := oF bb | skip) <;> try simp only [bb]) | ((with_reducible refine And.intro ?_ ?_); omega))
     exact f144'B e0 e1 e3 e4 e18 e20 e24 hn hc hi (by repeat (first | assumption | exact Fr1.refl _ _ | refine Fr1.tick ?_ | refine Fr1.put ?_ _ | refine Fr1.push ?_ (by omega) _)) (by simp -implicitDefEqProofs only [push_cast, sevalprocAttr, eq_self, hbk]) a1 a2 b1 b2 b3 hdom1 c hN hN2 ih hp hQ
 · have hd1 : decide ((s : Int) < (m : Int)) = false := dF (by omega)
   obtain rfl : s = m := by omega
   rw [rot_id2 D (by omega)] at c hp hdom1
   repeat' (first | ((try clear hf); with_reducible refine yD fun env K hE hK hf => ?_; have n := cj20 hE 0 1 2 3 4 10 11 12 13 14 15 16 17 18 19 20 21 22 23 24; simp -implicitDefEqProofs only [push_cast, reduceIte, Nat.reduceEqDiff, e0, e1, e2, e3, e4, e10, e11, e12, e13, e14, e15, e16, e17, e18, e19, e20, e21, e22, e23, e24] at n; clear hE e0 e1 e2 e3 e4 e10 e11 e12 e13 e14 e15 e16 e17 e18 e19 e20 e21 e22 e23 e24; obtain ⟨e0, e1, e2, e3, e4, e10, e11, e12, e13, e14, e15, e16, e17, e18, e19, e20, e21, e22, e23, e24⟩ := n) | (with_reducible first | (refine hK _ _ ?_; clear hK K) | (refine Zi ?_; constructor) | refine yB (by decide) ?_ | refine yH (by assumption) ?_ | refine yJ (by assumption) ?_) | (refine yC rfl ?_) | (simp -implicitDefEqProofs only [push_cast, sevalprocAttr, eq_self, e0, e1, e2, e3, e4, e10, e11, e12, e13, e14, e15, e16, e17, e18, e19, e20, e21, e22, e23, e24, hd1]) | (simp (disch := omega) only [yF, yK, yG, yL, hd1]) | (with_reducible refine yM ?_ ?_) | ((first | refine yE rfl (fun bb => ?_) (fun bb => ?_) | with_reducible refine yI (fun bb => ?_) (fun bb => ?_)) <;> (first | have bp := oT bb | have bp := oF bb | skip) <;> try simp only [bb]) | ((with_reducible refine And.intro ?_ ?_); omega))
   exact f144'B e0 e1 e3 e4 e18 e20 e24 hn hc hi (by repeat (first | assumption | exact Fr1.refl _ _ | refine Fr1.tick ?_ | refine Fr1.put ?_ _ | refine Fr1.push ?_ (by omega) _)) (by simp -implicitDefEqProofs only [push_cast, sevalprocAttr, eq_self, hbk]) a1 a2 b1 b2 b3 hdom1 c hN hN2 ih hp hQ
def mergeM : ACode := .seq (.ops r144_32 []) (.seq (.block 8 (.loop l144_4)) (.seq (.ops r144_38 []) mergeA))
theorem merge_code : ac144 = (.seq (.seq (.ops r144_0 []) (.cond (.t 28) (.seq (.ops r144_1 []) (.seq (.ops r144_2 []) (.seq (.block 0 (.loop l144_0)) (.seq (.seq (.ops r144_8 []) (.block 2 (.loop l144_1))) .ret)))) .skip)) (.seq (.seq (.ops r144_12 []) (.cond (.t 80) (.seq (.ops r144_13 []) (.seq (.ops r144_14 []) (.seq (.block 4 (.loop l144_2)) (.seq (.seq (.ops r144_20 []) (.block 6 (.loop l144_3))) .ret)))) .skip)) (.seq (.ops r144_24 []) (.seq (.ops r144_25 []) (.seq (.ops r144_26 []) (.seq (.seq (.ops r144_27 []) (.cond (.t 140) (.seq (.ops r144_28 []) (.ops r144_29 [])) (.seq (.ops r144_30 []) (.ops r144_31 [])))) mergeM)))))) := rfl
attribute [local irreducible] mergeM mergeA
set_option maxHeartbeats 1000000 in
theorem f144'g {id : Id} {n : Nat} {f : AV} {key : Int → Int} {dom : Int → Prop} (hn : n ≤ 1000000) (hkey : ∀ x, dom x → -1000000 ≤ key x ∧ key x ≤ 1000000) {N : Nat} (ih : MergeC f key dom id n fun a m b => b - a < N) : MergeC f key dom id n fun a m b => m ≠ a + 1 ∧ b ≠ m + 1 ∧ b - a ≤ N := by
 intro h0 D a m b hm hc hb hi h1 h2 h3 hdom hs1 hs2 htie
 obtain ⟨hm, hbm, hN⟩ := hm
 refine qJ qM cf144 (by simp) fun hF => ?_
 rw [merge_code]
 unfold re144
 refine yN fun env hE => ?_; obtain ⟨e0, e1, e2, e3, e4, e10, e11, e12, e13, e14, e15, e16, e17, e18, e19, e20, e21, e22, e23, e24⟩ := cj20 hE 0 1 2 3 4 10 11 12 13 14 15 16 17 18 19 20 21 22 23 24; simp -implicitDefEqProofs only [push_cast] at e0 e1 e2 e3 e4 e10 e11 e12 e13 e14 e15 e16 e17 e18 e19 e20 e21 e22 e23 e24; clear hE
 have hd : decide ((m : Int) - (a : Int) = 1) = false := dF (by omega)
 have hd2 : decide ((b : Int) - (m : Int) = 1) = false := dF (by omega)
 obtain ⟨mid, hmid⟩ : ∃ c, c = (a + b) / 2 := ⟨_, rfl⟩
 obtain ⟨hh1, hh2⟩ := half_eq hmid (by omega)
 obtain ⟨s0, hs0⟩ : ∃ s, s = if mid < m then mid + m - b else a := ⟨_, rfl⟩
 obtain ⟨r0, hr0⟩ : ∃ s, s = if mid < m then mid else m := ⟨_, rfl⟩
 have main : ∀ (env : Nat → AV) (h : Hp), env 0 = .sl id 0 n 1 → env 1 = i64 a → env 2 = i64 m → env 3 = i64 b → env 4 = f → env 18 = i64 mid → env 19 = i64 ((mid + m : Nat) : Int) → env 20 = i64 s0 → env 21 = i64 r0 → Fr1 id h0 h → h.hp id = some ⟨true, arrC n D⟩ →
  awp Try.prog mergeM (PostF [] (SortQ h0 id n fun d' => SP D d' a b ∧ srt key d' a b)) ⟨env, h⟩ := by
  intro env h e0 e1 e2 e3 e4 e18 e19 e20 e21 hx hbk
  have e10 : True := trivial; have e11 : True := trivial; have e12 : True := trivial; have e13 : True := trivial; have e14 : True := trivial; have e15 : True := trivial; have e16 : True := trivial; have e17 : True := trivial; have e22 : True := trivial; have e23 : True := trivial; have e24 : True := trivial
  unfold mergeM
  have hle := hx.ep
  repeat' (first | ((try clear hf); with_reducible refine yD fun env K hE hK hf => ?_; have n := cj20 hE 0 1 2 3 4 10 11 12 13 14 15 16 17 18 19 20 21 22 23 24; simp -implicitDefEqProofs only [push_cast, reduceIte, Nat.reduceEqDiff, e0, e1, e2, e3, e4, e10, e11, e12, e13, e14, e15, e16, e17, e18, e19, e20, e21, e22, e23, e24] at n; clear hE e0 e1 e2 e3 e4 e10 e11 e12 e13 e14 e15 e16 e17 e18 e19 e20 e21 e22 e23 e24; obtain ⟨e0, e1, e2, e3, e4, e10, e11, e12, e13, e14, e15, e16, e17, e18, e19, e20, e21, e22, e23, e24⟩ := n) | (with_reducible first | (refine hK _ _ ?_; clear hK K) | (refine Zi ?_; constructor) | refine yB (by decide) ?_ | refine yH (by assumption) ?_ | refine yJ (by assumption) ?_) | (refine yC rfl ?_) | (simp -implicitDefEqProofs only [push_cast, sevalprocAttr, eq_self, e0, e1, e2, e3, e4, e10, e11, e12, e13, e14, e15, e16, e17, e18, e19, e20, e21, e22, e23, e24]) | (simp (disch := omega) only [yF, yK, yG, yL]) | (with_reducible refine yM ?_ ?_) | ((first | refine yE rfl (fun bb => ?_) (fun bb => ?_) | with_reducible refine yI (fun bb => ?_) (fun bb => ?_)) <;> (first | have bp := oT bb | have bp := oF bb | skip) <;> try simp only [bb]) | ((with_reducible refine And.intro ?_ ?_); omega))
  refine yN fun env hE => ?_; have n := cj20 hE 0 1 2 3 4 10 11 12 13 14 15 16 17 18 19 20 21 22 23 24; simp -implicitDefEqProofs only [push_cast, reduceIte, Nat.reduceEqDiff, e0, e1, e2, e3, e4, e10, e11, e12, e13, e14, e15, e16, e17, e18, e19, e20, e21, e22, e23, e24] at n; clear hE e0 e1 e2 e3 e4 e10 e11 e12 e13 e14 e15 e16 e17 e18 e19 e20 e21 e22 e23 e24; obtain ⟨e0, e1, e2, e3, e4, e10, e11, e12, e13, e14, e15, e16, e17, e18, e19, e20, e21, e22, e23, e24⟩ := n; have E144_4_0 := e0; have E144_4_1 := e1; have E144_4_2 := e2; have E144_4_3 := e3; have E144_4_4 := e4; have E144_4_10 := e10; have E144_4_11 := e11; have E144_4_12 := e12; have E144_4_13 := e13; have E144_4_14 := e14; have E144_4_15 := e15; have E144_4_16 := e16; have E144_4_17 := e17; have E144_4_18 := e18; have E144_4_19 := e19; have E144_4_22 := e22
  refine qC (fun nn σ => ∃ (s r : Nat), nn = r - s ∧ σ.env 0 = env 0 ∧ σ.env 1 = env 1 ∧ σ.env 2 = env 2 ∧ σ.env 3 = env 3 ∧ σ.env 4 = env 4 ∧ σ.env 10 = env 10 ∧ σ.env 11 = env 11 ∧ σ.env 12 = env 12 ∧ σ.env 13 = env 13 ∧ σ.env 14 = env 14 ∧ σ.env 15 = env 15 ∧ σ.env 16 = env 16 ∧ σ.env 17 = env 17 ∧ σ.env 18 = env 18 ∧ σ.env 19 = env 19 ∧ σ.env 22 = env 22 ∧ σ.env 20 = i64 s ∧ σ.env 21 = i64 r ∧ (s0 ≤ s ∧ s ≤ r ∧ r ≤ r0 ∧ (s0 < s → ¬ key (D (s - 1)) < key (D (mid + m - 1 - (s - 1)))) ∧ (r < r0 → key (D r) < key (D (mid + m - 1 - r))) ∧ σ.h.hp id = some ⟨true, arrC n D⟩ ∧ Fr1 id h0 σ.h)) _ ⟨s0, r0, rfl, rfl, rfl, rfl, rfl, rfl, rfl, rfl, rfl, rfl, rfl, rfl, rfl, rfl, rfl, rfl, rfl, by refine e20.trans ?_; first | rfl | exact yP (by omega) | (simp -implicitDefEqProofs (disch := omega) only [yL]; first | rfl | exact yP (by omega)), by refine e21.trans ?_; first | rfl | exact yP (by omega) | (simp -implicitDefEqProofs (disch := omega) only [yL]; first | rfl | exact yP (by omega)), ?_⟩ ?_
  · exact ⟨by omega, by split at hs0 <;> split at hr0 <;> omega, by omega, fun h => by omega, fun h => by omega, by simp -implicitDefEqProofs only [push_cast, sevalprocAttr, eq_self, hbk], (by repeat (first | assumption | exact Fr1.refl _ _ | refine Fr1.tick ?_ | refine Fr1.put ?_ _ | refine Fr1.push ?_ (by omega) _))⟩
  clear e0 e1 e2 e3 e4 e10 e11 e12 e13 e14 e15 e16 e17 e18 e19 e20 e21 e22 e23 e24; rintro nn ⟨env, h⟩ ⟨s, r, rfl, q0, q1, q2, q3, q4, q10, q11, q12, q13, q14, q15, q16, q17, q18, q19, q22, e20, e21, hI⟩; simp only at q0 q1 q2 q3 q4 q10 q11 q12 q13 q14 q15 q16 q17 q18 q19 q22 e20 e21 hI; (first | have e0 := q0.trans E144_4_0 | have e0 := True.intro); (first | have e1 := q1.trans E144_4_1 | have e1 := True.intro); (first | have e2 := q2.trans E144_4_2 | have e2 := True.intro); (first | have e3 := q3.trans E144_4_3 | have e3 := True.intro); (first | have e4 := q4.trans E144_4_4 | have e4 := True.intro); (first | have e10 := q10.trans E144_4_10 | have e10 := True.intro); (first | have e11 := q11.trans E144_4_11 | have e11 := True.intro); (first | have e12 := q12.trans E144_4_12 | have e12 := True.intro); (first | have e13 := q13.trans E144_4_13 | have e13 := True.intro); (first | have e14 := q14.trans E144_4_14 | have e14 := True.intro); (first | have e15 := q15.trans E144_4_15 | have e15 := True.intro); (first | have e16 := q16.trans E144_4_16 | have e16 := True.intro); (first | have e17 := q17.trans E144_4_17 | have e17 := True.intro); (first | have e18 := q18.trans E144_4_18 | have e18 := True.intro); (first | have e19 := q19.trans E144_4_19 | have e19 := True.intro); (first | have e22 := q22.trans E144_4_22 | have e22 := True.intro); clear q0 q1 q2 q3 q4 q10 q11 q12 q13 q14 q15 q16 q17 q18 q19 q22; have e23 := True.intro; have e24 := True.intro
  obtain ⟨i1, i2, i3, i4, i5, hbk, hx⟩ := hI
  unfold l144_4
  (first | refine yS fun hF => ?_ | refine yY fun hF => ?_ | refine yX fun hF => ?_)
  have hle := hx.ep
  have hrm : r0 ≤ m ∧ r0 ≤ mid ∧ a ≤ s0 ∧ mid + m ≤ s0 + b ∧ m ≤ mid + m - r0 ∧ mid ≤ mid + m - r0 := by split at hs0 <;> split at hr0 <;> omega
  by_cases hlt : s < r
  · have hd : decide ((s : Int) < (r : Int)) = true := dT (by omega)
    obtain ⟨c, hcc⟩ : ∃ c, c = (s + r) / 2 := ⟨_, rfl⟩
    obtain ⟨hh3, hh4⟩ := half_eq hcc (by omega)
    have ht1 : ((mid : Int) + (m : Int) - 1 - (c : Int)).toNat = mid + m - 1 - c := by omega
    have ht2 : (((mid + m - 1 : Nat) : Int) - (c : Int)).toNat = mid + m - 1 - c := by omega
    have hv1 := YJ (n := n) D (k := c) (by omega)
    have hv2 := YJ (n := n) D (k := mid + m - 1 - c) (by omega)
    have k1 := hkey _ (hdom c (by omega))
    have k2 := hkey _ (hdom (mid + m - 1 - c) (by omega))
    by_cases hw : key (D c) < key (D (mid + m - 1 - c))
    · have hd2 : decide (key (D c) - key (D (mid + m - 1 - c)) < 0) = true := dT (by omega)
      repeat' (first | ((try clear hf); with_reducible refine yD fun env K hE hK hf => ?_; have n := cj20 hE 0 1 2 3 4 10 11 12 13 14 15 16 17 18 19 20 21 22 23 24; simp -implicitDefEqProofs only [push_cast, reduceIte, Nat.reduceEqDiff, e0, e1, e2, e3, e4, e10, e11, e12, e13, e14, e15, e16, e17, e18, e19, e20, e21, e22, e23, e24] at n; clear hE e0 e1 e2 e3 e4 e10 e11 e12 e13 e14 e15 e16 e17 e18 e19 e20 e21 e22 e23 e24; obtain ⟨e0, e1, e2, e3, e4, e10, e11, e12, e13, e14, e15, e16, e17, e18, e19, e20, e21, e22, e23, e24⟩ := n) | (with_reducible first | (refine hK _ _ ?_; clear hK K) | (refine Zi ?_; constructor) | refine yB (by decide) ?_ | refine yH (by assumption) ?_ | refine yJ (by assumption) ?_) | (refine yC rfl ?_) | (simp -implicitDefEqProofs only [push_cast, sevalprocAttr, eq_self, e0, e1, e2, e3, e4, e10, e11, e12, e13, e14, e15, e16, e17, e18, e19, e20, e21, e22, e23, e24, hd, hd2, hbk, YH, hh3, hh4, hv1, hv2, ht1, ht2]) | (simp (disch := omega) only [yF, yK, yG, yL, hd, hd2, hbk, YH, hh3, hh4, hv1, hv2, ht1, ht2]) | (with_reducible refine yM ?_ ?_) | ((first | refine yE rfl (fun bb => ?_) (fun bb => ?_) | with_reducible refine yI (fun bb => ?_) (fun bb => ?_)) <;> (first | have bp := oT bb | have bp := oF bb | skip) <;> try simp only [bb]) | ((with_reducible refine And.intro ?_ ?_); omega) | (refine uS hc (by repeat (first | assumption | exact Fr1.refl _ _ | refine Fr1.tick ?_ | refine Fr1.put ?_ _ | refine Fr1.push ?_ (by omega) _)) (hdom _ (by omega)) (hdom _ (by omega)) ?_))
      refine ⟨_, ?_, s, c, rfl, E144_4_0.symm, E144_4_1.symm, E144_4_2.symm, E144_4_3.symm, E144_4_4.symm, E144_4_10.symm, E144_4_11.symm, E144_4_12.symm, E144_4_13.symm, E144_4_14.symm, E144_4_15.symm, E144_4_16.symm, E144_4_17.symm, E144_4_18.symm, E144_4_19.symm, E144_4_22.symm, by first | rfl | exact yP (by omega) | (simp only [hh3, hh4]; exact yP (by omega)) | (simp -implicitDefEqProofs (disch := omega) only [yL]; first | rfl | exact yP (by omega)), by first | rfl | exact yP (by omega) | (simp only [hh3, hh4]; exact yP (by omega)) | (simp -implicitDefEqProofs (disch := omega) only [yL]; first | rfl | exact yP (by omega)), ?_⟩
      · omega
      · exact ⟨by omega, by omega, by omega, i4, fun _ => hw, (by repeat (first | assumption | exact Fr1.refl _ _ | refine Fr1.tick ?_ | refine Fr1.put ?_ _ | refine Fr1.push ?_ (by omega) _))⟩
    · have hd2 : decide (key (D c) - key (D (mid + m - 1 - c)) < 0) = false := dF (by omega)
      repeat' (first | ((try clear hf); with_reducible refine yD fun env K hE hK hf => ?_; have n := cj20 hE 0 1 2 3 4 10 11 12 13 14 15 16 17 18 19 20 21 22 23 24; simp -implicitDefEqProofs only [push_cast, reduceIte, Nat.reduceEqDiff, e0, e1, e2, e3, e4, e10, e11, e12, e13, e14, e15, e16, e17, e18, e19, e20, e21, e22, e23, e24] at n; clear hE e0 e1 e2 e3 e4 e10 e11 e12 e13 e14 e15 e16 e17 e18 e19 e20 e21 e22 e23 e24; obtain ⟨e0, e1, e2, e3, e4, e10, e11, e12, e13, e14, e15, e16, e17, e18, e19, e20, e21, e22, e23, e24⟩ := n) | (with_reducible first | (refine hK _ _ ?_; clear hK K) | (refine Zi ?_; constructor) | refine yB (by decide) ?_ | refine yH (by assumption) ?_ | refine yJ (by assumption) ?_) | (refine yC rfl ?_) | (simp -implicitDefEqProofs only [push_cast, sevalprocAttr, eq_self, e0, e1, e2, e3, e4, e10, e11, e12, e13, e14, e15, e16, e17, e18, e19, e20, e21, e22, e23, e24, hd, hd2, hbk, YH, hh3, hh4, hv1, hv2, ht1, ht2]) | (simp (disch := omega) only [yF, yK, yG, yL, hd, hd2, hbk, YH, hh3, hh4, hv1, hv2, ht1, ht2]) | (with_reducible refine yM ?_ ?_) | ((first | refine yE rfl (fun bb => ?_) (fun bb => ?_) | with_reducible refine yI (fun bb => ?_) (fun bb => ?_)) <;> (first | have bp := oT bb | have bp := oF bb | skip) <;> try simp only [bb]) | ((with_reducible refine And.intro ?_ ?_); omega) | (refine uS hc (by repeat (first | assumption | exact Fr1.refl _ _ | refine Fr1.tick ?_ | refine Fr1.put ?_ _ | refine Fr1.push ?_ (by omega) _)) (hdom _ (by omega)) (hdom _ (by omega)) ?_))
      refine ⟨_, ?_, c + 1, r, rfl, E144_4_0.symm, E144_4_1.symm, E144_4_2.symm, E144_4_3.symm, E144_4_4.symm, E144_4_10.symm, E144_4_11.symm, E144_4_12.symm, E144_4_13.symm, E144_4_14.symm, E144_4_15.symm, E144_4_16.symm, E144_4_17.symm, E144_4_18.symm, E144_4_19.symm, E144_4_22.symm, by first | rfl | exact yP (by omega) | (simp only [hh3, hh4]; exact yP (by omega)) | (simp -implicitDefEqProofs (disch := omega) only [yL]; first | rfl | exact yP (by omega)), by first | rfl | exact yP (by omega) | (simp only [hh3, hh4]; exact yP (by omega)) | (simp -implicitDefEqProofs (disch := omega) only [yL]; first | rfl | exact yP (by omega)), ?_⟩
      · omega
      · exact ⟨by omega, by omega, by omega, fun _ => hw, i5, (by repeat (first | assumption | exact Fr1.refl _ _ | refine Fr1.tick ?_ | refine Fr1.put ?_ _ | refine Fr1.push ?_ (by omega) _))⟩
  · have hd : decide ((s : Int) < (r : Int)) = false := dF (by omega)
    obtain rfl : s = r := by omega
    have he : IntKind.wrap .i64 ((mid + m : Nat) - (s : Int)) = ((mid + m - s : Nat) : Int) := by rw [qS (by omega) (by omega)]; omega
    have he2 : IntKind.wrap .i64 ((mid : Int) + (m : Int) - (s : Int)) = ((mid + m - s : Nat) : Int) := by rw [qS (by omega) (by omega)]; omega
    repeat' (first | ((try clear hf); with_reducible refine yD fun env K hE hK hf => ?_; have n := cj20 hE 0 1 2 3 4 10 11 12 13 14 15 16 17 18 19 20 21 22 23 24; simp -implicitDefEqProofs only [push_cast, reduceIte, Nat.reduceEqDiff, e0, e1, e2, e3, e4, e10, e11, e12, e13, e14, e15, e16, e17, e18, e19, e20, e21, e22, e23, e24] at n; clear hE e0 e1 e2 e3 e4 e10 e11 e12 e13 e14 e15 e16 e17 e18 e19 e20 e21 e22 e23 e24; obtain ⟨e0, e1, e2, e3, e4, e10, e11, e12, e13, e14, e15, e16, e17, e18, e19, e20, e21, e22, e23, e24⟩ := n) | (with_reducible first | (refine hK _ _ ?_; clear hK K) | (refine Zi ?_; constructor) | refine yB (by decide) ?_ | refine yH (by assumption) ?_ | refine yJ (by assumption) ?_) | (refine yC rfl ?_) | (simp -implicitDefEqProofs only [push_cast, sevalprocAttr, eq_self, e0, e1, e2, e3, e4, e10, e11, e12, e13, e14, e15, e16, e17, e18, e19, e20, e21, e22, e23, e24, hd]) | (simp (disch := omega) only [yF, yK, yG, yL, hd]) | (with_reducible refine yM ?_ ?_) | ((first | refine yE rfl (fun bb => ?_) (fun bb => ?_) | with_reducible refine yI (fun bb => ?_) (fun bb => ?_)) <;> (first | have bp := oT bb | have bp := oF bb | skip) <;> try simp only [bb]) | ((with_reducible refine And.intro ?_ ?_); omega))
    refine f144'A (post := fun d' => SP D d' a b ∧ srt key d' a b) (s := s) (e := mid + m - s) e0 e1 e2 e3 e4 e18 e20 (by simp -implicitDefEqProofs only [push_cast, sevalprocAttr, eq_self]; exact yP (by omega)) hn hc hi (by repeat (first | assumption | exact Fr1.refl _ _ | refine Fr1.tick ?_ | refine Fr1.put ?_ _ | refine Fr1.push ?_ (by omega) _)) (by simp -implicitDefEqProofs only [push_cast, sevalprocAttr, eq_self, hbk]) (by omega) (by omega) (by omega) (by omega) h3 (by omega) (by omega) hdom (cut_ok hs1 hs2 htie (by omega) (by omega) (by omega) (by omega) (by omega) (by omega) (by omega) (fun q1 q2 => ?_) (fun q1 q2 => ?_)) (by omega) (by omega) ih (fun d q1 q2 => ⟨(SP.rotIn D (by omega) (by omega) (by omega) (by omega)).trans q1, q2⟩) ?_
    · have h4 : s0 < s := by split at hs0 <;> omega
      have h5 := i4 h4
      rw [show mid + m - 1 - (s - 1) = mid + m - s by omega] at h5
      exact tie_l htie (by omega) (by omega) (by omega) q2 h5
    · have h4 : s < r0 := by split at hr0 <;> omega
      have h5 := i5 h4
      rw [show mid + m - 1 - s = mid + m - s - 1 by omega] at h5
      exact tie_r h5
    · intro env' h' d g1 g2 g3
      exact PostF_n_i ⟨rfl, g1, d, g2, g3⟩
 by_cases c1 : mid < m
 · have hd3 : decide ((mid : Int) < (m : Int)) = true := dT (by omega)
   rw [if_pos c1] at hs0 hr0
   repeat' (first | ((try clear hf); with_reducible refine yD fun env K hE hK hf => ?_; have n := cj20 hE 0 1 2 3 4 10 11 12 13 14 15 16 17 18 19 20 21 22 23 24; simp -implicitDefEqProofs only [push_cast, reduceIte, Nat.reduceEqDiff, e0, e1, e2, e3, e4, e10, e11, e12, e13, e14, e15, e16, e17, e18, e19, e20, e21, e22, e23, e24] at n; clear hE e0 e1 e2 e3 e4 e10 e11 e12 e13 e14 e15 e16 e17 e18 e19 e20 e21 e22 e23 e24; obtain ⟨e0, e1, e2, e3, e4, e10, e11, e12, e13, e14, e15, e16, e17, e18, e19, e20, e21, e22, e23, e24⟩ := n) | (with_reducible first | (refine hK _ _ ?_; clear hK K) | (refine Zi ?_; constructor) | refine yB (by decide) ?_ | refine yH (by assumption) ?_ | refine yJ (by assumption) ?_) | (refine yC rfl ?_) | (simp -implicitDefEqProofs only [push_cast, sevalprocAttr, eq_self, e0, e1, e2, e3, e4, e10, e11, e12, e13, e14, e15, e16, e17, e18, e19, e20, e21, e22, e23, e24, hd, hd2, hd3, YH, hh1, hh2]) | (simp (disch := omega) only [yF, yK, yG, yL, hd, hd2, hd3, YH, hh1, hh2]) | (with_reducible refine yM ?_ ?_) | ((first | refine yE rfl (fun bb => ?_) (fun bb => ?_) | with_reducible refine yI (fun bb => ?_) (fun bb => ?_)) <;> (first | have bp := oT bb | have bp := oF bb | skip) <;> try simp only [bb]) | ((with_reducible refine And.intro ?_ ?_); omega) | (refine main _ _ e0 e1 e2 e3 e4 ?_ ?_ ?_ ?_ ?_ ?_))
   all_goals first | exact yP (by omega) | exact hb | exact (by repeat (first | assumption | exact Fr1.refl _ _ | refine Fr1.tick ?_ | refine Fr1.put ?_ _ | refine Fr1.push ?_ (by omega) _))
 · have hd3 : decide ((mid : Int) < (m : Int)) = false := dF (by omega)
   rw [if_neg c1] at hs0 hr0
   repeat' (first | ((try clear hf); with_reducible refine yD fun env K hE hK hf => ?_; have n := cj20 hE 0 1 2 3 4 10 11 12 13 14 15 16 17 18 19 20 21 22 23 24; simp -implicitDefEqProofs only [push_cast, reduceIte, Nat.reduceEqDiff, e0, e1, e2, e3, e4, e10, e11, e12, e13, e14, e15, e16, e17, e18, e19, e20, e21, e22, e23, e24] at n; clear hE e0 e1 e2 e3 e4 e10 e11 e12 e13 e14 e15 e16 e17 e18 e19 e20 e21 e22 e23 e24; obtain ⟨e0, e1, e2, e3, e4, e10, e11, e12, e13, e14, e15, e16, e17, e18, e19, e20, e21, e22, e23, e24⟩ := n) | (with_reducible first | (refine hK _ _ ?_; clear hK K) | (refine Zi ?_; constructor) | refine yB (by decide) ?_ | refine yH (by assumption) ?_ | refine yJ (by assumption) ?_) | (refine yC rfl ?_) | (simp -implicitDefEqProofs only [push_cast, sevalprocAttr, eq_self, e0, e1, e2, e3, e4, e10, e11, e12, e13, e14, e15, e16, e17, e18, e19, e20, e21, e22, e23, e24, hd, hd2, hd3, YH, hh1, hh2]) | (simp (disch := omega) only [yF, yK, yG, yL, hd, hd2, hd3, YH, hh1, hh2]) | (with_reducible refine yM ?_ ?_) | ((first | refine yE rfl (fun bb => ?_) (fun bb => ?_) | with_reducible refine yI (fun bb => ?_) (fun bb => ?_)) <;> (first | have bp := oT bb | have bp := oF bb | skip) <;> try simp only [bb]) | ((with_reducible refine And.intro ?_ ?_); omega) | (refine main _ _ e0 e1 e2 e3 e4 ?_ ?_ ?_ ?_ ?_ ?_))
   all_goals first | exact yP (by omega) | exact hb | exact (by repeat (first | assumption | exact Fr1.refl _ _ | refine Fr1.tick ?_ | refine Fr1.put ?_ _ | refine Fr1.push ?_ (by omega) _))
end Go.Proofs.Hx
