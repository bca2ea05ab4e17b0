import Derived.Test.YtdpaimmheoconaaG6
import Derived.Test.YtdpaimmheoconaaG5
set_option linter.unusedVariables false
set_option linter.unusedSimpArgs false
namespace Go.Proofs.Hx
open Go Go.Proofs
attribute [local irreducible] yR awp opK goV goM qB yW qE yT HV HVF HC
def useN (l : List Opn) (t : Tab) (cs : List Int) : Nat → Int → Int → Int
 | 0, _, _ => 0
 | k + 1, c, y => useN l t cs k c y + if c = (clsN (opAt l k) : Int) ∧ cs.getD k 0 ≤ y ∧ y < cs.getD k 0 + t.b (clsN (opAt l k)) then 1 else 0
theorem useN_bnd (l : List Opn) (t : Tab) (cs : List Int) : ∀ (k : Nat) (c y : Int), 0 ≤ useN l t cs k c y ∧ useN l t cs k c y ≤ k
 | 0, c, y => by simp [useN]
 | k + 1, c, y => by
   have := useN_bnd l t cs k c y
   simp only [useN]
   split <;> omega
def roomK (l : List Opn) (t : Tab) (cs : List Int) (k : Nat) : Prop := ∀ j : Nat, (j : Int) < t.b (clsN (opAt l k)) → useN l t cs k (clsN (opAt l k)) (cs.getD k 0 + j) + 1 ≤ t.u (clsN (opAt l k))
def checkP (l : List Opn) (t : Tab) (cs : List Int) : Prop := errR l t = 0 ∧ WP l t = false ∧ cs.length = l.length ∧ (∀ x ∈ cs, 0 ≤ x ∧ x ≤ 65536) ∧ ∀ k < l.length, wC (inE (YP l t l.length) k) cs (cs.getD k 0) = true ∧ roomK l t cs k
open Classical in
noncomputable def uU (l : List Opn) (t : Tab) (cs : List Int) : Bool := decide (checkP l t cs)
open Classical in
theorem checkB_t {l : List Opn} {t : Tab} {cs : List Int} (h : checkP l t cs) : uU l t cs = true := by unfold uU; exact dT h
open Classical in
theorem UK {l : List Opn} {t : Tab} {cs : List Int} (h : ¬ checkP l t cs) : uU l t cs = false := by unfold uU; exact dF h
theorem JobH.setc {h g : Hp} {E : Nat} {c : List AV} {R B : Id} {l : List Opn} {t : Tab} {ES : List Edg} {cs cs' : List Int} {m : List ((Int × Int) × Int)} (j : JobH h E c R B l t ES cs m) (hg : g.hp (E, 18) = some ⟨true, cs'.map iC⟩) (hl : cs'.length = cs.length)
 (hx : ∀ y : Id, y.1 ≤ h.ep → y ≠ (E, 18) → g.hp y = h.hp y) (hm : g.mp B = h.mp B) (he : h.ep ≤ g.ep) : JobH g E c R B l t ES cs' m :=
 ⟨(hx _ j.lE (by simp)).trans j.hj, (hx _ j.lE (by simp)).trans j.hr, hg, j.lc, hl.trans j.ls, j.rw.keep (fun x h1 h2 => hx x h2 (fun e => by rw [e] at h1; simp only at h1; omega)) he,
   j.rs.keep (hx _ j.rs.le (fun e => by have := j.lR; rw [e] at this; simp only at this; omega)) hm he, j.lR, Nat.le_trans j.lE he⟩
theorem JobH.took {h g : Hp} {E : Nat} {c : List AV} {R B : Id} {l : List Opn} {t : Tab} {ES : List Edg} {cs : List Int} {m m' : List ((Int × Int) × Int)} (j : JobH h E c R B l t ES cs m) (he : Ext h g) (hr : RsvH g R B t m') : JobH g E c R B l t ES cs m' :=
 ⟨(he.2 _ j.lE).trans j.hj, (he.2 _ j.lE).trans j.hr, (he.2 _ j.lE).trans j.hc, j.lc, j.ls, j.rw.ext he, hr, j.lR, Nat.le_trans j.lE he.1⟩
def CycA (a : AV) (cs : List Int) : Prop := a = .row (cs.map intC) ∨ (a = .nil ∧ cs = [])
theorem CycA.row (cs : List Int) : CycA (.row (cs.map intC)) cs := .inl rfl
theorem CycA.imm {a : AV} {cs : List Int} (h : CycA a cs) : imm a = true := by
 rcases h with rfl | ⟨rfl, rfl⟩
 · simp [Hx.imm, ints_imms]
 · rfl
theorem CycA.len {a : AV} {cs : List Int} (h : CycA a cs) : lenV a = some (.lit (.int .i64 (cs.length : Int))) := by
 rcases h with rfl | ⟨rfl, rfl⟩
 · exact qD _ _
 · exact lenV_nil
theorem CycA.at {a : AV} {cs : List Int} (h : CycA a cs) {k : Nat} (hk : k < cs.length) : YE none 1 a (i64 k) = some (.ip [i64 (cs.getD k 0)]) := by
 rcases h with rfl | ⟨rfl, rfl⟩
 · exact int_at hk .i64
 · simp at hk
theorem chk_T (t : Tab) {h1 : Hp} (hx : Ext (emp.tick.tick.push (2, 4) (tabC t)).tick h1) : h1.hp (2, 4) = some ⟨true, tabC t⟩ := by
 rw [hx.2 (2, 4) (Nat.le_succ 2), qN, YF]
set_option maxHeartbeats 1000000 in
theorem f57 (l : List Opn) (t : Tab) (cs : List Int) (hl : ∀ o ∈ l, o.ok) (hcn : cs.length ≤ 100000000000000) {ca : AV} (hca : CycA ca cs) :
 HV Try.prog 57 [.row (l.map opC), .agg (tabC t), ca] (bl (uU l t cs)) := by
 refine qK qM cf57 (by simp) (by simp [imms, imm, uM, wV, hca.imm]) ?_ rfl
 have hcl := hca.len
 unfold ac57 re57
 refine yN fun env hE => ?_; have ee := cj19 hE 0 1 2 4 6 8 9 10 11 12 13 37 38 39 40 58 59 60 61; simp -implicitDefEqProofs only [push_cast] at ee; clear hE
 by_cases hR : errR l t = 0
 · obtain ⟨ht, hn, hop⟩ := wX hR
   have hbT := hR
   by_cases hlk : WP l t = false
   · by_cases hln : cs.length = l.length
     · have hE := uN (l := l) ht l.length
       have hEl := uZ l t l.length l.length (Nat.le_refl _)
       have hdn : decide (¬ (cs.length : Int) = (l.length : Int)) = false := dF (by omega)
       repeat' (first | ((try clear hf); with_reducible refine yD fun env K hE hK hf => ?_; have n := cj19 hE 0 1 2 4 6 8 9 10 11 12 13 37 38 39 40 58 59 60 61; simp -implicitDefEqProofs only [push_cast, reduceIte, Nat.reduceEqDiff, ee] at n; clear hE ee; have ee := n; clear n) | (with_reducible first | (refine hK _ _ ?_; clear hK K) | (refine Zi ?_; constructor) | refine yB (by decide) ?_ | refine yH (by assumption) ?_ | refine yJ (by assumption) ?_) | (refine yC rfl ?_) | (simp -implicitDefEqProofs only [push_cast, sevalprocAttr, eq_self, ee, qD, hcl, hbT, hlk, hdn]) | (simp (disch := omega) only [yF, yK, yG, yL, hdn]) | ((first | refine yE rfl (fun bb => ?_) (fun bb => ?_) | with_reducible refine yI (fun bb => ?_) (fun bb => ?_)) <;> (first | have bp := oT bb | have bp := oF bb | skip) <;> try simp only [bb]) | ((with_reducible refine And.intro ?_ ?_); omega) | (refine qH (HC.mono (of_all hl) ?_); rintro r h1 ⟨hx, hr⟩ hF1; obtain ⟨_, out, hr, hO⟩ := hr.resolve_left (fun h => h.1 hR); subst hr; have hbT := chk_T t hx) | (refine yO (f51 l t hn) ?_) | (refine qH (HC.mono (f52 hl hR) ?_); rintro r h2 ⟨E, c, R, B, rfl, hEp, j, hx2⟩ hF2) | (with_reducible refine yM ?_ ?_))
       generalize hES : YP l t l.length = ES at *
       refine yN fun env hE => ?_; have n := cj19 hE 0 1 2 4 6 8 9 10 11 12 13 37 38 39 40 58 59 60 61; simp -implicitDefEqProofs only [push_cast, reduceIte, Nat.reduceEqDiff, ee] at n; clear hE ee; have ee := n; clear n; have E57_0 := ee; obtain ⟨e0, e1, e2, e4, e6, e8, e9, e10, e11, e12, e13, e37, e38, e39, e40, e58, e59, e60, e61⟩ := ee
       refine qC (fun nn σ => ∃ (k : Nat), nn = cs.length - k ∧ kp [0, 1, 2, 4, 8, 9, 37, 38] σ.env env ∧ σ.env 39 = i64 k ∧ (k ≤ cs.length ∧ (∀ x ∈ cs.take k, 0 ≤ x ∧ x ≤ 65536) ∧ JobH σ.h E c R B l t ES (cs.take k ++ List.replicate (l.length - k) (-1)) [])) _ ⟨0, rfl, qP _ _, by refine e39.trans ?_; first | rfl | exact yP (by omega) | exact i64w (by omega), ?_⟩ ?_
       · refine ⟨by omega, by simp, ?_⟩
         rw [List.take_zero, List.nil_append, Nat.sub_zero]
         exact j.ext (by repeat' (first | exact Ext.refl _ | assumption | omega | (with_reducible (refine Eg ?_; constructor)))) rfl
       clear hF1 hF2 hx2 hx
       clear j
       clear e0 e1 e2 e4 e6 e8 e9 e10 e11 e12 e13 e37 e38 e39 e40 e58 e59 e60 e61; rintro nn ⟨env, h3⟩ ⟨k, rfl, q, e39, hI⟩; simp only at e39 hI; simp only [kp, and_true, E57_0] at q; have ee : _ ∧ _ := ⟨e39, q⟩; clear e39 q
       obtain ⟨hk, hin, j⟩ := hI
       unfold l57_0
       (first | refine yS fun hF => ?_ | refine yY fun hF => ?_ | refine yX fun hF => ?_)
       by_cases hlt : k < cs.length
       · have hd : decide ((k : Int) < (cs.length : Int)) = true := dT (by omega)
         have hr := hca.at hlt
         have htk : cs.take (k + 1) = cs.take k ++ [cs.getD k 0] := by rw [List.take_succ_eq_append_getElem hlt, gD, List.getElem?_eq_getElem hlt]; rfl
         have hmem : cs.getD k 0 ∈ cs := by rw [gD, List.getElem?_eq_getElem hlt]; exact List.getElem_mem hlt
         generalize hv : cs.getD k 0 = v at *
         by_cases hok : 0 ≤ v ∧ v ≤ 65536
         · have d1 : decide (v < 0) = false := dF (by omega)
           have d2 : decide (65536 < v) = false := dF (by omega)
           have hj := j.hj
           have hc := j.hc
           have h15 := jobC_15 l t E R
           have hset : ∀ v, ((cs.take k ++ List.replicate (l.length - k) (-1)).map iC).take k ++ [AV.lit (.int .i64 v)] ++ ((cs.take k ++ List.replicate (l.length - k) (-1)).map iC).drop (k + 1) = ((cs.take k ++ List.replicate (l.length - k) (-1)).set k v).map iC := fun v => set_at iC _ (by simp; omega) v
           have hlen : ((cs.take k ++ List.replicate (l.length - k) (-1)).map iC).length = l.length := by simp; omega
           have hkl : (k : Int) < (l.length : Int) := by omega
           repeat' (first | ((try clear hf); with_reducible refine yD fun env K hE hK hf => ?_; have n := cj19 hE 0 1 2 4 6 8 9 10 11 12 13 37 38 39 40 58 59 60 61; simp -implicitDefEqProofs only [push_cast, reduceIte, Nat.reduceEqDiff, ee] at n; clear hE ee; have ee := n; clear n) | (with_reducible first | (refine hK _ _ ?_; clear hK K) | (refine Zi ?_; constructor) | refine yB (by decide) ?_ | refine yH (by assumption) ?_ | refine yJ (by assumption) ?_) | (refine yC rfl ?_) | (simp -implicitDefEqProofs only [push_cast, sevalprocAttr, eq_self, ee, hd, hF.at, hr, d1, d2, hj, h15, hc, hset, hlen]) | (simp (disch := omega) only [yF, yK, yG, yL, hF.at, hset]) | ((first | refine yE rfl (fun bb => ?_) (fun bb => ?_) | with_reducible refine yI (fun bb => ?_) (fun bb => ?_)) <;> (first | have bp := oT bb | have bp := oF bb | skip) <;> try simp only [bb]) | ((with_reducible refine And.intro ?_ ?_); omega) | (with_reducible refine yM ?_ ?_))
           refine ⟨_, ?_, k + 1, rfl, by simp -implicitDefEqProofs only [kp, push_cast, reduceIte, Nat.reduceEqDiff, ee, E57_0, and_self], by first | rfl | exact yP (by omega) | exact i64w (by omega), ?_⟩
           · omega
           · have hsetk : (cs.take k ++ List.replicate (l.length - k) (-1)).set k v = cs.take (k + 1) ++ List.replicate (l.length - (k + 1)) (-1) := by
              rw [List.set_append_right _ _ (by simp; omega), htk, List.append_assoc, List.length_take, show k - min k cs.length = 0 by omega]
              congr 1
              rw [show l.length - k = (l.length - (k + 1)) + 1 by omega, List.replicate_succ]
              rfl
             refine ⟨by omega, ?_, ?_⟩
             · rw [htk]
               intro x hx
               simp only [List.mem_append, List.mem_singleton] at hx
               rcases hx with hx | hx
               · exact hin x hx
               · subst hx; exact hok
             · rw [← hsetk]
               refine j.setc ?_ (by simp) (fun y hy hn => ?_) rfl (by first | omega | (simp -implicitDefEqProofs only [push_cast, sevalprocAttr, eq_self]; first | done | omega))
               · rw [qN, wM]
               · rw [qN, YD _ _ _ _ hn]
                 rfl
         · have hE : uU l t cs = false := UK fun h => hok (h.2.2.2.1 v hmem)
           by_cases hv0 : v < 0
           · have d1 : decide (v < 0) = true := dT hv0
             repeat' (first | ((try clear hf); with_reducible refine yD fun env K hE hK hf => ?_; have n := cj19 hE 0 1 2 4 6 8 9 10 11 12 13 37 38 39 40 58 59 60 61; simp -implicitDefEqProofs only [push_cast, reduceIte, Nat.reduceEqDiff, ee] at n; clear hE ee; have ee := n; clear n) | (with_reducible first | (refine hK _ _ ?_; clear hK K) | (refine Zi ?_; constructor) | refine yB (by decide) ?_ | refine yH (by assumption) ?_ | refine yJ (by assumption) ?_) | (refine yC rfl ?_) | (simp -implicitDefEqProofs only [push_cast, sevalprocAttr, eq_self, ee, hd, hF.at, hr, d1, hE]) | (simp (disch := omega) only [yF, yK, yG, yL, hF.at]) | ((first | refine yE rfl (fun bb => ?_) (fun bb => ?_) | with_reducible refine yI (fun bb => ?_) (fun bb => ?_)) <;> (first | have bp := oT bb | have bp := oF bb | skip) <;> try simp only [bb]) | ((with_reducible refine And.intro ?_ ?_); omega) | (with_reducible refine yM ?_ ?_))
           · have d1 : decide (v < 0) = false := dF hv0
             have d2 : decide (65536 < v) = true := dT (by omega)
             repeat' (first | ((try clear hf); with_reducible refine yD fun env K hE hK hf => ?_; have n := cj19 hE 0 1 2 4 6 8 9 10 11 12 13 37 38 39 40 58 59 60 61; simp -implicitDefEqProofs only [push_cast, reduceIte, Nat.reduceEqDiff, ee] at n; clear hE ee; have ee := n; clear n) | (with_reducible first | (refine hK _ _ ?_; clear hK K) | (refine Zi ?_; constructor) | refine yB (by decide) ?_ | refine yH (by assumption) ?_ | refine yJ (by assumption) ?_) | (refine yC rfl ?_) | (simp -implicitDefEqProofs only [push_cast, sevalprocAttr, eq_self, ee, hd, hF.at, hr, d1, d2, hE]) | (simp (disch := omega) only [yF, yK, yG, yL, hF.at]) | ((first | refine yE rfl (fun bb => ?_) (fun bb => ?_) | with_reducible refine yI (fun bb => ?_) (fun bb => ?_)) <;> (first | have bp := oT bb | have bp := oF bb | skip) <;> try simp only [bb]) | ((with_reducible refine And.intro ?_ ?_); omega) | (with_reducible refine yM ?_ ?_))
       · have hd : decide ((k : Int) < (cs.length : Int)) = false := dF (by omega)
         obtain rfl : k = cs.length := by omega
         rw [List.take_length] at hin
         rw [List.take_length, hln, Nat.sub_self, List.replicate_zero, List.append_nil] at j
         have hu := useN_bnd l t cs
         repeat' (first | ((try clear hf); with_reducible refine yD fun env K hE hK hf => ?_; have n := cj19 hE 0 1 2 4 6 8 9 10 11 12 13 37 38 39 40 58 59 60 61; simp -implicitDefEqProofs only [push_cast, reduceIte, Nat.reduceEqDiff, ee] at n; clear hE ee; have ee := n; clear n) | (with_reducible first | (refine hK _ _ ?_; clear hK K) | (refine Zi ?_; constructor) | refine yB (by decide) ?_ | refine yH (by assumption) ?_ | refine yJ (by assumption) ?_) | (refine yC rfl ?_) | (simp -implicitDefEqProofs only [push_cast, sevalprocAttr, eq_self, ee, hd, hF.at, qD, hcl]) | (simp (disch := omega) only [yF, yK, yG, yL, hF.at]) | ((first | refine yE rfl (fun bb => ?_) (fun bb => ?_) | with_reducible refine yI (fun bb => ?_) (fun bb => ?_)) <;> (first | have bp := oT bb | have bp := oF bb | skip) <;> try simp only [bb]) | ((with_reducible refine And.intro ?_ ?_); omega) | (with_reducible refine yM ?_ ?_))
         refine yN fun env hE => ?_; have n := cj19 hE 0 1 2 4 6 8 9 10 11 12 13 37 38 39 40 58 59 60 61; simp -implicitDefEqProofs only [push_cast, reduceIte, Nat.reduceEqDiff, ee] at n; clear hE ee; have ee := n; clear n; have E57_1 := ee; obtain ⟨e0, e1, e2, e4, e6, e8, e9, e10, e11, e12, e13, e37, e38, e39, e40, e58, e59, e60, e61⟩ := ee
         refine qC (fun nn σ => ∃ (k : Nat) (m : List ((Int × Int) × Int)), nn = l.length - k ∧ kp [0, 1, 2, 4, 8, 9, 10, 11, 37, 38, 39, 40, 58, 59] σ.env env ∧ σ.env 60 = i64 k ∧ (k ≤ l.length ∧ (∀ i < k, wC (inE ES i) cs (cs.getD i 0) = true ∧ roomK l t cs i) ∧ (∀ c y, cntM m c y = useN l t cs k c y) ∧ JobH σ.h E c R B l t ES cs m)) _ ⟨0, [], rfl, qP _ _, by refine e60.trans ?_; first | rfl | exact yP (by omega) | exact i64w (by omega), ?_⟩ ?_
         · exact ⟨by omega, fun i hi => by omega, fun _ _ => rfl, j.ext (by repeat' (first | exact Ext.refl _ | assumption | omega | (with_reducible (refine Eg ?_; constructor)))) rfl⟩
         clear j
         clear e0 e1 e2 e4 e6 e8 e9 e10 e11 e12 e13 e37 e38 e39 e40 e58 e59 e60 e61; rintro nn ⟨env, h4⟩ ⟨k, m, rfl, q, e60, hI⟩; simp only at e60 hI; simp only [kp, and_true, E57_1] at q; have ee : _ ∧ _ := ⟨e60, q⟩; clear e60 q
         obtain ⟨hk, hall, hcnt, j⟩ := hI
         unfold l57_1
         (first | refine yS fun hF => ?_ | refine yY fun hF => ?_ | refine yX fun hF => ?_)
         by_cases hlt : k < l.length
         · have hd : decide ((k : Int) < (cs.length : Int)) = true := dT (by omega)
           have hr := hca.at (k := k) (by omega)
           have hro := wL hlt .i64
           have hc4 := wY l[k]
           have hop := uI hlt
           have hmul : 5 * l.length * l.length ≤ 5 * 1024 * 1024 := Nat.mul_le_mul (by omega) (by omega)
           have hj := j.hj
           have h16 := jobC_16 l t E R
           have hmem : cs.getD k 0 ∈ cs := by rw [gD, List.getElem?_eq_getElem (by omega)]; exact List.getElem_mem _
           have hroom : roomP t m (clsN l[k]) (cs.getD k 0) ↔ roomK l t cs k := by
            have := hin _ hmem
            unfold roomP roomK
            rw [hop]
            simp only [hcnt]
            exact ⟨fun h => h.2.2, fun h => ⟨this.1, this.2, h⟩⟩
           by_cases hth : wC (inE ES k) cs (cs.getD k 0) = true
           · by_cases hrm : roomP t m (clsN l[k]) (cs.getD k 0)
             · have hrb := roomB_t hrm
               repeat' (first | ((try clear hf); with_reducible refine yD fun env K hE hK hf => ?_; have n := cj19 hE 0 1 2 4 6 8 9 10 11 12 13 37 38 39 40 58 59 60 61; simp -implicitDefEqProofs only [push_cast, reduceIte, Nat.reduceEqDiff, ee] at n; clear hE ee; have ee := n; clear n) | (with_reducible first | (refine hK _ _ ?_; clear hK K) | (refine Zi ?_; constructor) | refine yB (by decide) ?_ | refine yH (by assumption) ?_ | refine yJ (by assumption) ?_) | (refine yC rfl ?_) | (simp -implicitDefEqProofs only [push_cast, sevalprocAttr, eq_self, ee, hd, hF.at, hr, hro, hj, h16, hth, hrb]) | (simp (disch := omega) only [yF, yK, yG, yL, hF.at]) | ((first | refine yE rfl (fun bb => ?_) (fun bb => ?_) | with_reducible refine yI (fun bb => ?_) (fun bb => ?_)) <;> (first | have bp := oT bb | have bp := oF bb | skip) <;> try simp only [bb]) | ((with_reducible refine And.intro ?_ ?_); omega) | (refine qH (HC.mono (f53 (R := R) (B := B) (c := c) (ES := ES) (cs := cs) (m := m) (i := k) (y := cs.getD k 0) (by exact j.ext (by repeat' (first | exact Ext.refl _ | assumption | omega | (with_reducible (refine Eg ?_; constructor)))) rfl) hlt hE (fun x hx => by have := hin x hx; omega) (by omega)) ?_); rintro r g ⟨rfl, j2, hx2⟩ hF2; have hj := j2.hj) | (refine call_immq (f55 _) ?_) | (refine qH (HC.mono (f54 (R := R) (B := B) (t := t) (m := m) (c := clsN l[k]) (y := cs.getD k 0) (by exact j2.rs.ext (by repeat' (first | exact Ext.refl _ | assumption | omega | (with_reducible (refine Eg ?_; constructor)))) rfl) ht hc4 (fun c y => by rw [hcnt]; have := hu k c y; omega)) ?_); rintro r g2 ⟨rfl, ⟨m', hr2, hm1, hm2⟩, hx3⟩ hF3) | (with_reducible refine yM ?_ ?_))
               refine ⟨_, ?_, k + 1, m', rfl, by simp -implicitDefEqProofs only [kp, push_cast, reduceIte, Nat.reduceEqDiff, ee, E57_1, and_self], by first | rfl | exact yP (by omega) | exact i64w (by omega), ?_⟩
               · omega
               · have hx4 : Ext g g2 := ⟨by have := hx3.1; simp only [qG] at this; omega, fun y hy => hx3.2 y (by simp only [qG]; omega)⟩
                 refine ⟨by omega, fun i hi => ?_, fun c' y' => ?_, (j2.took hx4 hr2).ext (by repeat' (first | exact Ext.refl _ | assumption | omega | (with_reducible (refine Eg ?_; constructor)))) rfl⟩
                 · by_cases e : i = k
                   · subst e; exact ⟨hth, hroom.1 hrm⟩
                   · exact hall i (by omega)
                 · rw [hm1 hrm c' y', hcnt, useN, hop]
             · have hrb := roomB_f hrm
               have hEc : uU l t cs = false := UK fun h => hrm (hroom.2 (h.2.2.2.2 k hlt).2)
               repeat' (first | ((try clear hf); with_reducible refine yD fun env K hE hK hf => ?_; have n := cj19 hE 0 1 2 4 6 8 9 10 11 12 13 37 38 39 40 58 59 60 61; simp -implicitDefEqProofs only [push_cast, reduceIte, Nat.reduceEqDiff, ee] at n; clear hE ee; have ee := n; clear n) | (with_reducible first | (refine hK _ _ ?_; clear hK K) | (refine Zi ?_; constructor) | refine yB (by decide) ?_ | refine yH (by assumption) ?_ | refine yJ (by assumption) ?_) | (refine yC rfl ?_) | (simp -implicitDefEqProofs only [push_cast, sevalprocAttr, eq_self, ee, hd, hF.at, hr, hro, hj, h16, hth, hrb, hEc]) | (simp (disch := omega) only [yF, yK, yG, yL, hF.at, hEc]) | ((first | refine yE rfl (fun bb => ?_) (fun bb => ?_) | with_reducible refine yI (fun bb => ?_) (fun bb => ?_)) <;> (first | have bp := oT bb | have bp := oF bb | skip) <;> try simp only [bb]) | ((with_reducible refine And.intro ?_ ?_); omega) | (refine qH (HC.mono (f53 (R := R) (B := B) (c := c) (ES := ES) (cs := cs) (m := m) (i := k) (y := cs.getD k 0) (by exact j.ext (by repeat' (first | exact Ext.refl _ | assumption | omega | (with_reducible (refine Eg ?_; constructor)))) rfl) hlt hE (fun x hx => by have := hin x hx; omega) (by omega)) ?_); rintro r g ⟨rfl, j2, hx2⟩ hF2; have hj := j2.hj) | (refine call_immq (f55 _) ?_) | (refine qH (HC.mono (f54 (R := R) (B := B) (t := t) (m := m) (c := clsN l[k]) (y := cs.getD k 0) (by exact j2.rs.ext (by repeat' (first | exact Ext.refl _ | assumption | omega | (with_reducible (refine Eg ?_; constructor)))) rfl) ht hc4 (fun c y => by rw [hcnt]; have := hu k c y; omega)) ?_); rintro r g2 ⟨rfl, ⟨m', hr2, hm1, hm2⟩, hx3⟩ hF3) | (with_reducible refine yM ?_ ?_))
           · have hthf : wC (inE ES k) cs (cs.getD k 0) = false := by simpa using hth
             have hEc : uU l t cs = false := UK fun h => hth (by have := (h.2.2.2.2 k hlt).1; rw [hES] at this; exact this)
             repeat' (first | ((try clear hf); with_reducible refine yD fun env K hE hK hf => ?_; have n := cj19 hE 0 1 2 4 6 8 9 10 11 12 13 37 38 39 40 58 59 60 61; simp -implicitDefEqProofs only [push_cast, reduceIte, Nat.reduceEqDiff, ee] at n; clear hE ee; have ee := n; clear n) | (with_reducible first | (refine hK _ _ ?_; clear hK K) | (refine Zi ?_; constructor) | refine yB (by decide) ?_ | refine yH (by assumption) ?_ | refine yJ (by assumption) ?_) | (refine yC rfl ?_) | (simp -implicitDefEqProofs only [push_cast, sevalprocAttr, eq_self, ee, hd, hF.at, hr, hro, hj, h16, hthf, hEc]) | (simp (disch := omega) only [yF, yK, yG, yL, hF.at, hEc]) | ((first | refine yE rfl (fun bb => ?_) (fun bb => ?_) | with_reducible refine yI (fun bb => ?_) (fun bb => ?_)) <;> (first | have bp := oT bb | have bp := oF bb | skip) <;> try simp only [bb]) | ((with_reducible refine And.intro ?_ ?_); omega) | (refine qH (HC.mono (f53 (R := R) (B := B) (c := c) (ES := ES) (cs := cs) (m := m) (i := k) (y := cs.getD k 0) (by exact j.ext (by repeat' (first | exact Ext.refl _ | assumption | omega | (with_reducible (refine Eg ?_; constructor)))) rfl) hlt hE (fun x hx => by have := hin x hx; omega) (by omega)) ?_); rintro r g ⟨rfl, j2, hx2⟩ hF2; have hj := j2.hj) | (with_reducible refine yM ?_ ?_))
         · have hd : decide ((k : Int) < (cs.length : Int)) = false := dF (by omega)
           have hE : uU l t cs = true := checkB_t ⟨hR, hlk, hln, hin, fun i hi => by rw [hES]; exact hall i (by omega)⟩
           repeat' (first | ((try clear hf); with_reducible refine yD fun env K hE hK hf => ?_; have n := cj19 hE 0 1 2 4 6 8 9 10 11 12 13 37 38 39 40 58 59 60 61; simp -implicitDefEqProofs only [push_cast, reduceIte, Nat.reduceEqDiff, ee] at n; clear hE ee; have ee := n; clear n) | (with_reducible first | (refine hK _ _ ?_; clear hK K) | (refine Zi ?_; constructor) | refine yB (by decide) ?_ | refine yH (by assumption) ?_ | refine yJ (by assumption) ?_) | (refine yC rfl ?_) | (simp -implicitDefEqProofs only [push_cast, sevalprocAttr, eq_self, ee, hd, hE]) | (simp (disch := omega) only [yF, yK, yG, yL]) | ((first | refine yE rfl (fun bb => ?_) (fun bb => ?_) | with_reducible refine yI (fun bb => ?_) (fun bb => ?_)) <;> (first | have bp := oT bb | have bp := oF bb | skip) <;> try simp only [bb]) | ((with_reducible refine And.intro ?_ ?_); omega) | (with_reducible refine yM ?_ ?_))
     · have hdn : decide (¬ (cs.length : Int) = (l.length : Int)) = true := dT (by omega)
       have hE : uU l t cs = false := UK fun h => hln h.2.2.1
       repeat' (first | ((try clear hf); with_reducible refine yD fun env K hE hK hf => ?_; have n := cj19 hE 0 1 2 4 6 8 9 10 11 12 13 37 38 39 40 58 59 60 61; simp -implicitDefEqProofs only [push_cast, reduceIte, Nat.reduceEqDiff, ee] at n; clear hE ee; have ee := n; clear n) | (with_reducible first | (refine hK _ _ ?_; clear hK K) | (refine Zi ?_; constructor) | refine yB (by decide) ?_ | refine yH (by assumption) ?_ | refine yJ (by assumption) ?_) | (refine yC rfl ?_) | (simp -implicitDefEqProofs only [push_cast, sevalprocAttr, eq_self, ee, qD, hcl, hbT, hlk, hdn, hE]) | (simp (disch := omega) only [yF, yK, yG, yL, hdn]) | ((first | refine yE rfl (fun bb => ?_) (fun bb => ?_) | with_reducible refine yI (fun bb => ?_) (fun bb => ?_)) <;> (first | have bp := oT bb | have bp := oF bb | skip) <;> try simp only [bb]) | ((with_reducible refine And.intro ?_ ?_); omega) | (refine qH (HC.mono (of_all hl) ?_); rintro r h1 ⟨hx, hr⟩ hF1; obtain ⟨_, out, hr, hO⟩ := hr.resolve_left (fun h => h.1 hR); subst hr; have hbT := chk_T t hx) | (refine yO (f51 l t hn) ?_) | (with_reducible refine yM ?_ ?_))
   · have hlk : WP l t = true := by simpa using hlk
     have hE : uU l t cs = false := UK fun h => by have := h.2.1; rw [hlk] at this; exact absurd this (by decide)
     repeat' (first | ((try clear hf); with_reducible refine yD fun env K hE hK hf => ?_; have n := cj19 hE 0 1 2 4 6 8 9 10 11 12 13 37 38 39 40 58 59 60 61; simp -implicitDefEqProofs only [push_cast, reduceIte, Nat.reduceEqDiff, ee] at n; clear hE ee; have ee := n; clear n) | (with_reducible first | (refine hK _ _ ?_; clear hK K) | (refine Zi ?_; constructor) | refine yB (by decide) ?_ | refine yH (by assumption) ?_ | refine yJ (by assumption) ?_) | (refine yC rfl ?_) | (simp -implicitDefEqProofs only [push_cast, sevalprocAttr, eq_self, ee, qD, hcl, hbT, hlk, hE]) | (simp (disch := omega) only [yF, yK, yG, yL]) | ((first | refine yE rfl (fun bb => ?_) (fun bb => ?_) | with_reducible refine yI (fun bb => ?_) (fun bb => ?_)) <;> (first | have bp := oT bb | have bp := oF bb | skip) <;> try simp only [bb]) | ((with_reducible refine And.intro ?_ ?_); omega) | (refine qH (HC.mono (of_all hl) ?_); rintro r h1 ⟨hx, hr⟩ hF1; obtain ⟨_, out, hr, hO⟩ := hr.resolve_left (fun h => h.1 hR); subst hr; have hbT := chk_T t hx) | (refine yO (f51 l t hn) ?_) | (with_reducible refine yM ?_ ?_))
 · have hE : uU l t cs = false := UK fun h => hR h.1
   have hd : decide (¬ errR l t = 0) = true := dT hR
   repeat' (first | ((try clear hf); with_reducible refine yD fun env K hE hK hf => ?_; have n := cj19 hE 0 1 2 4 6 8 9 10 11 12 13 37 38 39 40 58 59 60 61; simp -implicitDefEqProofs only [push_cast, reduceIte, Nat.reduceEqDiff, ee] at n; clear hE ee; have ee := n; clear n) | (with_reducible first | (refine hK _ _ ?_; clear hK K) | (refine Zi ?_; constructor) | refine yB (by decide) ?_ | refine yH (by assumption) ?_ | refine yJ (by assumption) ?_) | (refine yC rfl ?_) | (simp -implicitDefEqProofs only [push_cast, sevalprocAttr, eq_self, ee, qD, hcl, hd, hE]) | (simp (disch := omega) only [yF, yK, yG, yL]) | ((first | refine yE rfl (fun bb => ?_) (fun bb => ?_) | with_reducible refine yI (fun bb => ?_) (fun bb => ?_)) <;> (first | have bp := oT bb | have bp := oF bb | skip) <;> try simp only [bb]) | ((with_reducible refine And.intro ?_ ?_); omega) | (refine qH (HC.mono (of_all hl) ?_); rintro r h1 ⟨hx, hr⟩ hF1; replace hr := (hr.resolve_right (fun h => hR h.1)).2; subst hr) | (with_reducible refine yM ?_ ?_))
theorem op_d0 (o : Opn) : ((opC o).drop 0)[0]? = some (.lit (.int .i8 o.k)) := rfl
theorem op_d1 (o : Opn) : ((opC o).drop 1)[0]? = some (u8 o.d) := rfl
theorem op_d2 (o : Opn) : ((opC o).drop 2)[0]? = some (u8 o.a) := rfl
theorem op_d3 (o : Opn) : ((opC o).drop 3)[0]? = some (u8 o.b) := rfl
theorem op_d4 (o : Opn) : ((opC o).drop 4)[0]? = some (i64 o.im) := rfl
attribute [push_cast] op_d0 op_d1 op_d2 op_d3 op_d4 op_1 op_2 op_3 op_4 opC_take opC_len opC_one
theorem SlO.lendF {α : Type} {f : α → List AV} {sz : Nat} {h : Hp} {a : AV} {es : List α} (s : SlO f sz h a es) (hf : ∀ a, (f a).length = sz) (hat : ∀ a, ∀ x ∈ f a, atom x = true) (d : Nat) : Hx.lendF (d + 1) h a = some (.row (es.map f)) := by
 rcases s.st with ⟨rfl, rfl⟩ | ⟨t, rfl, h2, h3⟩
 · exact lendF_nil d h
 · rw [lendF_sl h2 (by rw [UJ hf]; omega) (fun x hx => ?_), List.drop_zero, ← UJ hf, List.take_length, chunks_map f sz hf]
   have := List.mem_of_mem_drop (List.mem_of_mem_take hx)
   rw [List.mem_flatMap] at this
   obtain ⟨e, _, he⟩ := this
   exact hat e x he
end Go.Proofs.Hx
set_option linter.unusedVariables false
set_option linter.unusedSimpArgs false
namespace Go.Proofs.Hx
open Go Go.Proofs
def lst (p : Int → Bool) : Nat → Nat → Nat
 | a, 0 => a
 | a, f + 1 => if p a = true then a else lst p (a + 1) f
end Go.Proofs.Hx
set_option linter.unusedVariables false
set_option linter.unusedSimpArgs false
namespace Go.Proofs.Hx
open Go Go.Proofs
attribute [local irreducible] yR awp opK goV goM qB yW qE yT HV HVF HC
theorem OutR.ext {h g : Hp} {a : AV} {es : List Edg} (o : OutR h a es) (hg : Ext h g) : OutR g a es := by
 rcases o with h1 | ⟨id, h1, h2, h3⟩
 · exact .inl h1
 · exact .inr ⟨id, h1, (hg.2 id h3).trans h2, Nat.le_trans h3 hg.1⟩
end Go.Proofs.Hx
