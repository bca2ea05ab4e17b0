import Derived.Test.YtcdibfkebojefaaG11
import Derived.Test.YtcdibfkebojefaaG9
import Derived.Test.YtcdibfkebojefaaW29
import Derived.Test.YtcdibfkebojefaaG7
set_option linter.unusedVariables false
set_option linter.unusedSimpArgs false
namespace Go.Proofs.Hx
open Go Go.Proofs
attribute [local irreducible] yS awp opK goV goM qC qD qI yY HV HVF HC
open Classical in
noncomputable def cycL (l : List Opn) (t : Tab) : List Int := if cycE l t = 0 then cycS l t else []
noncomputable def cycA (l : List Opn) (t : Tab) : AV := .tup [.row ((cycL l t).map intC), i64 (cycE l t)]
theorem cycA_imm (l : List Opn) (t : Tab) : imm (cycA l t) = true := by simp [cycA, imm, imms, uL]
theorem lendF_tup2 {h : Hp} {a b x y : AV} (h1 : lendF 7 h a = some x) (h2 : lendF 7 h b = some y) : lendF wD h (.tup [a, b]) = some (.tup [x, y]) := by
 unfold wD
 rw [lendF]
 simp only [atom, Bool.false_eq_true, if_false, mapO, h1, h2, Option.map_some]
theorem cyc_hvf {l : List Opn} {t : Tab} (hl : ∀ o ∈ l, o.ok) : HVF Try.prog 44 [.row (l.map opC), .agg (tabC t)] (cycA l t) := by
 refine HVF_of_HC (by simp [imms, imm, wJ, qO]) (cycA_imm l t) (HC.mono (f44 hl) fun r h' hk => ?_)
 obtain ⟨_, _, hr⟩ := hk
 have hi : ∀ n, lendF 7 h' (i64 n) = some (i64 n) := fun n => rfl
 rcases hr with ⟨h1, rfl⟩ | ⟨h1, id, rfl, hb, hlen, _, _, _, hle⟩
 · unfold cycA cycL
   rw [if_neg h1]
   exact lendF_tup2 (lendF_nil 6 h') (hi _)
 · unfold cycA cycL
   rw [if_pos h1, h1]
   have hs : SlO intC 1 h' (.sl id 0 l.length 1) (cycS l t) := ⟨.inr ⟨id, by rw [hlen], by rw [flat_intC]; exact hb, hle⟩⟩
   exact lendF_tup2 (hs.lendF (fun _ => rfl) (fun a x hx => by simp only [intC, List.mem_singleton] at hx; subst hx; rfl) 6) (hi _)
def roomC (l : List Opn) (t : Tab) (cs : List Int) (i : Nat) (y : Int) : Bool := (List.range (t.b (clsN (opAt l i))).toNat).all fun j => decide (useR l t cs l.length (clsN (opAt l i)) (y + j) + 1 ≤ t.u (clsN (opAt l i)))
theorem roomC_iff (l : List Opn) (t : Tab) (cs : List Int) (i : Nat) (y : Int) : roomC l t cs i y = true ↔ roomG l t cs i y := by
 simp only [roomC, roomG, List.all_eq_true, List.mem_range, decide_eq_true_eq]
 exact ⟨fun h j hj => h j (by omega), fun h j hj => h j (by omega)⟩
def fitC (l : List Opn) (t : Tab) (ES : List Edg) (cs : List Int) (i : Nat) (y : Int) : Bool := decide (cs.getD i 0 < 0) && YK (inE ES i) cs y && roomC l t cs i y
theorem fitC_iff (l : List Opn) (t : Tab) (ES : List Edg) (cs : List Int) (i : Nat) (y : Int) : fitC l t ES cs i y = true ↔ fitP l t ES cs i y := by
 simp only [fitC, fitP, Bool.and_eq_true, decide_eq_true_eq, roomC_iff, and_assoc]
def nextGC (l : List Opn) (t : Tab) (ES : List Edg) (os : List Int) (s : List Int × Int) : List Int × Int :=
 if s.1.all fun x => decide (0 ≤ x) then s else match os.find? (fun i => fitC l t ES s.1 i.toNat s.2) with
  | some i => (s.1.set i.toNat s.2, s.2)
  | none => (s.1, s.2 + 1)
theorem nextGC_eq (l : List Opn) (t : Tab) (ES : List Edg) (os : List Int) (s : List Int × Int) : nextGC l t ES os s = nextG l t ES os s := by
 unfold nextGC nextG
 have h1 : (s.1.all fun x => decide (0 ≤ x)) = true ↔ wB s.1 := by simp [wB]
 have h2 : (fun i : Int => fitC l t ES s.1 i.toNat s.2) = fun i : Int => @decide (fitP l t ES s.1 i.toNat s.2) (Classical.propDecidable _) := by
  funext i
  by_cases h : fitP l t ES s.1 i.toNat s.2
  · rw [(fitC_iff _ _ _ _ _ _).2 h]; simp [h]
  · rw [Bool.eq_false_iff.2 (fun h' => h ((fitC_iff _ _ _ _ _ _).1 h'))]; simp [h]
 by_cases h : wB s.1
 · rw [if_pos (h1.2 h), if_pos h]
 · rw [if_neg (fun h' => h (h1.1 h')), if_neg h, h2]
   rfl
def iterC (l : List Opn) (t : Tab) (ES : List Edg) (os : List Int) : Nat → List Int × Int
 | 0 => (List.replicate l.length (-1), 0)
 | m + 1 => nextGC l t ES os (iterC l t ES os m)
theorem iterC_eq (l : List Opn) (t : Tab) (ES : List Edg) (os : List Int) : ∀ m, iterC l t ES os m = iterG l t ES os m
 | 0 => rfl
 | m + 1 => by rw [iterC, iterG, nextGC_eq, iterC_eq l t ES os m]
theorem cycS_of (l : List Opn) (t : Tab) (m : Nat) (cs : List Int) (y : Int) (h : iterC l t (YF l t l.length) (ordL (YT l t)) m = (cs, y)) (hd : wB cs) : cycS l t = cs :=
 finG_of ⟨m, by rw [← iterC_eq]; exact h⟩ hd
def ex4 (a b c d : Int) : Nat → Int | 0 => a | 1 => b | 2 => c | _ => d
def exT : Tab := ⟨ex4 1 1 1 1, ex4 1 3 2 1, ex4 1 2 1 1, 0⟩
def exU : Tab := ⟨ex4 1 0 1 1, ex4 1 3 2 1, ex4 1 2 1 1, 0⟩
def exL : List Opn := [⟨12, 1, 2, 3, 0⟩, ⟨12, 4, 2, 2, 0⟩, ⟨12, 5, 2, 2, 0⟩]
theorem ex_cyc : cycL exL exT = [0, 2, 4] := by
 have h : cycE exL exT = 0 := by decide +kernel
 unfold cycL
 rw [if_pos h]
 exact cycS_of _ _ 9 _ 4 (by decide +kernel) (by unfold wB; decide)
theorem ex_T : cycA exL exT = .tup [.row [[i64 0], [i64 2], [i64 4]], i64 0] := by
 unfold cycA
 rw [ex_cyc, show cycE exL exT = 0 from by decide +kernel]
 rfl
theorem ex_U : cycA exL exU = .tup [.row [], i64 21] := by
 have h : cycE exL exU = 21 := by decide +kernel
 unfold cycA cycL
 rw [h, if_neg (by decide)]
 rfl
def roomKC (l : List Opn) (t : Tab) (cs : List Int) (k : Nat) : Bool := (List.range (t.b (clsN (opAt l k))).toNat).all fun j => decide (useN l t cs k (clsN (opAt l k)) (cs.getD k 0 + j) + 1 ≤ t.u (clsN (opAt l k)))
theorem roomKC_iff (l : List Opn) (t : Tab) (cs : List Int) (k : Nat) : roomKC l t cs k = true ↔ roomK l t cs k := by
 simp only [roomKC, roomK, List.all_eq_true, List.mem_range, decide_eq_true_eq]
 exact ⟨fun h j hj => h j (by omega), fun h j hj => h j (by omega)⟩
def checkC (l : List Opn) (t : Tab) (cs : List Int) : Bool := decide (errR l t = 0) && (!WW l t) && decide (cs.length = l.length) && (cs.all fun x => decide (0 ≤ x) && decide (x ≤ 65536)) && ((List.range l.length).all fun k => YK (inE (YF l t l.length) k) cs (cs.getD k 0) && roomKC l t cs k)
theorem checkC_iff (l : List Opn) (t : Tab) (cs : List Int) : checkC l t cs = true ↔ checkP l t cs := by
 simp only [checkC, checkP, Bool.and_eq_true, decide_eq_true_eq, List.all_eq_true, List.mem_range, roomKC_iff, Bool.not_eq_true', and_assoc]
theorem ex_ok : WH exL exT [0, 2, 4] = true := checkB_t ((checkC_iff _ _ _).1 (by decide +kernel))
theorem ex_no : WH exL exT [0, 1, 4] = false := UV fun h => by
 have h1 := (checkC_iff _ _ _).2 h
 rw [show checkC exL exT [0, 1, 4] = false from by decide +kernel] at h1
 cases h1
theorem exL_ok : ∀ o ∈ exL, o.ok := by
 intro o ho
 simp only [exL, List.mem_cons, List.not_mem_nil, or_false] at ho
 rcases ho with rfl | rfl | rfl <;> exact ⟨by decide, by decide, by decide, by decide, by decide⟩
theorem lend_exL {h : Hp} {id : Id} (hb : h.hp id = some ⟨true, exL.flatMap opC⟩) : lend wD h (.sl id 0 3 5) = some (.row (exL.map opC)) := wW 7 uA opC_imms hb rfl
theorem call_cyc {d : Option Nat} {K : St → Prop} {env : Nat → AV} {h : Hp} {id : Id} {t : Tab} {x r : AV} (hb : h.hp id = some ⟨true, exL.flatMap opC⟩) (hx : x = .agg (tabC t)) (hr : cycA exL t = r) (k : K ⟨putA env d r, h.tick⟩) : qC Try.prog d K env h false (.fn 44 []) [.sl id 0 3 5, x] := by
 subst hx; subst hr
 refine call_own ?_ (cyc_hvf exL_ok) k
 rw [List.append_nil]
 simp only [mapO, lend_exL hb, YN (show imm (.agg (tabC t)) = true from rfl)]
theorem lend_3 {h : Hp} {id : Id} {a b c : Int} (hb : h.hp id = some ⟨true, [i64 a, i64 b, i64 c]⟩) : lend wD h (.sl id 0 3 1) = some (.row [[i64 a], [i64 b], [i64 c]]) := by
 simp [wD, lend, imm, imms, hb, mapO, wA]
 rfl
theorem call_chk {d : Option Nat} {K : St → Prop} {env : Nat → AV} {h : Hp} {id : Id} {t : Tab} {x : AV} {a b c : Int} {r : Bool} (hb : h.hp id = some ⟨true, exL.flatMap opC⟩) (hx : x = .agg (tabC t)) (hr : WH exL t [a, b, c] = r) (k : K ⟨putA env d (bl r), h.tick⟩) : qC Try.prog d K env h false (.fn 46 []) [.sl id 0 3 5, x, .row [[i64 a], [i64 b], [i64 c]]] := by
 subst hx; subst hr
 refine WE ?_ (f46 exL t [a, b, c] exL_ok (by simp) (CycA.row [a, b, c])) rfl k
 rw [List.append_nil]
 simp only [mapO, lend_exL hb, YN (show imm (.agg (tabC t)) = true from rfl), YN (show imm (.row [[i64 a], [i64 b], [i64 c]]) = true from rfl)]
 rfl
theorem call_chk2 {d : Option Nat} {K : St → Prop} {env : Nat → AV} {h : Hp} {id id2 : Id} {t : Tab} {x : AV} {a b c : Int} {r : Bool} (hb : h.hp id = some ⟨true, exL.flatMap opC⟩) (hb2 : h.hp id2 = some ⟨true, [i64 a, i64 b, i64 c]⟩) (hx : x = .agg (tabC t)) (hr : WH exL t [a, b, c] = r) (k : K ⟨putA env d (bl r), h.tick⟩) : qC Try.prog d K env h false (.fn 46 []) [.sl id 0 3 5, x, .sl id2 0 3 1] := by
 subst hx; subst hr
 refine WE ?_ (f46 exL t [a, b, c] exL_ok (by simp) (CycA.row [a, b, c])) rfl k
 rw [List.append_nil]
 simp only [mapO, lend_exL hb, YN (show imm (.agg (tabC t)) = true from rfl), lend_3 hb2]
 rfl
theorem call_sm {d : Option Nat} {K : St → Prop} {env : Nat → AV} {h : Hp} {id2 : Id} {a b c : Int} (hb2 : h.hp id2 = some ⟨true, [i64 a, i64 b, i64 c]⟩) (k : K ⟨putA env d (bl true), h.tick⟩) : qC Try.prog d K env h false (.fn 34 []) [.row [[i64 a], [i64 b], [i64 c]], .sl id2 0 3 1] := by
 have hs := f34 [a, b, c] [a, b, c] (by simp)
 rw [dT rfl] at hs
 refine WE ?_ hs rfl k
 rw [List.append_nil]
 simp only [mapO, lend_3 hb2, YN (show imm (.row [[i64 a], [i64 b], [i64 c]]) = true from rfl)]
 rfl
theorem f43 : HV Try.prog 43 [] (bl true) := by
 refine yX yZ cf43 (by simp) rfl ?_ rfl
 unfold ac43 re43
 refine yN fun env hE => ?_; have ee := cj7 hE 0 1 2 3 4 5 7; simp -implicitDefEqProofs only [push_cast] at ee; clear hE
 have q1 : ∀ x : Int, decide (x = x) = true := fun x => dT rfl
 repeat' (first | ((try clear hf); with_reducible refine yD fun env K hE hK hf => ?_; have n := cj7 hE 0 1 2 3 4 5 7; simp -implicitDefEqProofs only [push_cast, reduceIte, Nat.reduceEqDiff, ee] at n; clear hE ee; have ee := n; clear n) | (with_reducible first | (refine hK _ _ ?_; clear hK K) | (refine Zi ?_; constructor) | refine yB (by decide) ?_ | refine yH (by assumption) ?_ | refine yJ (by assumption) ?_) | (refine yC rfl ?_) | (simp -implicitDefEqProofs only [push_cast, sevalprocAttr, eq_self, ee, q1]) | (simp (disch := omega) only [yF, yK, yG, yL]) | ((first | refine yE rfl (fun bb => ?_) (fun bb => ?_) | with_reducible refine yI (fun bb => ?_) (fun bb => ?_)) <;> (first | have bp := oT bb | have bp := oF bb | skip) <;> try simp only [bb]) | ((with_reducible refine And.intro ?_ ?_); omega) | (refine call_cyc (t := exT) (by first | (simp -implicitDefEqProofs only [push_cast, sevalprocAttr, eq_self]; done) | (simp -implicitDefEqProofs only [push_cast, sevalprocAttr, eq_self]; rfl)) rfl ex_T ?_) | (refine call_cyc (t := exU) (by first | (simp -implicitDefEqProofs only [push_cast, sevalprocAttr, eq_self]; done) | (simp -implicitDefEqProofs only [push_cast, sevalprocAttr, eq_self]; rfl)) rfl ex_U ?_) | (refine call_sm (by first | (simp -implicitDefEqProofs only [push_cast, sevalprocAttr, eq_self]; done) | (simp -implicitDefEqProofs only [push_cast, sevalprocAttr, eq_self]; rfl)) ?_) | (refine call_chk (t := exT) (by first | (simp -implicitDefEqProofs only [push_cast, sevalprocAttr, eq_self]; done) | (simp -implicitDefEqProofs only [push_cast, sevalprocAttr, eq_self]; rfl)) rfl ex_ok ?_) | (refine call_chk2 (t := exT) (by first | (simp -implicitDefEqProofs only [push_cast, sevalprocAttr, eq_self]; done) | (simp -implicitDefEqProofs only [push_cast, sevalprocAttr, eq_self]; rfl)) (by first | (simp -implicitDefEqProofs only [push_cast, sevalprocAttr, eq_self]; done) | (simp -implicitDefEqProofs only [push_cast, sevalprocAttr, eq_self]; rfl)) rfl ex_no ?_) | (with_reducible refine yM ?_ ?_))
 all_goals trace_state
 all_goals sorry
open Classical in
noncomputable def roomGB (l : List Opn) (t : Tab) (cs : List Int) (i : Nat) (y : Int) : Bool := decide (roomG l t cs i y)
open Classical in
theorem roomGB_t {l : List Opn} {t : Tab} {cs : List Int} {i : Nat} {y : Int} (h : roomG l t cs i y) : roomGB l t cs i y = true := by unfold roomGB; exact dT h
open Classical in
theorem roomGB_f {l : List Opn} {t : Tab} {cs : List Int} {i : Nat} {y : Int} (h : ¬ roomG l t cs i y) : roomGB l t cs i y = false := by unfold roomGB; exact dF h
theorem f84 (l : List Opn) (t : Tab) (cs : List Int) (i : Nat) (y : Int) (hl : l.length ≤ 1000000) (hcs : cs.length = l.length) (hx : ∀ x ∈ cs, -1 ≤ x ∧ x ≤ 100000) (ht : YU t) (hi : i < l.length) (hy : 0 ≤ y ∧ y ≤ 1000000) :
 HV Try.prog 84 [.row (l.map opC), .agg (tabC t), .row (cs.map intC), i64 i, i64 y] (bl (roomGB l t cs i y)) := by
 refine yX yZ cf84 (by simp) (by simp [imms, imm, wJ, qO, uL]) ?_ rfl
 unfold ac84 re84
 refine yN fun env hE => ?_; have ee := cj9 hE 0 1 2 3 4 6 10 11 13; simp -implicitDefEqProofs only [push_cast] at ee; clear hE
 have hro := qS hi .i64
 have hcl := kI l[i]
 have hcc := wF l[i]
 have hop := qR hi
 have hbu := ht.1 _ hcc
 unfold okC at hbu
 obtain ⟨b, hb⟩ : ∃ b : Nat, t.b (clsN l[i]) = b := ⟨(t.b (clsN l[i])).toNat, by omega⟩
 repeat' (first | ((try clear hf); with_reducible refine yD fun env K hE hK hf => ?_; have n := cj9 hE 0 1 2 3 4 6 10 11 13; simp -implicitDefEqProofs only [push_cast, reduceIte, Nat.reduceEqDiff, ee] at n; clear hE ee; have ee := n; clear n) | (with_reducible first | (refine hK _ _ ?_; clear hK K) | (refine Zi ?_; constructor) | refine yB (by decide) ?_ | refine yH (by assumption) ?_ | refine yJ (by assumption) ?_) | (refine yC rfl ?_) | (simp -implicitDefEqProofs only [push_cast, sevalprocAttr, eq_self, ee, hro, op_0, hcl]) | (simp (disch := omega) only [yF, yK, yG, yL]) | ((first | refine yE rfl (fun bb => ?_) (fun bb => ?_) | with_reducible refine yI (fun bb => ?_) (fun bb => ?_)) <;> (first | have bp := oT bb | have bp := oF bb | skip) <;> try simp only [bb]) | ((with_reducible refine And.intro ?_ ?_); omega) | (refine yP (f51 _) ?_) | (with_reducible refine yM ?_ ?_))
 refine yN fun env hE => ?_; have n := cj9 hE 0 1 2 3 4 6 10 11 13; simp -implicitDefEqProofs only [push_cast, reduceIte, Nat.reduceEqDiff, ee] at n; clear hE ee; have ee := n; clear n; have E84_0 := ee; obtain ⟨e0, e1, e2, e3, e4, e6, e10, e11, e13⟩ := ee
 refine yT (fun nn σ => ∃ (k : Nat), nn = b - k ∧ kp [0, 1, 2, 3, 4, 6, 11] σ.env env ∧ σ.env 13 = i64 k ∧ (k ≤ b ∧ (∀ j : Nat, j < k → useR l t cs l.length (clsN l[i]) (y + j) + 1 ≤ t.u (clsN l[i])) ∧ σ.h.hp (2, 6) = some ⟨true, tabC t⟩ ∧ 2 ≤ σ.h.ep)) _ ⟨0, rfl, qG _ _, by refine e13.trans ?_; first | rfl | exact yO (by omega) | exact i64w (by omega), ?_⟩ ?_
 · exact ⟨by omega, fun j hj => by omega, by simp -implicitDefEqProofs only [push_cast, sevalprocAttr, eq_self], by simp -implicitDefEqProofs only [push_cast, sevalprocAttr, eq_self]⟩
 clear e0 e1 e2 e3 e4 e6 e10 e11 e13; rintro nn ⟨env, h⟩ ⟨k, rfl, q, e13, hI⟩; simp only at e13 hI; simp only [kp, and_true, E84_0] at q; have ee : _ ∧ _ := ⟨e13, q⟩; clear e13 q
 obtain ⟨hk, hno, hb6, hep⟩ := hI
 unfold l84_0
 (first | refine yQ fun hF => ?_ | refine yW fun hF => ?_ | refine yV fun hF => ?_)
 have hq8 := tab_b t hcc
 have hq0 := tab_u t hcc
 by_cases hlt : k < b
 · have hd : decide ((k : Int) < t.b (clsN l[i])) = true := dT (by omega)
   have hw : IntKind.i64.wrap (y + k) = y + k := wH (by omega) (by omega)
   have hub := useR_bnd l t cs l.length (clsN l[i]) (y + k)
   by_cases hok : t.u (clsN l[i]) ≤ useR l t cs l.length (clsN l[i]) (y + k)
   · have d1 : decide (t.u (clsN l[i]) ≤ useR l t cs l.length (clsN l[i]) (y + k)) = true := dT hok
     have hE : roomGB l t cs i y = false := roomGB_f fun h => by
      have := h k (by rw [← hop]; omega)
      rw [← hop] at this
      omega
     repeat' (first | ((try clear hf); with_reducible refine yD fun env K hE hK hf => ?_; have n := cj9 hE 0 1 2 3 4 6 10 11 13; simp -implicitDefEqProofs only [push_cast, reduceIte, Nat.reduceEqDiff, ee] at n; clear hE ee; have ee := n; clear n) | (with_reducible first | (refine hK _ _ ?_; clear hK K) | (refine Zi ?_; constructor) | refine yB (by decide) ?_ | refine yH (by assumption) ?_ | refine yJ (by assumption) ?_) | (refine yC rfl ?_) | (simp -implicitDefEqProofs only [push_cast, sevalprocAttr, eq_self, ee, hd, hF.at, hb6, hq8, hq0, hw, d1, hE]) | (simp (disch := omega) only [yF, yK, yG, yL, hF.at]) | ((first | refine yE rfl (fun bb => ?_) (fun bb => ?_) | with_reducible refine yI (fun bb => ?_) (fun bb => ?_)) <;> (first | have bp := oT bb | have bp := oF bb | skip) <;> try simp only [bb]) | ((with_reducible refine And.intro ?_ ?_); omega) | (refine WF (f85 l t cs (clsN l[i]) (y + k) (by omega) hcs hx ht hcc) ?_) | (with_reducible refine yM ?_ ?_))
   · have d1 : decide (t.u (clsN l[i]) ≤ useR l t cs l.length (clsN l[i]) (y + k)) = false := dF hok
     repeat' (first | ((try clear hf); with_reducible refine yD fun env K hE hK hf => ?_; have n := cj9 hE 0 1 2 3 4 6 10 11 13; simp -implicitDefEqProofs only [push_cast, reduceIte, Nat.reduceEqDiff, ee] at n; clear hE ee; have ee := n; clear n) | (with_reducible first | (refine hK _ _ ?_; clear hK K) | (refine Zi ?_; constructor) | refine yB (by decide) ?_ | refine yH (by assumption) ?_ | refine yJ (by assumption) ?_) | (refine yC rfl ?_) | (simp -implicitDefEqProofs only [push_cast, sevalprocAttr, eq_self, ee, hd, hF.at, hb6, hq8, hq0, hw, d1]) | (simp (disch := omega) only [yF, yK, yG, yL, hF.at]) | ((first | refine yE rfl (fun bb => ?_) (fun bb => ?_) | with_reducible refine yI (fun bb => ?_) (fun bb => ?_)) <;> (first | have bp := oT bb | have bp := oF bb | skip) <;> try simp only [bb]) | ((with_reducible refine And.intro ?_ ?_); omega) | (refine WF (f85 l t cs (clsN l[i]) (y + k) (by omega) hcs hx ht hcc) ?_) | (with_reducible refine yM ?_ ?_))
     refine ⟨_, ?_, k + 1, rfl, by simp -implicitDefEqProofs only [kp, push_cast, reduceIte, Nat.reduceEqDiff, ee, E84_0, and_self], by first | rfl | exact yO (by omega) | exact i64w (by omega), ?_⟩
     · omega
     · refine ⟨by omega, fun j hj => ?_⟩
       by_cases e : j = k
       · subst e; omega
       · exact hno j (by omega)
 · have hd : decide ((k : Int) < t.b (clsN l[i])) = false := dF (by omega)
   have hE : roomGB l t cs i y = true := roomGB_t fun j hj => by
    rw [← hop] at hj ⊢
    exact hno j (by omega)
   repeat' (first | ((try clear hf); with_reducible refine yD fun env K hE hK hf => ?_; have n := cj9 hE 0 1 2 3 4 6 10 11 13; simp -implicitDefEqProofs only [push_cast, reduceIte, Nat.reduceEqDiff, ee] at n; clear hE ee; have ee := n; clear n) | (with_reducible first | (refine hK _ _ ?_; clear hK K) | (refine Zi ?_; constructor) | refine yB (by decide) ?_ | refine yH (by assumption) ?_ | refine yJ (by assumption) ?_) | (refine yC rfl ?_) | (simp -implicitDefEqProofs only [push_cast, sevalprocAttr, eq_self, ee, hd, hF.at, hb6, hq8, hE]) | (simp (disch := omega) only [yF, yK, yG, yL, hF.at]) | ((first | refine yE rfl (fun bb => ?_) (fun bb => ?_) | with_reducible refine yI (fun bb => ?_) (fun bb => ?_)) <;> (first | have bp := oT bb | have bp := oF bb | skip) <;> try simp only [bb]) | ((with_reducible refine And.intro ?_ ?_); omega) | (with_reducible refine yM ?_ ?_))
def RowA {α : Type} (f : α → List AV) (a : AV) (xs : List α) : Prop := a = .row (xs.map f) ∨ (a = .nil ∧ xs = [])
theorem RowA.imm {α : Type} {f : α → List AV} {a : AV} {xs : List α} (h : RowA f a xs) (hf : ∀ x, imms (f x) = true) : imm a = true := by
 rcases h with rfl | ⟨rfl, rfl⟩
 · simp only [Hx.imm]
   refine qU fun i x hx => ?_
   simp only [List.getElem?_map, oM] at hx
   obtain ⟨y, _, rfl⟩ := hx
   exact hf y
 · rfl
theorem RowA.len {α : Type} {f : α → List AV} {a : AV} {xs : List α} (h : RowA f a xs) : lenV a = some (.lit (.int .i64 (xs.length : Int))) := by
 rcases h with rfl | ⟨rfl, rfl⟩
 · exact qM _ _
 · exact lenV_nil
theorem RowA.at {α : Type} {f : α → List AV} {sz : Nat} (hf : ∀ x, (f x).length = sz) {a : AV} {xs : List α} (h : RowA f a xs) {k : Nat} (hk : k < xs.length) : YI none sz a (i64 k) = some (.ip (f xs[k])) := by
 rcases h with rfl | ⟨rfl, rfl⟩
 · exact uV f sz hf xs .i64 hk
 · simp at hk
theorem f83 {a : AV} {ES : List Edg} {n : Nat} (cs : List Int) (i : Nat) (y : Int) (ha : RowA edC a ES) (hE : ∀ e ∈ ES, edOK n e) (hcs : cs.length = n) (hx : ∀ x ∈ cs, -1 ≤ x ∧ x ≤ 100000) (hEl : ES.length ≤ 10000000) :
 HV Try.prog 83 [a, .row (cs.map intC), i64 i, i64 y] (bl (YK (inE ES i) cs y)) := by
 refine yX yZ cf83 (by simp) (by simp [imms, imm, ha.imm edC_imms, uL]) ?_ rfl
 unfold ac83 re83
 refine yN fun env hE => ?_; have ee := cj7 hE 0 1 2 3 8 9 10; simp -implicitDefEqProofs only [push_cast] at ee; clear hE
 have hla := ha.len
 repeat' (first | ((try clear hf); with_reducible refine yD fun env K hE hK hf => ?_; have n := cj7 hE 0 1 2 3 8 9 10; simp -implicitDefEqProofs only [push_cast, reduceIte, Nat.reduceEqDiff, ee] at n; clear hE ee; have ee := n; clear n) | (with_reducible first | (refine hK _ _ ?_; clear hK K) | (refine Zi ?_; constructor) | refine yB (by decide) ?_ | refine yH (by assumption) ?_ | refine yJ (by assumption) ?_) | (refine yC rfl ?_) | (simp -implicitDefEqProofs only [push_cast, sevalprocAttr, eq_self, ee]) | (simp (disch := omega) only [yF, yK, yG, yL]) | ((first | refine yE rfl (fun bb => ?_) (fun bb => ?_) | with_reducible refine yI (fun bb => ?_) (fun bb => ?_)) <;> (first | have bp := oT bb | have bp := oF bb | skip) <;> try simp only [bb]) | ((with_reducible refine And.intro ?_ ?_); omega) | (with_reducible refine yM ?_ ?_))
 refine yN fun env hE => ?_; have n := cj7 hE 0 1 2 3 8 9 10; simp -implicitDefEqProofs only [push_cast, reduceIte, Nat.reduceEqDiff, ee] at n; clear hE ee; have ee := n; clear n; have E83_0 := ee; obtain ⟨e0, e1, e2, e3, e8, e9, e10⟩ := ee
 refine yT (fun nn σ => ∃ (k : Nat), nn = ES.length - k ∧ kp [0, 1, 2, 3] σ.env env ∧ σ.env 9 = i64 k ∧ (k ≤ ES.length ∧ (∀ e ∈ ES.take k, e.t = (i : Int) → 0 ≤ cs.getD e.f.toNat 0 ∧ cs.getD e.f.toNat 0 + e.l ≤ y))) _ ⟨0, rfl, qG _ _, by refine e9.trans ?_; first | rfl | exact yO (by omega) | exact i64w (by omega), ?_⟩ ?_
 · exact ⟨by omega, by simp⟩
 clear e0 e1 e2 e3 e8 e9 e10; rintro nn ⟨env, h⟩ ⟨k, rfl, q, e9, hI⟩; simp only at e9 hI; simp only [kp, and_true, E83_0] at q; have ee : _ ∧ _ := ⟨e9, q⟩; clear e9 q
 obtain ⟨hk, hno⟩ := hI
 unfold l83_0
 by_cases hlt : k < ES.length
 · have hd : decide ((k : Int) < (ES.length : Int)) = true := dT (by omega)
   have hr := ha.at qT hlt
   have hxo := hE _ (List.getElem_mem hlt)
   have hmem := List.getElem_mem hlt
   have htk : ES.take (k + 1) = ES.take k ++ [ES[k]] := by rw [List.take_succ_eq_append_getElem hlt]
   generalize ES[k] = x at *
   obtain ⟨x1, x2, x3, x4, x5⟩ := hxo
   obtain ⟨f, hf⟩ : ∃ f : Nat, x.f = f := ⟨x.f.toNat, by omega⟩
   have hf2 : x.f.toNat = f := by omega
   have r1 := int_at (l := cs) (k := f) (by omega) .i64
   rw [← hf] at r1
   have b1 := hx (cs.getD f 0) (by rw [gD, List.getElem?_eq_getElem (by omega)]; exact List.getElem_mem _)
   have c0 : (edC x)[0]? = some (i64 x.f) := rfl
   have c1 : ((edC x).drop 1)[0]? = some (i64 x.t) := rfl
   have c2 : ((edC x).drop 2)[0]? = some (i64 x.l) := rfl
   generalize hv : cs.getD f 0 = v at *
   have hw : IntKind.i64.wrap (v + x.l) = v + x.l := wH (by omega) (by omega)
   have next : (x.t = (i : Int) → 0 ≤ v ∧ v + x.l ≤ y) → ∀ e ∈ ES.take (k + 1), e.t = (i : Int) → 0 ≤ cs.getD e.f.toNat 0 ∧ cs.getD e.f.toNat 0 + e.l ≤ y := fun h e he => by
    rw [htk] at he
    simp only [List.mem_append, List.mem_singleton] at he
    rcases he with he | he
    · exact hno e he
    · subst he; rw [hf2, hv]; exact h
   by_cases h1 : x.t = (i : Int)
   · have d1 : decide (x.t = (i : Int)) = true := dT h1
     by_cases hok : 0 ≤ v ∧ v + x.l ≤ y
     · have d2 : decide (v < 0) = false := dF (by omega)
       have d3 : decide (y < v + x.l) = false := dF (by omega)
       repeat' (first | ((try clear hf); with_reducible refine yD fun env K hE hK hf => ?_; have n := cj7 hE 0 1 2 3 8 9 10; simp -implicitDefEqProofs only [push_cast, reduceIte, Nat.reduceEqDiff, ee] at n; clear hE ee; have ee := n; clear n) | (with_reducible first | (refine hK _ _ ?_; clear hK K) | (refine Zi ?_; constructor) | refine yB (by decide) ?_ | refine yH (by assumption) ?_ | refine yJ (by assumption) ?_) | (refine yC rfl ?_) | (simp -implicitDefEqProofs only [push_cast, sevalprocAttr, eq_self, ee, hd, hla, hr, r1, c0, c1, c2, d1, d2, d3, hw]) | (simp (disch := omega) only [yF, yK, yG, yL, hla, r1, c0, c1, c2]) | ((first | refine yE rfl (fun bb => ?_) (fun bb => ?_) | with_reducible refine yI (fun bb => ?_) (fun bb => ?_)) <;> (first | have bp := oT bb | have bp := oF bb | skip) <;> try simp only [bb]) | ((with_reducible refine And.intro ?_ ?_); omega) | (with_reducible refine yM ?_ ?_))
       refine ⟨_, ?_, k + 1, rfl, by simp -implicitDefEqProofs only [kp, push_cast, reduceIte, Nat.reduceEqDiff, ee, E83_0, and_self], by first | rfl | exact yO (by omega) | exact i64w (by omega), ?_⟩
       · omega
       · exact ⟨by omega, next fun _ => hok⟩
     · have hE : YK (inE ES i) cs y = false := by
        rw [Bool.eq_false_iff]
        intro h
        simp only [YK, List.all_eq_true, Bool.and_eq_true, decide_eq_true_eq, inE, List.mem_filter] at h
        have := h x ⟨hmem, h1⟩
        rw [hf2, hv] at this
        exact hok this
       by_cases hv0 : v < 0
       · have d2 : decide (v < 0) = true := dT hv0
         repeat' (first | ((try clear hf); with_reducible refine yD fun env K hE hK hf => ?_; have n := cj7 hE 0 1 2 3 8 9 10; simp -implicitDefEqProofs only [push_cast, reduceIte, Nat.reduceEqDiff, ee] at n; clear hE ee; have ee := n; clear n) | (with_reducible first | (refine hK _ _ ?_; clear hK K) | (refine Zi ?_; constructor) | refine yB (by decide) ?_ | refine yH (by assumption) ?_ | refine yJ (by assumption) ?_) | (refine yC rfl ?_) | (simp -implicitDefEqProofs only [push_cast, sevalprocAttr, eq_self, ee, hd, hla, hr, r1, c0, c1, c2, d1, d2, hw, hE]) | (simp (disch := omega) only [yF, yK, yG, yL, hla, r1, c0, c1, c2]) | ((first | refine yE rfl (fun bb => ?_) (fun bb => ?_) | with_reducible refine yI (fun bb => ?_) (fun bb => ?_)) <;> (first | have bp := oT bb | have bp := oF bb | skip) <;> try simp only [bb]) | ((with_reducible refine And.intro ?_ ?_); omega) | (with_reducible refine yM ?_ ?_))
       · have d2 : decide (v < 0) = false := dF hv0
         have d3 : decide (y < v + x.l) = true := dT (by omega)
         repeat' (first | ((try clear hf); with_reducible refine yD fun env K hE hK hf => ?_; have n := cj7 hE 0 1 2 3 8 9 10; simp -implicitDefEqProofs only [push_cast, reduceIte, Nat.reduceEqDiff, ee] at n; clear hE ee; have ee := n; clear n) | (with_reducible first | (refine hK _ _ ?_; clear hK K) | (refine Zi ?_; constructor) | refine yB (by decide) ?_ | refine yH (by assumption) ?_ | refine yJ (by assumption) ?_) | (refine yC rfl ?_) | (simp -implicitDefEqProofs only [push_cast, sevalprocAttr, eq_self, ee, hd, hla, hr, r1, c0, c1, c2, d1, d2, d3, hw, hE]) | (simp (disch := omega) only [yF, yK, yG, yL, hla, r1, c0, c1, c2]) | ((first | refine yE rfl (fun bb => ?_) (fun bb => ?_) | with_reducible refine yI (fun bb => ?_) (fun bb => ?_)) <;> (first | have bp := oT bb | have bp := oF bb | skip) <;> try simp only [bb]) | ((with_reducible refine And.intro ?_ ?_); omega) | (with_reducible refine yM ?_ ?_))
   · have d1 : decide (x.t = (i : Int)) = false := dF h1
     repeat' (first | ((try clear hf); with_reducible refine yD fun env K hE hK hf => ?_; have n := cj7 hE 0 1 2 3 8 9 10; simp -implicitDefEqProofs only [push_cast, reduceIte, Nat.reduceEqDiff, ee] at n; clear hE ee; have ee := n; clear n) | (with_reducible first | (refine hK _ _ ?_; clear hK K) | (refine Zi ?_; constructor) | refine yB (by decide) ?_ | refine yH (by assumption) ?_ | refine yJ (by assumption) ?_) | (refine yC rfl ?_) | (simp -implicitDefEqProofs only [push_cast, sevalprocAttr, eq_self, ee, hd, hla, hr, r1, c0, c1, c2, d1, hw]) | (simp (disch := omega) only [yF, yK, yG, yL, hla, r1, c0, c1, c2]) | ((first | refine yE rfl (fun bb => ?_) (fun bb => ?_) | with_reducible refine yI (fun bb => ?_) (fun bb => ?_)) <;> (first | have bp := oT bb | have bp := oF bb | skip) <;> try simp only [bb]) | ((with_reducible refine And.intro ?_ ?_); omega) | (with_reducible refine yM ?_ ?_))
     refine ⟨_, ?_, k + 1, rfl, by simp -implicitDefEqProofs only [kp, push_cast, reduceIte, Nat.reduceEqDiff, ee, E83_0, and_self], by first | rfl | exact yO (by omega) | exact i64w (by omega), ?_⟩
     · omega
     · exact ⟨by omega, next fun h => absurd h h1⟩
 · have hd : decide ((k : Int) < (ES.length : Int)) = false := dF (by omega)
   obtain rfl : k = ES.length := by omega
   have hE : YK (inE ES i) cs y = true := by
    rw [List.take_length] at hno
    simp only [YK, List.all_eq_true, Bool.and_eq_true, decide_eq_true_eq, inE, List.mem_filter]
    exact fun e he => hno e he.1 he.2
   repeat' (first | ((try clear hf); with_reducible refine yD fun env K hE hK hf => ?_; have n := cj7 hE 0 1 2 3 8 9 10; simp -implicitDefEqProofs only [push_cast, reduceIte, Nat.reduceEqDiff, ee] at n; clear hE ee; have ee := n; clear n) | (with_reducible first | (refine hK _ _ ?_; clear hK K) | (refine Zi ?_; constructor) | refine yB (by decide) ?_ | refine yH (by assumption) ?_ | refine yJ (by assumption) ?_) | (refine yC rfl ?_) | (simp -implicitDefEqProofs only [push_cast, sevalprocAttr, eq_self, ee, hd, hla, hE]) | (simp (disch := omega) only [yF, yK, yG, yL, hla]) | ((first | refine yE rfl (fun bb => ?_) (fun bb => ?_) | with_reducible refine yI (fun bb => ?_) (fun bb => ?_)) <;> (first | have bp := oT bb | have bp := oF bb | skip) <;> try simp only [bb]) | ((with_reducible refine And.intro ?_ ?_); omega) | (with_reducible refine yM ?_ ?_))
theorem SlO.lend2 {α : Type} {f : α → List AV} {sz : Nat} {h : Hp} {a : AV} {es : List α} (s : SlO f sz h a es) (hf : ∀ a, (f a).length = sz) (hi : ∀ a, imms (f a) = true) : ∃ a', lend wD h a = some a' ∧ RowA f a' es := by
 rcases s.st with ⟨rfl, rfl⟩ | ⟨id, rfl, hb, _⟩
 · exact ⟨.nil, rfl, .inr ⟨rfl, rfl⟩⟩
 · exact ⟨_, wW 7 hf hi hb (uB hf es), .inl rfl⟩
theorem lend_cs {h : Hp} {id : Id} {cs : List Int} {n : Nat} (hb : h.hp id = some ⟨true, cs.map iC⟩) (hn : cs.length = n) : lend wD h (.sl id 0 n 1) = some (.row (cs.map intC)) := by
 rw [← flat_intC] at hb
 have := wW 7 (f := intC) (sz := 1) (fun _ => rfl) (fun _ => rfl) hb (UI (fun _ => rfl) cs)
 rw [hn] at this
 exact this
theorem call_ready {d : Option Nat} {K : St → Prop} {env : Nat → AV} {h : Hp} {id : Id} {a : AV} {ES : List Edg} {cs : List Int} {n i : Nat} {y : Int} (hO : SlO edC 5 h a ES) (hb : h.hp id = some ⟨true, cs.map iC⟩) (hE : ∀ e ∈ ES, edOK n e) (hn : cs.length = n) (hx : ∀ x ∈ cs, -1 ≤ x ∧ x ≤ 100000) (hEl : ES.length ≤ 10000000)
 (k : K ⟨putA env d (bl (YK (inE ES i) cs y)), h.tick⟩) : qC Try.prog d K env h false (.fn 83 []) [a, .sl id 0 n 1, i64 i, i64 y] := by
 obtain ⟨a', hl, hr⟩ := hO.lend2 qT edC_imms
 refine WE ?_ (f83 cs i y hr hE hn hx hEl) rfl k
 rw [List.append_nil]
 simp only [mapO, hl, lend_cs hb hn, YN (show imm (i64 i) = true from rfl), YN (show imm (i64 y) = true from rfl)]
theorem call_free {d : Option Nat} {K : St → Prop} {env : Nat → AV} {h : Hp} {id : Id} {l : List Opn} {t : Tab} {cs : List Int} {i : Nat} {y : Int} (hb : h.hp id = some ⟨true, cs.map iC⟩) (hl : l.length ≤ 1000000) (hcs : cs.length = l.length) (hx : ∀ x ∈ cs, -1 ≤ x ∧ x ≤ 100000) (ht : YU t) (hi : i < l.length) (hy : 0 ≤ y ∧ y ≤ 1000000)
 (k : K ⟨putA env d (bl (roomGB l t cs i y)), h.tick⟩) : qC Try.prog d K env h false (.fn 84 []) [.row (l.map opC), .agg (tabC t), .sl id 0 l.length 1, i64 i, i64 y] := by
 refine WE ?_ (f84 l t cs i y hl hcs hx ht hi hy) rfl k
 rw [List.append_nil]
 simp only [mapO, lend_cs hb hcs, YN (show imm (.row (l.map opC)) = true from by simp [imm, qO]), YN (show imm (.agg (tabC t)) = true from rfl), YN (show imm (i64 i) = true from rfl), YN (show imm (i64 y) = true from rfl)]
set_option maxHeartbeats 2000000 in
theorem f45 {h0 : Hp} {l : List Opn} {t : Tab} (hl : ∀ o ∈ l, o.ok) (hn2 : l.length ≤ 120 ∨ 1024 < l.length) (hod : errR l t = 0 → ∃ d, OrdP (YT l t) l.length d) :
 HC Try.prog 45 [.row (l.map opC), .agg (tabC t)] h0 fun r h' => Ext h0 h' ∧ ((cycE l t ≠ 0 ∧ r = .tup [.nil, i64 (cycE l t)]) ∨ (cycE l t = 0 ∧ ∃ id, r = .tup [.sl id 0 l.length 1, i64 0] ∧ h'.hp id = some ⟨true, (cycS l t).map iC⟩ ∧ (cycS l t).length = l.length ∧ h0.ep < id.1 ∧ id.1 ≤ h'.ep)) := by
 refine qH yZ cf45 (by simp) fun hF => ?_
 unfold ac45 re45
 refine yN fun env hE => ?_; have ee := cj14 hE 0 1 3 4 5 6 7 8 10 11 12 13 14 15; simp -implicitDefEqProofs only [push_cast] at ee; clear hE
 by_cases hR : errR l t = 0
 rotate_left
 · have hd : decide (errR l t ≠ 0) = true := dT hR
   have hE : cycE l t = errR l t := by unfold cycE; rw [if_pos hR]
   repeat' (first | ((try clear hf); with_reducible refine yD fun env K hE hK hf => ?_; have n := cj14 hE 0 1 3 4 5 6 7 8 10 11 12 13 14 15; simp -implicitDefEqProofs only [push_cast, reduceIte, Nat.reduceEqDiff, ee] at n; clear hE ee; have ee := n; clear n) | (with_reducible first | (refine hK _ _ ?_; clear hK K) | (refine Zi ?_; constructor) | refine yB (by decide) ?_ | refine yH (by assumption) ?_ | refine yJ (by assumption) ?_) | (refine yC rfl ?_) | (simp -implicitDefEqProofs only [push_cast, sevalprocAttr, eq_self, ee, hF.at, hd]) | (simp (disch := omega) only [yF, yK, yG, yL, hF.at]) | ((first | refine yE rfl (fun bb => ?_) (fun bb => ?_) | with_reducible refine yI (fun bb => ?_) (fun bb => ?_)) <;> (first | have bp := oT bb | have bp := oF bb | skip) <;> try simp only [bb]) | ((with_reducible refine And.intro ?_ ?_); omega) | (refine qB (HC.mono (f39 hl hn2) ?_); rintro r h1 ⟨hx, hr⟩ hF; rcases hr with ⟨_, hr⟩ | ⟨hr, _⟩; rotate_left; exact absurd hr hR; subst hr) | (with_reducible refine yM ?_ ?_))
   have hX01 : Ext h0 h1 := Ext.tr (by repeat' (first | exact Ext.refl _ | assumption | omega | (with_reducible (refine Eg ?_; constructor)))) hx
   exact ⟨(by repeat' (first | exact Ext.refl _ | assumption | omega | (with_reducible (refine Eg ?_; constructor)))), .inl ⟨by rw [hE]; exact hR, by rw [hE]⟩⟩
 obtain ⟨ht, hn, hop⟩ := WP hR
 obtain ⟨d, hord⟩ := hod hR
 have hHl := kE l t
 have hHb := kF hR
 have hul := uses_lack (t := t) hop
 have hdn : decide ((0 : Int) ≠ 0) = false := rfl
 have hbT := hR
 have hbox : ∀ {h1 : Hp}, Ext (h0.tick.tick.push (h0.ep + 1 + 1, 3) (tabC t)).tick h1 → h1.hp (h0.ep + 1 + 1, 3) = some ⟨true, tabC t⟩ := fun hx => by
  rw [hx.2 _ (by simp only [qE, YJ]; omega)]
  simp -implicitDefEqProofs only [push_cast, sevalprocAttr, eq_self]
 by_cases hlk : WW l t = false
 rotate_left
 · have hlk : WW l t = true := by simpa using hlk
   rw [hlk] at hul
   have hE : cycE l t = 21 := by unfold cycE; rw [if_neg (fun h => h hR), if_pos hlk]
   repeat' (first | ((try clear hf); with_reducible refine yD fun env K hE hK hf => ?_; have n := cj14 hE 0 1 3 4 5 6 7 8 10 11 12 13 14 15; simp -implicitDefEqProofs only [push_cast, reduceIte, Nat.reduceEqDiff, ee] at n; clear hE ee; have ee := n; clear n) | (with_reducible first | (refine hK _ _ ?_; clear hK K) | (refine Zi ?_; constructor) | refine yB (by decide) ?_ | refine yH (by assumption) ?_ | refine yJ (by assumption) ?_) | (refine yC rfl ?_) | (simp -implicitDefEqProofs only [push_cast, sevalprocAttr, eq_self, ee, hF.at, hdn, hul, hbT]) | (simp (disch := omega) only [yF, yK, yG, yL, hF.at, hdn]) | ((first | refine yE rfl (fun bb => ?_) (fun bb => ?_) | with_reducible refine yI (fun bb => ?_) (fun bb => ?_)) <;> (first | have bp := oT bb | have bp := oF bb | skip) <;> try simp only [bb]) | ((with_reducible refine And.intro ?_ ?_); omega) | (refine qB (HC.mono (f39 hl hn2) ?_); rintro r h1 ⟨hx, hr⟩ hF; rcases hr with ⟨hr, _⟩ | ⟨_, out, hr, hoS⟩; exact absurd hR hr; subst hr; have hbT := hbox hx) | (refine yP (f82 l t (by omega)) ?_) | (with_reducible refine yM ?_ ?_))
   have hX01 : Ext h0 h1 := Ext.tr (by repeat' (first | exact Ext.refl _ | assumption | omega | (with_reducible (refine Eg ?_; constructor)))) hx
   exact ⟨(by repeat' (first | exact Ext.refl _ | assumption | omega | (with_reducible (refine Eg ?_; constructor)))), .inl ⟨by rw [hE]; decide, by rw [hE]⟩⟩
 rw [hlk] at hul
 have hcE : cycE l t = 0 := by unfold cycE; rw [if_neg (fun h => h hR), if_neg (by rw [hlk]; decide)]
 repeat' (first | ((try clear hf); with_reducible refine yD fun env K hE hK hf => ?_; have n := cj14 hE 0 1 3 4 5 6 7 8 10 11 12 13 14 15; simp -implicitDefEqProofs only [push_cast, reduceIte, Nat.reduceEqDiff, ee] at n; clear hE ee; have ee := n; clear n) | (with_reducible first | (refine hK _ _ ?_; clear hK K) | (refine Zi ?_; constructor) | refine yB (by decide) ?_ | refine yH (by assumption) ?_ | refine yJ (by assumption) ?_) | (refine yC rfl ?_) | (simp -implicitDefEqProofs only [push_cast, sevalprocAttr, eq_self, ee, hF.at, hdn, hul, hbT, qM, rep1]) | (simp (disch := omega) only [yF, yK, yG, yL, hF.at, hdn, rep1]) | ((first | refine yE rfl (fun bb => ?_) (fun bb => ?_) | with_reducible refine yI (fun bb => ?_) (fun bb => ?_)) <;> (first | have bp := oT bb | have bp := oF bb | skip) <;> try simp only [bb]) | ((with_reducible refine And.intro ?_ ?_); omega) | (refine qB (HC.mono (f39 hl hn2) ?_); rintro r h1 ⟨hx, hr⟩ hF; rcases hr with ⟨hr, _⟩ | ⟨_, oo, hr, hoS⟩; exact absurd hR hr; subst hr; have hbT := hbox hx) | (refine yP (f82 l t (by omega)) ?_) | (refine qB (HC.mono (f72 hl) ?_); rintro r h2 ⟨hx2, hr⟩ hF; obtain ⟨_, out, hr, hO, _⟩ := hr.resolve_left (fun h => h.1 hR); subst hr) | (with_reducible refine yM ?_ ?_))
 have hX01 : Ext h0 h1 := Ext.tr (by repeat' (first | exact Ext.refl _ | assumption | omega | (with_reducible (refine Eg ?_; constructor)))) hx
 have hX2 : Ext h1 h2 := Ext.tr (by repeat' (first | exact Ext.refl _ | assumption | omega | (with_reducible (refine Eg ?_; constructor)))) hx2
 have hX02 := hX01.tr hX2
 have hos := ordL_eq2 hord hHl (B := 8 * l.length) (by omega) hHb
 have hmem := hord.mem
 have hE := UO (l := l) ht l.length
 have hEl := WC l t l.length l.length (Nat.le_refl _)
 have hmul : 5 * l.length * l.length ≤ 5 * 1024 * 1024 := Nat.mul_le_mul (by omega) (by omega)
 have hfin : ∀ cs y, GoS l t (YF l t l.length) (ordL (YT l t)) cs y → wB cs → cycS l t = cs := fun cs y => finG_of
 rw [hos] at hfin hoS
 replace hoS := hoS.ext hX2
 have hO := hO.slo
 generalize hES : YF l t l.length = ES at *
 have hinv : ∀ cs y, GoS l t ES (ordD l.length d) cs y → InvG l t ES cs y := fun cs y h => h.inv hE ht hlk (fun x hx => (hmem x).1 hx) (fun i hi => (hmem i).2 (by omega))
 have hdr : ∀ k, k < l.length → 0 ≤ d k ∧ d k < l.length := fun k hk => by have := hord.rng k hk; omega
 have hog := ordD_get l.length d
 have hol : (ordD l.length d).length = l.length := by simp [ordD]
 have hbT := (hX2.2 (h0.ep + 1 + 1, 3) (by have := hx.1; simp only [qE, YJ] at this; simp only; omega)).trans hbT
 have hboxle : h0.ep + 1 + 1 ≤ h2.ep := by have := hx.1; have := hX2.1; simp only [qE, YJ] at *; omega
 generalize hC : h2.ep + 1 + 1 = C at *
 refine yN fun env hE => ?_; have n := cj14 hE 0 1 3 4 5 6 7 8 10 11 12 13 14 15; simp -implicitDefEqProofs only [push_cast, reduceIte, Nat.reduceEqDiff, ee] at n; clear hE ee; have ee := n; clear n; have E45_0 := ee; obtain ⟨e0, e1, e3, e4, e5, e6, e7, e8, e10, e11, e12, e13, e14, e15⟩ := ee
 refine yT (fun nn σ => ∃ (k : Nat), nn = l.length - k ∧ kp [0, 1, 3, 4, 5, 6, 7, 8, 10] σ.env env ∧ σ.env 11 = i64 k ∧ (k ≤ l.length ∧ σ.h.hp (C, 36) = some ⟨true, (List.replicate k (-1) ++ List.replicate (l.length - k) 0).map iC⟩ ∧ Ext h2 σ.h ∧ C ≤ σ.h.ep)) _ ⟨0, rfl, qG _ _, by refine e11.trans ?_; first | rfl | exact yO (by omega) | exact i64w (by omega), ?_⟩ ?_
 · refine ⟨by omega, ?_, (by repeat' (first | exact Ext.refl _ | assumption | omega | (with_reducible (refine Eg ?_; constructor)))), (by first | omega | (simp -implicitDefEqProofs only [push_cast, sevalprocAttr, eq_self]; first | done | omega))⟩
   rw [List.replicate_zero, List.nil_append, ← rep_map]
   simp -implicitDefEqProofs only [push_cast, sevalprocAttr, eq_self]
   first | done | rfl
 clear hF
 clear e0 e1 e3 e4 e5 e6 e7 e8 e10 e11 e12 e13 e14 e15; rintro nn ⟨env, h3⟩ ⟨k, rfl, q, e11, hI⟩; simp only at e11 hI; simp only [kp, and_true, E45_0] at q; have ee : _ ∧ _ := ⟨e11, q⟩; clear e11 q
 obtain ⟨hk, hb3, hx3, hep3⟩ := hI
 unfold l45_0
 (first | refine yQ fun hF => ?_ | refine yW fun hF => ?_ | refine yV fun hF => ?_)
 by_cases hlt : k < l.length
 · have hd : decide ((k : Int) < (l.length : Int)) = true := dT (by omega)
   have hset : ∀ v, ((List.replicate k (-1) ++ List.replicate (l.length - k) 0).map iC).take k ++ [AV.lit (.int .i64 v)] ++ ((List.replicate k (-1) ++ List.replicate (l.length - k) 0).map iC).drop (k + 1) = ((List.replicate k (-1) ++ List.replicate (l.length - k) 0).set k v).map iC := fun v => set_at iC _ (by simp; omega) v
   have hlen : ((List.replicate k (-1 : Int) ++ List.replicate (l.length - k) 0).map iC).length = l.length := by simp; omega
   repeat' (first | ((try clear hf); with_reducible refine yD fun env K hE hK hf => ?_; have n := cj14 hE 0 1 3 4 5 6 7 8 10 11 12 13 14 15; simp -implicitDefEqProofs only [push_cast, reduceIte, Nat.reduceEqDiff, ee] at n; clear hE ee; have ee := n; clear n) | (with_reducible first | (refine hK _ _ ?_; clear hK K) | (refine Zi ?_; constructor) | refine yB (by decide) ?_ | refine yH (by assumption) ?_ | refine yJ (by assumption) ?_) | (refine yC rfl ?_) | (simp -implicitDefEqProofs only [push_cast, sevalprocAttr, eq_self, ee, hd, hF.at, qM, hb3, hset, hlen]) | (simp (disch := omega) only [yF, yK, yG, yL, hF.at, hset]) | ((first | refine yE rfl (fun bb => ?_) (fun bb => ?_) | with_reducible refine yI (fun bb => ?_) (fun bb => ?_)) <;> (first | have bp := oT bb | have bp := oF bb | skip) <;> try simp only [bb]) | ((with_reducible refine And.intro ?_ ?_); omega) | (with_reducible refine yM ?_ ?_))
   refine ⟨_, ?_, k + 1, rfl, by simp -implicitDefEqProofs only [kp, push_cast, reduceIte, Nat.reduceEqDiff, ee, E45_0, and_self], by first | rfl | exact yO (by omega) | exact i64w (by omega), ?_⟩
   · omega
   · have hsetk : (List.replicate k (-1 : Int) ++ List.replicate (l.length - k) 0).set k (-1) = List.replicate (k + 1) (-1) ++ List.replicate (l.length - (k + 1)) 0 := by
      rw [List.set_append_right _ _ (by simp), List.length_replicate, Nat.sub_self, List.replicate_succ', List.append_assoc]
      congr 1
      rw [show l.length - k = (l.length - (k + 1)) + 1 by omega, List.replicate_succ]
      rfl
     exact ⟨by omega, by rw [hsetk], (by repeat' (first | exact Ext.refl _ | assumption | omega | (with_reducible (refine Eg ?_; constructor)))), by omega⟩
 have hd : decide ((k : Int) < (l.length : Int)) = false := dF (by omega)
 obtain rfl : k = l.length := by omega
 rw [Nat.sub_self, List.replicate_zero, List.append_nil] at hb3
 repeat' (first | ((try clear hf); with_reducible refine yD fun env K hE hK hf => ?_; have n := cj14 hE 0 1 3 4 5 6 7 8 10 11 12 13 14 15; simp -implicitDefEqProofs only [push_cast, reduceIte, Nat.reduceEqDiff, ee] at n; clear hE ee; have ee := n; clear n) | (with_reducible first | (refine hK _ _ ?_; clear hK K) | (refine Zi ?_; constructor) | refine yB (by decide) ?_ | refine yH (by assumption) ?_ | refine yJ (by assumption) ?_) | (refine yC rfl ?_) | (simp -implicitDefEqProofs only [push_cast, sevalprocAttr, eq_self, ee, hd, qM]) | (simp (disch := omega) only [yF, yK, yG, yL]) | ((first | refine yE rfl (fun bb => ?_) (fun bb => ?_) | with_reducible refine yI (fun bb => ?_) (fun bb => ?_)) <;> (first | have bp := oT bb | have bp := oF bb | skip) <;> try simp only [bb]) | ((with_reducible refine And.intro ?_ ?_); omega) | (with_reducible refine yM ?_ ?_))
 have h0c : cntG (List.replicate l.length (-1)) = 0 := by
  unfold cntG
  rw [List.countP_eq_zero]
  intro x hx
  rw [List.mem_replicate] at hx
  rw [hx.2]; decide
 refine yN fun env hE => ?_; have n := cj14 hE 0 1 3 4 5 6 7 8 10 11 12 13 14 15; simp -implicitDefEqProofs only [push_cast, reduceIte, Nat.reduceEqDiff, ee] at n; clear hE ee; have ee := n; clear n; have E45_2 := ee; obtain ⟨e0, e1, e3, e4, e5, e6, e7, e8, e10, e11, e12, e13, e14, e15⟩ := ee
 refine yT (fun nn σ => ∃ (y : Nat) (cs : List Int), nn = 8 * l.length + 9 - y ∧ kp [0, 1, 3, 4, 5, 6, 7, 8, 10, 11] σ.env env ∧ σ.env 13 = i64 y ∧ σ.env 12 = i64 ((l.length : Int) - (cntG cs : Int)) ∧ (σ.h.hp (C, 36) = some ⟨true, cs.map iC⟩ ∧ cs.length = l.length ∧ (∃ y', GoS l t ES (ordD l.length d) cs y' ∧ (y' = (y : Int) ∨ wB cs)) ∧ y ≤ 8 * l.length + 8 ∧ Ext h2 σ.h ∧ C ≤ σ.h.ep)) _ ⟨0, List.replicate l.length (-1), rfl, qG _ _, by refine e13.trans ?_; first | rfl | exact yO (by omega) | exact i64w (by omega), by refine e12.trans ?_; first | rfl | exact yO (by omega) | exact i64w (by omega), ?_⟩ ?_
 · exact ⟨hb3, by simp, ⟨0, GoS.init, .inl rfl⟩, by omega, (by repeat' (first | exact Ext.refl _ | assumption | omega | (with_reducible (refine Eg ?_; constructor)))), (by first | omega | (simp -implicitDefEqProofs only [push_cast, sevalprocAttr, eq_self]; first | done | omega))⟩
 clear hb3 hF hx3
 clear e0 e1 e3 e4 e5 e6 e7 e8 e10 e11 e12 e13 e14 e15; rintro nn ⟨env, h4⟩ ⟨y, cs, rfl, q, e13, e12, hI⟩; simp only at e13 e12 hI; simp only [kp, and_true, E45_2] at q; have ee : _ ∧ _ ∧ _ := ⟨e13, e12, q⟩; clear e13 e12 q
 obtain ⟨hb4, hlen, hgo, hyb, hx4, hep4⟩ := hI
 unfold l45_2
 have hcl := cnt_le cs
 by_cases hdn : wB cs
 · have hd : decide (0 < (l.length : Int) - (cntG cs : Int)) = false := dF (by rw [cnt_done] at hdn; omega)
   obtain ⟨y', hgo, _⟩ := hgo
   have hfi := hfin _ _ hgo hdn
   repeat' (first | ((try clear hf); with_reducible refine yD fun env K hE hK hf => ?_; have n := cj14 hE 0 1 3 4 5 6 7 8 10 11 12 13 14 15; simp -implicitDefEqProofs only [push_cast, reduceIte, Nat.reduceEqDiff, ee] at n; clear hE ee; have ee := n; clear n) | (with_reducible first | (refine hK _ _ ?_; clear hK K) | (refine Zi ?_; constructor) | refine yB (by decide) ?_ | refine yH (by assumption) ?_ | refine yJ (by assumption) ?_) | (refine yC rfl ?_) | (simp -implicitDefEqProofs only [push_cast, sevalprocAttr, eq_self, ee, hd]) | (simp (disch := omega) only [yF, yK, yG, yL]) | ((first | refine yE rfl (fun bb => ?_) (fun bb => ?_) | with_reducible refine yI (fun bb => ?_) (fun bb => ?_)) <;> (first | have bp := oT bb | have bp := oF bb | skip) <;> try simp only [bb]) | ((with_reducible refine And.intro ?_ ?_); omega) | (with_reducible refine yM ?_ ?_))
   have hxh : Ext h0 h4 := hX02.tr hx4
   refine ⟨(by repeat' (first | exact Ext.refl _ | assumption | omega | (with_reducible (refine Eg ?_; constructor)))), .inr ⟨hcE, (C, 36), rfl, by rw [hfi]; exact hb4, by rw [hfi]; exact hlen, by simp only; omega, by simp only; omega⟩⟩
 have hcnt1 : cntG cs < l.length := by
  have h' : ¬ cntG cs = cs.length := fun h => hdn (cnt_done.2 h)
  omega
 have hd : decide (0 < (l.length : Int) - (cntG cs : Int)) = true := dT (by omega)
 obtain ⟨y', hgo, hyy⟩ := hgo
 obtain rfl := hyy.resolve_right hdn
 repeat' (first | ((try clear hf); with_reducible refine yD fun env K hE hK hf => ?_; have n := cj14 hE 0 1 3 4 5 6 7 8 10 11 12 13 14 15; simp -implicitDefEqProofs only [push_cast, reduceIte, Nat.reduceEqDiff, ee] at n; clear hE ee; have ee := n; clear n) | (with_reducible first | (refine hK _ _ ?_; clear hK K) | (refine Zi ?_; constructor) | refine yB (by decide) ?_ | refine yH (by assumption) ?_ | refine yJ (by assumption) ?_) | (refine yC rfl ?_) | (simp -implicitDefEqProofs only [push_cast, sevalprocAttr, eq_self, ee, hd]) | (simp (disch := omega) only [yF, yK, yG, yL]) | ((first | refine yE rfl (fun bb => ?_) (fun bb => ?_) | with_reducible refine yI (fun bb => ?_) (fun bb => ?_)) <;> (first | have bp := oT bb | have bp := oF bb | skip) <;> try simp only [bb]) | ((with_reducible refine And.intro ?_ ?_); omega) | (with_reducible refine yM ?_ ?_))
 refine yN fun env hE => ?_; have n := cj14 hE 0 1 3 4 5 6 7 8 10 11 12 13 14 15; simp -implicitDefEqProofs only [push_cast, reduceIte, Nat.reduceEqDiff, ee] at n; clear hE ee; have ee := n; clear n; have E45_1 := ee; obtain ⟨e0, e1, e3, e4, e5, e6, e7, e8, e10, e11, e12, e13, e14, e15⟩ := ee
 refine yT (fun nn σ => ∃ (k : Nat) (cs1 : List Int), nn = (l.length - cntG cs1) * (l.length + 1) + (l.length - k) ∧ kp [0, 1, 3, 4, 5, 6, 7, 8, 10, 11, 13] σ.env env ∧ σ.env 14 = i64 k ∧ σ.env 12 = i64 ((l.length : Int) - (cntG cs1 : Int)) ∧ (k ≤ l.length ∧ σ.h.hp (C, 36) = some ⟨true, cs1.map iC⟩ ∧ GoS l t ES (ordD l.length d) cs1 y ∧ (∀ j x, j < k → (ordD l.length d)[j]? = some x → ¬ fitP l t ES cs1 x.toNat y) ∧ Ext h2 σ.h ∧ C ≤ σ.h.ep)) _ ⟨0, cs, rfl, qG _ _, by refine e14.trans ?_; first | rfl | exact yO (by omega) | exact i64w (by omega), by refine e12.trans ?_; first | rfl | exact yO (by omega) | exact i64w (by omega), ?_⟩ ?_
 · exact ⟨by omega, hb4, hgo, fun j x hj => by omega, (by repeat' (first | exact Ext.refl _ | assumption | omega | (with_reducible (refine Eg ?_; constructor)))), (by first | omega | (simp -implicitDefEqProofs only [push_cast, sevalprocAttr, eq_self]; first | done | omega))⟩
 clear hgo hb4 hx4 hd hlen hcl hdn hcnt1
 clear e0 e1 e3 e4 e5 e6 e7 e8 e10 e11 e12 e13 e14 e15; rintro nn ⟨env, h5⟩ ⟨k, cs1, rfl, q, e14, e12, hI⟩; simp only at e14 e12 hI; simp only [kp, and_true, E45_1] at q; have ee : _ ∧ _ ∧ _ := ⟨e14, e12, q⟩; clear e14 e12 q
 obtain ⟨hk, hb5, hgo, hno, hx5, hep5⟩ := hI
 unfold l45_1
 have hI5 := hinv _ _ hgo
 have hlen := hI5.len
 have hcl := cnt_le cs1
 have hyb5 := hI5.yb
 have hoS5 := hoS.ext hx5
 have hoL := hoS5.len
 rw [hol] at hoL
 by_cases hlt : k < l.length
 rotate_left
 · have hd : decide ((k : Int) < (l.length : Int)) = false := dF (by omega)
   obtain rfl : k = l.length := by omega
   repeat' (first | ((try clear hf); with_reducible refine yD fun env K hE hK hf => ?_; have n := cj14 hE 0 1 3 4 5 6 7 8 10 11 12 13 14 15; simp -implicitDefEqProofs only [push_cast, reduceIte, Nat.reduceEqDiff, ee] at n; clear hE ee; have ee := n; clear n) | (with_reducible first | (refine hK _ _ ?_; clear hK K) | (refine Zi ?_; constructor) | refine yB (by decide) ?_ | refine yH (by assumption) ?_ | refine yJ (by assumption) ?_) | (refine yC rfl ?_) | (simp -implicitDefEqProofs only [push_cast, sevalprocAttr, eq_self, ee, hd, hoL]) | (simp (disch := omega) only [yF, yK, yG, yL, hoL]) | ((first | refine yE rfl (fun bb => ?_) (fun bb => ?_) | with_reducible refine yI (fun bb => ?_) (fun bb => ?_)) <;> (first | have bp := oT bb | have bp := oF bb | skip) <;> try simp only [bb]) | ((with_reducible refine And.intro ?_ ?_); omega) | (with_reducible refine yM ?_ ?_))
   refine ⟨_, ?_, y + 1, cs1, rfl, by simp -implicitDefEqProofs only [kp, push_cast, reduceIte, Nat.reduceEqDiff, ee, E45_2, and_self], by first | rfl | exact yO (by omega) | exact i64w (by omega), by first | rfl | exact yO (by omega) | exact i64w (by omega), ?_⟩
   · omega
   · refine ⟨hb5, hlen, ?_, by omega, (by repeat' (first | exact Ext.refl _ | assumption | omega | (with_reducible (refine Eg ?_; constructor)))), by omega⟩
     by_cases hdn : wB cs1
     · exact ⟨y, hgo, .inr hdn⟩
     · refine ⟨(y : Int) + 1, hgo.next hdn fun j x hx => ?_, .inl (by omega)⟩
       have hjl := (List.getElem?_eq_some_iff.1 hx).1
       exact hno j x (by omega) hx
 have hd : decide ((k : Int) < (l.length : Int)) = true := dT (by omega)
 obtain ⟨oe, os, hoe, hob, hole⟩ := hoS5.blk (by omega)
 subst hoe
 rw [flat_intC] at hob
 obtain ⟨i, hi⟩ : ∃ i : Nat, d k = i := ⟨(d k).toNat, by have := hdr k hlt; omega⟩
 have hil : i < l.length := by have := hdr k hlt; omega
 have hok : (ordD l.length d)[k]? = some (i : Int) := by rw [hog, if_pos hlt, hi]
 have v1 : ((ordD l.length d).map iC)[k]? = some (i64 i) := by rw [List.getElem?_map, hok]; rfl
 have hcq : (cs1.map iC)[i]? = some (i64 (cs1.getD i 0)) := by simp [iC, gD, hlen, hil]
 have hno2 : ¬ fitP l t ES cs1 i y → ∀ j x, j < k + 1 → (ordD l.length d)[j]? = some x → ¬ fitP l t ES cs1 x.toNat y := fun hq j x hj hx => by
  by_cases e : j = k
  · subst e; rw [hok] at hx; cases hx; rw [Int.toNat_natCast]; exact hq
  · exact hno j x (by omega) hx
 have hbT5 := (hx5.2 (h0.ep + 1 + 1, 3) hboxle).trans hbT
 have hkd : (k : Int) < ((ordD l.length d).length : Int) := by omega
 have hrng : ∀ x ∈ cs1, -1 ≤ x ∧ x ≤ 100000 := fun x hx => by have := hI5.rng x hx; omega
 generalize hv : cs1.getD i 0 = v at *
 by_cases hv0 : 0 ≤ v
 · have d1 : decide (v < 0) = false := dF (by omega)
   have hnf : ¬ fitP l t ES cs1 i y := fun h => by have := h.1; omega
   repeat' (first | ((try clear hf); with_reducible refine yD fun env K hE hK hf => ?_; have n := cj14 hE 0 1 3 4 5 6 7 8 10 11 12 13 14 15; simp -implicitDefEqProofs only [push_cast, reduceIte, Nat.reduceEqDiff, ee] at n; clear hE ee; have ee := n; clear n) | (with_reducible first | (refine hK _ _ ?_; clear hK K) | (refine Zi ?_; constructor) | refine yB (by decide) ?_ | refine yH (by assumption) ?_ | refine yJ (by assumption) ?_) | (refine yC rfl ?_) | (simp -implicitDefEqProofs only [push_cast, sevalprocAttr, eq_self, ee, hd, hol, hob, v1, hb5, hcq, d1]) | (simp (disch := omega) only [yF, yK, yG, yL, hol]) | ((first | refine yE rfl (fun bb => ?_) (fun bb => ?_) | with_reducible refine yI (fun bb => ?_) (fun bb => ?_)) <;> (first | have bp := oT bb | have bp := oF bb | skip) <;> try simp only [bb]) | ((with_reducible refine And.intro ?_ ?_); omega) | (with_reducible refine yM ?_ ?_))
   refine ⟨_, ?_, k + 1, cs1, rfl, by simp -implicitDefEqProofs only [kp, push_cast, reduceIte, Nat.reduceEqDiff, ee, E45_1, and_self], by first | rfl | exact yO (by omega) | exact i64w (by omega), by first | rfl | exact yO (by omega) | exact i64w (by omega), ?_⟩
   · omega
   · exact ⟨by omega, (by first | exact hb5 | rfl), hgo, hno2 hnf, (by repeat' (first | exact Ext.refl _ | assumption | omega | (with_reducible (refine Eg ?_; constructor)))), by omega⟩
 have d1 : decide (v < 0) = true := dT (by omega)
 have hx0 : cs1.getD i 0 < 0 := by omega
 by_cases hth : YK (inE ES i) cs1 y = true
 rotate_left
 · have hthf : YK (inE ES i) cs1 y = false := by simpa using hth
   have hnf : ¬ fitP l t ES cs1 i y := fun h => hth h.2.1
   repeat' (first | ((try clear hf); with_reducible refine yD fun env K hE hK hf => ?_; have n := cj14 hE 0 1 3 4 5 6 7 8 10 11 12 13 14 15; simp -implicitDefEqProofs only [push_cast, reduceIte, Nat.reduceEqDiff, ee] at n; clear hE ee; have ee := n; clear n) | (with_reducible first | (refine hK _ _ ?_; clear hK K) | (refine Zi ?_; constructor) | refine yB (by decide) ?_ | refine yH (by assumption) ?_ | refine yJ (by assumption) ?_) | (refine yC rfl ?_) | (simp -implicitDefEqProofs only [push_cast, sevalprocAttr, eq_self, ee, hd, hol, hob, v1, hb5, hcq, d1, hthf]) | (simp (disch := omega) only [yF, yK, yG, yL, hol]) | ((first | refine yE rfl (fun bb => ?_) (fun bb => ?_) | with_reducible refine yI (fun bb => ?_) (fun bb => ?_)) <;> (first | have bp := oT bb | have bp := oF bb | skip) <;> try simp only [bb]) | ((with_reducible refine And.intro ?_ ?_); omega) | (refine call_ready (ES := ES) (cs := cs1) ((hO.ext hx5).ext (by repeat' (first | exact Ext.refl _ | assumption | omega | (with_reducible (refine Eg ?_; constructor))))) hb5 hE hlen hrng (by omega) ?_) | (with_reducible refine yM ?_ ?_))
   refine ⟨_, ?_, k + 1, cs1, rfl, by simp -implicitDefEqProofs only [kp, push_cast, reduceIte, Nat.reduceEqDiff, ee, E45_1, and_self], by first | rfl | exact yO (by omega) | exact i64w (by omega), by first | rfl | exact yO (by omega) | exact i64w (by omega), ?_⟩
   · omega
   · exact ⟨by omega, (by first | exact hb5 | rfl), hgo, hno2 hnf, (by repeat' (first | exact Ext.refl _ | assumption | omega | (with_reducible (refine Eg ?_; constructor)))), by omega⟩
 by_cases hrm : roomG l t cs1 i y
 rotate_left
 · have hrb := roomGB_f hrm
   have hnf : ¬ fitP l t ES cs1 i y := fun h => hrm h.2.2
   repeat' (first | ((try clear hf); with_reducible refine yD fun env K hE hK hf => ?_; have n := cj14 hE 0 1 3 4 5 6 7 8 10 11 12 13 14 15; simp -implicitDefEqProofs only [push_cast, reduceIte, Nat.reduceEqDiff, ee] at n; clear hE ee; have ee := n; clear n) | (with_reducible first | (refine hK _ _ ?_; clear hK K) | (refine Zi ?_; constructor) | refine yB (by decide) ?_ | refine yH (by assumption) ?_ | refine yJ (by assumption) ?_) | (refine yC rfl ?_) | (simp -implicitDefEqProofs only [push_cast, sevalprocAttr, eq_self, ee, hd, hol, hob, v1, hb5, hcq, d1, hth, hrb, hbT5]) | (simp (disch := omega) only [yF, yK, yG, yL, hol]) | ((first | refine yE rfl (fun bb => ?_) (fun bb => ?_) | with_reducible refine yI (fun bb => ?_) (fun bb => ?_)) <;> (first | have bp := oT bb | have bp := oF bb | skip) <;> try simp only [bb]) | ((with_reducible refine And.intro ?_ ?_); omega) | (refine call_ready (ES := ES) (cs := cs1) ((hO.ext hx5).ext (by repeat' (first | exact Ext.refl _ | assumption | omega | (with_reducible (refine Eg ?_; constructor))))) hb5 hE hlen hrng (by omega) ?_) | (refine call_free (cs := cs1) hb5 (by omega) hlen hrng ht hil ⟨by omega, by omega⟩ ?_) | (with_reducible refine yM ?_ ?_))
   refine ⟨_, ?_, k + 1, cs1, rfl, by simp -implicitDefEqProofs only [kp, push_cast, reduceIte, Nat.reduceEqDiff, ee, E45_1, and_self], by first | rfl | exact yO (by omega) | exact i64w (by omega), by first | rfl | exact yO (by omega) | exact i64w (by omega), ?_⟩
   · omega
   · exact ⟨by omega, (by first | exact hb5 | rfl), hgo, hno2 hnf, (by repeat' (first | exact Ext.refl _ | assumption | omega | (with_reducible (refine Eg ?_; constructor)))), by omega⟩
 have hrb := roomGB_t hrm
 have hfit : fitP l t ES cs1 i y := ⟨hx0, hth, hrm⟩
 have hset : ∀ v, (cs1.map iC).take i ++ [AV.lit (.int .i64 v)] ++ (cs1.map iC).drop (i + 1) = (cs1.set i v).map iC := fun v => set_at iC _ (by omega) v
 have hmlen : (cs1.map iC).length = l.length := by simpa using hlen
 have hgo2 := hgo.put hlen hok (by omega) hno (by rw [Int.toNat_natCast]; exact hfit)
 rw [Int.toNat_natCast] at hgo2
 have hcs2 := cnt_set (cs := cs1) (i := i) (y := y) (by omega) hx0 (by omega)
 have hcl2 := cnt_le (cs1.set i y)
 rw [List.length_set] at hcl2
 have hms : (l.length - cntG cs1) * (l.length + 1) = (l.length - cntG (cs1.set i (y : Int))) * (l.length + 1) + (l.length + 1) := by
  rw [hcs2, show l.length - cntG cs1 = (l.length - (cntG cs1 + 1)) + 1 by omega, Nat.add_mul, Nat.one_mul]
 repeat' (first | ((try clear hf); with_reducible refine yD fun env K hE hK hf => ?_; have n := cj14 hE 0 1 3 4 5 6 7 8 10 11 12 13 14 15; simp -implicitDefEqProofs only [push_cast, reduceIte, Nat.reduceEqDiff, ee] at n; clear hE ee; have ee := n; clear n) | (with_reducible first | (refine hK _ _ ?_; clear hK K) | (refine Zi ?_; constructor) | refine yB (by decide) ?_ | refine yH (by assumption) ?_ | refine yJ (by assumption) ?_) | (refine yC rfl ?_) | (simp -implicitDefEqProofs only [push_cast, sevalprocAttr, eq_self, ee, hd, hol, hob, v1, hb5, hcq, d1, hth, hrb, hbT5, hset, hmlen]) | (simp (disch := omega) only [yF, yK, yG, yL, hol, hset]) | ((first | refine yE rfl (fun bb => ?_) (fun bb => ?_) | with_reducible refine yI (fun bb => ?_) (fun bb => ?_)) <;> (first | have bp := oT bb | have bp := oF bb | skip) <;> try simp only [bb]) | ((with_reducible refine And.intro ?_ ?_); omega) | (refine call_ready (ES := ES) (cs := cs1) ((hO.ext hx5).ext (by repeat' (first | exact Ext.refl _ | assumption | omega | (with_reducible (refine Eg ?_; constructor))))) hb5 hE hlen hrng (by omega) ?_) | (refine call_free (cs := cs1) hb5 (by omega) hlen hrng ht hil ⟨by omega, by omega⟩ ?_) | (with_reducible refine yM ?_ ?_))
 refine ⟨_, ?_, 0, cs1.set i y, rfl, by simp -implicitDefEqProofs only [kp, push_cast, reduceIte, Nat.reduceEqDiff, ee, E45_1, and_self], by first | rfl | exact yO (by omega) | exact i64w (by omega), by first | rfl | exact yO (by omega) | exact i64w (by omega), ?_⟩
 · omega
 · exact ⟨by omega, by first | rfl | (simp -implicitDefEqProofs only [push_cast, sevalprocAttr, eq_self]; done) | (simp -implicitDefEqProofs only [push_cast, sevalprocAttr, eq_self]; rfl), hgo2, fun j x hj => by omega, (by repeat' (first | exact Ext.refl _ | assumption | omega | (with_reducible (refine Eg ?_; constructor)))), (by first | omega | (simp -implicitDefEqProofs only [push_cast, sevalprocAttr, eq_self]; first | done | omega))⟩
theorem call_two {d : Option Nat} {K : St → Prop} {env : Nat → AV} {h : Hp} {i1 i2 : Id} {cs : List Int} {n : Nat} (hb1 : h.hp i1 = some ⟨true, cs.map iC⟩) (hb2 : h.hp i2 = some ⟨true, cs.map iC⟩) (hn : cs.length = n) (hN : n ≤ 1000000000000) (k : K ⟨putA env d (bl true), h.tick⟩) :
 qC Try.prog d K env h false (.fn 34 []) [.sl i1 0 n 1, .sl i2 0 n 1] := by
 have hs := f34 cs cs (by omega)
 rw [dT rfl] at hs
 exact WE (by rw [List.append_nil]; simp only [mapO, lend_cs hb1 hn, lend_cs hb2 hn]) hs rfl k
theorem f11 {l : List Opn} {t : Tab} (hl : ∀ o ∈ l, o.ok) (hsz : l.length * 16 ≤ 140737488351232) : HV Try.prog 11 [.row (l.map opC), .agg (tabC t)] (bl true) := by
 refine yX yZ cf11 (by simp) (by simp [imms, imm, wJ, qO]) ?_ rfl
 unfold ac11 re11
 refine yN fun env hE => ?_; have ee := cj9 hE 0 1 3 4 5 6 7 8 9; simp -implicitDefEqProofs only [push_cast] at ee; clear hE
 by_cases h60 : 60 < l.length ∧ l.length ≤ 1024
 · have d1 : decide (60 < (l.length : Int)) = true := dT (by omega)
   have d2 : decide ((l.length : Int) ≤ 1024) = true := dT (by omega)
   repeat' (first | ((try clear hf); with_reducible refine yD fun env K hE hK hf => ?_; have n := cj9 hE 0 1 3 4 5 6 7 8 9; simp -implicitDefEqProofs only [push_cast, reduceIte, Nat.reduceEqDiff, ee] at n; clear hE ee; have ee := n; clear n) | (with_reducible first | (refine hK _ _ ?_; clear hK K) | (refine Zi ?_; constructor) | refine yB (by decide) ?_ | refine yH (by assumption) ?_ | refine yJ (by assumption) ?_) | (refine yC rfl ?_) | (simp -implicitDefEqProofs only [push_cast, sevalprocAttr, eq_self, ee, d1, d2, qM]) | (simp (disch := omega) only [yF, yK, yG, yL]) | ((first | refine yE rfl (fun bb => ?_) (fun bb => ?_) | with_reducible refine yI (fun bb => ?_) (fun bb => ?_)) <;> (first | have bp := oT bb | have bp := oF bb | skip) <;> try simp only [bb]) | ((with_reducible refine And.intro ?_ ?_); omega) | (refine yP f43 ?_) | (with_reducible refine yM ?_ ?_))
 have hn2 : l.length ≤ 120 ∨ 1024 < l.length := by omega
 have q1 : ∀ x : Int, decide (x = x) = true := fun x => dT rfl
 have hL := f33 l l (by omega)
 rw [dT rfl] at hL
 have hbT := h60
 have hbox : ∀ {h1 : Hp}, Ext ((emp.tick.tick.push (2, 3) (tabC t)).tick.tick.tick.tick) h1 → h1.hp (2, 3) = some ⟨true, tabC t⟩ := fun hx => by
  rw [hx.2 _ (by simp only [qE, YJ]; decide)]
  simp -implicitDefEqProofs only [push_cast, sevalprocAttr, eq_self]
 have main : ∀ (b1 b2 : Bool), decide (60 < (l.length : Int)) = b1 → decide ((l.length : Int) ≤ 1024) = b2 → (b1 && b2) = false → True := fun _ _ _ _ _ => trivial
 by_cases h61 : 60 < l.length
 · have d1 : decide (60 < (l.length : Int)) = true := dT (by omega)
   have d2 : decide ((l.length : Int) ≤ 1024) = false := dF (by omega)
   have hE : cycE l t ≠ 0 := fun h => by
    unfold cycE at h
    split at h
    · rename_i h1; exact h1 h
    · rename_i h1
      have := (WP (Classical.not_not.1 h1)).2.1
      omega
   repeat' (first | ((try clear hf); with_reducible refine yD fun env K hE hK hf => ?_; have n := cj9 hE 0 1 3 4 5 6 7 8 9; simp -implicitDefEqProofs only [push_cast, reduceIte, Nat.reduceEqDiff, ee] at n; clear hE ee; have ee := n; clear n) | (with_reducible first | (refine hK _ _ ?_; clear hK K) | (refine Zi ?_; constructor) | refine yB (by decide) ?_ | refine yH (by assumption) ?_ | refine yJ (by assumption) ?_) | (refine yC rfl ?_) | (simp -implicitDefEqProofs only [push_cast, sevalprocAttr, eq_self, ee, d1, d2, qM, hbT, q1]) | (simp (disch := omega) only [yF, yK, yG, yL]) | ((first | refine yE rfl (fun bb => ?_) (fun bb => ?_) | with_reducible refine yI (fun bb => ?_) (fun bb => ?_)) <;> (first | have bp := oT bb | have bp := oF bb | skip) <;> try simp only [bb]) | ((with_reducible refine And.intro ?_ ?_); omega) | (refine call_own (YE (by simp [imms, imm, qO])) (f30 l hsz) ?_) | (refine qB (HC.mono (f44 hl) ?_); rintro r h1 ⟨hx, hod, hr⟩ hF; replace hr := (hr.resolve_right (fun h => hE h.1)).2; subst hr; have hbT := hbox hx) | (refine qB (HC.mono (f45 hl hn2 hod) ?_); rintro r h2 ⟨hx2, hr⟩ hF2; replace hr := (hr.resolve_right (fun h => hE h.1)).2; subst hr) | (refine yP f34'n ?_) | (refine yP hL ?_) | (refine yP f43 ?_) | (with_reducible refine yM ?_ ?_))
   all_goals trace_state
   all_goals sorry
 have d1 : decide (60 < (l.length : Int)) = false := dF (by omega)
 by_cases hE : cycE l t = 0
 rotate_left
 · repeat' (first | ((try clear hf); with_reducible refine yD fun env K hE hK hf => ?_; have n := cj9 hE 0 1 3 4 5 6 7 8 9; simp -implicitDefEqProofs only [push_cast, reduceIte, Nat.reduceEqDiff, ee] at n; clear hE ee; have ee := n; clear n) | (with_reducible first | (refine hK _ _ ?_; clear hK K) | (refine Zi ?_; constructor) | refine yB (by decide) ?_ | refine yH (by assumption) ?_ | refine yJ (by assumption) ?_) | (refine yC rfl ?_) | (simp -implicitDefEqProofs only [push_cast, sevalprocAttr, eq_self, ee, d1, qM, hbT, q1]) | (simp (disch := omega) only [yF, yK, yG, yL]) | ((first | refine yE rfl (fun bb => ?_) (fun bb => ?_) | with_reducible refine yI (fun bb => ?_) (fun bb => ?_)) <;> (first | have bp := oT bb | have bp := oF bb | skip) <;> try simp only [bb]) | ((with_reducible refine And.intro ?_ ?_); omega) | (refine call_own (YE (by simp [imms, imm, qO])) (f30 l hsz) ?_) | (refine qB (HC.mono (f44 hl) ?_); rintro r h1 ⟨hx, hod, hr⟩ hF; replace hr := (hr.resolve_right (fun h => hE h.1)).2; subst hr; have hbT := hbox hx) | (refine qB (HC.mono (f45 hl hn2 hod) ?_); rintro r h2 ⟨hx2, hr⟩ hF2; replace hr := (hr.resolve_right (fun h => hE h.1)).2; subst hr) | (refine yP f34'n ?_) | (refine yP hL ?_) | (refine yP f43 ?_) | (with_reducible refine yM ?_ ?_))
   all_goals trace_state
   all_goals sorry
 repeat' (first | ((try clear hf); with_reducible refine yD fun env K hE hK hf => ?_; have n := cj9 hE 0 1 3 4 5 6 7 8 9; simp -implicitDefEqProofs only [push_cast, reduceIte, Nat.reduceEqDiff, ee] at n; clear hE ee; have ee := n; clear n) | (with_reducible first | (refine hK _ _ ?_; clear hK K) | (refine Zi ?_; constructor) | refine yB (by decide) ?_ | refine yH (by assumption) ?_ | refine yJ (by assumption) ?_) | (refine yC rfl ?_) | (simp -implicitDefEqProofs only [push_cast, sevalprocAttr, eq_self, ee, d1, qM, hbT, q1]) | (simp (disch := omega) only [yF, yK, yG, yL]) | ((first | refine yE rfl (fun bb => ?_) (fun bb => ?_) | with_reducible refine yI (fun bb => ?_) (fun bb => ?_)) <;> (first | have bp := oT bb | have bp := oF bb | skip) <;> try simp only [bb]) | ((with_reducible refine And.intro ?_ ?_); omega) | (refine call_own (YE (by simp [imms, imm, qO])) (f30 l hsz) ?_) | (refine qB (HC.mono (f44 hl) ?_); rintro r h1 ⟨hx, hod, hr⟩ hF; obtain ⟨_, i1, rfl, hb1, hn1, _, _, hi1, hi2⟩ := hr.resolve_left (fun h => h.1 hE); have hbT := hbox hx) | (refine qB (HC.mono (f45 hl hn2 hod) ?_); rintro r h2 ⟨hx2, hr⟩ hF2; obtain ⟨_, i2, rfl, hb2, _, _, _⟩ := hr.resolve_left (fun h => h.1 hE); replace hb1 := (hx2.2 i1 (by simp only [qE]; omega)).trans hb1) | (refine call_two hb1 hb2 hn1 (by omega) ?_) | (refine yP hL ?_) | (refine yP f43 ?_) | (with_reducible refine yM ?_ ?_))
 all_goals trace_state
 all_goals sorry
end Go.Proofs.Hx
