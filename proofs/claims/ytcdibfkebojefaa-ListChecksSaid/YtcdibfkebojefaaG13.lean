import Derived.Test.YtcdibfkebojefaaG11
import Derived.Test.YtcdibfkebojefaaG9
import Derived.Test.YtcdibfkebojefaaW29
import Derived.Test.YtcdibfkebojefaaG7
set_option linter.unusedVariables false
set_option linter.unusedSimpArgs false
namespace Go.Proofs.Hx
open Go Go.Proofs
attribute [local irreducible] yS awp opK goV goM qB qC qG yW HV HVF HC
theorem lend_is {h : Hp} {id : Id} {H : List Int} {n : Nat} (hb : h.hp id = some ⟨true, H.map iC⟩) (hn : H.length = n) : lend wD h (.sl id 0 n 1) = some (.row (H.map intC)) := by
 rw [← flat_intC] at hb
 have := WR 7 (f := intC) (sz := 1) (fun _ => rfl) (fun _ => rfl) hb (UF (fun _ => rfl) H)
 rw [hn] at this
 exact this
theorem f34'c {a b : AV} {as1 bs : List Int} (ha : CycA a as1) (hb : CycA b bs) (hn : as1.length ≤ 100000000000000) : HV Try.prog 34 [a, b] (bl (decide (as1 = bs))) := by
 refine yV yZ cf34 (by simp) (by simp [imms, ha.imm, hb.imm]) ?_ rfl
 unfold ac34 re34
 have la := ha.len
 have lb := hb.len
 refine yN fun env hE => ?_; have ee := cj4 hE 0 1 4 5; simp -implicitDefEqProofs only [push_cast] at ee; clear hE
 by_cases hl : as1.length = bs.length
 rotate_left
 · have d0 : decide ((as1.length : Int) ≠ (bs.length : Int)) = true := dT (by omega)
   have : decide (as1 = bs) = false := dF (fun h => hl (by rw [h]))
   rw [this]
   repeat' (first | ((try clear hf); with_reducible refine yD fun env K hE hK hf => ?_; have n := cj4 hE 0 1 4 5; simp -implicitDefEqProofs only [push_cast, reduceIte, Nat.reduceEqDiff, ee] at n; clear hE ee; have ee := n; clear n) | (with_reducible first | (refine hK _ _ ?_; clear hK K) | (refine Zi ?_; constructor) | refine yB (by decide) ?_ | refine yH (by assumption) ?_ | refine yJ (by assumption) ?_) | (refine yC rfl ?_) | (simp -implicitDefEqProofs only [push_cast, sevalprocAttr, eq_self, ee, d0, la, lb]) | (simp (disch := omega) only [yF, yK, yG, yL, la, lb]) | ((first | refine yE rfl (fun bb => ?_) (fun bb => ?_) | with_reducible refine yI (fun bb => ?_) (fun bb => ?_)) <;> (first | have bp := oT bb | have bp := oF bb | skip) <;> try simp only [bb]) | ((with_reducible refine And.intro ?_ ?_); omega) | (with_reducible refine yM ?_ ?_))
 have d0 : decide ((as1.length : Int) ≠ (bs.length : Int)) = false := dF (by omega)
 repeat' (first | ((try clear hf); with_reducible refine yD fun env K hE hK hf => ?_; have n := cj4 hE 0 1 4 5; simp -implicitDefEqProofs only [push_cast, reduceIte, Nat.reduceEqDiff, ee] at n; clear hE ee; have ee := n; clear n) | (with_reducible first | (refine hK _ _ ?_; clear hK K) | (refine Zi ?_; constructor) | refine yB (by decide) ?_ | refine yH (by assumption) ?_ | refine yJ (by assumption) ?_) | (refine yC rfl ?_) | (simp -implicitDefEqProofs only [push_cast, sevalprocAttr, eq_self, ee, d0, la, lb]) | (simp (disch := omega) only [yF, yK, yG, yL, la, lb]) | ((first | refine yE rfl (fun bb => ?_) (fun bb => ?_) | with_reducible refine yI (fun bb => ?_) (fun bb => ?_)) <;> (first | have bp := oT bb | have bp := oF bb | skip) <;> try simp only [bb]) | ((with_reducible refine And.intro ?_ ?_); omega) | (with_reducible refine yM ?_ ?_))
 refine yN fun env hE => ?_; have n := cj4 hE 0 1 4 5; simp -implicitDefEqProofs only [push_cast, reduceIte, Nat.reduceEqDiff, ee] at n; clear hE ee; have ee := n; clear n; have E34_0 := ee; obtain ⟨e0, e1, e4, e5⟩ := ee
 refine yU (fun nn σ => ∃ (k : Nat), nn = as1.length - k ∧ kp [0, 1] σ.env env ∧ σ.env 5 = i64 k ∧ (k ≤ as1.length ∧ ∀ q, q < k → as1.getD q 0 = bs.getD q 0)) _ ⟨0, rfl, qJ _ _, by refine e5.trans ?_; first | rfl | exact yO (by omega) | exact i64w (by omega), ?_⟩ ?_
 · exact ⟨by omega, fun q hq => by omega⟩
 clear e0 e1 e4 e5; rintro nn ⟨env, h⟩ ⟨k, rfl, q, e5, hI⟩; simp only at e5 hI; simp only [kp, and_true, E34_0] at q; have ee : _ ∧ _ := ⟨e5, q⟩; clear e5 q
 obtain ⟨hk, hall⟩ := hI
 unfold l34_0
 by_cases hlt : k < as1.length
 · have hd : decide ((k : Int) < (as1.length : Int)) = true := dT (by omega)
   have r1 := ha.at (k := k) hlt
   have r2 := hb.at (k := k) (by omega)
   by_cases hc : as1.getD k 0 = bs.getD k 0
   · have d1 : decide (as1.getD k 0 ≠ bs.getD k 0) = false := dF (fun h => h hc)
     repeat' (first | ((try clear hf); with_reducible refine yD fun env K hE hK hf => ?_; have n := cj4 hE 0 1 4 5; simp -implicitDefEqProofs only [push_cast, reduceIte, Nat.reduceEqDiff, ee] at n; clear hE ee; have ee := n; clear n) | (with_reducible first | (refine hK _ _ ?_; clear hK K) | (refine Zi ?_; constructor) | refine yB (by decide) ?_ | refine yH (by assumption) ?_ | refine yJ (by assumption) ?_) | (refine yC rfl ?_) | (simp -implicitDefEqProofs only [push_cast, sevalprocAttr, eq_self, ee, hd, la, lb, r1, r2, d1]) | (simp (disch := omega) only [yF, yK, yG, yL, la, lb, r1, r2]) | ((first | refine yE rfl (fun bb => ?_) (fun bb => ?_) | with_reducible refine yI (fun bb => ?_) (fun bb => ?_)) <;> (first | have bp := oT bb | have bp := oF bb | skip) <;> try simp only [bb]) | ((with_reducible refine And.intro ?_ ?_); omega) | (with_reducible refine yM ?_ ?_))
     refine ⟨_, ?_, k + 1, rfl, by simp -implicitDefEqProofs only [kp, push_cast, reduceIte, Nat.reduceEqDiff, ee, E34_0, and_self], by first | rfl | exact yO (by omega) | exact i64w (by omega), ?_⟩
     · omega
     · refine ⟨by omega, fun q hq => ?_⟩
       by_cases e : q < k
       · exact hall q e
       · obtain rfl : q = k := by omega
         exact hc
   · have d1 : decide (as1.getD k 0 ≠ bs.getD k 0) = true := dT hc
     have : decide (as1 = bs) = false := dF (fun h => hc (by rw [h]))
     rw [this]
     repeat' (first | ((try clear hf); with_reducible refine yD fun env K hE hK hf => ?_; have n := cj4 hE 0 1 4 5; simp -implicitDefEqProofs only [push_cast, reduceIte, Nat.reduceEqDiff, ee] at n; clear hE ee; have ee := n; clear n) | (with_reducible first | (refine hK _ _ ?_; clear hK K) | (refine Zi ?_; constructor) | refine yB (by decide) ?_ | refine yH (by assumption) ?_ | refine yJ (by assumption) ?_) | (refine yC rfl ?_) | (simp -implicitDefEqProofs only [push_cast, sevalprocAttr, eq_self, ee, hd, la, lb, r1, r2, d1]) | (simp (disch := omega) only [yF, yK, yG, yL, la, lb, r1, r2]) | ((first | refine yE rfl (fun bb => ?_) (fun bb => ?_) | with_reducible refine yI (fun bb => ?_) (fun bb => ?_)) <;> (first | have bp := oT bb | have bp := oF bb | skip) <;> try simp only [bb]) | ((with_reducible refine And.intro ?_ ?_); omega) | (with_reducible refine yM ?_ ?_))
 · have hd : decide ((k : Int) < (as1.length : Int)) = false := dF (by omega)
   have : decide (as1 = bs) = true := dT (by
    apply List.ext_getElem hl
    intro q h1 h2
    have := hall q (by omega)
    simpa [gD, h1, h2] using this)
   rw [this]
   repeat' (first | ((try clear hf); with_reducible refine yD fun env K hE hK hf => ?_; have n := cj4 hE 0 1 4 5; simp -implicitDefEqProofs only [push_cast, reduceIte, Nat.reduceEqDiff, ee] at n; clear hE ee; have ee := n; clear n) | (with_reducible first | (refine hK _ _ ?_; clear hK K) | (refine Zi ?_; constructor) | refine yB (by decide) ?_ | refine yH (by assumption) ?_ | refine yJ (by assumption) ?_) | (refine yC rfl ?_) | (simp -implicitDefEqProofs only [push_cast, sevalprocAttr, eq_self, ee, hd, la, lb]) | (simp (disch := omega) only [yF, yK, yG, yL, la, lb]) | ((first | refine yE rfl (fun bb => ?_) (fun bb => ?_) | with_reducible refine yI (fun bb => ?_) (fun bb => ?_)) <;> (first | have bp := oT bb | have bp := oF bb | skip) <;> try simp only [bb]) | ((with_reducible refine And.intro ?_ ?_); omega) | (with_reducible refine yM ?_ ?_))
open Classical in
noncomputable def cycL (l : List Opn) (t : Tab) : List Int := if cycE l t = 0 then cycS l t else []
noncomputable def cycA (l : List Opn) (t : Tab) : AV := .tup [.row ((cycL l t).map intC), i64 (cycE l t)]
theorem cycA_imm (l : List Opn) (t : Tab) : imm (cycA l t) = true := by simp [cycA, imm, imms, WU]
theorem lendF_tup2 {h : Hp} {a b x y : AV} (h1 : lendF 7 h a = some x) (h2 : lendF 7 h b = some y) : lendF wD h (.tup [a, b]) = some (.tup [x, y]) := by
 unfold wD
 rw [lendF]
 simp only [atom, Bool.false_eq_true, if_false, mapO, h1, h2, Option.map_some]
theorem cyc_hvf {l : List Opn} {t : Tab} (hl : ∀ o ∈ l, o.ok) : HVF Try.prog 44 [.row (l.map opC), .agg (tabC t)] (cycA l t) := by
 refine HVF_of_HC (by simp [imms, imm, wI, qR]) (cycA_imm l t) (HC.mono (f44 hl) fun r h' hk => ?_)
 obtain ⟨_, _, hr⟩ := hk
 have hi : ∀ n, lendF 7 h' (i64 n) = some (i64 n) := fun n => rfl
 rcases hr with ⟨h1, rfl⟩ | ⟨h1, id, rfl, hb, hlen, _, _, _, hle⟩
 · unfold cycA cycL
   rw [if_neg h1]
   exact lendF_tup2 (lendF_nil 6 h') (hi _)
 · unfold cycA cycL
   rw [if_pos h1, h1]
   have hs : SlO intC 1 h' (.sl id 0 l.length 1) (cycS l t) := ⟨.inr ⟨id, by rw [hlen], by rw [flat_intC]; exact hb, hle⟩⟩
   exact lendF_tup2 (hs.lendF (fun _ => rfl) (fun a x hx => by simp only [intC, List.mem_singleton] at hx; subst hx; rfl) 6) (hi _)
def roomC (l : List Opn) (t : Tab) (cs : List Int) (i : Nat) (y : Int) : Bool := (List.range (t.b (clsN (opAt l i))).toNat).all fun j => decide (useR l t cs l.length (clsN (opAt l i)) (y + j) + 1 ≤ t.u (clsN (opAt l i)))
theorem roomC_iff (l : List Opn) (t : Tab) (cs : List Int) (i : Nat) (y : Int) : roomC l t cs i y = true ↔ roomG l t cs i y := by
 simp only [roomC, roomG, List.all_eq_true, List.mem_range, decide_eq_true_eq]
 exact ⟨fun h j hj => h j (by omega), fun h j hj => h j (by omega)⟩
def fitC (l : List Opn) (t : Tab) (ES : List Edg) (cs : List Int) (i : Nat) (y : Int) : Bool := decide (cs.getD i 0 < 0) && wB (inE ES i) cs y && roomC l t cs i y
theorem fitC_iff (l : List Opn) (t : Tab) (ES : List Edg) (cs : List Int) (i : Nat) (y : Int) : fitC l t ES cs i y = true ↔ fitP l t ES cs i y := by
 simp only [fitC, fitP, Bool.and_eq_true, decide_eq_true_eq, roomC_iff, and_assoc]
def nextGC (l : List Opn) (t : Tab) (ES : List Edg) (os : List Int) (s : List Int × Int) : List Int × Int :=
 if s.1.all fun x => decide (0 ≤ x) then s else match os.find? (fun i => fitC l t ES s.1 i.toNat s.2) with
  | some i => (s.1.set i.toNat s.2, s.2)
  | none => (s.1, s.2 + 1)
theorem nextGC_eq (l : List Opn) (t : Tab) (ES : List Edg) (os : List Int) (s : List Int × Int) : nextGC l t ES os s = nextG l t ES os s := by
 unfold nextGC nextG
 have h1 : (s.1.all fun x => decide (0 ≤ x)) = true ↔ wJ s.1 := by simp [wJ]
 have h2 : (fun i : Int => fitC l t ES s.1 i.toNat s.2) = fun i : Int => @decide (fitP l t ES s.1 i.toNat s.2) (Classical.propDecidable _) := by
  funext i
  by_cases h : fitP l t ES s.1 i.toNat s.2
  · rw [(fitC_iff _ _ _ _ _ _).2 h]; simp [h]
  · rw [Bool.eq_false_iff.2 (fun h' => h ((fitC_iff _ _ _ _ _ _).1 h'))]; simp [h]
 by_cases h : wJ s.1
 · rw [if_pos (h1.2 h), if_pos h]
 · rw [if_neg (fun h' => h (h1.1 h')), if_neg h, h2]
   rfl
def iterC (l : List Opn) (t : Tab) (ES : List Edg) (os : List Int) : Nat → List Int × Int
 | 0 => (List.replicate l.length (-1), 0)
 | m + 1 => nextGC l t ES os (iterC l t ES os m)
theorem iterC_eq (l : List Opn) (t : Tab) (ES : List Edg) (os : List Int) : ∀ m, iterC l t ES os m = iterG l t ES os m
 | 0 => rfl
 | m + 1 => by rw [iterC, iterG, nextGC_eq, iterC_eq l t ES os m]
theorem cycS_of (l : List Opn) (t : Tab) (m : Nat) (cs : List Int) (y : Int) (h : iterC l t (YH l t l.length) (ordL (WD l t)) m = (cs, y)) (hd : wJ cs) : cycS l t = cs :=
 finG_of ⟨m, by rw [← iterC_eq]; exact h⟩ hd
def ex4 (a b c d : Int) : Nat → Int | 0 => a | 1 => b | 2 => c | _ => d
def exT : Tab := ⟨ex4 1 1 1 1, ex4 1 3 2 1, ex4 1 2 1 1, 0⟩
def exU : Tab := ⟨ex4 1 0 1 1, ex4 1 3 2 1, ex4 1 2 1 1, 0⟩
def exL : List Opn := [⟨12, 1, 2, 3, 0⟩, ⟨12, 4, 2, 2, 0⟩, ⟨12, 5, 2, 2, 0⟩]
theorem ex_cyc : cycL exL exT = [0, 2, 4] := by
 have h : cycE exL exT = 0 := by decide +kernel
 unfold cycL
 rw [if_pos h]
 exact cycS_of _ _ 9 _ 4 (by decide +kernel) (by unfold wJ; decide)
theorem ex_T : cycA exL exT = .tup [.row [[i64 0], [i64 2], [i64 4]], i64 0] := by
 unfold cycA
 rw [ex_cyc, show cycE exL exT = 0 from by decide +kernel]
 rfl
theorem ex_U : cycA exL exU = .tup [.row [], i64 21] := by
 have h : cycE exL exU = 21 := by decide +kernel
 unfold cycA cycL
 rw [h, if_neg (by decide)]
 rfl
def roomKC (l : List Opn) (t : Tab) (cs : List Int) (k : Nat) : Bool := (List.range (t.b (clsN (opAt l k))).toNat).all fun j => decide (useN l t cs k (clsN (opAt l k)) (cs.getD k 0 + j) + 1 ≤ t.u (clsN (opAt l k)))
theorem roomKC_iff (l : List Opn) (t : Tab) (cs : List Int) (k : Nat) : roomKC l t cs k = true ↔ roomK l t cs k := by
 simp only [roomKC, roomK, List.all_eq_true, List.mem_range, decide_eq_true_eq]
 exact ⟨fun h j hj => h j (by omega), fun h j hj => h j (by omega)⟩
def checkC (l : List Opn) (t : Tab) (cs : List Int) : Bool := decide (errR l t = 0) && (!WT l t) && decide (cs.length = l.length) && (cs.all fun x => decide (0 ≤ x) && decide (x ≤ 65536)) && ((List.range l.length).all fun k => wB (inE (YH l t l.length) k) cs (cs.getD k 0) && roomKC l t cs k)
theorem checkC_iff (l : List Opn) (t : Tab) (cs : List Int) : checkC l t cs = true ↔ checkP l t cs := by
 simp only [checkC, checkP, Bool.and_eq_true, decide_eq_true_eq, List.all_eq_true, List.mem_range, roomKC_iff, Bool.not_eq_true', and_assoc]
theorem ex_ok : YF exL exT [0, 2, 4] = true := checkB_t ((checkC_iff _ _ _).1 (by decide +kernel))
theorem ex_no : YF exL exT [0, 1, 4] = false := wY fun h => by
 have h1 := (checkC_iff _ _ _).2 h
 rw [show checkC exL exT [0, 1, 4] = false from by decide +kernel] at h1
 cases h1
theorem exL_ok : ∀ o ∈ exL, o.ok := by
 intro o ho
 simp only [exL, List.mem_cons, List.not_mem_nil, or_false] at ho
 rcases ho with rfl | rfl | rfl <;> exact ⟨by decide, by decide, by decide, by decide, by decide⟩
theorem lend_exL {h : Hp} {id : Id} (hb : h.hp id = some ⟨true, exL.flatMap opC⟩) : lend wD h (.sl id 0 3 5) = some (.row (exL.map opC)) := WR 7 opC_len opC_imms hb rfl
theorem call_cyc {d : Option Nat} {K : St → Prop} {env : Nat → AV} {h : Hp} {id : Id} {t : Tab} {x r : AV} (hb : h.hp id = some ⟨true, exL.flatMap opC⟩) (hx : x = .agg (tabC t)) (hr : cycA exL t = r) (k : K ⟨putA env d r, h.tick⟩) : qB Try.prog d K env h false (.fn 44 []) [.sl id 0 3 5, x] := by
 subst hx; subst hr
 refine call_own ?_ (cyc_hvf exL_ok) k
 rw [List.append_nil]
 simp only [mapO, lend_exL hb, YY (show imm (.agg (tabC t)) = true from rfl)]
theorem lend_3 {h : Hp} {id : Id} {a b c : Int} (hb : h.hp id = some ⟨true, [i64 a, i64 b, i64 c]⟩) : lend wD h (.sl id 0 3 1) = some (.row [[i64 a], [i64 b], [i64 c]]) := by
 simp [wD, lend, imm, imms, hb, mapO, YX]
 rfl
theorem call_chk {d : Option Nat} {K : St → Prop} {env : Nat → AV} {h : Hp} {id : Id} {t : Tab} {x : AV} {a b c : Int} {r : Bool} (hb : h.hp id = some ⟨true, exL.flatMap opC⟩) (hx : x = .agg (tabC t)) (hr : YF exL t [a, b, c] = r) (k : K ⟨putA env d (bl r), h.tick⟩) : qB Try.prog d K env h false (.fn 46 []) [.sl id 0 3 5, x, .row [[i64 a], [i64 b], [i64 c]]] := by
 subst hx; subst hr
 refine UG ?_ (f46 exL t [a, b, c] exL_ok (by simp) (CycA.row [a, b, c])) rfl k
 rw [List.append_nil]
 simp only [mapO, lend_exL hb, YY (show imm (.agg (tabC t)) = true from rfl), YY (show imm (.row [[i64 a], [i64 b], [i64 c]]) = true from rfl)]
 rfl
theorem call_chk2 {d : Option Nat} {K : St → Prop} {env : Nat → AV} {h : Hp} {id id2 : Id} {t : Tab} {x : AV} {a b c : Int} {r : Bool} (hb : h.hp id = some ⟨true, exL.flatMap opC⟩) (hb2 : h.hp id2 = some ⟨true, [i64 a, i64 b, i64 c]⟩) (hx : x = .agg (tabC t)) (hr : YF exL t [a, b, c] = r) (k : K ⟨putA env d (bl r), h.tick⟩) : qB Try.prog d K env h false (.fn 46 []) [.sl id 0 3 5, x, .sl id2 0 3 1] := by
 subst hx; subst hr
 refine UG ?_ (f46 exL t [a, b, c] exL_ok (by simp) (CycA.row [a, b, c])) rfl k
 rw [List.append_nil]
 simp only [mapO, lend_exL hb, YY (show imm (.agg (tabC t)) = true from rfl), lend_3 hb2]
 rfl
theorem call_sm {d : Option Nat} {K : St → Prop} {env : Nat → AV} {h : Hp} {id2 : Id} {a b c : Int} (hb2 : h.hp id2 = some ⟨true, [i64 a, i64 b, i64 c]⟩) (k : K ⟨putA env d (bl true), h.tick⟩) : qB Try.prog d K env h false (.fn 34 []) [.row [[i64 a], [i64 b], [i64 c]], .sl id2 0 3 1] := by
 have hs := f34 [a, b, c] [a, b, c] (by simp)
 rw [dT rfl] at hs
 refine UG ?_ hs rfl k
 rw [List.append_nil]
 simp only [mapO, lend_3 hb2, YY (show imm (.row [[i64 a], [i64 b], [i64 c]]) = true from rfl)]
 rfl
theorem f43 : HV Try.prog 43 [] (bl true) := by
 refine yV yZ cf43 (by simp) rfl ?_ rfl
 unfold ac43 re43
 refine yN fun env hE => ?_; have ee := cj7 hE 0 1 2 3 4 5 7; simp -implicitDefEqProofs only [push_cast] at ee; clear hE
 have q1 : ∀ x : Int, decide (x = x) = true := fun x => dT rfl
 repeat' (first | ((try clear hf); with_reducible refine yD fun env K hE hK hf => ?_; have n := cj7 hE 0 1 2 3 4 5 7; simp -implicitDefEqProofs only [push_cast, reduceIte, Nat.reduceEqDiff, ee] at n; clear hE ee; have ee := n; clear n) | (with_reducible first | (refine hK _ _ ?_; clear hK K) | (refine Zi ?_; constructor) | refine yB (by decide) ?_ | refine yH (by assumption) ?_ | refine yJ (by assumption) ?_) | (refine yC rfl ?_) | (simp -implicitDefEqProofs only [push_cast, sevalprocAttr, eq_self, ee, q1]) | (simp (disch := omega) only [yF, yK, yG, yL]) | ((first | refine yE rfl (fun bb => ?_) (fun bb => ?_) | with_reducible refine yI (fun bb => ?_) (fun bb => ?_)) <;> (first | have bp := oT bb | have bp := oF bb | skip) <;> try simp only [bb]) | ((with_reducible refine And.intro ?_ ?_); omega) | (refine call_cyc (t := exT) (by first | (simp -implicitDefEqProofs only [push_cast, sevalprocAttr, eq_self]; done) | (simp -implicitDefEqProofs only [push_cast, sevalprocAttr, eq_self]; rfl)) rfl ex_T ?_) | (refine call_cyc (t := exU) (by first | (simp -implicitDefEqProofs only [push_cast, sevalprocAttr, eq_self]; done) | (simp -implicitDefEqProofs only [push_cast, sevalprocAttr, eq_self]; rfl)) rfl ex_U ?_) | (refine call_sm (by first | (simp -implicitDefEqProofs only [push_cast, sevalprocAttr, eq_self]; done) | (simp -implicitDefEqProofs only [push_cast, sevalprocAttr, eq_self]; rfl)) ?_) | (refine call_chk (t := exT) (by first | (simp -implicitDefEqProofs only [push_cast, sevalprocAttr, eq_self]; done) | (simp -implicitDefEqProofs only [push_cast, sevalprocAttr, eq_self]; rfl)) rfl ex_ok ?_) | (refine call_chk2 (t := exT) (by first | (simp -implicitDefEqProofs only [push_cast, sevalprocAttr, eq_self]; done) | (simp -implicitDefEqProofs only [push_cast, sevalprocAttr, eq_self]; rfl)) (by first | (simp -implicitDefEqProofs only [push_cast, sevalprocAttr, eq_self]; done) | (simp -implicitDefEqProofs only [push_cast, sevalprocAttr, eq_self]; rfl)) rfl ex_no ?_) | (with_reducible refine yM ?_ ?_))
 all_goals trace_state
 all_goals sorry
theorem call_checkq {d : Option Nat} {K : St → Prop} {env : Nat → AV} {h : Hp} {id : Id} {l : List Opn} {t : Tab} {cs : List Int} (hb : h.hp id = some ⟨true, cs.map iC⟩) (hl : ∀ o ∈ l, o.ok) (hcn : cs.length ≤ 100000000000000) (k : K ⟨putA env d (bl (YF l t cs)), h⟩) :
 qB Try.prog d K env h true (.fn 46 []) [.row (l.map opC), .agg (tabC t), .sl id 0 cs.length 1] := by
 refine call_lendq ?_ (f46 l t cs hl hcn (CycA.row cs)) rfl k
 rw [List.append_nil]
 simp only [mapO, YY (show imm (.row (l.map opC)) = true from by simp [imm, qR]), YY (show imm (.agg (tabC t)) = true from rfl), lend_is hb rfl]
theorem call_likeq {d : Option Nat} {K : St → Prop} {env : Nat → AV} {h : Hp} {id : Id} {cs : List Int} (hb : h.hp id = some ⟨true, cs.map iC⟩) (hcn : cs.length ≤ 100000000000000) (k : K ⟨putA env d (bl true), h⟩) :
 qB Try.prog d K env h true (.fn 34 []) [.sl id 0 cs.length 1, .row (cs.map intC)] := by
 have hs := f34 cs cs (by omega)
 rw [dT rfl] at hs
 refine call_lendq ?_ hs rfl k
 rw [List.append_nil]
 simp only [mapO, lend_is hb rfl, YY (show imm (.row (cs.map intC)) = true from WU cs)]
theorem f12 {l : List Opn} {t : Tab} {cs : List Int} (hl : ∀ o ∈ l, o.ok) (hcz : cs.length * 8 ≤ 140737488351232) : HV Try.prog 12 [.row (l.map opC), .agg (tabC t), .row (cs.map intC)] (bl true) := by
 refine yV yZ cf12 (by simp) (by simp [imms, imm, wI, qR, WU]) ?_ rfl
 unfold ac12 re12
 refine yN fun env hE => ?_; have ee := cj6 hE 0 1 2 4 6 7; simp -implicitDefEqProofs only [push_cast] at ee; clear hE
 by_cases h60 : 60 < l.length
 · have d1 : decide (60 < (l.length : Int)) = true := dT (by omega)
   repeat' (first | ((try clear hf); with_reducible refine yD fun env K hE hK hf => ?_; have n := cj6 hE 0 1 2 4 6 7; simp -implicitDefEqProofs only [push_cast, reduceIte, Nat.reduceEqDiff, ee] at n; clear hE ee; have ee := n; clear n) | (with_reducible first | (refine hK _ _ ?_; clear hK K) | (refine Zi ?_; constructor) | refine yB (by decide) ?_ | refine yH (by assumption) ?_ | refine yJ (by assumption) ?_) | (refine yC rfl ?_) | (simp -implicitDefEqProofs only [push_cast, sevalprocAttr, eq_self, ee, d1, qM]) | (simp (disch := omega) only [yF, yK, yG, yL]) | ((first | refine yE rfl (fun bb => ?_) (fun bb => ?_) | with_reducible refine yI (fun bb => ?_) (fun bb => ?_)) <;> (first | have bp := oT bb | have bp := oF bb | skip) <;> try simp only [bb]) | ((with_reducible refine And.intro ?_ ?_); omega) | (refine yP f43 ?_) | (with_reducible refine yM ?_ ?_))
 have d1 : decide (60 < (l.length : Int)) = false := dF (by omega)
 have hR := f47 l t cs hl (by omega)
 by_cases h0 : cs = []
 · have ha : ∀ (h : Hp) (id : Id), appV h id 1 8 cs.length (cs.flatMap intC) .nil = some (.nil, h) := fun h id => by rw [h0]; exact appV_nil0 h id 1 8 []
   have hE := f46 l t cs hl (by omega) (.inr ⟨rfl, h0⟩)
   have hS := f34'c (.inr ⟨rfl, h0⟩) (CycA.row cs) (by omega)
   rw [dT rfl] at hS
   generalize YF l t cs = b at *
   have hbb : ∀ b, beqV false (bl b) (bl b) = some (bl true) := fun b => by cases b <;> rfl
   repeat' (first | ((try clear hf); with_reducible refine yD fun env K hE hK hf => ?_; have n := cj6 hE 0 1 2 4 6 7; simp -implicitDefEqProofs only [push_cast, reduceIte, Nat.reduceEqDiff, ee] at n; clear hE ee; have ee := n; clear n) | (with_reducible first | (refine hK _ _ ?_; clear hK K) | (refine Zi ?_; constructor) | refine yB (by decide) ?_ | refine yH (by assumption) ?_ | refine yJ (by assumption) ?_) | (refine yC rfl ?_) | (simp -implicitDefEqProofs only [push_cast, sevalprocAttr, eq_self, ee, d1, qM, app_src intC 1 (fun _ => rfl), ha, hbb]) | (simp (disch := omega) only [yF, yK, yG, yL, app_src intC 1 (fun _ => rfl), ha, hbb]) | ((first | refine yE rfl (fun bb => ?_) (fun bb => ?_) | with_reducible refine yI (fun bb => ?_) (fun bb => ?_)) <;> (first | have bp := oT bb | have bp := oF bb | skip) <;> try simp only [bb]) | ((with_reducible refine And.intro ?_ ?_); omega) | (refine YG hE ?_) | (refine YG hR ?_) | (refine YG hS ?_) | (refine YG f43 ?_) | (with_reducible refine yM ?_ ?_))
 · have ha : ∀ (h : Hp) (id : Id), appV h id 1 8 cs.length (cs.flatMap intC) .nil = some (.sl id 0 cs.length 1, h.push id (cs.map iC)) := fun h id => by
    rw [kU h id (by simpa using h0) (by omega), flat_intC]
   have hbb : ∀ b, beqV false (bl b) (bl b) = some (bl true) := fun b => by cases b <;> rfl
   repeat' (first | ((try clear hf); with_reducible refine yD fun env K hE hK hf => ?_; have n := cj6 hE 0 1 2 4 6 7; simp -implicitDefEqProofs only [push_cast, reduceIte, Nat.reduceEqDiff, ee] at n; clear hE ee; have ee := n; clear n) | (with_reducible first | (refine hK _ _ ?_; clear hK K) | (refine Zi ?_; constructor) | refine yB (by decide) ?_ | refine yH (by assumption) ?_ | refine yJ (by assumption) ?_) | (refine yC rfl ?_) | (simp -implicitDefEqProofs only [push_cast, sevalprocAttr, eq_self, ee, d1, qM, app_src intC 1 (fun _ => rfl), ha, hbb]) | (simp (disch := omega) only [yF, yK, yG, yL, app_src intC 1 (fun _ => rfl), ha, hbb]) | ((first | refine yE rfl (fun bb => ?_) (fun bb => ?_) | with_reducible refine yI (fun bb => ?_) (fun bb => ?_)) <;> (first | have bp := oT bb | have bp := oF bb | skip) <;> try simp only [bb]) | ((with_reducible refine And.intro ?_ ?_); omega) | (refine call_checkq (cs := cs) (by first | (simp -implicitDefEqProofs only [push_cast, sevalprocAttr, eq_self]; done) | (simp -implicitDefEqProofs only [push_cast, sevalprocAttr, eq_self]; rfl)) hl (by omega) ?_) | (refine YG hR ?_) | (refine call_likeq (cs := cs) (by first | (simp -implicitDefEqProofs only [push_cast, sevalprocAttr, eq_self]; done) | (simp -implicitDefEqProofs only [push_cast, sevalprocAttr, eq_self]; rfl)) (by omega) ?_) | (refine YG f43 ?_) | (with_reducible refine yM ?_ ?_))
end Go.Proofs.Hx
