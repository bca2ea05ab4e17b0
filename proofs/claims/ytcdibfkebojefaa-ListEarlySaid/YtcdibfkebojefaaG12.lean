import Derived.Test.YtcdibfkebojefaaG10
import Derived.Test.YtcdibfkebojefaaG8
import Derived.Test.YtcdibfkebojefaaW29
import Derived.Test.YtcdibfkebojefaaG7
set_option linter.unusedVariables false
set_option linter.unusedSimpArgs false
namespace Go.Proofs.Hx
open Go Go.Proofs
attribute [local irreducible] yR awp opK goV goM yZ qA qE yU HV HVF HC
theorem lend_is {h : Hp} {id : Id} {H : List Int} {n : Nat} (hb : h.hp id = some ⟨true, H.map iC⟩) (hn : H.length = n) : lend YT h (.sl id 0 n 1) = some (.row (H.map intC)) := by
 rw [← flat_intC] at hb
 have := WH 7 (f := intC) (sz := 1) (fun _ => rfl) (fun _ => rfl) hb (uR (fun _ => rfl) H)
 rw [hn] at this
 exact this
open Classical in
noncomputable def cycL (l : List Opn) (t : Tab) : List Int := if cycE l t = 0 then cycS l t else []
noncomputable def cycA (l : List Opn) (t : Tab) : AV := .tup [.row ((cycL l t).map intC), i64 (cycE l t)]
theorem cycA_imm (l : List Opn) (t : Tab) : imm (cycA l t) = true := by simp [cycA, imm, imms, UX]
theorem lendF_tup2 {h : Hp} {a b x y : AV} (h1 : lendF 7 h a = some x) (h2 : lendF 7 h b = some y) : lendF YT h (.tup [a, b]) = some (.tup [x, y]) := by
 unfold YT
 rw [lendF]
 simp only [atom, Bool.false_eq_true, if_false, mapO, h1, h2, Option.map_some]
theorem cyc_hvf {l : List Opn} {t : Tab} (hl : ∀ o ∈ l, o.ok) : HVF Try.prog 44 [.row (l.map opC), .agg (tabC t)] (cycA l t) := by
 refine HVF_of_HC (by simp [imms, imm, WL, YN]) (cycA_imm l t) (HC.mono (f44 hl) fun r h' hk => ?_)
 obtain ⟨_, _, hr⟩ := hk
 have hi : ∀ n, lendF 7 h' (i64 n) = some (i64 n) := fun n => rfl
 rcases hr with ⟨h1, rfl⟩ | ⟨h1, id, rfl, hb, hlen, _, _, _, hle⟩
 · unfold cycA cycL
   rw [if_neg h1]
   exact lendF_tup2 (lendF_nil 6 h') (hi _)
 · unfold cycA cycL
   rw [if_pos h1, h1]
   have hs : SlO intC 1 h' (.sl id 0 l.length 1) (cycS l t) := ⟨.inr ⟨id, by rw [hlen], by rw [flat_intC]; exact hb, hle⟩⟩
   exact lendF_tup2 (hs.lendF (fun _ => rfl) (fun a x hx => by simp only [intC, List.mem_singleton] at hx; subst hx; rfl) 6) (hi _)
def roomC (l : List Opn) (t : Tab) (cs : List Int) (i : Nat) (y : Int) : Bool := (List.range (t.b (clsN (opAt l i))).toNat).all fun j => decide (useR l t cs l.length (clsN (opAt l i)) (y + j) + 1 ≤ t.u (clsN (opAt l i)))
theorem roomC_iff (l : List Opn) (t : Tab) (cs : List Int) (i : Nat) (y : Int) : roomC l t cs i y = true ↔ roomG l t cs i y := by
 simp only [roomC, roomG, List.all_eq_true, List.mem_range, decide_eq_true_eq]
 exact ⟨fun h j hj => h j (by omega), fun h j hj => h j (by omega)⟩
def fitC (l : List Opn) (t : Tab) (ES : List Edg) (cs : List Int) (i : Nat) (y : Int) : Bool := decide (cs.getD i 0 < 0) && YR (inE ES i) cs y && roomC l t cs i y
theorem fitC_iff (l : List Opn) (t : Tab) (ES : List Edg) (cs : List Int) (i : Nat) (y : Int) : fitC l t ES cs i y = true ↔ fitP l t ES cs i y := by
 simp only [fitC, fitP, Bool.and_eq_true, decide_eq_true_eq, roomC_iff, and_assoc]
def nextGC (l : List Opn) (t : Tab) (ES : List Edg) (os : List Int) (s : List Int × Int) : List Int × Int :=
 if s.1.all fun x => decide (0 ≤ x) then s else match os.find? (fun i => fitC l t ES s.1 i.toNat s.2) with
  | some i => (s.1.set i.toNat s.2, s.2)
  | none => (s.1, s.2 + 1)
theorem nextGC_eq (l : List Opn) (t : Tab) (ES : List Edg) (os : List Int) (s : List Int × Int) : nextGC l t ES os s = nextG l t ES os s := by
 unfold nextGC nextG
 have h1 : (s.1.all fun x => decide (0 ≤ x)) = true ↔ YU s.1 := by simp [YU]
 have h2 : (fun i : Int => fitC l t ES s.1 i.toNat s.2) = fun i : Int => @decide (fitP l t ES s.1 i.toNat s.2) (Classical.propDecidable _) := by
  funext i
  by_cases h : fitP l t ES s.1 i.toNat s.2
  · rw [(fitC_iff _ _ _ _ _ _).2 h]; simp [h]
  · rw [Bool.eq_false_iff.2 (fun h' => h ((fitC_iff _ _ _ _ _ _).1 h'))]; simp [h]
 by_cases h : YU s.1
 · rw [if_pos (h1.2 h), if_pos h]
 · rw [if_neg (fun h' => h (h1.1 h')), if_neg h, h2]
   rfl
def iterC (l : List Opn) (t : Tab) (ES : List Edg) (os : List Int) : Nat → List Int × Int
 | 0 => (List.replicate l.length (-1), 0)
 | m + 1 => nextGC l t ES os (iterC l t ES os m)
theorem iterC_eq (l : List Opn) (t : Tab) (ES : List Edg) (os : List Int) : ∀ m, iterC l t ES os m = kT l t ES os m
 | 0 => rfl
 | m + 1 => by rw [iterC, kT, nextGC_eq, iterC_eq l t ES os m]
theorem cycS_of (l : List Opn) (t : Tab) (m : Nat) (cs : List Int) (y : Int) (h : iterC l t (YH l t l.length) (ordL (YY l t)) m = (cs, y)) (hd : YU cs) : cycS l t = cs :=
 finG_of ⟨m, by rw [← iterC_eq]; exact h⟩ hd
def ex4 (a b c d : Int) : Nat → Int | 0 => a | 1 => b | 2 => c | _ => d
def exT : Tab := ⟨ex4 1 1 1 1, ex4 1 3 2 1, ex4 1 2 1 1, 0⟩
def exU : Tab := ⟨ex4 1 0 1 1, ex4 1 3 2 1, ex4 1 2 1 1, 0⟩
def exL : List Opn := [⟨12, 1, 2, 3, 0⟩, ⟨12, 4, 2, 2, 0⟩, ⟨12, 5, 2, 2, 0⟩]
theorem ex_cyc : cycL exL exT = [0, 2, 4] := by
 have h : cycE exL exT = 0 := by decide +kernel
 unfold cycL
 rw [if_pos h]
 exact cycS_of _ _ 9 _ 4 (by decide +kernel) (by unfold YU; decide)
theorem ex_T : cycA exL exT = .tup [.row [[i64 0], [i64 2], [i64 4]], i64 0] := by
 unfold cycA
 rw [ex_cyc, show cycE exL exT = 0 from by decide +kernel]
 rfl
theorem ex_U : cycA exL exU = .tup [.row [], i64 21] := by
 have h : cycE exL exU = 21 := by decide +kernel
 unfold cycA cycL
 rw [h, if_neg (by decide)]
 rfl
def roomKC (l : List Opn) (t : Tab) (cs : List Int) (k : Nat) : Bool := (List.range (t.b (clsN (opAt l k))).toNat).all fun j => decide (useN l t cs k (clsN (opAt l k)) (cs.getD k 0 + j) + 1 ≤ t.u (clsN (opAt l k)))
theorem roomKC_iff (l : List Opn) (t : Tab) (cs : List Int) (k : Nat) : roomKC l t cs k = true ↔ roomK l t cs k := by
 simp only [roomKC, roomK, List.all_eq_true, List.mem_range, decide_eq_true_eq]
 exact ⟨fun h j hj => h j (by omega), fun h j hj => h j (by omega)⟩
def checkC (l : List Opn) (t : Tab) (cs : List Int) : Bool := decide (errR l t = 0) && (!wX l t) && decide (cs.length = l.length) && (cs.all fun x => decide (0 ≤ x) && decide (x ≤ 65536)) && ((List.range l.length).all fun k => YR (inE (YH l t l.length) k) cs (cs.getD k 0) && roomKC l t cs k)
theorem checkC_iff (l : List Opn) (t : Tab) (cs : List Int) : checkC l t cs = true ↔ checkP l t cs := by
 simp only [checkC, checkP, Bool.and_eq_true, decide_eq_true_eq, List.all_eq_true, List.mem_range, roomKC_iff, Bool.not_eq_true', and_assoc]
theorem ex_ok : wF exL exT [0, 2, 4] = true := checkB_t ((checkC_iff _ _ _).1 (by decide +kernel))
theorem ex_no : wF exL exT [0, 1, 4] = false := uH fun h => by
 have h1 := (checkC_iff _ _ _).2 h
 rw [show checkC exL exT [0, 1, 4] = false from by decide +kernel] at h1
 cases h1
theorem exL_ok : ∀ o ∈ exL, o.ok := by
 intro o ho
 simp only [exL, List.mem_cons, List.not_mem_nil, or_false] at ho
 rcases ho with rfl | rfl | rfl <;> exact ⟨by decide, by decide, by decide, by decide, by decide⟩
theorem lend_exL {h : Hp} {id : Id} (hb : h.hp id = some ⟨true, exL.flatMap opC⟩) : lend YT h (.sl id 0 3 5) = some (.row (exL.map opC)) := WH 7 opC_len opC_imms hb rfl
theorem call_cyc {d : Option Nat} {K : St → Prop} {env : Nat → AV} {h : Hp} {id : Id} {t : Tab} {x r : AV} (hb : h.hp id = some ⟨true, exL.flatMap opC⟩) (hx : x = .agg (tabC t)) (hr : cycA exL t = r) (k : K ⟨putA env d r, h.tick⟩) : yZ Try.prog d K env h false (.fn 44 []) [.sl id 0 3 5, x] := by
 subst hx; subst hr
 refine call_own ?_ (cyc_hvf exL_ok) k
 rw [List.append_nil]
 simp only [mapO, lend_exL hb, qZ (show imm (.agg (tabC t)) = true from rfl)]
theorem lend_3 {h : Hp} {id : Id} {a b c : Int} (hb : h.hp id = some ⟨true, [i64 a, i64 b, i64 c]⟩) : lend YT h (.sl id 0 3 1) = some (.row [[i64 a], [i64 b], [i64 c]]) := by
 simp [YT, lend, imm, imms, hb, mapO, YM]
 rfl
theorem call_chk {d : Option Nat} {K : St → Prop} {env : Nat → AV} {h : Hp} {id : Id} {t : Tab} {x : AV} {a b c : Int} {r : Bool} (hb : h.hp id = some ⟨true, exL.flatMap opC⟩) (hx : x = .agg (tabC t)) (hr : wF exL t [a, b, c] = r) (k : K ⟨putA env d (bl r), h.tick⟩) : yZ Try.prog d K env h false (.fn 46 []) [.sl id 0 3 5, x, .row [[i64 a], [i64 b], [i64 c]]] := by
 subst hx; subst hr
 refine WX ?_ (f46 exL t [a, b, c] exL_ok (by simp) (CycA.row [a, b, c])) rfl k
 rw [List.append_nil]
 simp only [mapO, lend_exL hb, qZ (show imm (.agg (tabC t)) = true from rfl), qZ (show imm (.row [[i64 a], [i64 b], [i64 c]]) = true from rfl)]
 rfl
theorem call_chk2 {d : Option Nat} {K : St → Prop} {env : Nat → AV} {h : Hp} {id id2 : Id} {t : Tab} {x : AV} {a b c : Int} {r : Bool} (hb : h.hp id = some ⟨true, exL.flatMap opC⟩) (hb2 : h.hp id2 = some ⟨true, [i64 a, i64 b, i64 c]⟩) (hx : x = .agg (tabC t)) (hr : wF exL t [a, b, c] = r) (k : K ⟨putA env d (bl r), h.tick⟩) : yZ Try.prog d K env h false (.fn 46 []) [.sl id 0 3 5, x, .sl id2 0 3 1] := by
 subst hx; subst hr
 refine WX ?_ (f46 exL t [a, b, c] exL_ok (by simp) (CycA.row [a, b, c])) rfl k
 rw [List.append_nil]
 simp only [mapO, lend_exL hb, qZ (show imm (.agg (tabC t)) = true from rfl), lend_3 hb2]
 rfl
theorem call_sm {d : Option Nat} {K : St → Prop} {env : Nat → AV} {h : Hp} {id2 : Id} {a b c : Int} (hb2 : h.hp id2 = some ⟨true, [i64 a, i64 b, i64 c]⟩) (k : K ⟨putA env d (bl true), h.tick⟩) : yZ Try.prog d K env h false (.fn 34 []) [.row [[i64 a], [i64 b], [i64 c]], .sl id2 0 3 1] := by
 have hs := f34 [a, b, c] [a, b, c] (by simp)
 rw [dT rfl] at hs
 refine WX ?_ hs rfl k
 rw [List.append_nil]
 simp only [mapO, lend_3 hb2, qZ (show imm (.row [[i64 a], [i64 b], [i64 c]]) = true from rfl)]
 rfl
theorem f43 : HV Try.prog 43 [] (bl true) := by
 refine qJ qN cf43 (by simp) rfl ?_ rfl
 unfold ac43 re43
 refine yN fun env hE => ?_; have ee := cj7 hE 0 1 2 3 4 5 7; simp -implicitDefEqProofs only [push_cast] at ee; clear hE
 have q1 : ∀ x : Int, decide (x = x) = true := fun x => dT rfl
 repeat' (first | ((try clear hf); with_reducible refine yD fun env K hE hK hf => ?_; have n := cj7 hE 0 1 2 3 4 5 7; simp -implicitDefEqProofs only [push_cast, reduceIte, Nat.reduceEqDiff, ee] at n; clear hE ee; have ee := n; clear n) | (with_reducible first | (refine hK _ _ ?_; clear hK K) | (refine Zi ?_; constructor) | refine yB (by decide) ?_ | refine yH (by assumption) ?_ | refine yJ (by assumption) ?_) | (refine yC rfl ?_) | (simp -implicitDefEqProofs only [push_cast, sevalprocAttr, eq_self, ee, q1]) | (simp (disch := omega) only [yF, yK, yG, yL]) | ((first | refine yE rfl (fun bb => ?_) (fun bb => ?_) | with_reducible refine yI (fun bb => ?_) (fun bb => ?_)) <;> (first | have bp := oT bb | have bp := oF bb | skip) <;> try simp only [bb]) | ((with_reducible refine And.intro ?_ ?_); omega) | (refine call_cyc (t := exT) (by first | (simp -implicitDefEqProofs only [push_cast, sevalprocAttr, eq_self]; done) | (simp -implicitDefEqProofs only [push_cast, sevalprocAttr, eq_self]; rfl)) rfl ex_T ?_) | (refine call_cyc (t := exU) (by first | (simp -implicitDefEqProofs only [push_cast, sevalprocAttr, eq_self]; done) | (simp -implicitDefEqProofs only [push_cast, sevalprocAttr, eq_self]; rfl)) rfl ex_U ?_) | (refine call_sm (by first | (simp -implicitDefEqProofs only [push_cast, sevalprocAttr, eq_self]; done) | (simp -implicitDefEqProofs only [push_cast, sevalprocAttr, eq_self]; rfl)) ?_) | (refine call_chk (t := exT) (by first | (simp -implicitDefEqProofs only [push_cast, sevalprocAttr, eq_self]; done) | (simp -implicitDefEqProofs only [push_cast, sevalprocAttr, eq_self]; rfl)) rfl ex_ok ?_) | (refine call_chk2 (t := exT) (by first | (simp -implicitDefEqProofs only [push_cast, sevalprocAttr, eq_self]; done) | (simp -implicitDefEqProofs only [push_cast, sevalprocAttr, eq_self]; rfl)) (by first | (simp -implicitDefEqProofs only [push_cast, sevalprocAttr, eq_self]; done) | (simp -implicitDefEqProofs only [push_cast, sevalprocAttr, eq_self]; rfl)) rfl ex_no ?_) | (with_reducible refine yM ?_ ?_))
 all_goals trace_state
 all_goals sorry
theorem f48 (l : List Opn) (t : Tab) (cs : List Int) (c : Nat) (y : Int) (hl : l.length ≤ 1000000) (hcs : cs.length = l.length) (hx : ∀ x ∈ cs, 0 ≤ x ∧ x ≤ 100000) (hy : -1000000 ≤ y ∧ y ≤ 1000000) (ht : YV t) (hc4 : c < 4) :
 HV Try.prog 48 [.row (l.map opC), .agg (tabC t), .row (cs.map intC), i64 c, i64 y] (i64 (useN l t cs l.length c y)) := by
 refine qJ qN cf48 (by simp) (by simp [imms, imm, WL, YN, UX]) ?_ rfl
 unfold ac48 re48
 refine yN fun env hE => ?_; have ee := cj10 hE 0 1 2 3 4 6 10 11 12 13; simp -implicitDefEqProofs only [push_cast] at ee; clear hE
 repeat' (first | ((try clear hf); with_reducible refine yD fun env K hE hK hf => ?_; have n := cj10 hE 0 1 2 3 4 6 10 11 12 13; simp -implicitDefEqProofs only [push_cast, reduceIte, Nat.reduceEqDiff, ee] at n; clear hE ee; have ee := n; clear n) | (with_reducible first | (refine hK _ _ ?_; clear hK K) | (refine Zi ?_; constructor) | refine yB (by decide) ?_ | refine yH (by assumption) ?_ | refine yJ (by assumption) ?_) | (refine yC rfl ?_) | (simp -implicitDefEqProofs only [push_cast, sevalprocAttr, eq_self, ee, qG]) | (simp (disch := omega) only [yF, yK, yG, yL]) | ((first | refine yE rfl (fun bb => ?_) (fun bb => ?_) | with_reducible refine yI (fun bb => ?_) (fun bb => ?_)) <;> (first | have bp := oT bb | have bp := oF bb | skip) <;> try simp only [bb]) | ((with_reducible refine And.intro ?_ ?_); omega) | (with_reducible refine yM ?_ ?_))
 refine yN fun env hE => ?_; have n := cj10 hE 0 1 2 3 4 6 10 11 12 13; simp -implicitDefEqProofs only [push_cast, reduceIte, Nat.reduceEqDiff, ee] at n; clear hE ee; have ee := n; clear n; have E48_0 := ee; obtain ⟨e0, e1, e2, e3, e4, e6, e10, e11, e12, e13⟩ := ee
 refine yY (fun nn σ => ∃ (k : Nat), nn = l.length - k ∧ kp [0, 1, 2, 3, 4, 6, 10] σ.env env ∧ σ.env 12 = i64 k ∧ σ.env 11 = i64 (useN l t cs k c y) ∧ (k ≤ l.length ∧ σ.h.hp (2, 6) = some ⟨true, tabC t⟩ ∧ 2 ≤ σ.h.ep)) _ ⟨0, rfl, qL _ _, by refine e12.trans ?_; first | rfl | exact yO (by omega) | exact i64w (by omega), by refine e11.trans ?_; first | rfl | exact yO (by omega) | exact i64w (by omega), ?_⟩ ?_
 · exact ⟨by omega, by simp -implicitDefEqProofs only [push_cast, sevalprocAttr, eq_self], by simp -implicitDefEqProofs only [push_cast, sevalprocAttr, eq_self]⟩
 clear e0 e1 e2 e3 e4 e6 e10 e11 e12 e13; rintro nn ⟨env, h⟩ ⟨k, rfl, q, e12, e11, hI⟩; simp only at e12 e11 hI; simp only [kp, and_true, E48_0] at q; have ee : _ ∧ _ ∧ _ := ⟨e12, e11, q⟩; clear e12 e11 q
 obtain ⟨hk, hb3, hep⟩ := hI
 unfold l48_0
 (first | refine yP fun hF => ?_ | refine yT fun hF => ?_ | refine yS fun hF => ?_)
 by_cases hlt : k < l.length
 · have hd : decide ((k : Int) < (l.length : Int)) = true := dT (by omega)
   have hro := wD hlt .i64
   have hr := int_at (l := cs) (k := k) (by omega) .i64
   have hq := tab_b t (wI l[k])
   have hcl := clsN_eq l[k]
   have hcc := wI l[k]
   have hU : useN l t cs (k + 1) c y = useN l t cs k c y + if (c : Int) = (clsN l[k] : Int) ∧ cs.getD k 0 ≤ y ∧ y < cs.getD k 0 + t.b (clsN l[k]) then 1 else 0 := by
    rw [useN, uA hlt]
   have hub := useN_bnd l t cs k c y
   have hvx := hx (cs.getD k 0) (by rw [gD, List.getElem?_eq_getElem (by omega)]; exact List.getElem_mem _)
   have hbu := ht.1 _ hcc
   unfold okC at hbu
   generalize l[k] = o at *
   generalize cs.getD k 0 = v at *
   have hw : IntKind.i64.wrap (y - v) = y - v := YP (by omega) (by omega)
   have hw2 : IntKind.i64.wrap (useN l t cs k c y + 1) = useN l t cs k c y + 1 := YP (by omega) (by omega)
   by_cases h1 : (clsN o : Int) = (c : Int)
   · have d1 : decide ((clsN o : Int) = (c : Int)) = true := dT h1
     by_cases h3 : v ≤ y
     · have d3 : decide (v ≤ y) = true := dT h3
       by_cases h4 : y - v < t.b (clsN o)
       · have d4 : decide (y - v < t.b (clsN o)) = true := dT h4
         rw [if_pos ⟨h1.symm, h3, by omega⟩] at hU
         repeat' (first | ((try clear hf); with_reducible refine yD fun env K hE hK hf => ?_; have n := cj10 hE 0 1 2 3 4 6 10 11 12 13; simp -implicitDefEqProofs only [push_cast, reduceIte, Nat.reduceEqDiff, ee] at n; clear hE ee; have ee := n; clear n) | (with_reducible first | (refine hK _ _ ?_; clear hK K) | (refine Zi ?_; constructor) | refine yB (by decide) ?_ | refine yH (by assumption) ?_ | refine yJ (by assumption) ?_) | (refine yC rfl ?_) | (simp -implicitDefEqProofs only [push_cast, sevalprocAttr, eq_self, ee, hd, hF.at, hr, hro, hb3, hq, op_0, hcl, hw, hw2, d1, d3, d4]) | (simp (disch := omega) only [yF, yK, yG, yL, hF.at, hq]) | ((first | refine yE rfl (fun bb => ?_) (fun bb => ?_) | with_reducible refine yI (fun bb => ?_) (fun bb => ?_)) <;> (first | have bp := oT bb | have bp := oF bb | skip) <;> try simp only [bb]) | ((with_reducible refine And.intro ?_ ?_); omega) | (refine yV (f41 _) ?_) | (with_reducible refine yM ?_ ?_))
         refine ⟨_, ?_, k + 1, rfl, by simp -implicitDefEqProofs only [kp, push_cast, reduceIte, Nat.reduceEqDiff, ee, E48_0, and_self], by first | rfl | exact yO (by omega) | (simp only [hU]; exact yO (by omega)) | exact i64w (by omega), by first | rfl | exact yO (by omega) | (simp only [hU]; exact yO (by omega)) | exact i64w (by omega), ?_⟩
         · omega
         · omega
       · have d4 : decide (y - v < t.b (clsN o)) = false := dF h4
         rw [if_neg (fun h => h4 (by omega)), Int.add_zero] at hU
         repeat' (first | ((try clear hf); with_reducible refine yD fun env K hE hK hf => ?_; have n := cj10 hE 0 1 2 3 4 6 10 11 12 13; simp -implicitDefEqProofs only [push_cast, reduceIte, Nat.reduceEqDiff, ee] at n; clear hE ee; have ee := n; clear n) | (with_reducible first | (refine hK _ _ ?_; clear hK K) | (refine Zi ?_; constructor) | refine yB (by decide) ?_ | refine yH (by assumption) ?_ | refine yJ (by assumption) ?_) | (refine yC rfl ?_) | (simp -implicitDefEqProofs only [push_cast, sevalprocAttr, eq_self, ee, hd, hF.at, hr, hro, hb3, hq, op_0, hcl, hw, hw2, d1, d3, d4]) | (simp (disch := omega) only [yF, yK, yG, yL, hF.at, hq]) | ((first | refine yE rfl (fun bb => ?_) (fun bb => ?_) | with_reducible refine yI (fun bb => ?_) (fun bb => ?_)) <;> (first | have bp := oT bb | have bp := oF bb | skip) <;> try simp only [bb]) | ((with_reducible refine And.intro ?_ ?_); omega) | (refine yV (f41 _) ?_) | (with_reducible refine yM ?_ ?_))
         refine ⟨_, ?_, k + 1, rfl, by simp -implicitDefEqProofs only [kp, push_cast, reduceIte, Nat.reduceEqDiff, ee, E48_0, and_self], by first | rfl | exact yO (by omega) | (simp only [hU]; exact yO (by omega)) | exact i64w (by omega), by first | rfl | exact yO (by omega) | (simp only [hU]; exact yO (by omega)) | exact i64w (by omega), ?_⟩
         · omega
         · omega
     · have d3 : decide (v ≤ y) = false := dF h3
       rw [if_neg (fun h => h3 h.2.1), Int.add_zero] at hU
       repeat' (first | ((try clear hf); with_reducible refine yD fun env K hE hK hf => ?_; have n := cj10 hE 0 1 2 3 4 6 10 11 12 13; simp -implicitDefEqProofs only [push_cast, reduceIte, Nat.reduceEqDiff, ee] at n; clear hE ee; have ee := n; clear n) | (with_reducible first | (refine hK _ _ ?_; clear hK K) | (refine Zi ?_; constructor) | refine yB (by decide) ?_ | refine yH (by assumption) ?_ | refine yJ (by assumption) ?_) | (refine yC rfl ?_) | (simp -implicitDefEqProofs only [push_cast, sevalprocAttr, eq_self, ee, hd, hF.at, hr, hro, hb3, hq, op_0, hcl, hw, hw2, d1, d3]) | (simp (disch := omega) only [yF, yK, yG, yL, hF.at, hq]) | ((first | refine yE rfl (fun bb => ?_) (fun bb => ?_) | with_reducible refine yI (fun bb => ?_) (fun bb => ?_)) <;> (first | have bp := oT bb | have bp := oF bb | skip) <;> try simp only [bb]) | ((with_reducible refine And.intro ?_ ?_); omega) | (refine yV (f41 _) ?_) | (with_reducible refine yM ?_ ?_))
       refine ⟨_, ?_, k + 1, rfl, by simp -implicitDefEqProofs only [kp, push_cast, reduceIte, Nat.reduceEqDiff, ee, E48_0, and_self], by first | rfl | exact yO (by omega) | (simp only [hU]; exact yO (by omega)) | exact i64w (by omega), by first | rfl | exact yO (by omega) | (simp only [hU]; exact yO (by omega)) | exact i64w (by omega), ?_⟩
       · omega
       · omega
   · have d1 : decide ((clsN o : Int) = (c : Int)) = false := dF h1
     rw [if_neg (fun h => h1 h.1.symm), Int.add_zero] at hU
     repeat' (first | ((try clear hf); with_reducible refine yD fun env K hE hK hf => ?_; have n := cj10 hE 0 1 2 3 4 6 10 11 12 13; simp -implicitDefEqProofs only [push_cast, reduceIte, Nat.reduceEqDiff, ee] at n; clear hE ee; have ee := n; clear n) | (with_reducible first | (refine hK _ _ ?_; clear hK K) | (refine Zi ?_; constructor) | refine yB (by decide) ?_ | refine yH (by assumption) ?_ | refine yJ (by assumption) ?_) | (refine yC rfl ?_) | (simp -implicitDefEqProofs only [push_cast, sevalprocAttr, eq_self, ee, hd, hF.at, hr, hro, hb3, hq, op_0, hcl, hw, hw2, d1]) | (simp (disch := omega) only [yF, yK, yG, yL, hF.at, hq]) | ((first | refine yE rfl (fun bb => ?_) (fun bb => ?_) | with_reducible refine yI (fun bb => ?_) (fun bb => ?_)) <;> (first | have bp := oT bb | have bp := oF bb | skip) <;> try simp only [bb]) | ((with_reducible refine And.intro ?_ ?_); omega) | (refine yV (f41 _) ?_) | (with_reducible refine yM ?_ ?_))
     refine ⟨_, ?_, k + 1, rfl, by simp -implicitDefEqProofs only [kp, push_cast, reduceIte, Nat.reduceEqDiff, ee, E48_0, and_self], by first | rfl | exact yO (by omega) | (simp only [hU]; exact yO (by omega)) | exact i64w (by omega), by first | rfl | exact yO (by omega) | (simp only [hU]; exact yO (by omega)) | exact i64w (by omega), ?_⟩
     · omega
     · omega
 · have hd : decide ((k : Int) < (l.length : Int)) = false := dF (by omega)
   obtain rfl : k = l.length := by omega
   repeat' (first | ((try clear hf); with_reducible refine yD fun env K hE hK hf => ?_; have n := cj10 hE 0 1 2 3 4 6 10 11 12 13; simp -implicitDefEqProofs only [push_cast, reduceIte, Nat.reduceEqDiff, ee] at n; clear hE ee; have ee := n; clear n) | (with_reducible first | (refine hK _ _ ?_; clear hK K) | (refine Zi ?_; constructor) | refine yB (by decide) ?_ | refine yH (by assumption) ?_ | refine yJ (by assumption) ?_) | (refine yC rfl ?_) | (simp -implicitDefEqProofs only [push_cast, sevalprocAttr, eq_self, ee, hd]) | (simp (disch := omega) only [yF, yK, yG, yL]) | ((first | refine yE rfl (fun bb => ?_) (fun bb => ?_) | with_reducible refine yI (fun bb => ?_) (fun bb => ?_)) <;> (first | have bp := oT bb | have bp := oF bb | skip) <;> try simp only [bb]) | ((with_reducible refine And.intro ?_ ?_); omega) | (with_reducible refine yM ?_ ?_))
structure UH (l : List Opn) (t : Tab) (cs : List Int) : Prop where
 inv : ∃ y, InvG l t (YH l t l.length) cs y ∧ y ≤ 8 * l.length
 done : YU cs
theorem keep_of {l : List Opn} {t : Tab} {d : Nat → Int} {cs : List Int} {y : Int} (hR : errR l t = 0) (hlk : wX l t = false) (hord : OrdP (YY l t) l.length d) (hg : GoS l t (YH l t l.length) (ordL (YY l t)) cs y) (hd : YU cs) : UH l t cs := by
 obtain ⟨ht, hn, hop⟩ := WQ hR
 rw [ordL_eq2 hord (heightS_len l t) (B := 8 * l.length) (by omega) (heightS_bnd hR)] at hg
 have hI := hg.inv (wV (l := l) ht l.length) ht hlk (fun x hx => (hord.mem x).1 hx) (fun i hi => (hord.mem i).2 (by omega))
 exact ⟨⟨y, hI, by have := hI.yb; have := cnt_le cs; have := hI.len; omega⟩, hd⟩
theorem UH.rng {l : List Opn} {t : Tab} {cs : List Int} (k : UH l t cs) : ∀ x ∈ cs, 0 ≤ x ∧ x ≤ 8 * l.length := by
 obtain ⟨y, hI, hy⟩ := k.inv
 intro x hx
 have := k.done x hx
 have := hI.rng x hx
 omega
theorem UH.len {l : List Opn} {t : Tab} {cs : List Int} (k : UH l t cs) : cs.length = l.length := by
 obtain ⟨y, hI, hy⟩ := k.inv
 exact hI.len
theorem UH.get {l : List Opn} {t : Tab} {cs : List Int} (k : UH l t cs) {i : Nat} (hi : i < l.length) : 0 ≤ cs.getD i 0 ∧ cs.getD i 0 ≤ 8 * l.length := by
 have := k.len
 exact k.rng _ (by rw [gD, List.getElem?_eq_getElem (by omega)]; exact List.getElem_mem _)
theorem UH.ed {l : List Opn} {t : Tab} {cs : List Int} (k : UH l t cs) (ht : YV t) : ∀ e ∈ YH l t l.length, cs.getD e.f.toNat 0 + e.l ≤ cs.getD e.t.toNat 0 := by
 obtain ⟨y, hI, hy⟩ := k.inv
 intro e he
 obtain ⟨x1, x2, x3, x4, x5⟩ := wV (l := l) ht l.length e he
 exact (hI.ed e he (k.get (by omega)).1).2
theorem UH.un {l : List Opn} {t : Tab} {cs : List Int} (k : UH l t cs) {c : Nat} (hc : c < 4) (y : Int) : useN l t cs l.length c y ≤ t.u c := by
 obtain ⟨y', hI, hy⟩ := k.inv
 rw [← useR_eq l t cs k.done _ _ _ (by rw [k.len]; omega)]
 exact hI.un c hc y
theorem UH.check {l : List Opn} {t : Tab} {cs : List Int} (k : UH l t cs) (hR : errR l t = 0) (hlk : wX l t = false) : checkP l t cs := by
 obtain ⟨ht, hn, hop⟩ := WQ hR
 have hr : ∀ x ∈ cs, 0 ≤ x ∧ x ≤ 65536 := fun x hx => by have := k.rng x hx; omega
 exact ⟨hR, hlk, k.len, hr, fun i hi => ⟨(there_edges (wV (l := l) ht l.length) hr).2 (k.ed ht) i hi, room_use.2 (fun j hj q hq => k.un (wI _) _) i hi⟩⟩
theorem lend_cn {h : Hp} {id : Id} {cs : List Int} {n : Nat} (hb : h.hp id = some ⟨true, cs.map iC⟩) (hn : cs.length = n) : lend YT h (.sl id 0 n 1) = some (.row (cs.map intC)) := by
 rw [← hn]; exact lend_is hb rfl
theorem imm_l (l : List Opn) : imm (.row (l.map opC)) = true := by simp [imm, YN]
theorem call_check {d : Option Nat} {K : St → Prop} {env : Nat → AV} {h : Hp} {id : Id} {l : List Opn} {t : Tab} {cs : List Int} {n : Nat} {r : Bool} (hb : h.hp id = some ⟨true, cs.map iC⟩) (hn : cs.length = n) (hl : ∀ o ∈ l, o.ok) (hcn : n ≤ 100000000000000) (hr : wF l t cs = r) (k : K ⟨putA env d (bl r), h.tick⟩) :
 yZ Try.prog d K env h false (.fn 46 []) [.row (l.map opC), .agg (tabC t), .sl id 0 n 1] := by
 subst hr
 refine WX ?_ (f46 l t cs hl (by omega) (CycA.row cs)) rfl k
 rw [List.append_nil]
 simp only [mapO, qZ (imm_l l), qZ (show imm (.agg (tabC t)) = true from rfl), lend_cn hb hn]
theorem call_busyq {d : Option Nat} {K : St → Prop} {env : Nat → AV} {h : Hp} {id : Id} {l : List Opn} {t : Tab} {cs : List Int} {c : Nat} {y : Int} (hb : h.hp id = some ⟨true, cs.map iC⟩) (hl : l.length ≤ 1000000) (hcs : cs.length = l.length) (hx : ∀ x ∈ cs, 0 ≤ x ∧ x ≤ 100000) (hy : -1000000 ≤ y ∧ y ≤ 1000000) (ht : YV t) (hc4 : c < 4) (k : K ⟨putA env d (i64 (useN l t cs l.length c y)), h⟩) :
 yZ Try.prog d K env h true (.fn 48 []) [.row (l.map opC), .agg (tabC t), .sl id 0 l.length 1, i64 c, i64 y] := by
 refine call_lendq ?_ (f48 l t cs c y hl hcs hx hy ht hc4) rfl k
 rw [List.append_nil]
 simp only [mapO, qZ (imm_l l), qZ (show imm (.agg (tabC t)) = true from rfl), lend_cn hb hcs, qZ (show imm (i64 c) = true from rfl), qZ (show imm (i64 y) = true from rfl)]
theorem cycE_ok {l : List Opn} {t : Tab} (h : cycE l t = 0) : errR l t = 0 ∧ wX l t = false := by
 unfold cycE at h
 split at h
 · rename_i h1; exact absurd h h1
 · rename_i h1
   refine ⟨Classical.not_not.1 h1, ?_⟩
   split at h
   · cases h
   · rename_i h2; simpa using h2
theorem cycE_bad {l : List Opn} {t : Tab} (h : cycE l t ≠ 0) : wF l t [] = false := uH fun hc => h (by
 unfold cycE; rw [if_neg (fun h' => h' hc.1), if_neg (by rw [hc.2.1]; decide)])
theorem f14 {l : List Opn} {t : Tab} (hl : ∀ o ∈ l, o.ok) : HV Try.prog 14 [.row (l.map opC), .agg (tabC t)] (bl true) := by
 refine qJ qN cf14 (by simp) (by simp [imms, imm, WL, YN]) ?_ rfl
 unfold ac14 re14
 refine yN fun env hE => ?_; have ee := cj11 hE 0 1 3 4 5 6 7 9 10 11 13; simp -implicitDefEqProofs only [push_cast] at ee; clear hE
 by_cases h60 : 60 < l.length
 · have d1 : decide (60 < (l.length : Int)) = true := dT (by omega)
   repeat' (first | ((try clear hf); with_reducible refine yD fun env K hE hK hf => ?_; have n := cj11 hE 0 1 3 4 5 6 7 9 10 11 13; simp -implicitDefEqProofs only [push_cast, reduceIte, Nat.reduceEqDiff, ee] at n; clear hE ee; have ee := n; clear n) | (with_reducible first | (refine hK _ _ ?_; clear hK K) | (refine Zi ?_; constructor) | refine yB (by decide) ?_ | refine yH (by assumption) ?_ | refine yJ (by assumption) ?_) | (refine yC rfl ?_) | (simp -implicitDefEqProofs only [push_cast, sevalprocAttr, eq_self, ee, d1, qG]) | (simp (disch := omega) only [yF, yK, yG, yL]) | ((first | refine yE rfl (fun bb => ?_) (fun bb => ?_) | with_reducible refine yI (fun bb => ?_) (fun bb => ?_)) <;> (first | have bp := oT bb | have bp := oF bb | skip) <;> try simp only [bb]) | ((with_reducible refine And.intro ?_ ?_); omega) | (refine yV f43 ?_) | (with_reducible refine yM ?_ ?_))
 have d1 : decide (60 < (l.length : Int)) = false := dF (by omega)
 have q1 : ∀ x : Int, decide (x = x) = true := fun x => dT rfl
 have q0 : decide ((0 : Int) ≠ 0) = false := rfl
 have hbT := h60
 have hbox : ∀ {h1 : Hp}, Ext ((emp.tick.tick.push (2, 3) (tabC t)).tick.tick) h1 → h1.hp (2, 3) = some ⟨true, tabC t⟩ := fun hx => by
  rw [hx.2 _ (by simp only [qC, YX]; decide)]
  simp -implicitDefEqProofs only [push_cast, sevalprocAttr, eq_self]
 by_cases hE : cycE l t = 0
 rotate_left
 · have dE : decide (cycE l t ≠ 0) = true := dT hE
   have hC := f46 l t [] hl (by simp) (.inr ⟨rfl, rfl⟩)
   rw [cycE_bad hE] at hC
   repeat' (first | ((try clear hf); with_reducible refine yD fun env K hE hK hf => ?_; have n := cj11 hE 0 1 3 4 5 6 7 9 10 11 13; simp -implicitDefEqProofs only [push_cast, reduceIte, Nat.reduceEqDiff, ee] at n; clear hE ee; have ee := n; clear n) | (with_reducible first | (refine hK _ _ ?_; clear hK K) | (refine Zi ?_; constructor) | refine yB (by decide) ?_ | refine yH (by assumption) ?_ | refine yJ (by assumption) ?_) | (refine yC rfl ?_) | (simp -implicitDefEqProofs only [push_cast, sevalprocAttr, eq_self, ee, d1, qG, UW, hbT, dE, q1]) | (simp (disch := omega) only [yF, yK, yG, yL]) | ((first | refine yE rfl (fun bb => ?_) (fun bb => ?_) | with_reducible refine yI (fun bb => ?_) (fun bb => ?_)) <;> (first | have bp := oT bb | have bp := oF bb | skip) <;> try simp only [bb]) | ((with_reducible refine And.intro ?_ ?_); omega) | (refine qD (HC.mono (f44 hl) ?_); rintro r h1 ⟨hx, _, hr⟩ hF; replace hr := (hr.resolve_right (fun h => hE h.1)).2; subst hr; have hbT := hbox hx) | (refine yV hC ?_) | (refine yV f43 ?_) | (with_reducible refine yM ?_ ?_))
   all_goals trace_state
   all_goals sorry
 obtain ⟨hR, hlk⟩ := cycE_ok hE
 obtain ⟨ht, hn, hop⟩ := WQ hR
 have dn : decide ((l.length : Int) ≠ (l.length : Int)) = false := dF (fun h => h rfl)
 repeat' (first | ((try clear hf); with_reducible refine yD fun env K hE hK hf => ?_; have n := cj11 hE 0 1 3 4 5 6 7 9 10 11 13; simp -implicitDefEqProofs only [push_cast, reduceIte, Nat.reduceEqDiff, ee] at n; clear hE ee; have ee := n; clear n) | (with_reducible first | (refine hK _ _ ?_; clear hK K) | (refine Zi ?_; constructor) | refine yB (by decide) ?_ | refine yH (by assumption) ?_ | refine yJ (by assumption) ?_) | (refine yC rfl ?_) | (simp -implicitDefEqProofs only [push_cast, sevalprocAttr, eq_self, ee, d1, qG, hbT, q0, dn, kH]) | (simp (disch := omega) only [yF, yK, yG, yL]) | ((first | refine yE rfl (fun bb => ?_) (fun bb => ?_) | with_reducible refine yI (fun bb => ?_) (fun bb => ?_)) <;> (first | have bp := oT bb | have bp := oF bb | skip) <;> try simp only [bb]) | ((with_reducible refine And.intro ?_ ?_); omega) | (refine qD (HC.mono (f44 hl) ?_); rintro r h1 ⟨hx, hod, hr⟩ hF; obtain ⟨_, ⟨ie, is⟩, rfl, hb1, hn1, ⟨y, hg⟩, hdn, hi1, hi2⟩ := hr.resolve_left (fun h => h.1 hE); have hbT := hbox hx; obtain ⟨d, hord⟩ := hod hR; have hKp := keep_of hR hlk hord hg hdn; have hep1 := hx.1; simp only [qC, YX] at hep1) | (refine qD (HC.mono (uV hl) ?_); rintro r h2 ⟨hx2, hr⟩ hF2; obtain ⟨_, out, hr, hO⟩ := hr.resolve_left (fun h => h.1 hR); subst hr; replace hb1 := (hx2.2 (ie, is) (by simp only [qC]; simp only at hi2; omega)).trans hb1; have hbT := (hx2.2 (2, 3) (by simp only [qC]; omega)).trans hbT) | (refine call_check hb1 hn1 hl (by omega) (checkB_t (hKp.check hR hlk)) ?_) | (with_reducible refine yM ?_ ?_))
 have hEo := wV (l := l) ht l.length
 have hEl := WG l t l.length l.length (Nat.le_refl _)
 have hmul : 5 * l.length * l.length ≤ 5 * 1024 * 1024 := Nat.mul_le_mul (by omega) (by omega)
 have hrange : ∀ x ∈ cycS l t, 0 ≤ x ∧ x ≤ 100000 := fun x hx => by have := hKp.rng x hx; omega
 have hget := fun i (hi : i < l.length) => hKp.get hi
 have hed := hKp.ed ht
 have hun := fun c (hc : c < 4) y => hKp.un (c := c) hc y
 have hep2 := hx2.1
 simp only [qC] at hep2
 have hle1 : ie ≤ h2.ep := by simp only at hi2; omega
 have hle2 : 2 ≤ h2.ep := by omega
 clear hg hdn hi1 hi2 hKp hx hx2
 generalize hES : YH l t l.length = ES at *
 generalize cycS l t = cs at *
 have hlc : (cs.map iC).length = l.length := by simpa using hn1
 refine yN fun env hE => ?_; have n := cj11 hE 0 1 3 4 5 6 7 9 10 11 13; simp -implicitDefEqProofs only [push_cast, reduceIte, Nat.reduceEqDiff, ee] at n; clear hE ee; have ee := n; clear n; have E14_0 := ee; obtain ⟨e0, e1, e3, e4, e5, e6, e7, e9, e10, e11, e13⟩ := ee
 refine yY (fun nn σ => ∃ (k : Nat), nn = ES.length - k + 0 ∧ kp [0, 1, 3, 5, 6, 7] σ.env env ∧ σ.env 9 = i64 k ∧ (k ≤ ES.length ∧ Ext h2 σ.h)) _ ⟨0, rfl, qL _ _, by refine e9.trans ?_; first | rfl | exact yO (by omega) | exact i64w (by omega), ?_⟩ ?_
 · exact ⟨by omega, (by repeat' (first | exact Ext.refl _ | assumption | omega | (with_reducible (refine Eg ?_; constructor))))⟩
 clear e0 e1 e3 e4 e5 e6 e7 e9 e10 e11 e13; rintro nn ⟨env, h3⟩ ⟨k, rfl, q, e9, hI⟩; simp only at e9 hI; simp only [kp, and_true, E14_0] at q; have ee : _ ∧ _ := ⟨e9, q⟩; clear e9 q
 obtain ⟨hk, hx⟩ := hI
 unfold l14_0
 (first | refine yP fun hF => ?_ | refine yT fun hF => ?_ | refine yS fun hF => ?_)
 have hOl := hO.slo.len
 have hb3 := (hx.2 (ie, is) hle1).trans hb1
 by_cases hlt : k < ES.length
 · have hd : decide ((k : Int) < (ES.length : Int)) = true := dT (by omega)
   obtain ⟨oe, os, hoe, hob, hol⟩ := hO.slo.blk (by omega)
   subst hoe
   replace hob := (hx.2 _ hol).trans hob
   have hg0 : (ES.flatMap edC)[k * 5]? = some (i64 ES[k].f) := UY YD ES hlt (i := 0) (by decide)
   have hg1 : (ES.flatMap edC)[k * 5 + 1]? = some (i64 ES[k].t) := UY YD ES hlt (i := 1) (by decide)
   have hg2 : (ES.flatMap edC)[k * 5 + 2]? = some (i64 ES[k].l) := UY YD ES hlt (i := 2) (by decide)
   have hxo := hEo _ (List.getElem_mem hlt)
   have hok := hed _ (List.getElem_mem hlt)
   generalize ES[k] = x at *
   obtain ⟨x1, x2, x3, x4, x5⟩ := hxo
   obtain ⟨f, hxf⟩ : ∃ f : Nat, x.f = f := ⟨x.f.toNat, by omega⟩
   obtain ⟨g, hg⟩ : ∃ g : Nat, x.t = g := ⟨x.t.toNat, by omega⟩
   rw [show x.f.toNat = f by omega, show x.t.toNat = g by omega] at hok
   have r1 : (cs.map iC)[f]? = some (i64 (cs.getD f 0)) := by simp [iC, gD, show f < cs.length by omega]
   have r2 : (cs.map iC)[g]? = some (i64 (cs.getD g 0)) := by simp [iC, gD, show g < cs.length by omega]
   have b1 := hget f (by omega)
   have b2 := hget g (by omega)
   have hfl : (f : Int) < (l.length : Int) := by omega
   have hgl : (g : Int) < (l.length : Int) := by omega
   generalize cs.getD f 0 = vf at *
   generalize cs.getD g 0 = vg at *
   have hw : IntKind.i64.wrap (vf + x.l) = vf + x.l := YP (by omega) (by omega)
   have d2 : decide (vg < vf + x.l) = false := dF (by omega)
   repeat' (first | ((try clear hf); with_reducible refine yD fun env K hE hK hf => ?_; have n := cj11 hE 0 1 3 4 5 6 7 9 10 11 13; simp -implicitDefEqProofs only [push_cast, reduceIte, Nat.reduceEqDiff, ee] at n; clear hE ee; have ee := n; clear n) | (with_reducible first | (refine hK _ _ ?_; clear hK K) | (refine Zi ?_; constructor) | refine yB (by decide) ?_ | refine yH (by assumption) ?_ | refine yJ (by assumption) ?_) | (refine yC rfl ?_) | (simp -implicitDefEqProofs only [push_cast, sevalprocAttr, eq_self, ee, hd, hF.at, hob, hb3, hg0, hg1, hg2, Nat.add_zero, hxf, hg, r1, r2, hw, d2, hfl, hgl]) | (simp (disch := omega) only [yF, yK, yG, yL, hF.at, hg0, hg1, hg2, Nat.add_zero, hxf, hg, r1, r2, hfl, hgl]) | ((first | refine yE rfl (fun bb => ?_) (fun bb => ?_) | with_reducible refine yI (fun bb => ?_) (fun bb => ?_)) <;> (first | have bp := oT bb | have bp := oF bb | skip) <;> try simp only [bb]) | ((with_reducible refine And.intro ?_ ?_); omega) | (with_reducible refine yM ?_ ?_))
   refine ⟨_, ?_, k + 1, rfl, by simp -implicitDefEqProofs only [kp, push_cast, reduceIte, Nat.reduceEqDiff, ee, E14_0, and_self], by first | rfl | exact yO (by omega) | exact i64w (by omega), ?_⟩
   · omega
   · exact ⟨by omega, (by repeat' (first | exact Ext.refl _ | assumption | omega | (with_reducible (refine Eg ?_; constructor))))⟩
 have hd : decide ((k : Int) < (ES.length : Int)) = false := dF (by omega)
 obtain rfl : k = ES.length := by omega
 repeat' (first | ((try clear hf); with_reducible refine yD fun env K hE hK hf => ?_; have n := cj11 hE 0 1 3 4 5 6 7 9 10 11 13; simp -implicitDefEqProofs only [push_cast, reduceIte, Nat.reduceEqDiff, ee] at n; clear hE ee; have ee := n; clear n) | (with_reducible first | (refine hK _ _ ?_; clear hK K) | (refine Zi ?_; constructor) | refine yB (by decide) ?_ | refine yH (by assumption) ?_ | refine yJ (by assumption) ?_) | (refine yC rfl ?_) | (simp -implicitDefEqProofs only [push_cast, sevalprocAttr, eq_self, ee, hd, hF.at, hOl]) | (simp (disch := omega) only [yF, yK, yG, yL, hF.at, hOl]) | ((first | refine yE rfl (fun bb => ?_) (fun bb => ?_) | with_reducible refine yI (fun bb => ?_) (fun bb => ?_)) <;> (first | have bp := oT bb | have bp := oF bb | skip) <;> try simp only [bb]) | ((with_reducible refine And.intro ?_ ?_); omega) | (with_reducible refine yM ?_ ?_))
 refine yN fun env hE => ?_; have n := cj11 hE 0 1 3 4 5 6 7 9 10 11 13; simp -implicitDefEqProofs only [push_cast, reduceIte, Nat.reduceEqDiff, ee] at n; clear hE ee; have ee := n; clear n; have E14_2 := ee; obtain ⟨e0, e1, e3, e4, e5, e6, e7, e9, e10, e11, e13⟩ := ee
 refine yY (fun nn σ => ∃ (i : Nat), nn = l.length - i + 0 ∧ kp [0, 1, 3, 5, 6, 7, 9] σ.env env ∧ σ.env 10 = i64 i ∧ (i ≤ l.length ∧ Ext h2 σ.h)) _ ⟨0, rfl, qL _ _, by refine e10.trans ?_; first | rfl | exact yO (by omega) | exact i64w (by omega), ?_⟩ ?_
 · exact ⟨by omega, (by repeat' (first | exact Ext.refl _ | assumption | omega | (with_reducible (refine Eg ?_; constructor))))⟩
 clear hx hb3
 clear e0 e1 e3 e4 e5 e6 e7 e9 e10 e11 e13; rintro nn ⟨env, h5⟩ ⟨i, rfl, q, e10, hI⟩; simp only at e10 hI; simp only [kp, and_true, E14_2] at q; have ee : _ ∧ _ := ⟨e10, q⟩; clear e10 q
 obtain ⟨hi, hx⟩ := hI
 unfold l14_2
 (first | refine yP fun hF => ?_ | refine yT fun hF => ?_ | refine yS fun hF => ?_)
 by_cases hlt : i < l.length
 rotate_left
 · have hd : decide ((i : Int) < (l.length : Int)) = false := dF (by omega)
   repeat' (first | ((try clear hf); with_reducible refine yD fun env K hE hK hf => ?_; have n := cj11 hE 0 1 3 4 5 6 7 9 10 11 13; simp -implicitDefEqProofs only [push_cast, reduceIte, Nat.reduceEqDiff, ee] at n; clear hE ee; have ee := n; clear n) | (with_reducible first | (refine hK _ _ ?_; clear hK K) | (refine Zi ?_; constructor) | refine yB (by decide) ?_ | refine yH (by assumption) ?_ | refine yJ (by assumption) ?_) | (refine yC rfl ?_) | (simp -implicitDefEqProofs only [push_cast, sevalprocAttr, eq_self, ee, hd, hF.at, qG]) | (simp (disch := omega) only [yF, yK, yG, yL, hF.at]) | ((first | refine yE rfl (fun bb => ?_) (fun bb => ?_) | with_reducible refine yI (fun bb => ?_) (fun bb => ?_)) <;> (first | have bp := oT bb | have bp := oF bb | skip) <;> try simp only [bb]) | ((with_reducible refine And.intro ?_ ?_); omega) | (refine yV f43 ?_) | (with_reducible refine yM ?_ ?_))
 have hd : decide ((i : Int) < (l.length : Int)) = true := dT (by omega)
 have hro := wD hlt .i64
 have hcl := clsN_eq l[i]
 have hcc := wI l[i]
 repeat' (first | ((try clear hf); with_reducible refine yD fun env K hE hK hf => ?_; have n := cj11 hE 0 1 3 4 5 6 7 9 10 11 13; simp -implicitDefEqProofs only [push_cast, reduceIte, Nat.reduceEqDiff, ee] at n; clear hE ee; have ee := n; clear n) | (with_reducible first | (refine hK _ _ ?_; clear hK K) | (refine Zi ?_; constructor) | refine yB (by decide) ?_ | refine yH (by assumption) ?_ | refine yJ (by assumption) ?_) | (refine yC rfl ?_) | (simp -implicitDefEqProofs only [push_cast, sevalprocAttr, eq_self, ee, hd, hF.at, hro, op_0, hcl]) | (simp (disch := omega) only [yF, yK, yG, yL, hF.at]) | ((first | refine yE rfl (fun bb => ?_) (fun bb => ?_) | with_reducible refine yI (fun bb => ?_) (fun bb => ?_)) <;> (first | have bp := oT bb | have bp := oF bb | skip) <;> try simp only [bb]) | ((with_reducible refine And.intro ?_ ?_); omega) | (refine yV (f41 _) ?_) | (with_reducible refine yM ?_ ?_))
 have hbu := ht.1 _ hcc
 unfold okC at hbu
 obtain ⟨b, hb⟩ : ∃ b : Nat, t.b (clsN l[i]) = b := ⟨(t.b (clsN l[i])).toNat, by omega⟩
 have hvr := hget i hlt
 have r1 : (cs.map iC)[i]? = some (i64 (cs.getD i 0)) := by simp [iC, gD, show i < cs.length by omega]
 refine yN fun env hE => ?_; have n := cj11 hE 0 1 3 4 5 6 7 9 10 11 13; simp -implicitDefEqProofs only [push_cast, reduceIte, Nat.reduceEqDiff, ee] at n; clear hE ee; have ee := n; clear n; have E14_1 := ee; obtain ⟨e0, e1, e3, e4, e5, e6, e7, e9, e10, e11, e13⟩ := ee
 refine yY (fun nn σ => ∃ (j : Nat), nn = b - j + 0 ∧ kp [0, 1, 3, 5, 6, 7, 9, 10, 11] σ.env env ∧ σ.env 13 = i64 j ∧ (j ≤ b ∧ Ext h2 σ.h)) _ ⟨0, rfl, qL _ _, by refine e13.trans ?_; first | rfl | exact yO (by omega) | exact i64w (by omega), ?_⟩ ?_
 · exact ⟨by omega, (by repeat' (first | exact Ext.refl _ | assumption | omega | (with_reducible (refine Eg ?_; constructor))))⟩
 clear hx
 clear e0 e1 e3 e4 e5 e6 e7 e9 e10 e11 e13; rintro nn ⟨env, h6⟩ ⟨j, rfl, q, e13, hI⟩; simp only at e13 hI; simp only [kp, and_true, E14_1] at q; have ee : _ ∧ _ := ⟨e13, q⟩; clear e13 q
 obtain ⟨hj, hx⟩ := hI
 unfold l14_1
 (first | refine yP fun hF => ?_ | refine yT fun hF => ?_ | refine yS fun hF => ?_)
 have hb6 := (hx.2 (ie, is) hle1).trans hb1
 have hbT2 := (hx.2 (2, 3) hle2).trans hbT
 have hq8 := tab_b t hcc
 have hq0 := tab_u t hcc
 by_cases hlj : j < b
 · have hd : decide ((j : Int) < t.b (clsN l[i])) = true := dT (by omega)
   have hw : IntKind.i64.wrap (cs.getD i 0 + j) = cs.getD i 0 + j := YP (by omega) (by omega)
   have hub := hun (clsN l[i]) hcc (cs.getD i 0 + j)
   have d2 : decide (t.u (clsN l[i]) < useN l t cs l.length (clsN l[i]) (cs.getD i 0 + j)) = false := dF (by omega)
   have hil : (i : Int) < (l.length : Int) := by omega
   repeat' (first | ((try clear hf); with_reducible refine yD fun env K hE hK hf => ?_; have n := cj11 hE 0 1 3 4 5 6 7 9 10 11 13; simp -implicitDefEqProofs only [push_cast, reduceIte, Nat.reduceEqDiff, ee] at n; clear hE ee; have ee := n; clear n) | (with_reducible first | (refine hK _ _ ?_; clear hK K) | (refine Zi ?_; constructor) | refine yB (by decide) ?_ | refine yH (by assumption) ?_ | refine yJ (by assumption) ?_) | (refine yC rfl ?_) | (simp -implicitDefEqProofs only [push_cast, sevalprocAttr, eq_self, ee, hd, hF.at, hbT2, hb6, hq8, hq0, r1, hw, d2, hil]) | (simp (disch := omega) only [yF, yK, yG, yL, hF.at, r1, hil]) | ((first | refine yE rfl (fun bb => ?_) (fun bb => ?_) | with_reducible refine yI (fun bb => ?_) (fun bb => ?_)) <;> (first | have bp := oT bb | have bp := oF bb | skip) <;> try simp only [bb]) | ((with_reducible refine And.intro ?_ ?_); omega) | (refine call_busyq (cs := cs) hb6 (by omega) hn1 hrange ⟨by omega, by omega⟩ ht hcc ?_) | (with_reducible refine yM ?_ ?_))
   refine ⟨_, ?_, j + 1, rfl, by simp -implicitDefEqProofs only [kp, push_cast, reduceIte, Nat.reduceEqDiff, ee, E14_1, and_self], by first | rfl | exact yO (by omega) | exact i64w (by omega), ?_⟩
   · omega
   · exact ⟨by omega, (by repeat' (first | exact Ext.refl _ | assumption | omega | (with_reducible (refine Eg ?_; constructor))))⟩
 · have hd : decide ((j : Int) < t.b (clsN l[i])) = false := dF (by omega)
   repeat' (first | ((try clear hf); with_reducible refine yD fun env K hE hK hf => ?_; have n := cj11 hE 0 1 3 4 5 6 7 9 10 11 13; simp -implicitDefEqProofs only [push_cast, reduceIte, Nat.reduceEqDiff, ee] at n; clear hE ee; have ee := n; clear n) | (with_reducible first | (refine hK _ _ ?_; clear hK K) | (refine Zi ?_; constructor) | refine yB (by decide) ?_ | refine yH (by assumption) ?_ | refine yJ (by assumption) ?_) | (refine yC rfl ?_) | (simp -implicitDefEqProofs only [push_cast, sevalprocAttr, eq_self, ee, hd, hF.at, hbT2, hq8]) | (simp (disch := omega) only [yF, yK, yG, yL, hF.at]) | ((first | refine yE rfl (fun bb => ?_) (fun bb => ?_) | with_reducible refine yI (fun bb => ?_) (fun bb => ?_)) <;> (first | have bp := oT bb | have bp := oF bb | skip) <;> try simp only [bb]) | ((with_reducible refine And.intro ?_ ?_); omega) | (with_reducible refine yM ?_ ?_))
   refine ⟨_, ?_, i + 1, rfl, by simp -implicitDefEqProofs only [kp, push_cast, reduceIte, Nat.reduceEqDiff, ee, E14_2, and_self], by first | rfl | exact yO (by omega) | exact i64w (by omega), ?_⟩
   · omega
   · exact ⟨by omega, (by repeat' (first | exact Ext.refl _ | assumption | omega | (with_reducible (refine Eg ?_; constructor))))⟩
theorem UH.early {l : List Opn} {t : Tab} {cs : List Int} (k : UH l t cs) {i : Nat} (hi : i < l.length) {a : Int} (ha : 0 ≤ a) (hlt : a < cs.getD i 0) :
 (∃ e ∈ YH l t l.length, e.t = (i : Int) ∧ a < cs.getD e.f.toNat 0 + e.l) ∨ ∃ j : Nat, (j : Int) < t.b (clsN (opAt l i)) ∧ t.u (clsN (opAt l i)) ≤ useN l t cs l.length (clsN (opAt l i)) (a + j) := by
 obtain ⟨y, hI, hy⟩ := k.inv
 have h0 := k.get hi
 have hcl := k.len
 rcases hI.ea i hi a ha (by rw [if_neg (by omega)]; exact hlt) with ⟨e, he, het, h⟩ | ⟨j, hj, h⟩
 · refine .inl ⟨e, he, het, ?_⟩
   rcases h with h | h
   · have : 0 ≤ cs.getD e.f.toNat 0 := by
      rw [gD]
      by_cases hq : e.f.toNat < cs.length
      · rw [List.getElem?_eq_getElem hq]; exact (k.rng _ (List.getElem_mem hq)).1
      · rw [List.getElem?_eq_none (by omega)]; simp
     omega
   · exact h
 · refine .inr ⟨j, hj, ?_⟩
   rw [useR_eq l t cs k.done _ _ _ (by omega)] at h
   omega
theorem f13 {l : List Opn} {t : Tab} (hl : ∀ o ∈ l, o.ok) : HV Try.prog 13 [.row (l.map opC), .agg (tabC t)] (bl true) := by
 refine qJ qN cf13 (by simp) (by simp [imms, imm, WL, YN]) ?_ rfl
 unfold ac13 re13
 refine yN fun env hE => ?_; have ee := cj14 hE 0 1 3 4 5 6 7 8 9 10 12 13 14 15; simp -implicitDefEqProofs only [push_cast] at ee; clear hE
 by_cases h60 : 60 < l.length
 · have d1 : decide (60 < (l.length : Int)) = true := dT (by omega)
   repeat' (first | ((try clear hf); with_reducible refine yD fun env K hE hK hf => ?_; have n := cj14 hE 0 1 3 4 5 6 7 8 9 10 12 13 14 15; simp -implicitDefEqProofs only [push_cast, reduceIte, Nat.reduceEqDiff, ee] at n; clear hE ee; have ee := n; clear n) | (with_reducible first | (refine hK _ _ ?_; clear hK K) | (refine Zi ?_; constructor) | refine yB (by decide) ?_ | refine yH (by assumption) ?_ | refine yJ (by assumption) ?_) | (refine yC rfl ?_) | (simp -implicitDefEqProofs only [push_cast, sevalprocAttr, eq_self, ee, d1, qG]) | (simp (disch := omega) only [yF, yK, yG, yL]) | ((first | refine yE rfl (fun bb => ?_) (fun bb => ?_) | with_reducible refine yI (fun bb => ?_) (fun bb => ?_)) <;> (first | have bp := oT bb | have bp := oF bb | skip) <;> try simp only [bb]) | ((with_reducible refine And.intro ?_ ?_); omega) | (refine yV f43 ?_) | (with_reducible refine yM ?_ ?_))
 have d1 : decide (60 < (l.length : Int)) = false := dF (by omega)
 have q1 : ∀ x : Int, decide (x = x) = true := fun x => dT rfl
 have q0 : decide ((0 : Int) ≠ 0) = false := rfl
 have hbT := h60
 have hbox : ∀ {h1 : Hp}, Ext ((emp.tick.tick.push (2, 3) (tabC t)).tick.tick) h1 → h1.hp (2, 3) = some ⟨true, tabC t⟩ := fun hx => by
  rw [hx.2 _ (by simp only [qC, YX]; decide)]
  simp -implicitDefEqProofs only [push_cast, sevalprocAttr, eq_self]
 by_cases hR : errR l t = 0
 rotate_left
 · have hE : cycE l t = errR l t := by unfold cycE; rw [if_pos hR]
   have dE : decide (errR l t ≠ 0) = true := dT hR
   repeat' (first | ((try clear hf); with_reducible refine yD fun env K hE hK hf => ?_; have n := cj14 hE 0 1 3 4 5 6 7 8 9 10 12 13 14 15; simp -implicitDefEqProofs only [push_cast, reduceIte, Nat.reduceEqDiff, ee] at n; clear hE ee; have ee := n; clear n) | (with_reducible first | (refine hK _ _ ?_; clear hK K) | (refine Zi ?_; constructor) | refine yB (by decide) ?_ | refine yH (by assumption) ?_ | refine yJ (by assumption) ?_) | (refine yC rfl ?_) | (simp -implicitDefEqProofs only [push_cast, sevalprocAttr, eq_self, ee, d1, qG, UW, hbT, dE, q1]) | (simp (disch := omega) only [yF, yK, yG, yL]) | ((first | refine yE rfl (fun bb => ?_) (fun bb => ?_) | with_reducible refine yI (fun bb => ?_) (fun bb => ?_)) <;> (first | have bp := oT bb | have bp := oF bb | skip) <;> try simp only [bb]) | ((with_reducible refine And.intro ?_ ?_); omega) | (refine qD (HC.mono (f44 hl) ?_); rintro r h1 ⟨hx, _, hr⟩ hF; rw [hE] at hr; replace hr := (hr.resolve_right (fun h => hR h.1)).2; subst hr; have hbT := hbox hx) | (refine qD (HC.mono (uV hl) ?_); rintro r h2 ⟨hx2, hr⟩ hF2; replace hr := (hr.resolve_right (fun h => hR h.1)).2; subst hr) | (refine yV f43 ?_) | (with_reducible refine yM ?_ ?_))
   all_goals trace_state
   all_goals sorry
 obtain ⟨ht, hn, hop⟩ := WQ hR
 by_cases hlk : wX l t = true
 · have hE : cycE l t = 21 := by unfold cycE; rw [if_neg (fun h => h hR), if_pos hlk]
   have dE : decide ((21 : Int) ≠ 0) = true := rfl
   have dE2 : decide ((21 : Int) = 0) = false := rfl
   have dE3 : decide ((21 : Int) = 21) = true := rfl
   repeat' (first | ((try clear hf); with_reducible refine yD fun env K hE hK hf => ?_; have n := cj14 hE 0 1 3 4 5 6 7 8 9 10 12 13 14 15; simp -implicitDefEqProofs only [push_cast, reduceIte, Nat.reduceEqDiff, ee] at n; clear hE ee; have ee := n; clear n) | (with_reducible first | (refine hK _ _ ?_; clear hK K) | (refine Zi ?_; constructor) | refine yB (by decide) ?_ | refine yH (by assumption) ?_ | refine yJ (by assumption) ?_) | (refine yC rfl ?_) | (simp -implicitDefEqProofs only [push_cast, sevalprocAttr, eq_self, ee, d1, qG, UW, hbT, dE, dE2, dE3, q1]) | (simp (disch := omega) only [yF, yK, yG, yL]) | ((first | refine yE rfl (fun bb => ?_) (fun bb => ?_) | with_reducible refine yI (fun bb => ?_) (fun bb => ?_)) <;> (first | have bp := oT bb | have bp := oF bb | skip) <;> try simp only [bb]) | ((with_reducible refine And.intro ?_ ?_); omega) | (refine qD (HC.mono (f44 hl) ?_); rintro r h1 ⟨hx, _, hr⟩ hF; rw [hE] at hr; replace hr := (hr.resolve_right (fun h => absurd h.1 (by decide))).2; subst hr; have hbT := hbox hx) | (refine qD (HC.mono (uV hl) ?_); rintro r h2 ⟨hx2, hr⟩ hF2; obtain ⟨_, out, hr, hO⟩ := hr.resolve_left (fun h => h.1 hR); subst hr) | (refine yV f43 ?_) | (with_reducible refine yM ?_ ?_))
   all_goals trace_state
   all_goals sorry
 have hlk : wX l t = false := by simpa using hlk
 have hE : cycE l t = 0 := by unfold cycE; rw [if_neg (fun h => h hR), if_neg (by rw [hlk]; decide)]
 have dn : decide ((l.length : Int) ≠ (l.length : Int)) = false := dF (fun h => h rfl)
 repeat' (first | ((try clear hf); with_reducible refine yD fun env K hE hK hf => ?_; have n := cj14 hE 0 1 3 4 5 6 7 8 9 10 12 13 14 15; simp -implicitDefEqProofs only [push_cast, reduceIte, Nat.reduceEqDiff, ee] at n; clear hE ee; have ee := n; clear n) | (with_reducible first | (refine hK _ _ ?_; clear hK K) | (refine Zi ?_; constructor) | refine yB (by decide) ?_ | refine yH (by assumption) ?_ | refine yJ (by assumption) ?_) | (refine yC rfl ?_) | (simp -implicitDefEqProofs only [push_cast, sevalprocAttr, eq_self, ee, d1, qG, hbT, q0, dn, kH]) | (simp (disch := omega) only [yF, yK, yG, yL]) | ((first | refine yE rfl (fun bb => ?_) (fun bb => ?_) | with_reducible refine yI (fun bb => ?_) (fun bb => ?_)) <;> (first | have bp := oT bb | have bp := oF bb | skip) <;> try simp only [bb]) | ((with_reducible refine And.intro ?_ ?_); omega) | (refine qD (HC.mono (f44 hl) ?_); rintro r h1 ⟨hx, hod, hr⟩ hF; obtain ⟨_, ⟨ie, is⟩, rfl, hb1, hn1, ⟨y, hg⟩, hdn, hi1, hi2⟩ := hr.resolve_left (fun h => h.1 hE); have hbT := hbox hx; obtain ⟨d, hord⟩ := hod hR; have hKp := keep_of hR hlk hord hg hdn; have hep1 := hx.1; simp only [qC, YX] at hep1) | (refine qD (HC.mono (uV hl) ?_); rintro r h2 ⟨hx2, hr⟩ hF2; obtain ⟨_, out, hr, hO⟩ := hr.resolve_left (fun h => h.1 hR); subst hr; replace hb1 := (hx2.2 (ie, is) (by simp only [qC]; simp only at hi2; omega)).trans hb1; have hbT := (hx2.2 (2, 3) (by simp only [qC]; omega)).trans hbT; have hep2 := hx2.1; simp only [qC] at hep2) | (with_reducible refine yM ?_ ?_))
 have hEo := wV (l := l) ht l.length
 have hEl := WG l t l.length l.length (Nat.le_refl _)
 have hmul : 5 * l.length * l.length ≤ 5 * 1024 * 1024 := Nat.mul_le_mul (by omega) (by omega)
 have hrange : ∀ x ∈ cycS l t, 0 ≤ x ∧ x ≤ 100000 := fun x hx => by have := hKp.rng x hx; omega
 have hget := fun i (hi : i < l.length) => hKp.get hi
 have hea := fun i (hi : i < l.length) (a : Nat) (h : (a : Int) < (cycS l t).getD i 0) => hKp.early hi (a := a) (by omega) h
 have hle1 : ie ≤ h2.ep := by simp only at hi2; omega
 have hle2 : 2 ≤ h2.ep := by omega
 clear hg hdn hi1 hi2 hKp hx hx2
 generalize hES : YH l t l.length = ES at *
 generalize cycS l t = cs at *
 have hlc : (cs.map iC).length = l.length := by simpa using hn1
 refine yN fun env hE => ?_; have n := cj14 hE 0 1 3 4 5 6 7 8 9 10 12 13 14 15; simp -implicitDefEqProofs only [push_cast, reduceIte, Nat.reduceEqDiff, ee] at n; clear hE ee; have ee := n; clear n; have E13_3 := ee; obtain ⟨e0, e1, e3, e4, e5, e6, e7, e8, e9, e10, e12, e13, e14, e15⟩ := ee
 refine yY (fun nn σ => ∃ (i : Nat), nn = l.length - i + 0 ∧ kp [0, 1, 3, 5, 6, 7, 8] σ.env env ∧ σ.env 9 = i64 i ∧ (i ≤ l.length ∧ Ext h2 σ.h)) _ ⟨0, rfl, qL _ _, by refine e9.trans ?_; first | rfl | exact yO (by omega) | exact i64w (by omega), ?_⟩ ?_
 · exact ⟨by omega, (by repeat' (first | exact Ext.refl _ | assumption | omega | (with_reducible (refine Eg ?_; constructor))))⟩
 clear e0 e1 e3 e4 e5 e6 e7 e8 e9 e10 e12 e13 e14 e15; rintro nn ⟨env, h3⟩ ⟨i, rfl, q, e9, hI⟩; simp only at e9 hI; simp only [kp, and_true, E13_3] at q; have ee : _ ∧ _ := ⟨e9, q⟩; clear e9 q
 obtain ⟨hi, hx⟩ := hI
 unfold l13_3
 (first | refine yP fun hF => ?_ | refine yT fun hF => ?_ | refine yS fun hF => ?_)
 by_cases hlt : i < l.length
 rotate_left
 · have hd : decide ((i : Int) < (l.length : Int)) = false := dF (by omega)
   repeat' (first | ((try clear hf); with_reducible refine yD fun env K hE hK hf => ?_; have n := cj14 hE 0 1 3 4 5 6 7 8 9 10 12 13 14 15; simp -implicitDefEqProofs only [push_cast, reduceIte, Nat.reduceEqDiff, ee] at n; clear hE ee; have ee := n; clear n) | (with_reducible first | (refine hK _ _ ?_; clear hK K) | (refine Zi ?_; constructor) | refine yB (by decide) ?_ | refine yH (by assumption) ?_ | refine yJ (by assumption) ?_) | (refine yC rfl ?_) | (simp -implicitDefEqProofs only [push_cast, sevalprocAttr, eq_self, ee, hd, hF.at, qG]) | (simp (disch := omega) only [yF, yK, yG, yL, hF.at]) | ((first | refine yE rfl (fun bb => ?_) (fun bb => ?_) | with_reducible refine yI (fun bb => ?_) (fun bb => ?_)) <;> (first | have bp := oT bb | have bp := oF bb | skip) <;> try simp only [bb]) | ((with_reducible refine And.intro ?_ ?_); omega) | (refine yV f43 ?_) | (with_reducible refine yM ?_ ?_))
 have hd : decide ((i : Int) < (l.length : Int)) = true := dT (by omega)
 have hro := wD hlt .i64
 have hcl := clsN_eq l[i]
 have hcc := wI l[i]
 have hop := uA hlt
 have hb3 := (hx.2 (ie, is) hle1).trans hb1
 have hvr := hget i hlt
 have hil : (i : Int) < (l.length : Int) := by omega
 have r1 : (cs.map iC)[i]? = some (i64 (cs.getD i 0)) := by simp [iC, gD, show i < cs.length by omega]
 have d2 : decide (cs.getD i 0 < 0) = false := dF (by omega)
 have hw8 : IntKind.i64.wrap (8 * (l.length : Int)) = 8 * (l.length : Int) := YP (by omega) (by omega)
 have d3 : decide (8 * (l.length : Int) < cs.getD i 0) = false := dF (by omega)
 repeat' (first | ((try clear hf); with_reducible refine yD fun env K hE hK hf => ?_; have n := cj14 hE 0 1 3 4 5 6 7 8 9 10 12 13 14 15; simp -implicitDefEqProofs only [push_cast, reduceIte, Nat.reduceEqDiff, ee] at n; clear hE ee; have ee := n; clear n) | (with_reducible first | (refine hK _ _ ?_; clear hK K) | (refine Zi ?_; constructor) | refine yB (by decide) ?_ | refine yH (by assumption) ?_ | refine yJ (by assumption) ?_) | (refine yC rfl ?_) | (simp -implicitDefEqProofs only [push_cast, sevalprocAttr, eq_self, ee, hd, hF.at, qG, hro, op_0, hcl, hb3, r1, hil, d2, d3, hw8]) | (simp (disch := omega) only [yF, yK, yG, yL, hF.at, r1, hil]) | ((first | refine yE rfl (fun bb => ?_) (fun bb => ?_) | with_reducible refine yI (fun bb => ?_) (fun bb => ?_)) <;> (first | have bp := oT bb | have bp := oF bb | skip) <;> try simp only [bb]) | ((with_reducible refine And.intro ?_ ?_); omega) | (refine yV (f41 _) ?_) | (with_reducible refine yM ?_ ?_))
 have hea := hea i hlt
 rw [← hop] at hea
 have hbu := ht.1 _ hcc
 unfold okC at hbu
 obtain ⟨b, hb⟩ : ∃ b : Nat, t.b (clsN l[i]) = b := ⟨(t.b (clsN l[i])).toNat, by omega⟩
 generalize hc : clsN l[i] = c at *
 generalize hv : cs.getD i 0 = v at *
 refine yN fun env hE => ?_; have n := cj14 hE 0 1 3 4 5 6 7 8 9 10 12 13 14 15; simp -implicitDefEqProofs only [push_cast, reduceIte, Nat.reduceEqDiff, ee] at n; clear hE ee; have ee := n; clear n; have E13_2 := ee; obtain ⟨e0, e1, e3, e4, e5, e6, e7, e8, e9, e10, e12, e13, e14, e15⟩ := ee
 refine yY (fun nn σ => ∃ (a : Nat), nn = v.toNat - a + 0 ∧ kp [0, 1, 3, 5, 6, 7, 8, 9, 10] σ.env env ∧ σ.env 12 = i64 a ∧ ((a : Int) ≤ v ∧ Ext h2 σ.h)) _ ⟨0, rfl, qL _ _, by refine e12.trans ?_; first | rfl | exact yO (by omega) | exact i64w (by omega), ?_⟩ ?_
 · exact ⟨by omega, (by repeat' (first | exact Ext.refl _ | assumption | omega | (with_reducible (refine Eg ?_; constructor))))⟩
 clear hx hb3 hd
 clear e0 e1 e3 e4 e5 e6 e7 e8 e9 e10 e12 e13 e14 e15; rintro nn ⟨env, h4⟩ ⟨a, rfl, q, e12, hI⟩; simp only at e12 hI; simp only [kp, and_true, E13_2] at q; have ee : _ ∧ _ := ⟨e12, q⟩; clear e12 q
 obtain ⟨ha, hx⟩ := hI
 unfold l13_2
 (first | refine yP fun hF => ?_ | refine yT fun hF => ?_ | refine yS fun hF => ?_)
 have hb3 := (hx.2 (ie, is) hle1).trans hb1
 by_cases hlv : (a : Int) < v
 rotate_left
 · have hd : decide ((a : Int) < v) = false := dF hlv
   repeat' (first | ((try clear hf); with_reducible refine yD fun env K hE hK hf => ?_; have n := cj14 hE 0 1 3 4 5 6 7 8 9 10 12 13 14 15; simp -implicitDefEqProofs only [push_cast, reduceIte, Nat.reduceEqDiff, ee] at n; clear hE ee; have ee := n; clear n) | (with_reducible first | (refine hK _ _ ?_; clear hK K) | (refine Zi ?_; constructor) | refine yB (by decide) ?_ | refine yH (by assumption) ?_ | refine yJ (by assumption) ?_) | (refine yC rfl ?_) | (simp -implicitDefEqProofs only [push_cast, sevalprocAttr, eq_self, ee, hd, hF.at, hb3, r1, hil]) | (simp (disch := omega) only [yF, yK, yG, yL, hF.at, r1, hil]) | ((first | refine yE rfl (fun bb => ?_) (fun bb => ?_) | with_reducible refine yI (fun bb => ?_) (fun bb => ?_)) <;> (first | have bp := oT bb | have bp := oF bb | skip) <;> try simp only [bb]) | ((with_reducible refine And.intro ?_ ?_); omega) | (with_reducible refine yM ?_ ?_))
   refine ⟨_, ?_, i + 1, rfl, by simp -implicitDefEqProofs only [kp, push_cast, reduceIte, Nat.reduceEqDiff, ee, E13_3, and_self], by first | rfl | exact yO (by omega) | exact i64w (by omega), ?_⟩
   · omega
   · exact ⟨by omega, (by repeat' (first | exact Ext.refl _ | assumption | omega | (with_reducible (refine Eg ?_; constructor))))⟩
 have hd : decide ((a : Int) < v) = true := dT hlv
 have hea := hea a hlv
 repeat' (first | ((try clear hf); with_reducible refine yD fun env K hE hK hf => ?_; have n := cj14 hE 0 1 3 4 5 6 7 8 9 10 12 13 14 15; simp -implicitDefEqProofs only [push_cast, reduceIte, Nat.reduceEqDiff, ee] at n; clear hE ee; have ee := n; clear n) | (with_reducible first | (refine hK _ _ ?_; clear hK K) | (refine Zi ?_; constructor) | refine yB (by decide) ?_ | refine yH (by assumption) ?_ | refine yJ (by assumption) ?_) | (refine yC rfl ?_) | (simp -implicitDefEqProofs only [push_cast, sevalprocAttr, eq_self, ee, hd, hF.at, hb3, r1, hil]) | (simp (disch := omega) only [yF, yK, yG, yL, hF.at, r1, hil]) | ((first | refine yE rfl (fun bb => ?_) (fun bb => ?_) | with_reducible refine yI (fun bb => ?_) (fun bb => ?_)) <;> (first | have bp := oT bb | have bp := oF bb | skip) <;> try simp only [bb]) | ((with_reducible refine And.intro ?_ ?_); omega) | (with_reducible refine yM ?_ ?_))
 refine yN fun env hE => ?_; have n := cj14 hE 0 1 3 4 5 6 7 8 9 10 12 13 14 15; simp -implicitDefEqProofs only [push_cast, reduceIte, Nat.reduceEqDiff, ee] at n; clear hE ee; have ee := n; clear n; have E13_0 := ee; obtain ⟨e0, e1, e3, e4, e5, e6, e7, e8, e9, e10, e12, e13, e14, e15⟩ := ee
 refine yY (fun nn σ => ∃ (k : Nat) (w : Bool), nn = ES.length - k + 0 ∧ kp [0, 1, 3, 4, 5, 6, 7, 8, 9, 10, 12] σ.env env ∧ σ.env 14 = i64 k ∧ σ.env 13 = bl w ∧ (k ≤ ES.length ∧ ((∃ e ∈ ES.take k, e.t = (i : Int) ∧ (a : Int) < cs.getD e.f.toNat 0 + e.l) → w = true) ∧ Ext h2 σ.h)) _ ⟨0, false, rfl, qL _ _, by refine e14.trans ?_; first | rfl | exact yO (by omega) | exact i64w (by omega), by refine e13.trans ?_; first | rfl | exact yO (by omega) | exact i64w (by omega), ?_⟩ ?_
 · exact ⟨by omega, fun ⟨e, he, _⟩ => by simp at he, (by repeat' (first | exact Ext.refl _ | assumption | omega | (with_reducible (refine Eg ?_; constructor))))⟩
 clear hx hb3 hd
 clear e0 e1 e3 e4 e5 e6 e7 e8 e9 e10 e12 e13 e14 e15; rintro nn ⟨env, h5⟩ ⟨k, w, rfl, q, e14, e13, hI⟩; simp only at e14 e13 hI; simp only [kp, and_true, E13_0] at q; have ee : _ ∧ _ ∧ _ := ⟨e14, e13, q⟩; clear e14 e13 q
 obtain ⟨hk, hwy, hx⟩ := hI
 unfold l13_0
 (first | refine yP fun hF => ?_ | refine yT fun hF => ?_ | refine yS fun hF => ?_)
 have hOl := hO.slo.len
 have hb3 := (hx.2 (ie, is) hle1).trans hb1
 by_cases hlk : k < ES.length
 · have hd : decide ((k : Int) < (ES.length : Int)) = true := dT (by omega)
   by_cases hw : w = true
   · subst hw
     repeat' (first | ((try clear hf); with_reducible refine yD fun env K hE hK hf => ?_; have n := cj14 hE 0 1 3 4 5 6 7 8 9 10 12 13 14 15; simp -implicitDefEqProofs only [push_cast, reduceIte, Nat.reduceEqDiff, ee] at n; clear hE ee; have ee := n; clear n) | (with_reducible first | (refine hK _ _ ?_; clear hK K) | (refine Zi ?_; constructor) | refine yB (by decide) ?_ | refine yH (by assumption) ?_ | refine yJ (by assumption) ?_) | (refine yC rfl ?_) | (simp -implicitDefEqProofs only [push_cast, sevalprocAttr, eq_self, ee, hd, hF.at, hOl]) | (simp (disch := omega) only [yF, yK, yG, yL, hF.at, hOl]) | ((first | refine yE rfl (fun bb => ?_) (fun bb => ?_) | with_reducible refine yI (fun bb => ?_) (fun bb => ?_)) <;> (first | have bp := oT bb | have bp := oF bb | skip) <;> try simp only [bb]) | ((with_reducible refine And.intro ?_ ?_); omega) | (with_reducible refine yM ?_ ?_))
     refine ⟨_, ?_, k + 1, true, rfl, by simp -implicitDefEqProofs only [kp, push_cast, reduceIte, Nat.reduceEqDiff, ee, E13_0, and_self], by first | rfl | exact yO (by omega) | exact i64w (by omega), by first | rfl | exact yO (by omega) | exact i64w (by omega), ?_⟩
     · omega
     · exact ⟨by omega, fun _ => rfl, (by repeat' (first | exact Ext.refl _ | assumption | omega | (with_reducible (refine Eg ?_; constructor))))⟩
   have hw : w = false := by simpa using hw
   subst hw
   obtain ⟨oe, os, hoe, hob, hol⟩ := hO.slo.blk (by omega)
   subst hoe
   replace hob := (hx.2 _ hol).trans hob
   have hg0 : (ES.flatMap edC)[k * 5]? = some (i64 ES[k].f) := UY YD ES hlk (i := 0) (by decide)
   have hg1 : (ES.flatMap edC)[k * 5 + 1]? = some (i64 ES[k].t) := UY YD ES hlk (i := 1) (by decide)
   have hg2 : (ES.flatMap edC)[k * 5 + 2]? = some (i64 ES[k].l) := UY YD ES hlk (i := 2) (by decide)
   have hxo := hEo _ (List.getElem_mem hlk)
   have htk : ES.take (k + 1) = ES.take k ++ [ES[k]] := by rw [List.take_succ_eq_append_getElem hlk]
   generalize ES[k] = x at *
   obtain ⟨x1, x2, x3, x4, x5⟩ := hxo
   obtain ⟨f, hxf⟩ : ∃ f : Nat, x.f = f := ⟨x.f.toNat, by omega⟩
   have hf2 : x.f.toNat = f := by omega
   have r2 : (cs.map iC)[f]? = some (i64 (cs.getD f 0)) := by simp [iC, gD, show f < cs.length by omega]
   have b1 := hget f (by omega)
   have hfl : (f : Int) < (l.length : Int) := by omega
   have next : ∀ w' : Bool, ((x.t = (i : Int) ∧ (a : Int) < cs.getD f 0 + x.l) → w' = true) → (∃ e ∈ ES.take (k + 1), e.t = (i : Int) ∧ (a : Int) < cs.getD e.f.toNat 0 + e.l) → w' = true := fun w' h ⟨e, he, h1, h2⟩ => by
    rw [htk] at he
    simp only [List.mem_append, List.mem_singleton] at he
    rcases he with he | he
    · exact absurd (hwy ⟨e, he, h1, h2⟩) (by decide)
    · subst he; rw [hf2] at h2; exact h ⟨h1, h2⟩
   generalize cs.getD f 0 = vf at *
   have hw : IntKind.i64.wrap (vf + x.l) = vf + x.l := YP (by omega) (by omega)
   by_cases h1 : x.t = (i : Int)
   · have d2 : decide (x.t = (i : Int)) = true := dT h1
     have d4 : decide ((i : Int) = (i : Int)) = true := dT rfl
     by_cases h2 : (a : Int) < vf + x.l
     · have d3 : decide ((a : Int) < vf + x.l) = true := dT h2
       repeat' (first | ((try clear hf); with_reducible refine yD fun env K hE hK hf => ?_; have n := cj14 hE 0 1 3 4 5 6 7 8 9 10 12 13 14 15; simp -implicitDefEqProofs only [push_cast, reduceIte, Nat.reduceEqDiff, ee] at n; clear hE ee; have ee := n; clear n) | (with_reducible first | (refine hK _ _ ?_; clear hK K) | (refine Zi ?_; constructor) | refine yB (by decide) ?_ | refine yH (by assumption) ?_ | refine yJ (by assumption) ?_) | (refine yC rfl ?_) | (simp -implicitDefEqProofs only [push_cast, sevalprocAttr, eq_self, ee, hd, hF.at, hOl, hob, hb3, hg0, hg1, hg2, Nat.add_zero, hxf, r2, hw, d2, d3, hfl]) | (simp (disch := omega) only [yF, yK, yG, yL, hF.at, hOl, hg0, hg1, hg2, Nat.add_zero, hxf, r2, hfl]) | ((first | refine yE rfl (fun bb => ?_) (fun bb => ?_) | with_reducible refine yI (fun bb => ?_) (fun bb => ?_)) <;> (first | have bp := oT bb | have bp := oF bb | skip) <;> try simp only [bb]) | ((with_reducible refine And.intro ?_ ?_); omega) | (with_reducible refine yM ?_ ?_))
       refine ⟨_, ?_, k + 1, true, rfl, by simp -implicitDefEqProofs only [kp, push_cast, reduceIte, Nat.reduceEqDiff, ee, E13_0, and_self], by first | rfl | exact yO (by omega) | exact i64w (by omega), by first | rfl | exact yO (by omega) | exact i64w (by omega), ?_⟩
       · omega
       · exact ⟨by omega, fun _ => rfl, (by repeat' (first | exact Ext.refl _ | assumption | omega | (with_reducible (refine Eg ?_; constructor))))⟩
     · have d3 : decide ((a : Int) < vf + x.l) = false := dF h2
       repeat' (first | ((try clear hf); with_reducible refine yD fun env K hE hK hf => ?_; have n := cj14 hE 0 1 3 4 5 6 7 8 9 10 12 13 14 15; simp -implicitDefEqProofs only [push_cast, reduceIte, Nat.reduceEqDiff, ee] at n; clear hE ee; have ee := n; clear n) | (with_reducible first | (refine hK _ _ ?_; clear hK K) | (refine Zi ?_; constructor) | refine yB (by decide) ?_ | refine yH (by assumption) ?_ | refine yJ (by assumption) ?_) | (refine yC rfl ?_) | (simp -implicitDefEqProofs only [push_cast, sevalprocAttr, eq_self, ee, hd, hF.at, hOl, hob, hb3, hg0, hg1, hg2, Nat.add_zero, hxf, r2, hw, d2, d3, hfl]) | (simp (disch := omega) only [yF, yK, yG, yL, hF.at, hOl, hg0, hg1, hg2, Nat.add_zero, hxf, r2, hfl]) | ((first | refine yE rfl (fun bb => ?_) (fun bb => ?_) | with_reducible refine yI (fun bb => ?_) (fun bb => ?_)) <;> (first | have bp := oT bb | have bp := oF bb | skip) <;> try simp only [bb]) | ((with_reducible refine And.intro ?_ ?_); omega) | (with_reducible refine yM ?_ ?_))
       refine ⟨_, ?_, k + 1, false, rfl, by simp -implicitDefEqProofs only [kp, push_cast, reduceIte, Nat.reduceEqDiff, ee, E13_0, and_self], by first | rfl | exact yO (by omega) | exact i64w (by omega), by first | rfl | exact yO (by omega) | exact i64w (by omega), ?_⟩
       · omega
       · exact ⟨by omega, next false fun h => absurd h.2 h2, (by repeat' (first | exact Ext.refl _ | assumption | omega | (with_reducible (refine Eg ?_; constructor))))⟩
   · have d2 : decide (x.t = (i : Int)) = false := dF h1
     repeat' (first | ((try clear hf); with_reducible refine yD fun env K hE hK hf => ?_; have n := cj14 hE 0 1 3 4 5 6 7 8 9 10 12 13 14 15; simp -implicitDefEqProofs only [push_cast, reduceIte, Nat.reduceEqDiff, ee] at n; clear hE ee; have ee := n; clear n) | (with_reducible first | (refine hK _ _ ?_; clear hK K) | (refine Zi ?_; constructor) | refine yB (by decide) ?_ | refine yH (by assumption) ?_ | refine yJ (by assumption) ?_) | (refine yC rfl ?_) | (simp -implicitDefEqProofs only [push_cast, sevalprocAttr, eq_self, ee, hd, hF.at, hOl, hob, hb3, hg0, hg1, hg2, Nat.add_zero, hxf, r2, hw, d2, hfl]) | (simp (disch := omega) only [yF, yK, yG, yL, hF.at, hOl, hg0, hg1, hg2, Nat.add_zero, hxf, r2, hfl]) | ((first | refine yE rfl (fun bb => ?_) (fun bb => ?_) | with_reducible refine yI (fun bb => ?_) (fun bb => ?_)) <;> (first | have bp := oT bb | have bp := oF bb | skip) <;> try simp only [bb]) | ((with_reducible refine And.intro ?_ ?_); omega) | (with_reducible refine yM ?_ ?_))
     refine ⟨_, ?_, k + 1, false, rfl, by simp -implicitDefEqProofs only [kp, push_cast, reduceIte, Nat.reduceEqDiff, ee, E13_0, and_self], by first | rfl | exact yO (by omega) | exact i64w (by omega), by first | rfl | exact yO (by omega) | exact i64w (by omega), ?_⟩
     · omega
     · exact ⟨by omega, next false fun h => absurd h.1 h1, (by repeat' (first | exact Ext.refl _ | assumption | omega | (with_reducible (refine Eg ?_; constructor))))⟩
 have hd : decide ((k : Int) < (ES.length : Int)) = false := dF (by omega)
 obtain rfl : k = ES.length := by omega
 rw [List.take_length] at hwy
 repeat' (first | ((try clear hf); with_reducible refine yD fun env K hE hK hf => ?_; have n := cj14 hE 0 1 3 4 5 6 7 8 9 10 12 13 14 15; simp -implicitDefEqProofs only [push_cast, reduceIte, Nat.reduceEqDiff, ee] at n; clear hE ee; have ee := n; clear n) | (with_reducible first | (refine hK _ _ ?_; clear hK K) | (refine Zi ?_; constructor) | refine yB (by decide) ?_ | refine yH (by assumption) ?_ | refine yJ (by assumption) ?_) | (refine yC rfl ?_) | (simp -implicitDefEqProofs only [push_cast, sevalprocAttr, eq_self, ee, hd, hF.at, hOl]) | (simp (disch := omega) only [yF, yK, yG, yL, hF.at, hOl]) | ((first | refine yE rfl (fun bb => ?_) (fun bb => ?_) | with_reducible refine yI (fun bb => ?_) (fun bb => ?_)) <;> (first | have bp := oT bb | have bp := oF bb | skip) <;> try simp only [bb]) | ((with_reducible refine And.intro ?_ ?_); omega) | (with_reducible refine yM ?_ ?_))
 refine yN fun env hE => ?_; have n := cj14 hE 0 1 3 4 5 6 7 8 9 10 12 13 14 15; simp -implicitDefEqProofs only [push_cast, reduceIte, Nat.reduceEqDiff, ee] at n; clear hE ee; have ee := n; clear n; have E13_1 := ee; obtain ⟨e0, e1, e3, e4, e5, e6, e7, e8, e9, e10, e12, e13, e14, e15⟩ := ee
 refine yY (fun nn σ => ∃ (j : Nat) (w1 : Bool), nn = b - j + 0 ∧ kp [0, 1, 3, 4, 5, 6, 7, 8, 9, 10, 12, 14] σ.env env ∧ σ.env 15 = i64 j ∧ σ.env 13 = bl w1 ∧ (j ≤ b ∧ ((∃ e ∈ ES, e.t = (i : Int) ∧ (a : Int) < cs.getD e.f.toNat 0 + e.l) → w1 = true) ∧ (∀ q : Nat, q < j → t.u c ≤ useN l t cs l.length c ((a : Int) + q) → w1 = true) ∧ Ext h2 σ.h)) _ ⟨0, w, rfl, qL _ _, by refine e15.trans ?_; first | rfl | exact yO (by omega) | exact i64w (by omega), by refine e13.trans ?_; first | rfl | exact yO (by omega) | exact i64w (by omega), ?_⟩ ?_
 · exact ⟨by omega, hwy, fun q hq => by omega, (by repeat' (first | exact Ext.refl _ | assumption | omega | (with_reducible (refine Eg ?_; constructor))))⟩
 clear hx hb3 hwy
 clear e0 e1 e3 e4 e5 e6 e7 e8 e9 e10 e12 e13 e14 e15; rintro nn ⟨env, h6⟩ ⟨j, w1, rfl, q, e15, e13, hI⟩; simp only at e15 e13 hI; simp only [kp, and_true, E13_1] at q; have ee : _ ∧ _ ∧ _ := ⟨e15, e13, q⟩; clear e15 e13 q
 obtain ⟨hj, hwy, hwz, hx⟩ := hI
 unfold l13_1
 (first | refine yP fun hF => ?_ | refine yT fun hF => ?_ | refine yS fun hF => ?_)
 have hb6 := (hx.2 (ie, is) hle1).trans hb1
 have hbT2 := (hx.2 (2, 3) hle2).trans hbT
 have hq8 := tab_b t hcc
 have hq0 := tab_u t hcc
 by_cases hlj : j < b
 · have hd : decide ((j : Int) < t.b c) = true := dT (by omega)
   by_cases hw : w1 = true
   · subst hw
     repeat' (first | ((try clear hf); with_reducible refine yD fun env K hE hK hf => ?_; have n := cj14 hE 0 1 3 4 5 6 7 8 9 10 12 13 14 15; simp -implicitDefEqProofs only [push_cast, reduceIte, Nat.reduceEqDiff, ee] at n; clear hE ee; have ee := n; clear n) | (with_reducible first | (refine hK _ _ ?_; clear hK K) | (refine Zi ?_; constructor) | refine yB (by decide) ?_ | refine yH (by assumption) ?_ | refine yJ (by assumption) ?_) | (refine yC rfl ?_) | (simp -implicitDefEqProofs only [push_cast, sevalprocAttr, eq_self, ee, hd, hF.at, hbT2, hq8]) | (simp (disch := omega) only [yF, yK, yG, yL, hF.at]) | ((first | refine yE rfl (fun bb => ?_) (fun bb => ?_) | with_reducible refine yI (fun bb => ?_) (fun bb => ?_)) <;> (first | have bp := oT bb | have bp := oF bb | skip) <;> try simp only [bb]) | ((with_reducible refine And.intro ?_ ?_); omega) | (with_reducible refine yM ?_ ?_))
     refine ⟨_, ?_, j + 1, true, rfl, by simp -implicitDefEqProofs only [kp, push_cast, reduceIte, Nat.reduceEqDiff, ee, E13_1, and_self], by first | rfl | exact yO (by omega) | exact i64w (by omega), by first | rfl | exact yO (by omega) | exact i64w (by omega), ?_⟩
     · omega
     · exact ⟨by omega, fun _ => rfl, fun _ _ _ => rfl, (by repeat' (first | exact Ext.refl _ | assumption | omega | (with_reducible (refine Eg ?_; constructor))))⟩
   have hw : w1 = false := by simpa using hw
   subst hw
   have hw2 : IntKind.i64.wrap ((a : Int) + j) = (a : Int) + j := YP (by omega) (by omega)
   by_cases hu : t.u c ≤ useN l t cs l.length c ((a : Int) + j)
   · have d2 : decide (t.u c ≤ useN l t cs l.length c ((a : Int) + j)) = true := dT hu
     repeat' (first | ((try clear hf); with_reducible refine yD fun env K hE hK hf => ?_; have n := cj14 hE 0 1 3 4 5 6 7 8 9 10 12 13 14 15; simp -implicitDefEqProofs only [push_cast, reduceIte, Nat.reduceEqDiff, ee] at n; clear hE ee; have ee := n; clear n) | (with_reducible first | (refine hK _ _ ?_; clear hK K) | (refine Zi ?_; constructor) | refine yB (by decide) ?_ | refine yH (by assumption) ?_ | refine yJ (by assumption) ?_) | (refine yC rfl ?_) | (simp -implicitDefEqProofs only [push_cast, sevalprocAttr, eq_self, ee, hd, hF.at, hbT2, hb6, hq8, hq0, hw2, d2]) | (simp (disch := omega) only [yF, yK, yG, yL, hF.at]) | ((first | refine yE rfl (fun bb => ?_) (fun bb => ?_) | with_reducible refine yI (fun bb => ?_) (fun bb => ?_)) <;> (first | have bp := oT bb | have bp := oF bb | skip) <;> try simp only [bb]) | ((with_reducible refine And.intro ?_ ?_); omega) | (refine call_busyq (cs := cs) hb6 (by omega) hn1 hrange ⟨by omega, by omega⟩ ht hcc ?_) | (with_reducible refine yM ?_ ?_))
     refine ⟨_, ?_, j + 1, true, rfl, by simp -implicitDefEqProofs only [kp, push_cast, reduceIte, Nat.reduceEqDiff, ee, E13_1, and_self], by first | rfl | exact yO (by omega) | exact i64w (by omega), by first | rfl | exact yO (by omega) | exact i64w (by omega), ?_⟩
     · omega
     · exact ⟨by omega, fun _ => rfl, fun _ _ _ => rfl, (by repeat' (first | exact Ext.refl _ | assumption | omega | (with_reducible (refine Eg ?_; constructor))))⟩
   · have d2 : decide (t.u c ≤ useN l t cs l.length c ((a : Int) + j)) = false := dF hu
     repeat' (first | ((try clear hf); with_reducible refine yD fun env K hE hK hf => ?_; have n := cj14 hE 0 1 3 4 5 6 7 8 9 10 12 13 14 15; simp -implicitDefEqProofs only [push_cast, reduceIte, Nat.reduceEqDiff, ee] at n; clear hE ee; have ee := n; clear n) | (with_reducible first | (refine hK _ _ ?_; clear hK K) | (refine Zi ?_; constructor) | refine yB (by decide) ?_ | refine yH (by assumption) ?_ | refine yJ (by assumption) ?_) | (refine yC rfl ?_) | (simp -implicitDefEqProofs only [push_cast, sevalprocAttr, eq_self, ee, hd, hF.at, hbT2, hb6, hq8, hq0, hw2, d2]) | (simp (disch := omega) only [yF, yK, yG, yL, hF.at]) | ((first | refine yE rfl (fun bb => ?_) (fun bb => ?_) | with_reducible refine yI (fun bb => ?_) (fun bb => ?_)) <;> (first | have bp := oT bb | have bp := oF bb | skip) <;> try simp only [bb]) | ((with_reducible refine And.intro ?_ ?_); omega) | (refine call_busyq (cs := cs) hb6 (by omega) hn1 hrange ⟨by omega, by omega⟩ ht hcc ?_) | (with_reducible refine yM ?_ ?_))
     refine ⟨_, ?_, j + 1, false, rfl, by simp -implicitDefEqProofs only [kp, push_cast, reduceIte, Nat.reduceEqDiff, ee, E13_1, and_self], by first | rfl | exact yO (by omega) | exact i64w (by omega), by first | rfl | exact yO (by omega) | exact i64w (by omega), ?_⟩
     · omega
     · refine ⟨by omega, hwy, fun q hq h => ?_, (by repeat' (first | exact Ext.refl _ | assumption | omega | (with_reducible (refine Eg ?_; constructor))))⟩
       by_cases e : q = j
       · subst e; exact absurd h hu
       · exact hwz q (by omega) h
 · have hd : decide ((j : Int) < t.b c) = false := dF (by omega)
   have hw1 : w1 = true := by
    rcases hea with h | ⟨q, hq, h⟩
    · exact hwy h
    · exact hwz q (by omega) h
   subst hw1
   repeat' (first | ((try clear hf); with_reducible refine yD fun env K hE hK hf => ?_; have n := cj14 hE 0 1 3 4 5 6 7 8 9 10 12 13 14 15; simp -implicitDefEqProofs only [push_cast, reduceIte, Nat.reduceEqDiff, ee] at n; clear hE ee; have ee := n; clear n) | (with_reducible first | (refine hK _ _ ?_; clear hK K) | (refine Zi ?_; constructor) | refine yB (by decide) ?_ | refine yH (by assumption) ?_ | refine yJ (by assumption) ?_) | (refine yC rfl ?_) | (simp -implicitDefEqProofs only [push_cast, sevalprocAttr, eq_self, ee, hd, hF.at, hbT2, hq8]) | (simp (disch := omega) only [yF, yK, yG, yL, hF.at]) | ((first | refine yE rfl (fun bb => ?_) (fun bb => ?_) | with_reducible refine yI (fun bb => ?_) (fun bb => ?_)) <;> (first | have bp := oT bb | have bp := oF bb | skip) <;> try simp only [bb]) | ((with_reducible refine And.intro ?_ ?_); omega) | (with_reducible refine yM ?_ ?_))
   refine ⟨_, ?_, a + 1, rfl, by simp -implicitDefEqProofs only [kp, push_cast, reduceIte, Nat.reduceEqDiff, ee, E13_2, and_self], by first | rfl | exact yO (by omega) | exact i64w (by omega), ?_⟩
   · omega
   · exact ⟨by omega, (by repeat' (first | exact Ext.refl _ | assumption | omega | (with_reducible (refine Eg ?_; constructor))))⟩
end Go.Proofs.Hx
