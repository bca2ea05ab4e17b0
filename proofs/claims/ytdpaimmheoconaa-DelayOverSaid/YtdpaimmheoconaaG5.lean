import Derived.Test.YtdpaimmheoconaaCodeA
import Derived.Test.YtdpaimmheoconaaG2
set_option linter.unusedVariables false
set_option linter.unusedSimpArgs false
namespace Go.Proofs.Hx
open Go Go.Proofs
attribute [local irreducible] yR awp opK goV goM qB yW qE yT HV HVF HC
theorem f89 (x lo hi : Int) : HV Try.prog 89 [.lit (.int .i64 x), .lit (.int .i64 lo), .lit (.int .i64 hi)] (.lit (.bool (decide (lo ≤ x) && decide (x ≤ hi)))) := by
 refine qK qM cf89 (by simp) rfl ?_ rfl
 unfold ac89 re89
 refine yN fun env hE => ?_; obtain ⟨e0, e1, e2, e6⟩ := cj4 hE 0 1 2 6; simp -implicitDefEqProofs only [push_cast] at e0 e1 e2 e6; clear hE
 repeat' (first | ((try clear hf); with_reducible refine yD fun env K hE hK hf => ?_; have n := cj4 hE 0 1 2 6; simp -implicitDefEqProofs only [push_cast, reduceIte, Nat.reduceEqDiff, e0, e1, e2, e6] at n; clear hE e0 e1 e2 e6; obtain ⟨e0, e1, e2, e6⟩ := n) | (with_reducible first | (refine hK _ _ ?_; clear hK K) | (refine Zi ?_; constructor) | refine yB (by decide) ?_ | refine yH (by assumption) ?_ | refine yJ (by assumption) ?_) | (refine yC rfl ?_) | (simp -implicitDefEqProofs only [push_cast, sevalprocAttr, eq_self, e0, e1, e2, e6]) | (simp (disch := omega) only [yF, yK, yG, yL]) | (with_reducible refine yM ?_ ?_) | (refine yE rfl (fun bb => ?_) (fun bb => ?_) <;> simp only [bb]) | (with_reducible refine yI (fun bb => ?_) (fun bb => ?_)) | ((with_reducible refine And.intro ?_ ?_); omega))
 all_goals simp [bb]
abbrev i64 (n : Int) : AV := .lit (.int .i64 n)
structure Tab where
 u : Nat → Int
 l : Nat → Int
 b : Nat → Int
 d : Int
def tabC (t : Tab) : List AV := [i64 (t.u 0), i64 (t.u 1), i64 (t.u 2), i64 (t.u 3), i64 (t.l 0), i64 (t.l 1), i64 (t.l 2), i64 (t.l 3), i64 (t.b 0), i64 (t.b 1), i64 (t.b 2), i64 (t.b 3), i64 t.d]
def okC (t : Tab) (c : Nat) : Prop := 0 ≤ t.u c ∧ t.u c ≤ 8 ∧ 1 ≤ t.l c ∧ t.l c ≤ 8 ∧ 1 ≤ t.b c ∧ t.b c ≤ 4
instance (t : Tab) (c : Nat) : Decidable (okC t c) := by unfold okC; infer_instance
def YK (t : Tab) : Prop := (∀ c < 4, okC t c) ∧ 0 ≤ t.d ∧ t.d ≤ 4
instance (t : Tab) : Decidable (YK t) := by unfold YK; infer_instance
def tabE (t : Tab) : Int := if YK t then 0 else 20
theorem tab_u (t : Tab) {c : Nat} (hc : c < 4) : (tabC t)[c]? = some (i64 (t.u c)) := by
 match c, hc with
 | 0, _ | 1, _ | 2, _ | 3, _ => rfl
theorem tab_l (t : Tab) {c : Nat} (hc : c < 4) : (tabC t)[4 + c]? = some (i64 (t.l c)) := by
 match c, hc with
 | 0, _ | 1, _ | 2, _ | 3, _ => rfl
theorem tab_b (t : Tab) {c : Nat} (hc : c < 4) : (tabC t)[8 + c]? = some (i64 (t.b c)) := by
 match c, hc with
 | 0, _ | 1, _ | 2, _ | 3, _ => rfl
theorem tab_d (t : Tab) : (tabC t)[12]? = some (i64 t.d) := rfl
theorem tab_len (t : Tab) : (tabC t).length = 13 := rfl
theorem tab_take (t : Tab) : (tabC t).take 13 = tabC t := rfl
theorem tab_one (t : Tab) : (tabC t).all one = true := rfl
theorem uM (t : Tab) : imms (tabC t) = true := rfl
attribute [push_cast] tab_len tab_take tab_one uM
theorem tabE_bad {t : Tab} (h : ¬ YK t) : tabE t = 20 := by simp [tabE, h]
theorem tabE_ok {t : Tab} (h : YK t) : tabE t = 0 := by simp [tabE, h]
def I42 (t : Tab) (n : Nat) (σ : St) : Prop := ∃ c : Nat, c ≤ 4 ∧ n = 4 - c ∧ σ.env 5 = i64 c ∧ σ.env 1 = .ptr (2, 1) 0 ∧ σ.env 3 = .fn 89 [] ∧ σ.h.hp (2, 1) = some ⟨true, tabC t⟩ ∧ ∀ j < c, okC t j
theorem f56 (t : Tab) : HV Try.prog 56 [.agg (tabC t)] (i64 (tabE t)) := by
 refine qK qM cf56 (by simp) rfl ?_ rfl
 unfold ac56 re56
 refine yN fun env hE => ?_; obtain ⟨e0, e1, e2, e3, e4, e5, e6⟩ := cj7 hE 0 1 2 3 4 5 6; simp -implicitDefEqProofs only [push_cast] at e0 e1 e2 e3 e4 e5 e6; clear hE
 repeat' (first | ((try clear hf); with_reducible refine yD fun env K hE hK hf => ?_; have n := cj7 hE 0 1 2 3 4 5 6; simp -implicitDefEqProofs only [push_cast, reduceIte, Nat.reduceEqDiff, e0, e1, e2, e3, e4, e5, e6] at n; clear hE e0 e1 e2 e3 e4 e5 e6; obtain ⟨e0, e1, e2, e3, e4, e5, e6⟩ := n) | (with_reducible first | (refine hK _ _ ?_; clear hK K) | (refine Zi ?_; constructor) | refine yB (by decide) ?_ | refine yH (by assumption) ?_ | refine yJ (by assumption) ?_) | (refine yC rfl ?_) | (simp -implicitDefEqProofs only [push_cast, sevalprocAttr, eq_self, e0, e1, e2, e3, e4, e5, e6]) | (simp (disch := omega) only [yF, yK, yG, yL]) | (with_reducible refine yM ?_ ?_) | (refine yE rfl (fun bb => ?_) (fun bb => ?_) <;> simp only [bb]) | (with_reducible refine yI (fun bb => ?_) (fun bb => ?_)) | ((with_reducible refine And.intro ?_ ?_); omega))
 refine qC (I42 t) 4 ⟨0, by omega, rfl, by simp -implicitDefEqProofs only [push_cast, sevalprocAttr, eq_self], by simp -implicitDefEqProofs only [push_cast, sevalprocAttr, eq_self, e1], by simp -implicitDefEqProofs only [push_cast, sevalprocAttr, eq_self, e3], by simp -implicitDefEqProofs only [push_cast, sevalprocAttr, eq_self], by omega⟩ ?_
 rintro n ⟨env, h⟩ ⟨c, hc4, rfl, e5, e1, e3, hb, hall⟩
 simp only at e5 e1 e3 hb
 have e0 : True := trivial; have e2 : True := trivial; have e4 : True := trivial; have e6 : True := trivial
 unfold l56_0
 by_cases hc : c < 4
 · have hx := tab_u t hc
   have hy := tab_l t hc
   have hz := tab_b t hc
   have hlt : decide ((c : Int) < 4) = true := by simp; omega
   repeat' (first | ((try clear hf); with_reducible refine yD fun env K hE hK hf => ?_; have n := cj7 hE 0 1 2 3 4 5 6; simp -implicitDefEqProofs only [push_cast, reduceIte, Nat.reduceEqDiff, e0, e1, e2, e3, e4, e5, e6] at n; clear hE e0 e1 e2 e3 e4 e5 e6; obtain ⟨e0, e1, e2, e3, e4, e5, e6⟩ := n) | (with_reducible first | (refine hK _ _ ?_; clear hK K) | (refine Zi ?_; constructor) | refine yB (by decide) ?_ | refine yH (by assumption) ?_ | refine yJ (by assumption) ?_) | (refine yC rfl ?_) | (simp -implicitDefEqProofs only [push_cast, sevalprocAttr, eq_self, e0, e1, e2, e3, e4, e5, e6, hlt, hb, hx, hy, hz]) | (simp (disch := omega) only [yF, yK, yG, yL, hlt, hb, hx, hy, hz]) | (with_reducible refine yM ?_ ?_) | (refine yE rfl (fun bb => ?_) (fun bb => ?_) <;> simp only [bb]) | (with_reducible refine yI (fun bb => ?_) (fun bb => ?_)) | ((with_reducible refine And.intro ?_ ?_); omega) | (refine yO (f89 _ _ _) ?_))
   all_goals first
    | (rw [tabE_bad]; intro h; have := h.1 c hc; simp [okC] at *; omega)
    | skip
   refine ⟨4 - (c + 1), by omega, c + 1, by omega, rfl, ?_, ?_, ?_, ?_, ?_⟩
   · simp -implicitDefEqProofs only [push_cast, sevalprocAttr, eq_self]
   · simp -implicitDefEqProofs only [push_cast, sevalprocAttr, eq_self, e1]
   · simp -implicitDefEqProofs only [push_cast, sevalprocAttr, eq_self, e3]
   · simp -implicitDefEqProofs only [push_cast, sevalprocAttr, eq_self, hb]
   · intro j hj
     by_cases e : j < c
     · exact hall j e
     · obtain rfl : j = c := by omega
       simp [okC] at *; omega
 · have hlt : decide ((c : Int) < 4) = false := by simp; omega
   repeat' (first | ((try clear hf); with_reducible refine yD fun env K hE hK hf => ?_; have n := cj7 hE 0 1 2 3 4 5 6; simp -implicitDefEqProofs only [push_cast, reduceIte, Nat.reduceEqDiff, e0, e1, e2, e3, e4, e5, e6] at n; clear hE e0 e1 e2 e3 e4 e5 e6; obtain ⟨e0, e1, e2, e3, e4, e5, e6⟩ := n) | (with_reducible first | (refine hK _ _ ?_; clear hK K) | (refine Zi ?_; constructor) | refine yB (by decide) ?_ | refine yH (by assumption) ?_ | refine yJ (by assumption) ?_) | (refine yC rfl ?_) | (simp -implicitDefEqProofs only [push_cast, sevalprocAttr, eq_self, e0, e1, e2, e3, e4, e5, e6, hlt, hb, tab_d]) | (simp (disch := omega) only [yF, yK, yG, yL, hlt, hb, tab_d]) | (with_reducible refine yM ?_ ?_) | (refine yE rfl (fun bb => ?_) (fun bb => ?_) <;> simp only [bb]) | (with_reducible refine yI (fun bb => ?_) (fun bb => ?_)) | ((with_reducible refine And.intro ?_ ?_); omega) | (refine yO (f89 _ _ _) ?_))
   · rw [tabE_bad]; intro h; have := h.2; simp at *; omega
   · rw [tabE_ok]; exact ⟨fun j hj => hall j (by omega), by simp at *; omega⟩
structure Shp where
 nm : ByteArray
 cl : Int
 d : Bool
 a : Bool
 b : Bool
 n : Bool
 im : Bool
 is : Bool
def shpA (s : Shp) : List AV := [.lit (.string s.nm), .lit (.int .i8 s.cl), .lit (.bool s.d), .lit (.bool s.a), .lit (.bool s.b), .lit (.bool s.n), .lit (.bool s.im), .lit (.bool s.is)]
def noShp : Shp := ⟨⟨#[]⟩, 0, false, false, false, false, false, false⟩
def shpT : Nat → Shp
 | 0 => ⟨⟨#[110, 111, 112]⟩, (-1), false, false, false, false, false, true⟩
 | 1 => ⟨⟨#[99, 111, 110, 115, 116]⟩, 0, true, false, false, false, true, true⟩
 | 2 => ⟨⟨#[97, 100, 100]⟩, 0, true, true, true, false, false, true⟩
 | 3 => ⟨⟨#[115, 117, 98]⟩, 0, true, true, true, false, false, true⟩
 | 4 => ⟨⟨#[97, 110, 100]⟩, 0, true, true, true, false, false, true⟩
 | 5 => ⟨⟨#[111, 114]⟩, 0, true, true, true, false, false, true⟩
 | 6 => ⟨⟨#[120, 111, 114]⟩, 0, true, true, true, false, false, true⟩
 | 7 => ⟨⟨#[115, 104, 108]⟩, 0, true, true, true, false, false, true⟩
 | 8 => ⟨⟨#[115, 104, 114]⟩, 0, true, true, true, false, false, true⟩
 | 9 => ⟨⟨#[108, 101, 115, 115]⟩, 0, true, true, true, false, false, true⟩
 | 10 => ⟨⟨#[101, 113, 117, 97, 108]⟩, 0, true, true, true, false, false, true⟩
 | 11 => ⟨⟨#[109, 111, 118, 101]⟩, 0, true, true, false, false, false, true⟩
 | 12 => ⟨⟨#[116, 105, 109, 101, 115]⟩, 1, true, true, true, false, false, true⟩
 | 13 => ⟨⟨#[100, 105, 118, 105, 100, 101]⟩, 1, true, true, true, false, false, true⟩
 | 14 => ⟨⟨#[114, 101, 115, 116]⟩, 1, true, true, true, false, false, true⟩
 | 15 => ⟨⟨#[108, 111, 97, 100]⟩, 2, true, true, false, false, true, true⟩
 | 16 => ⟨⟨#[115, 116, 111, 114, 101]⟩, 2, false, true, true, false, true, true⟩
 | 17 => ⟨⟨#[112, 114, 105, 110, 116]⟩, 2, false, true, false, false, false, true⟩
 | 18 => ⟨⟨#[106, 117, 109, 112]⟩, 3, false, false, false, false, true, true⟩
 | 19 => ⟨⟨#[98, 114, 97, 110, 99, 104]⟩, 3, false, true, false, false, true, true⟩
 | 20 => ⟨⟨#[104, 97, 108, 116]⟩, 3, false, true, false, false, false, true⟩
 | 21 => ⟨⟨#[99, 111, 117, 110, 116]⟩, 3, false, true, false, false, true, true⟩
 | 22 => ⟨⟨#[115, 104, 111, 114, 116]⟩, 3, false, true, false, true, true, true⟩
 | 23 => ⟨⟨#[97, 103, 97, 105, 110]⟩, 3, false, false, false, false, true, true⟩
 | _ => noShp
def qT : List AV := (List.range 24).flatMap fun i => shpA (shpT i)
def tblShapes : Tbl := [(90, 39, ac90, re90), (114, 8, ac114, re114)]
theorem f90 : HV Try.prog 90 [] (.agg qT) :=
 kM qM (T := tblShapes) (by simp only [TblOk, tblShapes, List.forall_mem_cons, List.not_mem_nil, false_imp_iff, implies_true, and_true]; exact ⟨cf90, cf114⟩) 1000 rfl (by kernel_rfl) (by kernel_rfl)
def ofS (n : Int) : Shp := if n < 0 ∨ 24 ≤ n then noShp else shpT n.toNat
theorem ofS_bad {n : Int} (h : n < 0 ∨ 24 ≤ n) : ofS n = noShp := by simp [ofS, h]
theorem ofS_ok {n : Int} (h : ¬ (n < 0 ∨ 24 ≤ n)) : ofS n = shpT n.toNat := by simp [ofS, h]
theorem sh_0 : qQ true (0 * 8) 8 qT = some (.agg (shpA (shpT 0))) := by kernel_rfl
theorem sh_1 : qQ true (1 * 8) 8 qT = some (.agg (shpA (shpT 1))) := by kernel_rfl
theorem sh_2 : qQ true (2 * 8) 8 qT = some (.agg (shpA (shpT 2))) := by kernel_rfl
theorem sh_3 : qQ true (3 * 8) 8 qT = some (.agg (shpA (shpT 3))) := by kernel_rfl
theorem sh_4 : qQ true (4 * 8) 8 qT = some (.agg (shpA (shpT 4))) := by kernel_rfl
theorem sh_5 : qQ true (5 * 8) 8 qT = some (.agg (shpA (shpT 5))) := by kernel_rfl
theorem sh_6 : qQ true (6 * 8) 8 qT = some (.agg (shpA (shpT 6))) := by kernel_rfl
theorem sh_7 : qQ true (7 * 8) 8 qT = some (.agg (shpA (shpT 7))) := by kernel_rfl
theorem sh_8 : qQ true (8 * 8) 8 qT = some (.agg (shpA (shpT 8))) := by kernel_rfl
theorem sh_9 : qQ true (9 * 8) 8 qT = some (.agg (shpA (shpT 9))) := by kernel_rfl
theorem sh_10 : qQ true (10 * 8) 8 qT = some (.agg (shpA (shpT 10))) := by kernel_rfl
theorem sh_11 : qQ true (11 * 8) 8 qT = some (.agg (shpA (shpT 11))) := by kernel_rfl
theorem sh_12 : qQ true (12 * 8) 8 qT = some (.agg (shpA (shpT 12))) := by kernel_rfl
theorem sh_13 : qQ true (13 * 8) 8 qT = some (.agg (shpA (shpT 13))) := by kernel_rfl
theorem sh_14 : qQ true (14 * 8) 8 qT = some (.agg (shpA (shpT 14))) := by kernel_rfl
theorem sh_15 : qQ true (15 * 8) 8 qT = some (.agg (shpA (shpT 15))) := by kernel_rfl
theorem sh_16 : qQ true (16 * 8) 8 qT = some (.agg (shpA (shpT 16))) := by kernel_rfl
theorem sh_17 : qQ true (17 * 8) 8 qT = some (.agg (shpA (shpT 17))) := by kernel_rfl
theorem sh_18 : qQ true (18 * 8) 8 qT = some (.agg (shpA (shpT 18))) := by kernel_rfl
theorem sh_19 : qQ true (19 * 8) 8 qT = some (.agg (shpA (shpT 19))) := by kernel_rfl
theorem sh_20 : qQ true (20 * 8) 8 qT = some (.agg (shpA (shpT 20))) := by kernel_rfl
theorem sh_21 : qQ true (21 * 8) 8 qT = some (.agg (shpA (shpT 21))) := by kernel_rfl
theorem sh_22 : qQ true (22 * 8) 8 qT = some (.agg (shpA (shpT 22))) := by kernel_rfl
theorem sh_23 : qQ true (23 * 8) 8 qT = some (.agg (shpA (shpT 23))) := by kernel_rfl
theorem shapes_at {i : Nat} (h : i < 24) : qQ true (i * 8) 8 qT = some (.agg (shpA (shpT i))) := by
 match i, h with
 | 0, _ => exact sh_0
 | 1, _ => exact sh_1
 | 2, _ => exact sh_2
 | 3, _ => exact sh_3
 | 4, _ => exact sh_4
 | 5, _ => exact sh_5
 | 6, _ => exact sh_6
 | 7, _ => exact sh_7
 | 8, _ => exact sh_8
 | 9, _ => exact sh_9
 | 10, _ => exact sh_10
 | 11, _ => exact sh_11
 | 12, _ => exact sh_12
 | 13, _ => exact sh_13
 | 14, _ => exact sh_14
 | 15, _ => exact sh_15
 | 16, _ => exact sh_16
 | 17, _ => exact sh_17
 | 18, _ => exact sh_18
 | 19, _ => exact sh_19
 | 20, _ => exact sh_20
 | 21, _ => exact sh_21
 | 22, _ => exact sh_22
 | 23, _ => exact sh_23
 | n + 24, h => omega
theorem shp_imms (s : Shp) : imms (shpA s) = true := by cases s; simp [shpA, imm, imms]
theorem f59 (n : Int) : HV Try.prog 59 [.lit (.int .i8 n)] (.tup [.agg (shpA (ofS n)), .lit (.bool (ofS n).is)]) := by
 refine qK qM cf59 (by simp) rfl ?_ (by simp [imm, imms, shp_imms])
 unfold ac59 re59
 refine yN fun env hE => ?_; have ee := cj4 hE 0 2 3 4; simp -implicitDefEqProofs only [push_cast] at ee; clear hE
 by_cases hn : n < 0 ∨ 24 ≤ n
 · rw [ofS_bad hn]
   repeat' (first | ((try clear hf); with_reducible refine yD fun env K hE hK hf => ?_; have n := cj4 hE 0 2 3 4; simp -implicitDefEqProofs only [push_cast, reduceIte, Nat.reduceEqDiff, ee] at n; clear hE ee; have ee := n; clear n) | (with_reducible first | (refine hK _ _ ?_; clear hK K) | (refine Zi ?_; constructor) | refine yB (by decide) ?_ | refine yH (by assumption) ?_ | refine yJ (by assumption) ?_) | (refine yC rfl ?_) | (simp -implicitDefEqProofs only [push_cast, sevalprocAttr, eq_self, ee]) | (simp (disch := omega) only [yF, yK, yG, yL]) | (refine yE rfl (fun bb => ?_) (fun bb => ?_) <;> simp only [bb]) | (with_reducible refine yI (fun bb => ?_) (fun bb => ?_)) | ((with_reducible refine And.intro ?_ ?_); omega) | (with_reducible refine yM ?_ ?_))
   all_goals first | rfl | (exfalso; simp at *; omega) | skip
 · obtain ⟨i, rfl⟩ : ∃ i : Nat, n = i := ⟨n.toNat, by omega⟩
   have hi : i < 24 := by omega
   have hx : ofS (i : Int) = shpT i := by
    have := ofS_ok (n := i) (by omega)
    simpa using this
   rw [hx]
   have hs := shapes_at hi
   repeat' (first | ((try clear hf); with_reducible refine yD fun env K hE hK hf => ?_; have n := cj4 hE 0 2 3 4; simp -implicitDefEqProofs only [push_cast, reduceIte, Nat.reduceEqDiff, ee] at n; clear hE ee; have ee := n; clear n) | (with_reducible first | (refine hK _ _ ?_; clear hK K) | (refine Zi ?_; constructor) | refine yB (by decide) ?_ | refine yH (by assumption) ?_ | refine yJ (by assumption) ?_) | (refine yC rfl ?_) | (simp -implicitDefEqProofs only [push_cast, sevalprocAttr, eq_self, ee, hs, shpA]) | (simp (disch := omega) only [yF, yK, yG, yL, hs, shpA]) | (refine yE rfl (fun bb => ?_) (fun bb => ?_) <;> simp only [bb]) | (with_reducible refine yI (fun bb => ?_) (fun bb => ?_)) | ((with_reducible refine And.intro ?_ ?_); omega) | (refine yO f90 ?_) | (with_reducible refine yM ?_ ?_))
   all_goals first | rfl | (exfalso; simp at *; omega) | skip
def clsS (n : Int) : Int × Bool := if (ofS n).is = true ∧ 0 ≤ (ofS n).cl then ((ofS n).cl, true) else (0, false)
theorem shpT_cl (i : Nat) : IntKind.wrap .i64 (shpT i).cl = (shpT i).cl := by
 unfold shpT
 split <;> rfl
theorem ofS_cl (n : Int) : IntKind.wrap .i64 (ofS n).cl = (ofS n).cl := by
 unfold ofS
 split
 · rfl
 · exact shpT_cl _
theorem f15 (n : Int) : HV Try.prog 15 [.lit (.int .i8 n)] (.tup [.lit (.int .i64 (clsS n).1), .lit (.bool (clsS n).2)]) := by
 refine qK qM cf15 (by simp) rfl ?_ (by simp [imm, imms])
 unfold ac15 re15
 refine yN fun env hE => ?_; have ee := cj5 hE 0 2 3 4 5; simp -implicitDefEqProofs only [push_cast] at ee; clear hE
 have hw := ofS_cl n
 repeat' (first | ((try clear hf); with_reducible refine yD fun env K hE hK hf => ?_; have n := cj5 hE 0 2 3 4 5; simp -implicitDefEqProofs only [push_cast, reduceIte, Nat.reduceEqDiff, ee] at n; clear hE ee; have ee := n; clear n) | (with_reducible first | (refine hK _ _ ?_; clear hK K) | (refine Zi ?_; constructor) | refine yB (by decide) ?_ | refine yH (by assumption) ?_ | refine yJ (by assumption) ?_) | (refine yC rfl ?_) | (simp -implicitDefEqProofs only [push_cast, sevalprocAttr, eq_self, ee, hw, shpA]) | (simp (disch := omega) only [yF, yK, yG, yL, shpA]) | (refine yE rfl (fun bb => ?_) (fun bb => ?_) <;> simp only [bb]) | (with_reducible refine yI (fun bb => ?_) (fun bb => ?_)) | ((with_reducible refine And.intro ?_ ?_); omega) | (refine yO (f59 n) ?_) | (with_reducible refine yM ?_ ?_))
 all_goals (have hx : clsS n = clsS n := rfl; conv at hx => rhs; unfold clsS)
 all_goals rw [hx]; simp at *; first | (simp [*]; done) | (rw [if_neg (by simp [*])]; simp) | skip
def sgn32 (u : Int) : Int := (IntKind.wrap .i64 (IntKind.wrap .u64 (u * 2 ^ 32))).fdiv (2 ^ 32)
theorem bin_shl32 (u : Int) : binV .shl (.lit (.int .u64 u)) (.lit (.int .u8 32)) = some (.lit (.int .u64 (IntKind.wrap .u64 (u * 2 ^ 32)))) := rfl
theorem bin_shr32 (u : Int) : binV .shr (.lit (.int .i64 u)) (.lit (.int .u8 32)) = some (.lit (.int .i64 (u.fdiv (2 ^ 32)))) := rfl
theorem f115 (u : Int) : HV Try.prog 115 [.lit (.int .u64 u), .lit (.int .i64 32)] (.lit (.int .i64 (sgn32 u))) := by
 refine qK qM cf115 (by simp) rfl ?_ rfl
 unfold ac115 re115
 refine yN fun env hE => ?_; have ee := cj4 hE 0 1 4 5; simp -implicitDefEqProofs only [push_cast] at ee; clear hE
 have k1 : IntKind.wrap .i64 (64 - 32) = 32 := rfl
 have k2 : IntKind.wrap .u8 32 = 32 := rfl
 have k3 : maxV [AV.lit (.int .i64 32), AV.lit (.int .i64 1)] = some (.lit (.int .i64 32)) := rfl
 have k4 : minV [AV.lit (.int .i64 32), AV.lit (.int .i64 64)] = some (.lit (.int .i64 32)) := rfl
 repeat' (first | ((try clear hf); with_reducible refine yD fun env K hE hK hf => ?_; have n := cj4 hE 0 1 4 5; simp -implicitDefEqProofs only [push_cast, reduceIte, Nat.reduceEqDiff, ee] at n; clear hE ee; have ee := n; clear n) | (with_reducible first | (refine hK _ _ ?_; clear hK K) | (refine Zi ?_; constructor) | refine yB (by decide) ?_ | refine yH (by assumption) ?_ | refine yJ (by assumption) ?_) | (refine yC rfl ?_) | (simp -implicitDefEqProofs only [push_cast, sevalprocAttr, eq_self, ee, k1, k2, k3, k4, bin_shl32, bin_shr32]) | (simp (disch := omega) only [yF, yK, yG, yL, k1, k2, k3, k4, bin_shl32, bin_shr32]) | (refine yE rfl (fun bb => ?_) (fun bb => ?_) <;> simp only [bb]) | (with_reducible refine yI (fun bb => ?_) (fun bb => ?_)) | ((with_reducible refine And.intro ?_ ?_); omega) | (with_reducible refine yM ?_ ?_))
 rfl
theorem sgn32_eq (x : Int) (h1 : -9223372036854775808 ≤ x) (h2 : x ≤ 9223372036854775807) : decide (sgn32 (IntKind.wrap .u64 x) = x) = decide (-2147483648 ≤ x ∧ x ≤ 2147483647) := by
 unfold sgn32
 simp only [IntKind.wrap, IntKind.bits, IntKind.signed, Bool.true_and, Bool.false_and, decide_eq_true_eq, ge_iff_le, Bool.false_eq_true, if_false]
 rw [Int.fdiv_eq_ediv_of_nonneg _ (by decide)]
 apply decide_eq_decide.2
 split <;> omega
theorem f91 (x : Int) (h1 : -9223372036854775808 ≤ x) (h2 : x ≤ 9223372036854775807) : HV Try.prog 91 [.lit (.int .i64 x), .lit (.int .i64 32)] (.lit (.bool (decide (-2147483648 ≤ x ∧ x ≤ 2147483647)))) := by
 refine qK qM cf91 (by simp) rfl ?_ rfl
 unfold ac91 re91
 refine yN fun env hE => ?_; have ee := cj3 hE 0 1 4; simp -implicitDefEqProofs only [push_cast] at ee; clear hE
 repeat' (first | ((try clear hf); with_reducible refine yD fun env K hE hK hf => ?_; have n := cj3 hE 0 1 4; simp -implicitDefEqProofs only [push_cast, reduceIte, Nat.reduceEqDiff, ee] at n; clear hE ee; have ee := n; clear n) | (with_reducible first | (refine hK _ _ ?_; clear hK K) | (refine Zi ?_; constructor) | refine yB (by decide) ?_ | refine yH (by assumption) ?_ | refine yJ (by assumption) ?_) | (refine yC rfl ?_) | (simp -implicitDefEqProofs only [push_cast, sevalprocAttr, eq_self, ee, sgn32_eq x h1 h2]) | (simp (disch := omega) only [yF, yK, yG, yL, sgn32_eq x h1 h2]) | (refine yE rfl (fun bb => ?_) (fun bb => ?_) <;> simp only [bb]) | (with_reducible refine yI (fun bb => ?_) (fun bb => ?_)) | ((with_reducible refine And.intro ?_ ?_); omega) | (refine yO (f115 _) ?_) | (with_reducible refine yM ?_ ?_))
structure Opn where
 k : Int
 d : Int
 a : Int
 b : Int
 im : Int
def opC (o : Opn) : List AV := [.lit (.int .i8 o.k), .lit (.int .u8 o.d), .lit (.int .u8 o.a), .lit (.int .u8 o.b), .lit (.int .i64 o.im)]
def chkP (o : Opn) : Prop := (ofS o.k).is = true ∧ o.d ≤ 31 ∧ o.a ≤ 31 ∧ o.b ≤ 31 ∧ (-2147483648 ≤ o.im ∧ o.im ≤ 2147483647) ∧ ((ofS o.k).d = true ∨ o.d = 0) ∧ ((ofS o.k).a = true ∨ o.a = 0) ∧ ((ofS o.k).b = true ∨ (ofS o.k).n = true ∨ o.b = 0) ∧ ((ofS o.k).im = true ∨ o.im = 0)
instance (o : Opn) : Decidable (chkP o) := by unfold chkP; infer_instance
def chkE (o : Opn) : Int := if chkP o then 0 else 30
theorem op_0 (o : Opn) : (opC o)[0]? = some (.lit (.int .i8 o.k)) := rfl
theorem op_1 (o : Opn) : (opC o)[1]? = some (.lit (.int .u8 o.d)) := rfl
theorem op_2 (o : Opn) : (opC o)[2]? = some (.lit (.int .u8 o.a)) := rfl
theorem op_3 (o : Opn) : (opC o)[3]? = some (.lit (.int .u8 o.b)) := rfl
theorem op_4 (o : Opn) : (opC o)[4]? = some (.lit (.int .i64 o.im)) := rfl
set_option maxHeartbeats 4000000 in
theorem f60 (o : Opn) (h1' : -9223372036854775808 ≤ o.im) (h2' : o.im ≤ 9223372036854775807) : HV Try.prog 60 [.agg (opC o)] (.lit (.int .i64 (chkE o))) := by
 refine qK qM cf60 (by simp) rfl ?_ rfl
 unfold ac60 re60
 refine yN fun env hE => ?_; have ee := cj7 hE 0 1 2 3 4 11 27; simp -implicitDefEqProofs only [push_cast] at ee; clear hE
 repeat' (first | ((try clear hf); with_reducible refine yD fun env K hE hK hf => ?_; have n := cj7 hE 0 1 2 3 4 11 27; simp -implicitDefEqProofs only [push_cast, reduceIte, Nat.reduceEqDiff, ee] at n; clear hE ee; have ee := n; clear n) | (with_reducible first | (refine hK _ _ ?_; clear hK K) | (refine Zi ?_; constructor) | refine yB (by decide) ?_ | refine yH (by assumption) ?_ | refine yJ (by assumption) ?_) | (refine yC rfl ?_) | (simp -implicitDefEqProofs only [push_cast, sevalprocAttr, eq_self, ee, shpA, opC]) | (simp (disch := omega) only [yF, yK, yG, yL, shpA, opC]) | (refine yE rfl (fun bb => ?_) (fun bb => ?_) <;> simp only [bb]) | (with_reducible refine yI (fun bb => ?_) (fun bb => ?_)) | ((with_reducible refine And.intro ?_ ?_); omega) | (refine yO (f59 o.k) ?_) | (refine yO (f91 o.im h1' h2') ?_) | (with_reducible refine yM ?_ ?_))
 all_goals ((try clear hf); (try clear ee); simp only [chkE, chkP]; simp at *; simp [*]; try omega)
abbrev u8 (n : Int) : AV := .lit (.int .u8 n)
abbrev bl (b : Bool) : AV := .lit (.bool b)
def Opn.ok (o : Opn) : Prop := -9223372036854775808 ≤ o.im ∧ o.im ≤ 9223372036854775807 ∧ 0 ≤ o.d ∧ o.d ≤ 255 ∧ 0 ≤ o.a ∧ o.a ≤ 255 ∧ 0 ≤ o.b ∧ o.b ≤ 255 ∧ -128 ≤ o.k ∧ o.k ≤ 127
theorem f60' (o : Opn) (h : o.ok) : HV Try.prog 60 [.agg (opC o)] (i64 (chkE o)) := f60 o h.1 h.2.1
def wrS (o : Opn) : Int × Bool := if (ofS o.k).d = true ∧ chkE o = 0 then (o.d, true) else (0, false)
theorem f16 (o : Opn) (h : o.ok) : HV Try.prog 16 [.agg (opC o)] (.tup [u8 (wrS o).1, bl (wrS o).2]) := by
 refine qK qM cf16 (by simp) rfl ?_ (by simp [imm, imms])
 unfold ac16 re16
 refine yN fun env hE => ?_; have ee := cj5 hE 0 1 2 3 4; simp -implicitDefEqProofs only [push_cast] at ee; clear hE
 have hc := f60' o h
 unfold opC at hc
 repeat' (first | ((try clear hf); with_reducible refine yD fun env K hE hK hf => ?_; have n := cj5 hE 0 1 2 3 4; simp -implicitDefEqProofs only [push_cast, reduceIte, Nat.reduceEqDiff, ee] at n; clear hE ee; have ee := n; clear n) | (with_reducible first | (refine hK _ _ ?_; clear hK K) | (refine Zi ?_; constructor) | refine yB (by decide) ?_ | refine yH (by assumption) ?_ | refine yJ (by assumption) ?_) | (refine yC rfl ?_) | (simp -implicitDefEqProofs only [push_cast, sevalprocAttr, eq_self, ee, shpA, opC]) | (simp (disch := omega) only [yF, yK, yG, yL, shpA, opC]) | (refine yE rfl (fun bb => ?_) (fun bb => ?_) <;> simp only [bb]) | (with_reducible refine yI (fun bb => ?_) (fun bb => ?_)) | ((with_reducible refine And.intro ?_ ?_); omega) | (refine yO (f59 o.k) ?_) | (refine yO hc ?_) | (with_reducible refine yM ?_ ?_))
 all_goals ((try clear hf); (try clear ee); clear hc; simp only [wrS]; simp at *; simp [*])
def rdS (o : Opn) : List Int :=
 if chkE o ≠ 0 then [] else if (ofS o.k).a = true ∧ (ofS o.k).b = true ∧ o.a ≠ o.b then [o.a, o.b] else if (ofS o.k).a = true then [o.a] else if (ofS o.k).b = true then [o.b] else []
def regsC (l : List Int) : List (List AV) := l.map fun r => [u8 r]
theorem f42 (o : Opn) (h : o.ok) : HVF Try.prog 42 [.agg (opC o)] (.row (regsC (rdS o))) := by
 refine HVF_of_awp qM cf42 (by simp) rfl ?_ (by simp [imm]; exact qV fun i x hx => by simp [regsC] at hx; obtain ⟨a, _, rfl⟩ := hx; rfl)
 unfold ac42 re42
 refine yN fun env hE => ?_; have ee := cj5 hE 0 1 2 3 5; simp -implicitDefEqProofs only [push_cast] at ee; clear hE
 have hc := f60' o h
 unfold opC at hc
 repeat' (first | ((try clear hf); with_reducible refine yD fun env K hE hK hf => ?_; have n := cj5 hE 0 1 2 3 5; simp -implicitDefEqProofs only [push_cast, reduceIte, Nat.reduceEqDiff, ee] at n; clear hE ee; have ee := n; clear n) | (with_reducible first | (refine hK _ _ ?_; clear hK K) | (refine Zi ?_; constructor) | refine yB (by decide) ?_ | refine yH (by assumption) ?_ | refine yJ (by assumption) ?_) | (refine yC rfl ?_) | (simp -implicitDefEqProofs only [push_cast, sevalprocAttr, eq_self, ee, shpA, opC]) | (simp (disch := omega) only [yF, yK, yG, yL, shpA, opC]) | (refine yE rfl (fun bb => ?_) (fun bb => ?_) <;> simp only [bb]) | (with_reducible refine yI (fun bb => ?_) (fun bb => ?_)) | ((with_reducible refine And.intro ?_ ?_); omega) | (refine yO (f59 o.k) ?_) | (refine yO hc ?_) | (with_reducible refine yM ?_ ?_))
 all_goals ((try clear hf); (try clear ee); clear hc; simp only [rdS, regsC]; simp at *; simp [*])
def memS (o : Opn) : Bool := (decide (o.k = 15) || decide (o.k = 16)) && decide (chkE o = 0)
theorem f163 (o : Opn) (h : o.ok) : HV Try.prog 163 [.agg (opC o)] (bl (memS o)) := by
 refine qK qM cf163 (by simp) rfl ?_ rfl
 unfold ac163 re163
 refine yN fun env hE => ?_; have ee := cj3 hE 0 1 2; simp -implicitDefEqProofs only [push_cast] at ee; clear hE
 have hc := f60' o h
 unfold opC at hc
 repeat' (first | ((try clear hf); with_reducible refine yD fun env K hE hK hf => ?_; have n := cj3 hE 0 1 2; simp -implicitDefEqProofs only [push_cast, reduceIte, Nat.reduceEqDiff, ee] at n; clear hE ee; have ee := n; clear n) | (with_reducible first | (refine hK _ _ ?_; clear hK K) | (refine Zi ?_; constructor) | refine yB (by decide) ?_ | refine yH (by assumption) ?_ | refine yJ (by assumption) ?_) | (refine yC rfl ?_) | (simp -implicitDefEqProofs only [push_cast, sevalprocAttr, eq_self, ee, opC]) | (simp (disch := omega) only [yF, yK, yG, yL, opC]) | (refine yE rfl (fun bb => ?_) (fun bb => ?_) <;> simp only [bb]) | (with_reducible refine yI (fun bb => ?_) (fun bb => ?_)) | ((with_reducible refine And.intro ?_ ?_); omega) | (refine yO hc ?_) | (with_reducible refine yM ?_ ?_))
 all_goals ((try clear hf); (try clear ee); clear hc; simp only [memS]; simp at *; simp [*])
def effS (o : Opn) : Bool := decide (o.k = 17) || decide (o.k = 13) || decide (o.k = 14)
theorem f146 (o : Opn) : HV Try.prog 146 [.agg (opC o)] (bl (effS o)) := by
 refine qK qM cf146 (by simp) rfl ?_ rfl
 unfold ac146 re146
 refine yN fun env hE => ?_; have ee := cj3 hE 0 1 2; simp -implicitDefEqProofs only [push_cast] at ee; clear hE
 repeat' (first | ((try clear hf); with_reducible refine yD fun env K hE hK hf => ?_; have n := cj3 hE 0 1 2; simp -implicitDefEqProofs only [push_cast, reduceIte, Nat.reduceEqDiff, ee] at n; clear hE ee; have ee := n; clear n) | (with_reducible first | (refine hK _ _ ?_; clear hK K) | (refine Zi ?_; constructor) | refine yB (by decide) ?_ | refine yH (by assumption) ?_ | refine yJ (by assumption) ?_) | (refine yC rfl ?_) | (simp -implicitDefEqProofs only [push_cast, sevalprocAttr, eq_self, ee, opC]) | (simp (disch := omega) only [yF, yK, yG, yL, opC]) | (refine yE rfl (fun bb => ?_) (fun bb => ?_) <;> simp only [bb]) | (with_reducible refine yI (fun bb => ?_) (fun bb => ?_)) | ((with_reducible refine And.intro ?_ ?_); omega) | (with_reducible refine yM ?_ ?_))
 all_goals ((try clear hf); (try clear ee); simp only [effS]; simp at *; simp [*])
def opOK (o : Opn) : Prop := 1 ≤ o.k ∧ o.k ≤ 17 ∧ chkE o = 0
instance (o : Opn) : Decidable (opOK o) := by unfold opOK; infer_instance
def errR (l : List Opn) (t : Tab) : Int := if tabE t ≠ 0 then tabE t else if 1024 < l.length then 3 else if ∀ o ∈ l, opOK o then 0 else 30
theorem opC_len (o : Opn) : (opC o).length = 5 := rfl
theorem opC_take (o : Opn) : (opC o).take 5 = opC o := rfl
theorem opC_one (o : Opn) : (opC o).all one = true := rfl
theorem opC_imms (o : Opn) : imms (opC o) = true := rfl
attribute [push_cast] opC_len opC_take opC_one opC_imms
theorem wL {l : List Opn} {k : Nat} (hk : k < l.length) (kd : IntKind) : YE none 5 (.row (l.map opC)) (.lit (.int kd (k : Int))) = some (.ip (opC l[k])) := UU opC 5 opC_len l kd hk
theorem errR_bad {l : List Opn} {t : Tab} {k : Nat} (h1 : tabE t = 0) (h2 : l.length ≤ 1024) (hk : k < l.length) (hb : ¬ opOK l[k]) : errR l t = 30 := by
 simp only [errR, h1]
 rw [if_neg (by simp), if_neg (by omega), if_neg fun h => hb (h _ (List.getElem_mem hk))]
def I64 (l : List Opn) (t : Tab) (n : Nat) (σ : St) : Prop := ∃ k : Nat, k ≤ l.length ∧ n = l.length - k ∧ σ.env 16 = .row (l.map opC) ∧ σ.env 17 = i64 l.length ∧ σ.env 18 = i64 k ∧ ∀ (j : Nat) (hj : j < k) (h : j < l.length), opOK l[j]
theorem f110 (l : List Opn) (t : Tab) (hl : ∀ o ∈ l, o.ok) : HV Try.prog 110 [.row (l.map opC), .agg (tabC t)] (i64 (errR l t)) := by
 refine qK qM cf110 (by simp) (by simp [imms, imm]; exact ⟨qV fun i x hx => by simp at hx; obtain ⟨o, _, rfl⟩ := hx; rfl, rfl⟩) ?_ rfl
 unfold ac110 re110
 refine yN fun env hE => ?_; obtain ⟨e0, e1, e3, e4, e5, e7, e16, e17, e18, e19⟩ := cj10 hE 0 1 3 4 5 7 16 17 18 19; simp -implicitDefEqProofs only [push_cast] at e0 e1 e3 e4 e5 e7 e16 e17 e18 e19; clear hE
 repeat' (first | ((try clear hf); with_reducible refine yD fun env K hE hK hf => ?_; have n := cj10 hE 0 1 3 4 5 7 16 17 18 19; simp -implicitDefEqProofs only [push_cast, reduceIte, Nat.reduceEqDiff, e0, e1, e3, e4, e5, e7, e16, e17, e18, e19] at n; clear hE e0 e1 e3 e4 e5 e7 e16 e17 e18 e19; obtain ⟨e0, e1, e3, e4, e5, e7, e16, e17, e18, e19⟩ := n) | (with_reducible first | (refine hK _ _ ?_; clear hK K) | (refine Zi ?_; constructor) | refine yB (by decide) ?_ | refine yH (by assumption) ?_ | refine yJ (by assumption) ?_) | (refine yC rfl ?_) | (simp -implicitDefEqProofs only [push_cast, sevalprocAttr, eq_self, e0, e1, e3, e4, e5, e7, e16, e17, e18, e19, qD]) | (simp (disch := omega) only [yF, yK, yG, yL, qD]) | (with_reducible refine yM ?_ ?_) | (refine yE rfl (fun bb => ?_) (fun bb => ?_) <;> simp only [bb]) | (with_reducible refine yI (fun bb => ?_) (fun bb => ?_)) | ((with_reducible refine And.intro ?_ ?_); omega) | (refine yO (f56 t) ?_))
 · (try clear hf); (try clear e0 e1 e3 e4 e5 e7 e16 e17 e18 e19); simp [errR]; simp at *; simp [*]
 · (try clear hf); (try clear e0 e1 e3 e4 e5 e7 e16 e17 e18 e19); simp [errR]; simp at *; simp [*]; omega
 have h1 : tabE t = 0 := by have := ‹(decide ¬tabE t = 0) = false›; simpa using this
 have h2 : l.length ≤ 1024 := by have := ‹decide (1024 < (l.length : Int)) = false›; simp at this; omega
 refine qC (I64 l t) l.length ⟨0, by omega, by omega, by simp -implicitDefEqProofs only [push_cast, sevalprocAttr, eq_self, e16], by simp -implicitDefEqProofs only [push_cast, sevalprocAttr, eq_self, e17], by simp -implicitDefEqProofs only [push_cast, sevalprocAttr, eq_self], by omega⟩ ?_
 rintro n ⟨env, h⟩ ⟨k, hk, rfl, e16, e17, e18, hall⟩
 simp only at e16 e17 e18
 have e0 : True := trivial; have e1 : True := trivial; have e3 : True := trivial; have e4 : True := trivial; have e5 : True := trivial; have e7 : True := trivial; have e19 : True := trivial
 unfold l110_0
 refine yS fun hF => ?_
 by_cases hlt : k < l.length
 · have hd : decide ((k : Int) < (l.length : Int)) = true := by simp; omega
   have hr := wL hlt .i64
   have ho := hl _ (List.getElem_mem hlt)
   repeat' (first | ((try clear hf); with_reducible refine yD fun env K hE hK hf => ?_; have n := cj10 hE 0 1 3 4 5 7 16 17 18 19; simp -implicitDefEqProofs only [push_cast, reduceIte, Nat.reduceEqDiff, e0, e1, e3, e4, e5, e7, e16, e17, e18, e19] at n; clear hE e0 e1 e3 e4 e5 e7 e16 e17 e18 e19; obtain ⟨e0, e1, e3, e4, e5, e7, e16, e17, e18, e19⟩ := n) | (with_reducible first | (refine hK _ _ ?_; clear hK K) | (refine Zi ?_; constructor) | refine yB (by decide) ?_ | refine yH (by assumption) ?_ | refine yJ (by assumption) ?_) | (refine yC rfl ?_) | (simp -implicitDefEqProofs only [push_cast, sevalprocAttr, eq_self, e0, e1, e3, e4, e5, e7, e16, e17, e18, e19, hd, hr, hF.at, op_0]) | (simp (disch := omega) only [yF, yK, yG, yL, hd, hr, hF.at, op_0]) | (with_reducible refine yM ?_ ?_) | (refine yE rfl (fun bb => ?_) (fun bb => ?_) <;> simp only [bb]) | (with_reducible refine yI (fun bb => ?_) (fun bb => ?_)) | ((with_reducible refine And.intro ?_ ?_); omega) | (refine yO (f60' _ ho) ?_))
   all_goals first
    | (rw [errR_bad h1 h2 hlt (fun h => by (try clear hf); (try clear e0 e1 e3 e4 e5 e7 e16 e17 e18 e19); unfold opOK at h; simp only [decide_eq_true_eq, decide_eq_false_iff_not, Decidable.not_not] at *; omega)]; done)
    | skip
   refine ⟨l.length - (k + 1), by omega, k + 1, by omega, rfl, by simp -implicitDefEqProofs only [push_cast, sevalprocAttr, eq_self, e16], by simp -implicitDefEqProofs only [push_cast, sevalprocAttr, eq_self, e17], by simp -implicitDefEqProofs only [push_cast, sevalprocAttr, eq_self], fun j hj h => ?_⟩
   by_cases e : j < k
   · exact hall j e h
   · obtain rfl : j = k := by omega
     (try clear hf); (try clear e0 e1 e3 e4 e5 e7 e16 e17 e18 e19)
     unfold opOK
     simp only [decide_eq_true_eq, decide_eq_false_iff_not, Decidable.not_not] at *
     exact ⟨by omega, by omega, by assumption⟩
 · have hd : decide ((k : Int) < (l.length : Int)) = false := by simp; omega
   repeat' (first | ((try clear hf); with_reducible refine yD fun env K hE hK hf => ?_; have n := cj10 hE 0 1 3 4 5 7 16 17 18 19; simp -implicitDefEqProofs only [push_cast, reduceIte, Nat.reduceEqDiff, e0, e1, e3, e4, e5, e7, e16, e17, e18, e19] at n; clear hE e0 e1 e3 e4 e5 e7 e16 e17 e18 e19; obtain ⟨e0, e1, e3, e4, e5, e7, e16, e17, e18, e19⟩ := n) | (with_reducible first | (refine hK _ _ ?_; clear hK K) | (refine Zi ?_; constructor) | refine yB (by decide) ?_ | refine yH (by assumption) ?_ | refine yJ (by assumption) ?_) | (refine yC rfl ?_) | (simp -implicitDefEqProofs only [push_cast, sevalprocAttr, eq_self, e0, e1, e3, e4, e5, e7, e16, e17, e18, e19, hd]) | (simp (disch := omega) only [yF, yK, yG, yL, hd]) | (with_reducible refine yM ?_ ?_) | (refine yE rfl (fun bb => ?_) (fun bb => ?_) <;> simp only [bb]) | (with_reducible refine yI (fun bb => ?_) (fun bb => ?_)) | ((with_reducible refine And.intro ?_ ?_); omega))
   have hk' : k = l.length := by omega
   have : ∀ o ∈ l, opOK o := by
    intro o ho
    obtain ⟨j, hj, rfl⟩ := List.getElem_of_mem ho
    exact hall j (by omega) hj
   (try clear hf); (try clear e0 e1 e3 e4 e5 e7 e16 e17 e18 e19)
   simp only [errR, h1]
   rw [if_neg (by simp), if_neg (by omega), if_pos this]
def clsN (o : Opn) : Nat := (clsS o.k).1.toNat
theorem clsN_eq (o : Opn) : (clsS o.k).1 = (clsN o : Int) := by
 have : 0 ≤ (clsS o.k).1 := by unfold clsS; split <;> simp_all
 unfold clsN; omega
theorem shpT_cl3 (i : Nat) : (shpT i).cl ≤ 3 := by unfold shpT; split <;> decide
theorem wY (o : Opn) : clsN o < 4 := by
 have : (clsS o.k).1 ≤ 3 := by
  unfold clsS
  split
  · unfold ofS
    split
    · decide
    · exact shpT_cl3 _
  · decide
 unfold clsN; omega
def cntC (l : List Opn) (c : Nat) : Nat := (if c = 3 then 1 else 0) + (l.filter fun o => clsN o == c).length
def nC (n : Nat → Int) : List AV := [i64 (n 0), i64 (n 1), i64 (n 2), i64 (n 3)]
theorem nC_len (n : Nat → Int) : (nC n).length = 4 := rfl
theorem nC_take (n : Nat → Int) : (nC n).take 4 = nC n := rfl
theorem nC_one (n : Nat → Int) : (nC n).all one = true := rfl
theorem nC_imms (n : Nat → Int) : imms (nC n) = true := rfl
theorem nC_drop (n : Nat → Int) : (nC n).drop 4 = [] := rfl
attribute [push_cast] nC_len nC_take nC_one nC_imms nC_drop
def noU (l : List Opn) (t : Tab) : Prop := ∃ c < 4, 0 < cntC l c ∧ t.u c = 0
instance (l : List Opn) (t : Tab) : Decidable (noU l t) := by unfold noU; infer_instance
theorem wV (l : List Opn) : immss (l.map opC) = true := qV fun i x hx => by simp at hx; obtain ⟨o, _, rfl⟩ := hx; rfl
theorem yZ (k k' : IntKind) (a b : Int) : maxV [.lit (.int k a), .lit (.int k' b)] = some (.lit (.int k (if b > a then b else a))) := rfl
theorem lend_ptrF (h : Hp) (id : Id) (off : Nat) : lend YW h (.ptr id off) = (h.hp id).bind fun blk => (mapO (lend 7 h) (blk.cells.drop off)).map .ip := by
 show lend (7 + 1) h (.ptr id off) = _
 have : ∀ d, lend (d + 1) h (.ptr id off) = (h.hp id).bind fun blk => (mapO (lend d h) (blk.cells.drop off)).map .ip := fun d => by
  simp only [lend, imm, Bool.false_eq_true, if_false]
  cases h.hp id <;> rfl
 exact this 7
theorem lend_opsrow (n : Nat) (h : Hp) (l : List Opn) : lend n h (.row (l.map opC)) = some (.row (l.map opC)) := WT (by simp only [imm]; exact wV l)
theorem nilV_ip (cs : List AV) : nilV (.ip cs) = some (.ip cs) := rfl
theorem nilV_ptr (id : Id) (off : Nat) : nilV (.ptr id off) = some (.ptr id off) := rfl
attribute [push_cast] nilV_ip nilV_ptr
def kB (s : List Opn) (r : Int) : Bool := s.any fun o => (wrS o).2 && decide ((wrS o).1 = r)
def I125 (r : Int) (s : List Opn) (n : Nat) (σ : St) : Prop := ∃ k : Nat, k ≤ s.length ∧ n = s.length - k ∧ σ.env 0 = u8 r ∧ σ.env 8 = .row (s.map opC) ∧ σ.env 9 = i64 s.length ∧ σ.env 10 = i64 k ∧
 ∀ (j : Nat) (hj : j < k) (h : j < s.length), ((wrS s[j]).2 && decide ((wrS s[j]).1 = r)) = false
theorem f164 (r : Int) (s : List Opn) (hs : ∀ o ∈ s, o.ok) (hn : s.length ≤ 1000000) : HV Try.prog 164 [u8 r, .ip [.row (s.map opC)]] (bl (kB s r)) := by
 refine qK qM cf164 (by simp) (by simp [imms, imm, wV]) ?_ rfl
 unfold ac164 re164
 refine yN fun env hE => ?_; obtain ⟨e0, e1, e3, e5, e6, e7, e8, e9, e10, e11⟩ := cj10 hE 0 1 3 5 6 7 8 9 10 11; simp -implicitDefEqProofs only [push_cast] at e0 e1 e3 e5 e6 e7 e8 e9 e10 e11; clear hE
 repeat' (first | ((try clear hf); with_reducible refine yD fun env K hE hK hf => ?_; have n := cj10 hE 0 1 3 5 6 7 8 9 10 11; simp -implicitDefEqProofs only [push_cast, reduceIte, Nat.reduceEqDiff, e0, e1, e3, e5, e6, e7, e8, e9, e10, e11] at n; clear hE e0 e1 e3 e5 e6 e7 e8 e9 e10 e11; obtain ⟨e0, e1, e3, e5, e6, e7, e8, e9, e10, e11⟩ := n) | (with_reducible first | (refine hK _ _ ?_; clear hK K) | (refine Zi ?_; constructor) | refine yB (by decide) ?_ | refine yH (by assumption) ?_ | refine yJ (by assumption) ?_) | (refine yC rfl ?_) | (simp -implicitDefEqProofs only [push_cast, sevalprocAttr, eq_self, e0, e1, e3, e5, e6, e7, e8, e9, e10, e11, qD]) | (simp (disch := omega) only [yF, yK, yG, yL, qD]) | (with_reducible refine yM ?_ ?_) | (refine yE rfl (fun bb => ?_) (fun bb => ?_) <;> simp only [bb]) | (with_reducible refine yI (fun bb => ?_) (fun bb => ?_)) | ((with_reducible refine And.intro ?_ ?_); omega))
 refine qC (I125 r s) s.length ⟨0, by omega, by omega, by simp -implicitDefEqProofs only [push_cast, sevalprocAttr, eq_self, e0], by simp -implicitDefEqProofs only [push_cast, sevalprocAttr, eq_self], by simp -implicitDefEqProofs only [push_cast, sevalprocAttr, eq_self], by simp -implicitDefEqProofs only [push_cast, sevalprocAttr, eq_self], by omega⟩ ?_
 rintro n ⟨env, h⟩ ⟨k, hk, rfl, e0, e8, e9, e10, hall⟩
 simp only at e0 e8 e9 e10
 have e1 : True := trivial; have e3 : True := trivial; have e5 : True := trivial; have e6 : True := trivial; have e7 : True := trivial; have e11 : True := trivial
 unfold l164_0
 refine yS fun hF => ?_
 by_cases hlt : k < s.length
 · have hd : decide ((k : Int) < (s.length : Int)) = true := by simp; omega
   have hr := wL hlt .i64
   have ho := hs _ (List.getElem_mem hlt)
   repeat' (first | ((try clear hf); with_reducible refine yD fun env K hE hK hf => ?_; have n := cj10 hE 0 1 3 5 6 7 8 9 10 11; simp -implicitDefEqProofs only [push_cast, reduceIte, Nat.reduceEqDiff, e0, e1, e3, e5, e6, e7, e8, e9, e10, e11] at n; clear hE e0 e1 e3 e5 e6 e7 e8 e9 e10 e11; obtain ⟨e0, e1, e3, e5, e6, e7, e8, e9, e10, e11⟩ := n) | (with_reducible first | (refine hK _ _ ?_; clear hK K) | (refine Zi ?_; constructor) | refine yB (by decide) ?_ | refine yH (by assumption) ?_ | refine yJ (by assumption) ?_) | (refine yC rfl ?_) | (simp -implicitDefEqProofs only [push_cast, sevalprocAttr, eq_self, e0, e1, e3, e5, e6, e7, e8, e9, e10, e11, hd, hr, hF.at]) | (simp (disch := omega) only [yF, yK, yG, yL, hd, hr, hF.at]) | (with_reducible refine yM ?_ ?_) | (refine yE rfl (fun bb => ?_) (fun bb => ?_) <;> simp only [bb]) | (with_reducible refine yI (fun bb => ?_) (fun bb => ?_)) | ((with_reducible refine And.intro ?_ ?_); omega) | (refine yO (f16 _ ho) ?_))
   · have : kB s r = true := by
      unfold kB
      rw [List.any_eq_true]
      exact ⟨_, List.getElem_mem hlt, by (try clear hf); (try clear e0 e1 e3 e5 e6 e7 e8 e9 e10 e11); simp only [Bool.and_eq_true]; exact ⟨by assumption, by assumption⟩⟩
     rw [this]
   all_goals
    refine ⟨s.length - (k + 1), by omega, k + 1, by omega, rfl, by simp -implicitDefEqProofs only [push_cast, sevalprocAttr, eq_self, e0], by simp -implicitDefEqProofs only [push_cast, sevalprocAttr, eq_self, e8], by simp -implicitDefEqProofs only [push_cast, sevalprocAttr, eq_self, e9], by simp -implicitDefEqProofs only [push_cast, sevalprocAttr, eq_self], fun j hj h => ?_⟩
    by_cases e : j < k
    · exact hall j e h
    · obtain rfl : j = k := by omega
      simp only [Bool.and_eq_false_iff]
      first | (exact .inr (by assumption)) | exact .inl (by assumption)
 · have hd : decide ((k : Int) < (s.length : Int)) = false := by simp; omega
   repeat' (first | ((try clear hf); with_reducible refine yD fun env K hE hK hf => ?_; have n := cj10 hE 0 1 3 5 6 7 8 9 10 11; simp -implicitDefEqProofs only [push_cast, reduceIte, Nat.reduceEqDiff, e0, e1, e3, e5, e6, e7, e8, e9, e10, e11] at n; clear hE e0 e1 e3 e5 e6 e7 e8 e9 e10 e11; obtain ⟨e0, e1, e3, e5, e6, e7, e8, e9, e10, e11⟩ := n) | (with_reducible first | (refine hK _ _ ?_; clear hK K) | (refine Zi ?_; constructor) | refine yB (by decide) ?_ | refine yH (by assumption) ?_ | refine yJ (by assumption) ?_) | (refine yC rfl ?_) | (simp -implicitDefEqProofs only [push_cast, sevalprocAttr, eq_self, e0, e1, e3, e5, e6, e7, e8, e9, e10, e11, hd]) | (simp (disch := omega) only [yF, yK, yG, yL, hd]) | (with_reducible refine yM ?_ ?_) | (refine yE rfl (fun bb => ?_) (fun bb => ?_) <;> simp only [bb]) | (with_reducible refine yI (fun bb => ?_) (fun bb => ?_)) | ((with_reducible refine And.intro ?_ ?_); omega))
   have : kB s r = false := by
    unfold kB
    rw [List.any_eq_false]
    intro o ho
    obtain ⟨j, hj, rfl⟩ := List.getElem_of_mem ho
    rw [hall j (by omega) hj]; simp
   rw [this]
def meetS (a b : Opn) (s : List Opn) : Bool :=
 memS a && memS b && !(decide (a.k = 15) && decide (b.k = 15)) && (decide (a.a ≠ b.a) || decide (IntKind.wrap .u8 a.im = IntKind.wrap .u8 b.im) || kB s a.a)
theorem f147 (l s : List Opn) (i j : Nat) (hi : i < l.length) (hj : j < l.length) (hl : ∀ o ∈ l, o.ok) (hs : ∀ o ∈ s, o.ok) (hn : s.length ≤ 1000000) :
 HV Try.prog 147 [.row (l.map opC), i64 i, i64 j, .row (s.map opC)] (bl (meetS l[i] l[j] s)) := by
 refine qK qM cf147 (by simp) (by simp [imms, imm, wV]) ?_ rfl
 unfold ac147 re147
 refine yN fun env hE => ?_; obtain ⟨e0, e1, e2, e3, e7, e8, e9, e10, e11⟩ := cj9 hE 0 1 2 3 7 8 9 10 11; simp -implicitDefEqProofs only [push_cast] at e0 e1 e2 e3 e7 e8 e9 e10 e11; clear hE
 have hr := wL hi .i64
 have hq := wL hj .i64
 have ho := hl _ (List.getElem_mem hi)
 have hp := hl _ (List.getElem_mem hj)
 generalize l[i] = a at *
 generalize l[j] = b at *
 have hc := f164 a.a s hs hn
 repeat' (first | ((try clear hf); with_reducible refine yD fun env K hE hK hf => ?_; have n := cj9 hE 0 1 2 3 7 8 9 10 11; simp -implicitDefEqProofs only [push_cast, reduceIte, Nat.reduceEqDiff, e0, e1, e2, e3, e7, e8, e9, e10, e11] at n; clear hE e0 e1 e2 e3 e7 e8 e9 e10 e11; obtain ⟨e0, e1, e2, e3, e7, e8, e9, e10, e11⟩ := n) | (with_reducible first | (refine hK _ _ ?_; clear hK K) | (refine Zi ?_; constructor) | refine yB (by decide) ?_ | refine yH (by assumption) ?_ | refine yJ (by assumption) ?_) | (refine yC rfl ?_) | (simp -implicitDefEqProofs only [push_cast, sevalprocAttr, eq_self, e0, e1, e2, e3, e7, e8, e9, e10, e11, hr, hq, op_0, op_2, op_4]) | (simp (disch := omega) only [yF, yK, yG, yL, hr, hq, op_0, op_2, op_4]) | (with_reducible refine yM ?_ ?_) | (refine yE rfl (fun bb => ?_) (fun bb => ?_) <;> simp only [bb]) | (with_reducible refine yI (fun bb => ?_) (fun bb => ?_)) | ((with_reducible refine And.intro ?_ ?_); omega) | (refine yO (f163 a ho) ?_) | (refine yO (f163 b hp) ?_) | (refine kI (by simp -implicitDefEqProofs only [push_cast, sevalprocAttr, eq_self, lend_ptrF, lend_opsrow]) hc rfl ?_))
 all_goals ((try clear hf); (try clear e0 e1 e2 e3 e7 e8 e9 e10 e11); clear hc hr hq ho hp hs hl; simp only [meetS]; simp at *; simp [*])
def meetL (l : List Opn) (i j : Nat) (hi : i < l.length) (hj : j < l.length) : Bool := meetS l[i] l[j] ((l.drop i).take (j - i))
theorem f128 (l : List Opn) (i j : Nat) (hij : i < j) (hj : j < l.length) (hl : ∀ o ∈ l, o.ok) (hn : l.length ≤ 1000000) :
 HV Try.prog 128 [.row (l.map opC), i64 i, i64 j] (bl (meetL l i j (by omega) hj)) := by
 refine qK qM cf128 (by simp) (by simp [imms, imm, wV]) ?_ rfl
 unfold ac128 re128
 refine yN fun env hE => ?_; obtain ⟨e0, e1, e2, e6⟩ := cj4 hE 0 1 2 6; simp -implicitDefEqProofs only [push_cast] at e0 e1 e2 e6; clear hE
 have hd1 : decide (0 ≤ (i : Int)) = true := by simp
 have hd2 : decide ((i : Int) < (j : Int)) = true := by simp; omega
 have hd3 : decide ((j : Int) < (l.length : Int)) = true := by simp; omega
 have hsl : uD none 5 (.row (l.map opC)) (some (i64 i)) (some (i64 j)) none = some (.row (((l.drop i).take (j - i)).map opC)) := by
  rw [slice_row_eq opC 5 l opC_len]
  simp [qX]; omega
 have hc := f147 l ((l.drop i).take (j - i)) i j (by omega) hj hl (fun o ho => hl o (List.mem_of_mem_drop (List.mem_of_mem_take ho))) (by simp; omega)
 repeat' (first | ((try clear hf); with_reducible refine yD fun env K hE hK hf => ?_; have n := cj4 hE 0 1 2 6; simp -implicitDefEqProofs only [push_cast, reduceIte, Nat.reduceEqDiff, e0, e1, e2, e6] at n; clear hE e0 e1 e2 e6; obtain ⟨e0, e1, e2, e6⟩ := n) | (with_reducible first | (refine hK _ _ ?_; clear hK K) | (refine Zi ?_; constructor) | refine yB (by decide) ?_ | refine yH (by assumption) ?_ | refine yJ (by assumption) ?_) | (refine yC rfl ?_) | (simp -implicitDefEqProofs only [push_cast, sevalprocAttr, eq_self, e0, e1, e2, e6, qD, hd1, hd2, hd3, hsl]) | (simp (disch := omega) only [yF, yK, yG, yL, qD, hd1, hd2, hd3, hsl]) | (with_reducible refine yM ?_ ?_) | (refine yE rfl (fun bb => ?_) (fun bb => ?_) <;> simp only [bb]) | (with_reducible refine yI (fun bb => ?_) (fun bb => ?_)) | ((with_reducible refine And.intro ?_ ?_); omega) | (refine yO hc ?_))
 rfl
def wD (o : Opn) : List AV := [.row (regsC (rdS o))]
theorem regsC_imms (l : List Int) : immss (regsC l) = true := qV fun i x hx => by simp [regsC] at hx; obtain ⟨a, _, rfl⟩ := hx; rfl
theorem regRow_imms (o : Opn) : imms (wD o) = true := by simp [wD, imms, imm, regsC_imms]
theorem regRows_imms (l : List Opn) : immss (l.map wD) = true := qV fun i x hx => by simp at hx; obtain ⟨a, _, rfl⟩ := hx; exact regRow_imms a
def dRow (o : Opn) : List AV := [i64 (if (wrS o).2 then (wrS o).1 else -1)]
theorem dRows_imms (l : List Opn) : immss (l.map dRow) = true := qV fun i x hx => by simp at hx; obtain ⟨a, _, rfl⟩ := hx; rfl
def finA (l : List Opn) (t : Tab) (out : AV) : List AV := .row (l.map opC) :: (tabC t ++ [.row (l.map wD), .row (l.map dRow), out])
theorem finA_imms {l : List Opn} {t : Tab} {out : AV} (ho : imm out = true) : imms (finA l t out) = true := by
 simp only [finA, imms, imm, wV, Bool.true_and]
 exact imms_app (uM t) (by simp [imms, imm, regRows_imms, dRows_imms, ho])
theorem finA_0 (l : List Opn) (t : Tab) (out : AV) : (finA l t out)[0]? = some (.row (l.map opC)) := rfl
theorem finA_lat (l : List Opn) (t : Tab) (out : AV) {c : Nat} (hc : c < 4) : (finA l t out)[5 + c]? = some (i64 (t.l c)) := by
 match c, hc with
 | 0, _ | 1, _ | 2, _ | 3, _ => rfl
def latS (t : Tab) (o : Opn) : Int := t.l (clsN o)
theorem f126 (l : List Opn) (t : Tab) (out : AV) (ho : imm out = true) (i : Nat) (hi : i < l.length) : HV Try.prog 126 [.ip (finA l t out), i64 i] (i64 (latS t l[i])) := by
 refine qK qM cf126 (by simp) (by simp [imms, imm, finA_imms ho]) ?_ rfl
 unfold ac126 re126
 refine yN fun env hE => ?_; obtain ⟨e0, e1, e4, e5⟩ := cj4 hE 0 1 4 5; simp -implicitDefEqProofs only [push_cast] at e0 e1 e4 e5; clear hE
 have hr := wL hi .i64
 have hc := clsN_eq l[i]
 have hc4 := wY l[i]
 have hq : (finA l t out)[1 + (4 + (clsN l[i] + 0))]? = some (i64 (t.l (clsN l[i]))) := by
  have := finA_lat l t out hc4
  rwa [show 5 + clsN l[i] = 1 + (4 + (clsN l[i] + 0)) from by omega] at this
 repeat' (first | ((try clear hf); with_reducible refine yD fun env K hE hK hf => ?_; have n := cj4 hE 0 1 4 5; simp -implicitDefEqProofs only [push_cast, reduceIte, Nat.reduceEqDiff, e0, e1, e4, e5] at n; clear hE e0 e1 e4 e5; obtain ⟨e0, e1, e4, e5⟩ := n) | (with_reducible first | (refine hK _ _ ?_; clear hK K) | (refine Zi ?_; constructor) | refine yB (by decide) ?_ | refine yH (by assumption) ?_ | refine yJ (by assumption) ?_) | (refine yC rfl ?_) | (simp -implicitDefEqProofs only [push_cast, sevalprocAttr, eq_self, e0, e1, e4, e5, hr, hc, hq, finA_0, op_0, UH, List.getElem?_drop]) | (simp (disch := omega) only [yF, yK, yG, yL, hr, hc, hq, finA_0, op_0, UH, List.getElem?_drop]) | (with_reducible refine yM ?_ ?_) | (refine yE rfl (fun bb => ?_) (fun bb => ?_) <;> simp only [bb]) | (with_reducible refine yI (fun bb => ?_) (fun bb => ?_)) | ((with_reducible refine And.intro ?_ ?_); omega) | (refine yO (f15 _) ?_))
 rfl
def seesS (o : Opn) (r : Int) : Bool := (rdS o).any fun x => decide (x = r)
theorem regRow_at {l : List Opn} {k : Nat} (hk : k < l.length) (kd : IntKind) : YE none 1 (.row (l.map wD)) (.lit (.int kd (k : Int))) = some (.ip (wD l[k])) := UU wD 1 (fun _ => rfl) l kd hk
theorem regs_at {l : List Int} {k : Nat} (hk : k < l.length) (kd : IntKind) : YE none 1 (.row (regsC l)) (.lit (.int kd (k : Int))) = some (.ip [u8 l[k]]) := UU (fun r => [u8 r]) 1 (fun _ => rfl) l kd hk
theorem lenV_regs (l : List Int) : lenV (.row (regsC l)) = some (i64 l.length) := qD _ l
theorem rdS_len (o : Opn) : (rdS o).length ≤ 2 := by
 unfold rdS
 split
 · simp
 · split
   · simp
   · split
     · simp
     · split <;> simp
theorem chkE_regs {o : Opn} (h : chkE o = 0) : o.d ≤ 31 ∧ o.a ≤ 31 ∧ o.b ≤ 31 := by
 unfold chkE at h
 split at h
 · rename_i hc; unfold chkP at hc; omega
 · cases h
theorem rdS_mem {o : Opn} (ho : o.ok) {x : Int} (hx : x ∈ rdS o) : 0 ≤ x ∧ x ≤ 31 := by
 unfold Opn.ok at ho
 unfold rdS at hx
 split at hx
 · simp at hx
 · rename_i hc
   have := chkE_regs (o := o) (by simpa using hc)
   split at hx
   · simp at hx; rcases hx with rfl | rfl <;> omega
   · split at hx
     · simp at hx; omega
     · split at hx
       · simp at hx; omega
       · simp at hx
def I117 (o : Opn) (r : Int) (n : Nat) (σ : St) : Prop := ∃ k : Nat, k ≤ (rdS o).length ∧ n = (rdS o).length - k ∧ σ.env 2 = i64 r ∧ σ.env 15 = .row (regsC (rdS o)) ∧ σ.env 16 = i64 (rdS o).length ∧ σ.env 17 = i64 k ∧
 ∀ (j : Nat) (hj : j < k) (h : j < (rdS o).length), (rdS o)[j] ≠ r
theorem f145 (l : List Opn) (t : Tab) (out : AV) (ho : imm out = true) (i : Nat) (hi : i < l.length) (hl : ∀ o ∈ l, o.ok) (r : Int) : HV Try.prog 145 [.ip (finA l t out), i64 i, i64 r] (bl (seesS l[i] r)) := by
 refine qK qM cf145 (by simp) (by simp [imms, imm, finA_imms ho]) ?_ rfl
 unfold ac145 re145
 refine yN fun env hE => ?_; obtain ⟨e0, e1, e2, e6, e8, e15, e16, e17, e18⟩ := cj9 hE 0 1 2 6 8 15 16 17 18; simp -implicitDefEqProofs only [push_cast] at e0 e1 e2 e6 e8 e15 e16 e17 e18; clear hE
 have hr := regRow_at hi .i64
 have hq : (finA l t out)[14 + 0]? = some (.row (l.map wD)) := rfl
 have hw : (wD l[i])[0]? = some (.row (regsC (rdS l[i]))) := rfl
 have hok := hl _ (List.getElem_mem hi)
 generalize l[i] = o at *
 repeat' (first | ((try clear hf); with_reducible refine yD fun env K hE hK hf => ?_; have n := cj9 hE 0 1 2 6 8 15 16 17 18; simp -implicitDefEqProofs only [push_cast, reduceIte, Nat.reduceEqDiff, e0, e1, e2, e6, e8, e15, e16, e17, e18] at n; clear hE e0 e1 e2 e6 e8 e15 e16 e17 e18; obtain ⟨e0, e1, e2, e6, e8, e15, e16, e17, e18⟩ := n) | (with_reducible first | (refine hK _ _ ?_; clear hK K) | (refine Zi ?_; constructor) | refine yB (by decide) ?_ | refine yH (by assumption) ?_ | refine yJ (by assumption) ?_) | (refine yC rfl ?_) | (simp -implicitDefEqProofs only [push_cast, sevalprocAttr, eq_self, e0, e1, e2, e6, e8, e15, e16, e17, e18, hr, hq, hw, lenV_regs, List.getElem?_drop]) | (simp (disch := omega) only [yF, yK, yG, yL, hr, hq, hw, lenV_regs, List.getElem?_drop]) | (with_reducible refine yM ?_ ?_) | (refine yE rfl (fun bb => ?_) (fun bb => ?_) <;> simp only [bb]) | (with_reducible refine yI (fun bb => ?_) (fun bb => ?_)) | ((with_reducible refine And.intro ?_ ?_); omega))
 refine qC (I117 o r) (rdS o).length ⟨0, by omega, by omega, by simp -implicitDefEqProofs only [push_cast, sevalprocAttr, eq_self, e2], by simp -implicitDefEqProofs only [push_cast, sevalprocAttr, eq_self], by simp -implicitDefEqProofs only [push_cast, sevalprocAttr, eq_self], by simp -implicitDefEqProofs only [push_cast, sevalprocAttr, eq_self], by omega⟩ ?_
 rintro n ⟨env, h⟩ ⟨k, hk, rfl, e2, e15, e16, e17, hall⟩
 simp only at e2 e15 e16 e17
 have e0 : True := trivial; have e1 : True := trivial; have e6 : True := trivial; have e8 : True := trivial; have e18 : True := trivial
 unfold l145_0
 refine yS fun hF => ?_
 have hrl := rdS_len o
 by_cases hlt : k < (rdS o).length
 · have hd : decide ((k : Int) < ((rdS o).length : Int)) = true := by simp; omega
   have hr := regs_at hlt .i64
   have hm := rdS_mem hok (List.getElem_mem hlt)
   repeat' (first | ((try clear hf); with_reducible refine yD fun env K hE hK hf => ?_; have n := cj9 hE 0 1 2 6 8 15 16 17 18; simp -implicitDefEqProofs only [push_cast, reduceIte, Nat.reduceEqDiff, e0, e1, e2, e6, e8, e15, e16, e17, e18] at n; clear hE e0 e1 e2 e6 e8 e15 e16 e17 e18; obtain ⟨e0, e1, e2, e6, e8, e15, e16, e17, e18⟩ := n) | (with_reducible first | (refine hK _ _ ?_; clear hK K) | (refine Zi ?_; constructor) | refine yB (by decide) ?_ | refine yH (by assumption) ?_ | refine yJ (by assumption) ?_) | (refine yC rfl ?_) | (simp -implicitDefEqProofs only [push_cast, sevalprocAttr, eq_self, e0, e1, e2, e6, e8, e15, e16, e17, e18, hd, hr, hF.at]) | (simp (disch := omega) only [yF, yK, yG, yL, hd, hr, hF.at]) | (with_reducible refine yM ?_ ?_) | (refine yE rfl (fun bb => ?_) (fun bb => ?_) <;> simp only [bb]) | (with_reducible refine yI (fun bb => ?_) (fun bb => ?_)) | ((with_reducible refine And.intro ?_ ?_); omega))
   · have : seesS o r = true := by
      unfold seesS
      rw [List.any_eq_true]
      exact ⟨_, List.getElem_mem hlt, by assumption⟩
     rw [this]
   · refine ⟨(rdS o).length - (k + 1), by omega, k + 1, by omega, rfl, by simp -implicitDefEqProofs only [push_cast, sevalprocAttr, eq_self, e2], by simp -implicitDefEqProofs only [push_cast, sevalprocAttr, eq_self, e15], by simp -implicitDefEqProofs only [push_cast, sevalprocAttr, eq_self, e16], by simp -implicitDefEqProofs only [push_cast, sevalprocAttr, eq_self], fun j hj h => ?_⟩
     by_cases e : j < k
     · exact hall j e h
     · obtain rfl : j = k := by omega
       have := ‹decide ((rdS o)[j] = r) = false›
       simpa using this
 · have hd : decide ((k : Int) < ((rdS o).length : Int)) = false := by simp; omega
   repeat' (first | ((try clear hf); with_reducible refine yD fun env K hE hK hf => ?_; have n := cj9 hE 0 1 2 6 8 15 16 17 18; simp -implicitDefEqProofs only [push_cast, reduceIte, Nat.reduceEqDiff, e0, e1, e2, e6, e8, e15, e16, e17, e18] at n; clear hE e0 e1 e2 e6 e8 e15 e16 e17 e18; obtain ⟨e0, e1, e2, e6, e8, e15, e16, e17, e18⟩ := n) | (with_reducible first | (refine hK _ _ ?_; clear hK K) | (refine Zi ?_; constructor) | refine yB (by decide) ?_ | refine yH (by assumption) ?_ | refine yJ (by assumption) ?_) | (refine yC rfl ?_) | (simp -implicitDefEqProofs only [push_cast, sevalprocAttr, eq_self, e0, e1, e2, e6, e8, e15, e16, e17, e18, hd]) | (simp (disch := omega) only [yF, yK, yG, yL, hd]) | (with_reducible refine yM ?_ ?_) | (refine yE rfl (fun bb => ?_) (fun bb => ?_) <;> simp only [bb]) | (with_reducible refine yI (fun bb => ?_) (fun bb => ?_)) | ((with_reducible refine And.intro ?_ ?_); omega))
   have : seesS o r = false := by
    unfold seesS
    rw [List.any_eq_false]
    intro x hx
    obtain ⟨j, hj, rfl⟩ := List.getElem_of_mem hx
    simpa using hall j (by omega) hj
   rw [this]
def WF (L : Nat → Int) : List AV := (List.range 32).map fun r => i64 (L r)
theorem lastC_imms (L : Nat → Int) : imms (WF L) = true := YL fun i x hx => by simp [WF] at hx; obtain ⟨_, _, rfl⟩ := hx; rfl
theorem lastC_at (L : Nat → Int) {r : Nat} (hr : r < 32) : (WF L)[r]? = some (i64 (L r)) := by simp [WF, hr]
def fromS (L : Nat → Int) (o : Opn) (i : Nat) : Bool := (rdS o).any fun x => decide (L x.toNat = (i : Int) + 1)
def I96 (L : Nat → Int) (o : Opn) (i : Nat) (n : Nat) (σ : St) : Prop := ∃ k : Nat, k ≤ (rdS o).length ∧ n = (rdS o).length - k ∧ σ.env 1 = i64 i ∧ σ.env 3 = .ip (WF L) ∧ σ.env 17 = .row (regsC (rdS o)) ∧ σ.env 18 = i64 (rdS o).length ∧ σ.env 19 = i64 k ∧
 ∀ (j : Nat) (hj : j < k) (h : j < (rdS o).length), L ((rdS o)[j]).toNat ≠ (i : Int) + 1
theorem f124 (l : List Opn) (t : Tab) (out : AV) (ho : imm out = true) (L : Nat → Int) (i j : Nat) (hj : j < l.length) (hi : i ≤ 1000000) (hl : ∀ o ∈ l, o.ok) :
 HV Try.prog 124 [.ip (finA l t out), i64 i, i64 j, .ip (WF L)] (bl (fromS L l[j] i)) := by
 refine qK qM cf124 (by simp) (by simp [imms, imm, finA_imms ho, lastC_imms]) ?_ rfl
 unfold ac124 re124
 refine yN fun env hE => ?_; obtain ⟨e0, e1, e2, e3, e8, e10, e17, e18, e19, e20⟩ := cj10 hE 0 1 2 3 8 10 17 18 19 20; simp -implicitDefEqProofs only [push_cast] at e0 e1 e2 e3 e8 e10 e17 e18 e19 e20; clear hE
 have hr := regRow_at hj .i64
 have hq : (finA l t out)[14 + 0]? = some (.row (l.map wD)) := rfl
 have hw : (wD l[j])[0]? = some (.row (regsC (rdS l[j]))) := rfl
 have hok := hl _ (List.getElem_mem hj)
 generalize l[j] = o at *
 repeat' (first | ((try clear hf); with_reducible refine yD fun env K hE hK hf => ?_; have n := cj10 hE 0 1 2 3 8 10 17 18 19 20; simp -implicitDefEqProofs only [push_cast, reduceIte, Nat.reduceEqDiff, e0, e1, e2, e3, e8, e10, e17, e18, e19, e20] at n; clear hE e0 e1 e2 e3 e8 e10 e17 e18 e19 e20; obtain ⟨e0, e1, e2, e3, e8, e10, e17, e18, e19, e20⟩ := n) | (with_reducible first | (refine hK _ _ ?_; clear hK K) | (refine Zi ?_; constructor) | refine yB (by decide) ?_ | refine yH (by assumption) ?_ | refine yJ (by assumption) ?_) | (refine yC rfl ?_) | (simp -implicitDefEqProofs only [push_cast, sevalprocAttr, eq_self, e0, e1, e2, e3, e8, e10, e17, e18, e19, e20, hr, hq, hw, lenV_regs, List.getElem?_drop]) | (simp (disch := omega) only [yF, yK, yG, yL, hr, hq, hw, lenV_regs, List.getElem?_drop]) | (with_reducible refine yM ?_ ?_) | (refine yE rfl (fun bb => ?_) (fun bb => ?_) <;> simp only [bb]) | (with_reducible refine yI (fun bb => ?_) (fun bb => ?_)) | ((with_reducible refine And.intro ?_ ?_); omega))
 refine qC (I96 L o i) (rdS o).length ⟨0, by omega, by omega, by simp -implicitDefEqProofs only [push_cast, sevalprocAttr, eq_self, e1], by simp -implicitDefEqProofs only [push_cast, sevalprocAttr, eq_self, e3], by simp -implicitDefEqProofs only [push_cast, sevalprocAttr, eq_self], by simp -implicitDefEqProofs only [push_cast, sevalprocAttr, eq_self], by simp -implicitDefEqProofs only [push_cast, sevalprocAttr, eq_self], by omega⟩ ?_
 rintro n ⟨env, h⟩ ⟨k, hk, rfl, e1, e3, e17, e18, e19, hall⟩
 simp only at e1 e3 e17 e18 e19
 have e0 : True := trivial; have e2 : True := trivial; have e8 : True := trivial; have e10 : True := trivial; have e20 : True := trivial
 unfold l124_0
 refine yS fun hF => ?_
 have hrl := rdS_len o
 by_cases hlt : k < (rdS o).length
 · have hd : decide ((k : Int) < ((rdS o).length : Int)) = true := by simp; omega
   have hr := regs_at hlt .i64
   have hm := rdS_mem hok (List.getElem_mem hlt)
   have ht : (rdS o)[k].toNat < 32 := by omega
   have hx : (WF L)[(rdS o)[k].toNat + 0]? = some (i64 (L (rdS o)[k].toNat)) := lastC_at L ht
   repeat' (first | ((try clear hf); with_reducible refine yD fun env K hE hK hf => ?_; have n := cj10 hE 0 1 2 3 8 10 17 18 19 20; simp -implicitDefEqProofs only [push_cast, reduceIte, Nat.reduceEqDiff, e0, e1, e2, e3, e8, e10, e17, e18, e19, e20] at n; clear hE e0 e1 e2 e3 e8 e10 e17 e18 e19 e20; obtain ⟨e0, e1, e2, e3, e8, e10, e17, e18, e19, e20⟩ := n) | (with_reducible first | (refine hK _ _ ?_; clear hK K) | (refine Zi ?_; constructor) | refine yB (by decide) ?_ | refine yH (by assumption) ?_ | refine yJ (by assumption) ?_) | (refine yC rfl ?_) | (simp -implicitDefEqProofs only [push_cast, sevalprocAttr, eq_self, e0, e1, e2, e3, e8, e10, e17, e18, e19, e20, hd, hr, hF.at, UH, List.getElem?_drop, hx]) | (simp (disch := omega) only [yF, yK, yG, yL, hd, hr, hF.at, UH, List.getElem?_drop, hx]) | (with_reducible refine yM ?_ ?_) | (refine yE rfl (fun bb => ?_) (fun bb => ?_) <;> simp only [bb]) | (with_reducible refine yI (fun bb => ?_) (fun bb => ?_)) | ((with_reducible refine And.intro ?_ ?_); omega))
   · have : fromS L o i = true := by
      unfold fromS
      rw [List.any_eq_true]
      exact ⟨_, List.getElem_mem hlt, by assumption⟩
     rw [this]
   · refine ⟨(rdS o).length - (k + 1), by omega, k + 1, by omega, rfl, by simp -implicitDefEqProofs only [push_cast, sevalprocAttr, eq_self, e1], by simp -implicitDefEqProofs only [push_cast, sevalprocAttr, eq_self, e3], by simp -implicitDefEqProofs only [push_cast, sevalprocAttr, eq_self, e17], by simp -implicitDefEqProofs only [push_cast, sevalprocAttr, eq_self, e18], by simp -implicitDefEqProofs only [push_cast, sevalprocAttr, eq_self], fun j hj h => ?_⟩
     by_cases e : j < k
     · exact hall j e h
     · obtain rfl : j = k := by omega
       have := ‹decide (L (rdS o)[j].toNat = (i : Int) + 1) = false›
       simpa using this
 · have hd : decide ((k : Int) < ((rdS o).length : Int)) = false := by simp; omega
   repeat' (first | ((try clear hf); with_reducible refine yD fun env K hE hK hf => ?_; have n := cj10 hE 0 1 2 3 8 10 17 18 19 20; simp -implicitDefEqProofs only [push_cast, reduceIte, Nat.reduceEqDiff, e0, e1, e2, e3, e8, e10, e17, e18, e19, e20] at n; clear hE e0 e1 e2 e3 e8 e10 e17 e18 e19 e20; obtain ⟨e0, e1, e2, e3, e8, e10, e17, e18, e19, e20⟩ := n) | (with_reducible first | (refine hK _ _ ?_; clear hK K) | (refine Zi ?_; constructor) | refine yB (by decide) ?_ | refine yH (by assumption) ?_ | refine yJ (by assumption) ?_) | (refine yC rfl ?_) | (simp -implicitDefEqProofs only [push_cast, sevalprocAttr, eq_self, e0, e1, e2, e3, e8, e10, e17, e18, e19, e20, hd]) | (simp (disch := omega) only [yF, yK, yG, yL, hd]) | (with_reducible refine yM ?_ ?_) | (refine yE rfl (fun bb => ?_) (fun bb => ?_) <;> simp only [bb]) | (with_reducible refine yI (fun bb => ?_) (fun bb => ?_)) | ((with_reducible refine And.intro ?_ ?_); omega))
   have : fromS L o i = false := by
    unfold fromS
    rw [List.any_eq_false]
    intro x hx
    obtain ⟨j, hj, rfl⟩ := List.getElem_of_mem hx
    simpa using hall j (by omega) hj
   rw [this]
theorem awp_once {P : Program} {c : ACode} {Q : AEx → St → Prop} {σ : St} (Post : St → Prop) (h1 : awp P c (seqK P Post Q) σ) (h2 : ∀ τ, Post τ → awp P c (seqK P (fun _ => False) Q) τ) : awp P (.loop c) Q σ := by
 refine qC (fun n τ => (n = 1 ∧ τ = σ) ∨ (n = 0 ∧ Post τ)) 1 (.inl ⟨rfl, rfl⟩) fun n τ hτ => ?_
 rcases hτ with ⟨rfl, rfl⟩ | ⟨rfl, hp⟩
 · refine WH c _ _ (fun e σ' hx => ?_) _ h1
   cases e with
   | normal => exact ⟨0, by omega, .inr ⟨rfl, hx⟩⟩
   | exit i => exact hx
   | ret => exact hx
 · refine WH c _ _ (fun e σ' hx => ?_) _ (h2 τ hp)
   cases e with
   | normal => exact hx.elim
   | exit i => exact hx
   | ret => exact hx
structure Edg where
 f : Int
 t : Int
 l : Int
 d : Int
 w : Int
 deriving DecidableEq
def edC (e : Edg) : List AV := [i64 e.f, i64 e.t, i64 e.l, i64 e.d, .lit (.int .i8 e.w)]
theorem wJ (e : Edg) : (edC e).length = 5 := rfl
theorem edC_take (e : Edg) : (edC e).take 5 = edC e := rfl
theorem edC_one (e : Edg) : (edC e).all one = true := rfl
theorem edC_imms (e : Edg) : imms (edC e) = true := rfl
attribute [push_cast] wJ edC_take edC_one edC_imms
theorem eflat_len (l : List Edg) : (l.flatMap edC).length = l.length * 5 := by
 induction l with
 | nil => rfl
 | cons o l ih => rw [List.flatMap_cons, List.length_append, ih, wJ, List.length_cons]; omega
def OutR (h : Hp) (out : AV) (es : List Edg) : Prop := (out = .nil ∧ es = []) ∨ (∃ id, out = .sl id 0 es.length 5 ∧ h.hp id = some ⟨true, es.flatMap edC⟩ ∧ id.1 ≤ h.ep)
def PutP (h : Hp) (F : Id) (cells : List AV) (out : AV) (es : List Edg) (h' : Hp) : Prop :=
 h.ep ≤ h'.ep ∧ (∀ x : Id, x.1 ≤ h.ep → x ≠ F → idOf out ≠ some x → h'.hp x = h.hp x) ∧ ∃ id : Id, h.ep < id.1 ∧ id.1 ≤ h'.ep ∧ h'.hp id = some ⟨true, es.flatMap edC⟩ ∧ h'.hp F = some ⟨true, cells.take 16 ++ [.sl id 0 es.length 5]⟩
theorem UQ (h : Hp) (id t : Id) (sz bytes n off len sz' : Nat) (new : List AV) : appV h id sz bytes n new (.sl t off len sz') = (h.hp t).bind fun blk => if sz' = sz ∧ blk.wr = true ∧ new.all one = true ∧ (len + n + (len + n) / 4 + 512) * bytes ≤ 281474976710656 then
 some (.sl id 0 (len + n) sz, (h.kill t).push id ((blk.cells.drop off).take (len * sz) ++ new)) else none := by simp only [appV]
theorem one_sl (id : Id) (o n s : Nat) : one (.sl id o n s) = true := rfl
theorem one_row (x : List (List AV)) : one (.row x) = true := rfl
theorem one_nil : one .nil = true := rfl
theorem one_ptr (id : Id) (o : Nat) : one (.ptr id o) = true := rfl
theorem one_fn (f : Nat) (c : List AV) : one (.fn f c) = true := rfl
attribute [push_cast] one_sl one_row one_nil one_ptr one_fn
theorem PutP.tick {h : Hp} {F : Id} {cells : List AV} {out : AV} {es : List Edg} {h' : Hp} (hp : PutP h F cells out es h') : PutP h F cells out es h'.tick := by
 obtain ⟨h1, h2, id, h3, h4, h5, h6⟩ := hp
 exact ⟨by rw [qG]; omega, h2, id, h3, by rw [qG]; omega, h5, h6⟩
theorem f125 (h : Hp) (F S : Id) (cells : List AV) (out : AV) (es : List Edg) (e : Edg) (i j dist : Int) (hF : h.hp F = some ⟨true, cells⟩) (hlen : cells.length = 17) (hout : cells[16]? = some out)
 (hS : h.hp S = some ⟨true, edC e⟩) (hSF : S ≠ F) (hFe : F.1 ≤ h.ep) (hSe : S.1 ≤ h.ep) (ho : OutR h out es) (hne : ∀ id, idOf out = some id → id ≠ F ∧ id ≠ S) (hn : es.length ≤ 100000000) :
 HC Try.prog 125 [.ptr F 0, i64 i, i64 j, i64 dist, .sl S 0 1 5] h fun r h' => r = .tup [] ∧ PutP h F cells out (es ++ [⟨i, j, e.l, dist, e.w⟩]) h' := by
 refine qJ qM cf125 (by simp) fun hf0 => ?_
 unfold ac125 re125
 refine yN fun env hE => ?_; obtain ⟨e0, e1, e2, e3, e4, e11, e12, e13, e14, e15⟩ := cj10 hE 0 1 2 3 4 11 12 13 14 15; simp -implicitDefEqProofs only [push_cast] at e0 e1 e2 e3 e4 e11 e12 e13 e14 e15; clear hE
 repeat' (first | ((try clear hf); with_reducible refine yD fun env K hE hK hf => ?_; have n := cj10 hE 0 1 2 3 4 11 12 13 14 15; simp -implicitDefEqProofs only [push_cast, reduceIte, Nat.reduceEqDiff, e0, e1, e2, e3, e4, e11, e12, e13, e14, e15] at n; clear hE e0 e1 e2 e3 e4 e11 e12 e13 e14 e15; obtain ⟨e0, e1, e2, e3, e4, e11, e12, e13, e14, e15⟩ := n) | (with_reducible first | (refine hK _ _ ?_; clear hK K) | (refine Zi ?_; constructor) | refine yB (by decide) ?_ | refine yH (by assumption) ?_ | refine yJ (by assumption) ?_) | (refine yC rfl ?_) | (simp -implicitDefEqProofs only [push_cast, sevalprocAttr, eq_self, e0, e1, e2, e3, e4, e11, e12, e13, e14, e15, wG]) | (simp (disch := omega) only [yF, yK, yG, yL, wG]) | (with_reducible refine yM ?_ ?_) | (refine yE rfl (fun bb => ?_) (fun bb => ?_) <;> simp only [bb]) | (with_reducible refine yI (fun bb => ?_) (fun bb => ?_)) | ((with_reducible refine And.intro ?_ ?_); omega))
 obtain ⟨Fe, Fs⟩ := F
 obtain ⟨Se, Ss⟩ := S
 simp only at hFe hSe
 have hdr : cells.drop (16 + 1) = [] := List.drop_eq_nil_of_le (by omega)
 have hle : 16 < cells.length := by omega
 refine awp_once (fun τ => τ.env 14 = i64 1 ∧ τ.env 13 = i64 1 ∧ PutP h (Fe, Fs) cells out (es ++ [⟨i, j, e.l, dist, e.w⟩]) τ.h) ?_ ?_
 · unfold l125_0
   have hz : ((1 : Nat) : Int) = 1 := rfl
   rcases ho with ⟨rfl, rfl⟩ | ⟨⟨Oe, Os⟩, rfl, hO, hOe⟩
   · have hA : ∀ (h' : Hp) (id' : Id), appV h' id' 5 40 1 [i64 i, i64 j, i64 e.l, i64 dist, .lit (.int .i8 e.w)] .nil = some (.sl id' 0 1 5, h'.push id' [i64 i, i64 j, i64 e.l, i64 dist, .lit (.int .i8 e.w)]) := fun h' id' => appV_nil _ _ (by decide) (by decide)
     repeat' (first | ((try clear hf); with_reducible refine yD fun env K hE hK hf => ?_; have n := cj10 hE 0 1 2 3 4 11 12 13 14 15; simp -implicitDefEqProofs only [push_cast, reduceIte, Nat.reduceEqDiff, e0, e1, e2, e3, e4, e11, e12, e13, e14, e15] at n; clear hE e0 e1 e2 e3 e4 e11 e12 e13 e14 e15; obtain ⟨e0, e1, e2, e3, e4, e11, e12, e13, e14, e15⟩ := n) | (with_reducible first | (refine hK _ _ ?_; clear hK K) | (refine Zi ?_; constructor) | refine yB (by decide) ?_ | refine yH (by assumption) ?_ | refine yJ (by assumption) ?_) | (refine yC rfl ?_) | (simp -implicitDefEqProofs only [push_cast, sevalprocAttr, eq_self, e0, e1, e2, e3, e4, e11, e12, e13, e14, e15, hF, hS, hout, hf0.at, edC, hA, hdr, yV, List.append_nil]) | (simp (disch := omega) only [yF, yK, yG, yL, hF, hS, hout, hf0.at, edC, hA, hdr, yV, List.append_nil]) | (with_reducible refine yM ?_ ?_) | (refine yE rfl (fun bb => ?_) (fun bb => ?_) <;> simp only [bb]) | (with_reducible refine yI (fun bb => ?_) (fun bb => ?_)) | ((with_reducible refine And.intro ?_ ?_); omega))
     refine ⟨by (first | (simp -implicitDefEqProofs only [push_cast, sevalprocAttr, eq_self]; done) | (simp -implicitDefEqProofs only [push_cast, sevalprocAttr, eq_self]; omega)), fun x hx hxF hxo => ?_, (h.ep + 1 + 1 + 1 + 1 + 1 + 1, 31), ?_, ?_, ?_, ?_⟩
     · obtain ⟨xe, xs⟩ := x
       simp only at hx
       simp -implicitDefEqProofs (disch := first | omega | assumption) only [qN, yF, yK, YD]
     · show h.ep < h.ep + 1 + 1 + 1 + 1 + 1 + 1
       omega
     · show h.ep + 1 + 1 + 1 + 1 + 1 + 1 ≤ _
       first | (simp -implicitDefEqProofs only [push_cast, sevalprocAttr, eq_self]; done) | (simp -implicitDefEqProofs only [push_cast, sevalprocAttr, eq_self]; omega)
     · simp -implicitDefEqProofs only [push_cast, sevalprocAttr, eq_self]
       simp -implicitDefEqProofs (disch := omega) only [yF, yK, yG, yL]
       simp -implicitDefEqProofs only [push_cast, sevalprocAttr, eq_self]
       all_goals first | rfl | (rw [hfl])
     · simp -implicitDefEqProofs only [push_cast, sevalprocAttr, eq_self]
       all_goals first | rfl | (rw [List.length_append]; rfl)
   · have htk : (es.flatMap edC).take (es.length * 5) = es.flatMap edC := by rw [← eflat_len, List.take_length]
     have hfl : es.flatMap edC ++ [i64 i, i64 j, i64 e.l, i64 dist, .lit (.int .i8 e.w)] = (es ++ [(⟨i, j, e.l, dist, e.w⟩ : Edg)]).flatMap edC := by simp [edC]
     simp only at hOe
     have hOF := (hne _ rfl).1
     have hk1 : ∀ h' : Hp, (h'.kill (Oe, Os)).hp (Fe, Fs) = h'.hp (Fe, Fs) := fun h' => uX _ _ _ (Ne.symm hOF)
     repeat' (first | ((try clear hf); with_reducible refine yD fun env K hE hK hf => ?_; have n := cj10 hE 0 1 2 3 4 11 12 13 14 15; simp -implicitDefEqProofs only [push_cast, reduceIte, Nat.reduceEqDiff, e0, e1, e2, e3, e4, e11, e12, e13, e14, e15] at n; clear hE e0 e1 e2 e3 e4 e11 e12 e13 e14 e15; obtain ⟨e0, e1, e2, e3, e4, e11, e12, e13, e14, e15⟩ := n) | (with_reducible first | (refine hK _ _ ?_; clear hK K) | (refine Zi ?_; constructor) | refine yB (by decide) ?_ | refine yH (by assumption) ?_ | refine yJ (by assumption) ?_) | (refine yC rfl ?_) | (simp -implicitDefEqProofs only [push_cast, sevalprocAttr, eq_self, e0, e1, e2, e3, e4, e11, e12, e13, e14, e15, hF, hS, hO, hout, hf0.at, edC, UQ, htk, hk1, hdr, yV, List.append_nil]) | (simp (disch := omega) only [yF, yK, yG, yL, hF, hS, hO, hout, hf0.at, edC, UQ, htk, hk1, hdr, yV, List.append_nil]) | (with_reducible refine yM ?_ ?_) | (refine yE rfl (fun bb => ?_) (fun bb => ?_) <;> simp only [bb]) | (with_reducible refine yI (fun bb => ?_) (fun bb => ?_)) | ((with_reducible refine And.intro ?_ ?_); omega))
     refine ⟨by (first | (simp -implicitDefEqProofs only [push_cast, sevalprocAttr, eq_self]; done) | (simp -implicitDefEqProofs only [push_cast, sevalprocAttr, eq_self]; omega)), fun x hx hxF hxo => ?_, (h.ep + 1 + 1 + 1 + 1 + 1 + 1, 31), ?_, ?_, ?_, ?_⟩
     · obtain ⟨xe, xs⟩ := x
       simp only at hx
       have hxo' : (xe, xs) ≠ (Oe, Os) := fun e => hxo (by rw [e]; rfl)
       simp -implicitDefEqProofs (disch := first | omega | assumption) only [qN, yF, yK, YD, uX]
     · show h.ep < h.ep + 1 + 1 + 1 + 1 + 1 + 1
       omega
     · show h.ep + 1 + 1 + 1 + 1 + 1 + 1 ≤ _
       first | (simp -implicitDefEqProofs only [push_cast, sevalprocAttr, eq_self]; done) | (simp -implicitDefEqProofs only [push_cast, sevalprocAttr, eq_self]; omega)
     · simp -implicitDefEqProofs only [push_cast, sevalprocAttr, eq_self]
       simp -implicitDefEqProofs (disch := omega) only [yF, yK, yG, yL]
       simp -implicitDefEqProofs only [push_cast, sevalprocAttr, eq_self]
       all_goals first | rfl | (rw [hfl])
     · simp -implicitDefEqProofs only [push_cast, sevalprocAttr, eq_self]
       all_goals first | rfl | (rw [List.length_append]; rfl)
 · rintro ⟨env, h1⟩ ⟨e14, e13, hP⟩
   simp only at e14 e13 hP
   have e0 : True := trivial; have e1 : True := trivial; have e2 : True := trivial; have e3 : True := trivial; have e4 : True := trivial; have e11 : True := trivial; have e12 : True := trivial; have e15 : True := trivial
   unfold l125_0
   repeat' (first | ((try clear hf); with_reducible refine yD fun env K hE hK hf => ?_; have n := cj10 hE 0 1 2 3 4 11 12 13 14 15; simp -implicitDefEqProofs only [push_cast, reduceIte, Nat.reduceEqDiff, e0, e1, e2, e3, e4, e11, e12, e13, e14, e15] at n; clear hE e0 e1 e2 e3 e4 e11 e12 e13 e14 e15; obtain ⟨e0, e1, e2, e3, e4, e11, e12, e13, e14, e15⟩ := n) | (with_reducible first | (refine hK _ _ ?_; clear hK K) | (refine Zi ?_; constructor) | refine yB (by decide) ?_ | refine yH (by assumption) ?_ | refine yJ (by assumption) ?_) | (refine yC rfl ?_) | (simp -implicitDefEqProofs only [push_cast, sevalprocAttr, eq_self, e0, e1, e2, e3, e4, e11, e12, e13, e14, e15]) | (simp (disch := omega) only [yF, yK, yG, yL]) | (with_reducible refine yM ?_ ?_) | (refine yE rfl (fun bb => ?_) (fun bb => ?_) <;> simp only [bb]) | (with_reducible refine yI (fun bb => ?_) (fun bb => ?_)) | ((with_reducible refine And.intro ?_ ?_); omega))
   exact hP.tick
def Ext (h g : Hp) : Prop := h.ep ≤ g.ep ∧ ∀ x : Id, x.1 ≤ h.ep → g.hp x = h.hp x
theorem Ext.refl (h : Hp) : Ext h h := ⟨Nat.le_refl _, fun _ _ => rfl⟩
theorem Ext.tick {h g : Hp} (e : Ext h g) : Ext h g.tick := ⟨Nat.le_succ_of_le e.1, e.2⟩
theorem Ext.push {h g : Hp} (e : Ext h g) {a b : Nat} (hid : h.ep < a) (cells : List AV) : Ext h (g.push (a, b) cells) :=
 ⟨e.1, fun x hx => by rw [WI _ _ _ _ (fun e' => by rw [e'] at hx; simp at hx; omega)]; exact e.2 x hx⟩
theorem Ext.put {h g : Hp} (e : Ext h g) {a b : Nat} (hid : h.ep < a) (cells : List AV) : Ext h (g.put (a, b) cells) :=
 ⟨e.1, fun x hx => by rw [YD _ _ _ _ (fun e' => by rw [e'] at hx; simp at hx; omega)]; exact e.2 x hx⟩
def finC (l : List Opn) (t : Tab) (rid did : Id) (out : AV) : List AV := .row (l.map opC) :: (tabC t ++ [.sl rid 0 l.length 1, .sl did 0 l.length 1, out])
theorem WV (l : List Opn) (t : Tab) (rid did : Id) (out : AV) : (finC l t rid did out)[0]? = some (.row (l.map opC)) := rfl
theorem UZ (l : List Opn) (t : Tab) (rid did : Id) (out : AV) : (finC l t rid did out)[7]? = some (i64 (t.l 2)) := rfl
theorem uL (l : List Opn) (t : Tab) (rid did : Id) (out : AV) : (finC l t rid did out)[14]? = some (.sl rid 0 l.length 1) := rfl
theorem WJ (l : List Opn) (t : Tab) (rid did : Id) (out : AV) : (finC l t rid did out)[15]? = some (.sl did 0 l.length 1) := rfl
theorem uK (l : List Opn) (t : Tab) (rid did : Id) (out : AV) : (finC l t rid did out)[16]? = some out := rfl
def FS (h : Hp) (F : Id) (out : AV) (h' : Hp) (out' : AV) : Prop := h.ep ≤ h'.ep ∧ ∀ x : Id, x.1 ≤ h.ep → x ≠ F → idOf out ≠ some x → h'.hp x = h.hp x ∧ idOf out' ≠ some x
theorem FS.refl (h : Hp) (F : Id) (out : AV) : FS h F out h out := ⟨Nat.le_refl _, fun _ _ _ h => ⟨rfl, h⟩⟩
theorem FS.trans {h h1 h2 : Hp} {F : Id} {o o1 o2 : AV} (a : FS h F o h1 o1) (b : FS h1 F o1 h2 o2) : FS h F o h2 o2 :=
 ⟨Nat.le_trans a.1 b.1, fun x hx hF ho => by
  obtain ⟨a1, a2⟩ := a.2 x hx hF ho
  obtain ⟨b1, b2⟩ := b.2 x (Nat.le_trans hx a.1) hF a2
  exact ⟨b1.trans a1, b2⟩⟩
theorem FS.tick {h h1 : Hp} {F : Id} {o o1 : AV} (a : FS h F o h1 o1) : FS h F o h1.tick o1 := ⟨Nat.le_succ_of_le a.1, a.2⟩
structure FinH (h : Hp) (F : Id) (l : List Opn) (t : Tab) (es : List Edg) (rid did : Id) (out : AV) : Prop where
 fin : h.hp F = some ⟨true, finC l t rid did out⟩
 rds : h.hp rid = some ⟨true, l.flatMap wD⟩
 ds : h.hp did = some ⟨true, l.flatMap dRow⟩
 outr : OutR h out es
 eF : F.1 ≤ h.ep
 er : rid.1 ≤ h.ep
 ed : did.1 ≤ h.ep
 rF : rid ≠ F
 dF : did ≠ F
 rd : rid ≠ did
 oF : ∀ id, idOf out = some id → id ≠ F ∧ id ≠ rid ∧ id ≠ did
theorem edrows_imms (l : List Edg) : immss (l.map edC) = true := qV fun i x hx => by simp at hx; obtain ⟨o, _, rfl⟩ := hx; rfl
theorem UC {α : Type} {f : α → List AV} (hf : ∀ a, (f a).length = 1) (l : List α) : (l.flatMap f).length = l.length * 1 := by
 induction l with
 | nil => rfl
 | cons o l ih => rw [List.flatMap_cons, List.length_append, ih, hf, List.length_cons]; omega
theorem flat_imms' {α : Type} {f : α → List AV} (hf : ∀ a, imms (f a) = true) (l : List α) : imms (l.flatMap f) = true := by
 induction l with
 | nil => rfl
 | cons o l ih => simp only [List.flatMap_cons]; exact imms_app (hf o) ih
theorem uP (d : Nat) {α : Type} {f : α → List AV} {sz : Nat} (hf : ∀ a, (f a).length = sz) (hi : ∀ a, imms (f a) = true) {h : Hp} {id : Id} {l : List α} (hb : h.hp id = some ⟨true, l.flatMap f⟩) (hl : (l.flatMap f).length = l.length * sz) :
 lend (d + 1) h (.sl id 0 l.length sz) = some (.row (l.map f)) := by
 rw [lend_sl_d d hb (flat_imms' hi l) (by omega), List.drop_zero, ← hl, List.take_length, chunks_map f sz hf]
theorem mapO_app {α β : Type} (f : α → Option β) : ∀ (a b : List α) {x y : List β}, mapO f a = some x → mapO f b = some y → mapO f (a ++ b) = some (x ++ y)
 | [], b, x, y, h1, h2 => by simp [mapO] at h1; subst h1; exact h2
 | v :: a, b, x, y, h1, h2 => by
   simp only [mapO] at h1
   split at h1
   · rename_i u us e1 e2
     cases h1
     simp only [List.cons_append, mapO, e1, mapO_app f a b e2 h2]
   · cases h1
theorem lend_fin {h g : Hp} {F : Id} {l : List Opn} {t : Tab} {es : List Edg} {rid did : Id} {out : AV} (hX : FinH h F l t es rid did out) (hg : Ext h g) :
 ∃ o', imm o' = true ∧ lend YW g (.ptr F 0) = some (.ip (finA l t o')) := by
 have h1 := (hg.2 F hX.eF).trans hX.fin
 have h2 := (hg.2 rid hX.er).trans hX.rds
 have h3 := (hg.2 did hX.ed).trans hX.ds
 obtain ⟨o', hi, ho⟩ : ∃ o', imm o' = true ∧ lend 7 g out = some o' := by
  rcases hX.outr with ⟨rfl, _⟩ | ⟨id, rfl, hb, he⟩
  · exact ⟨.nil, rfl, WT rfl⟩
  · exact ⟨_, by simp only [imm]; exact edrows_imms es, uP 6 wJ edC_imms ((hg.2 id he).trans hb) (eflat_len es)⟩
 refine ⟨o', hi, ?_⟩
 rw [lend_ptrF, h1]
 simp only [Option.bind_some, List.drop_zero, finC]
 have e1 : mapO (lend 7 g) [.sl rid 0 l.length 1, .sl did 0 l.length 1, out] = some [.row (l.map wD), .row (l.map dRow), o'] := by
  simp only [mapO, uP 6 (f := wD) (sz := 1) (fun _ => rfl) regRow_imms h2 (UC (fun _ => rfl) l), uP 6 (f := dRow) (sz := 1) (fun _ => rfl) (fun _ => rfl) h3 (UC (fun _ => rfl) l), ho]
 have e2 : mapO (lend 7 g) (tabC t) = some (tabC t) := wA (uM t)
 simp only [mapO, lend_opsrow, mapO_app _ _ _ e2 e1, Option.map_some]
 rfl
theorem call_fin {P : Program} {d : Option Nat} {K : St → Prop} {env : Nat → AV} {h g : Hp} {fn : Nat} {F : Id} {l : List Opn} {t : Tab} {es : List Edg} {rid did : Id} {out : AV} {args : List AV} {v : Value} (hX : FinH h F l t es rid did out) (hg : Ext h g)
 (hv : ∀ o, imm o = true → HV P fn (.ip (finA l t o) :: args) (.lit v)) (hi : imms args = true) (k : K ⟨putA env d (.lit v), g.tick⟩) : qB P d K env g false (.fn fn []) (.ptr F 0 :: args) := by
 obtain ⟨o', hi', hl⟩ := lend_fin hX hg
 refine kI (args' := .ip (finA l t o') :: args) ?_ (hv o' hi') rfl k
 rw [List.append_nil, mapO_cons, hl, wA hi]
 rfl
theorem UM {d : Option Nat} {K : St → Prop} {env : Nat → AV} {h g : Hp} {F S : Id} {l : List Opn} {t : Tab} {es : List Edg} {rid did : Id} {out : AV} {e : Edg} {i j dist : Int} (hX : FinH h F l t es rid did out) (hg : Ext h g)
 (hS : g.hp S = some ⟨true, edC e⟩) (hS1 : h.ep < S.1) (hS2 : S.1 ≤ g.ep) (hn : es.length ≤ 100000000)
 (k : ∀ h' out', FinH h' F l t (es ++ [⟨i, j, e.l, dist, e.w⟩]) rid did out' → qY h' → FS h F out h' out' → K ⟨putA env d (.tup []), h'.tick⟩) :
 qB Try.prog d K env g false (.fn 125 []) [.ptr F 0, i64 i, i64 j, i64 dist, .sl S 0 1 5] := by
 have hlt : ∀ {x : Id}, x.1 ≤ h.ep → x ≠ S := fun hx e => by rw [e] at hx; omega
 have hge := hg.1
 refine qH (HC.mono (f125 g F S _ out es e i j dist ((hg.2 F hX.eF).trans hX.fin) rfl rfl hS (fun e => hlt hX.eF e.symm) (Nat.le_trans hX.eF hge) hS2 ?_ ?_ hn) ?_)
 · rcases hX.outr with h1 | ⟨id, h1, h2, h3⟩
   · exact .inl h1
   · exact .inr ⟨id, h1, (hg.2 id h3).trans h2, Nat.le_trans h3 hge⟩
 · intro id hid
   refine ⟨(hX.oF id hid).1, ?_⟩
   rcases hX.outr with ⟨h1, _⟩ | ⟨id', h1, h2, h3⟩
   · rw [h1] at hid; cases hid
   · rw [h1] at hid
     simp only [idOf, oI] at hid
     subst hid
     exact hlt h3
 · rintro r h' ⟨rfl, hP⟩ hF'
   obtain ⟨p1, p2, id, p3, p4, p5, p6⟩ := hP
   have keep : ∀ x : Id, x.1 ≤ h.ep → x ≠ F → idOf out ≠ some x → h'.hp x = h.hp x := fun x hx hxF hxo => (p2 x (Nat.le_trans hx hge) hxF hxo).trans (hg.2 x hx)
   have hne : ∀ {x : Id}, x.1 ≤ h.ep → x ≠ id := fun hx e => by rw [e] at hx; omega
   refine k h' (.sl id 0 (es ++ [⟨i, j, e.l, dist, e.w⟩] : List Edg).length 5) ⟨?_, ?_, ?_, ?_, ?_, ?_, ?_, hX.rF, hX.dF, hX.rd, ?_⟩ hF' ⟨Nat.le_trans hge p1, fun x hx hxF hxo => ⟨keep x hx hxF hxo, by simp only [idOf, ne_eq, oI]; exact Ne.symm (hne hx)⟩⟩
   · rw [p6]; rfl
   · rw [keep rid hX.er hX.rF (fun e => (hX.oF _ e).2.1 rfl)]; exact hX.rds
   · rw [keep did hX.ed hX.dF (fun e => (hX.oF _ e).2.2 rfl)]; exact hX.ds
   · exact .inr ⟨id, rfl, p5, p4⟩
   · exact Nat.le_trans (Nat.le_trans hX.eF hge) p1
   · exact Nat.le_trans (Nat.le_trans hX.er hge) p1
   · exact Nat.le_trans (Nat.le_trans hX.ed hge) p1
   · intro x hx
     simp only [idOf, oI] at hx
     subst hx
     exact ⟨Ne.symm (hne hX.eF), Ne.symm (hne hX.er), Ne.symm (hne hX.ed)⟩
theorem FinH.ext {h g : Hp} {F : Id} {l : List Opn} {t : Tab} {es : List Edg} {rid did : Id} {out : AV} (hX : FinH h F l t es rid did out) (hg : Ext h g) : FinH g F l t es rid did out :=
 ⟨(hg.2 _ hX.eF).trans hX.fin, (hg.2 _ hX.er).trans hX.rds, (hg.2 _ hX.ed).trans hX.ds, by
   rcases hX.outr with h1 | ⟨id, h1, h2, h3⟩
   · exact .inl h1
   · exact .inr ⟨id, h1, (hg.2 _ h3).trans h2, Nat.le_trans h3 hg.1⟩, Nat.le_trans hX.eF hg.1, Nat.le_trans hX.er hg.1, Nat.le_trans hX.ed hg.1, hX.rF, hX.dF, hX.rd, hX.oF⟩
theorem FS.ext {h0 h g : Hp} {F : Id} {o o1 : AV} (a : FS h0 F o h o1) (hg : Ext h g) : FS h0 F o g o1 :=
 ⟨Nat.le_trans a.1 hg.1, fun x hx hF ho => ⟨(hg.2 x (Nat.le_trans hx a.1)).trans (a.2 x hx hF ho).1, (a.2 x hx hF ho).2⟩⟩
def dS (o : Opn) : Int := if (wrS o).2 then (wrS o).1 else -1
theorem dS_at {l : List Opn} {k : Nat} (hk : k < l.length) : (l.flatMap dRow)[k]? = some (i64 (dS l[k])) := by
 induction l generalizing k with
 | nil => simp at hk
 | cons o l ih =>
   cases k with
   | zero => rfl
   | succ k => simpa [List.flatMap_cons, dRow] using ih (by simpa using hk)
def stS (o : Opn) : Bool := decide (o.k = 16)
def pairE (t : Tab) (a b : Opn) (i j : Int) (dist : Int) (meet : Bool) : List Edg :=
 (if 0 ≤ dS b ∧ seesS a (dS b) = true then [⟨i, j, 0, dist, 1⟩] else []) ++
 (if 0 ≤ dS b ∧ dS a = dS b then [⟨i, j, if latS t a - latS t b + 1 > 0 then latS t a - latS t b + 1 else 0, dist, 2⟩] else []) ++
 (if meet = true ∧ (stS a = true ∨ stS b = true) then [⟨i, j, if stS a = true ∧ stS b = true then 1 else if stS a = true then t.l 2 else 0, dist, 3⟩] else []) ++
 (if effS a = true ∧ effS b = true then [⟨i, j, 1, dist, 4⟩] else [])
theorem latS_ok {t : Tab} (ht : YK t) (o : Opn) : 1 ≤ latS t o ∧ latS t o ≤ 8 := by
 have := ht.1 _ (wY o)
 unfold okC at this
 unfold latS
 omega
theorem awp_cut {P : Program} {a b : ACode} {Q : AEx → St → Prop} {σ : St} (Mid : St → Prop) (h1 : awp P a (seqK P Mid Q) σ) (h2 : ∀ σ', Mid σ' → awp P b Q σ') : awp P (.seq a b) Q σ :=
 awp_seq_i (WH a (seqK P Mid Q) (seqK P (awp P b Q) Q) (fun e σ' hx => by
  cases e with
  | normal => exact h2 σ' hx
  | exit i => exact hx
  | ret => exact hx) σ h1)
def pair1 (a b : Opn) (i j dist : Int) : List Edg := if 0 ≤ dS b ∧ seesS a (dS b) = true then [⟨i, j, 0, dist, 1⟩] else []
def pair2 (t : Tab) (a b : Opn) (i j dist : Int) : List Edg := if 0 ≤ dS b ∧ dS a = dS b then [⟨i, j, if latS t a - latS t b + 1 > 0 then latS t a - latS t b + 1 else 0, dist, 2⟩] else []
def pair3 (t : Tab) (a b : Opn) (i j dist : Int) (meet : Bool) : List Edg := if meet = true ∧ (stS a = true ∨ stS b = true) then [⟨i, j, if stS a = true ∧ stS b = true then 1 else if stS a = true then t.l 2 else 0, dist, 3⟩] else []
def pair4 (a b : Opn) (i j dist : Int) : List Edg := if effS a = true ∧ effS b = true then [⟨i, j, 1, dist, 4⟩] else []
theorem pairE_eq (t : Tab) (a b : Opn) (i j dist : Int) (meet : Bool) : pairE t a b i j dist meet = pair1 a b i j dist ++ pair2 t a b i j dist ++ pair3 t a b i j dist meet ++ pair4 a b i j dist := rfl
theorem pair_lens (t : Tab) (a b : Opn) (i j dist : Int) (meet : Bool) : (pair1 a b i j dist).length ≤ 1 ∧ (pair2 t a b i j dist).length ≤ 1 ∧ (pair3 t a b i j dist meet).length ≤ 1 ∧ (pair4 a b i j dist).length ≤ 1 := by
 unfold pair1 pair2 pair3 pair4
 refine ⟨?_, ?_, ?_, ?_⟩ <;> split <;> simp
def M99 (h0 : Hp) (F : Id) (l : List Opn) (t : Tab) (rid did : Id) (out0 : AV) (i j : Nat) (dist : Int) (meet : Bool) (E : List Edg) (σ : St) : Prop :=
 ∃ out, σ.env 0 = .ptr F 0 ∧ σ.env 1 = i64 i ∧ σ.env 2 = i64 j ∧ σ.env 3 = i64 dist ∧ σ.env 4 = bl meet ∧ FinH σ.h F l t E rid did out ∧ FS h0 F out0 σ.h out
def M99b (h0 : Hp) (F : Id) (l : List Opn) (t : Tab) (rid did : Id) (out0 : AV) (i j : Nat) (dist : Int) (meet sa sb : Bool) (E : List Edg) (σ : St) : Prop :=
 ∃ out, σ.env 0 = .ptr F 0 ∧ σ.env 1 = i64 i ∧ σ.env 2 = i64 j ∧ σ.env 3 = i64 dist ∧ σ.env 4 = bl meet ∧ σ.env 10 = bl sa ∧ σ.env 11 = bl sb ∧ FinH σ.h F l t E rid did out ∧ FS h0 F out0 σ.h out
theorem es_yes {h : Hp} {F : Id} {l : List Opn} {t : Tab} {rid did : Id} {out : AV} {E E' : List Edg} (e : E = E') (hX : FinH h F l t E rid did out) : FinH h F l t E' rid did out := e ▸ hX
set_option maxHeartbeats 2000000 in
theorem f127 {h0 : Hp} {F : Id} {l : List Opn} {t : Tab} {es : List Edg} {rid did : Id} {out0 : AV} (hX : FinH h0 F l t es rid did out0) (i j : Nat) (hi : i < l.length) (hj : j < l.length) (dist : Int) (meet : Bool)
 (hl : ∀ o ∈ l, o.ok) (ht : YK t) (hn : es.length ≤ 10000000) :
 HC Try.prog 127 [.ptr F 0, i64 i, i64 j, i64 dist, bl meet] h0 fun r h' => r = .tup [] ∧ ∃ out', FinH h' F l t (es ++ pairE t l[i] l[j] i j dist meet) rid did out' ∧ FS h0 F out0 h' out' := by
 refine qJ qM cf127 (by simp) fun hF => ?_
 unfold ac127 re127
 refine yN fun env hE => ?_; obtain ⟨e0, e1, e2, e3, e4, e10, e11, e12⟩ := cj8 hE 0 1 2 3 4 10 11 12; simp -implicitDefEqProofs only [push_cast] at e0 e1 e2 e3 e4 e10 e11 e12; clear hE
 obtain ⟨Fe, Fs⟩ := F
 obtain ⟨re, rs⟩ := rid
 obtain ⟨de, ds⟩ := did
 have hai := dS_at hi
 have haj := dS_at hj
 have hri := wL hi .i64
 have hrj := wL hj .i64
 have l1 := latS_ok ht l[i]
 have l2 := latS_ok ht l[j]
 obtain ⟨n1, n2, n3, n4⟩ := pair_lens t l[i] l[j] i j dist meet
 rw [pairE_eq]
 have hX' := hX.ext (Ext.refl h0).tick
 have hS' := (FS.refl h0 (Fe, Fs) out0).ext (Ext.refl h0).tick
 generalize h0.tick = h at hX' hS' ⊢
 clear hX hF
 revert hX' hS'
 intro hX hS
 refine awp_cut (M99 h0 (Fe, Fs) l t (re, rs) (de, ds) out0 i j dist meet (es ++ pair1 l[i] l[j] i j dist)) ?_ ?_
 · refine yS fun hF => ?_
   have hb := hX.fin
   have hd := hX.ds
   have hFe : Fe ≤ h.ep := hX.eF
   have hde : de ≤ h.ep := hX.ed
   repeat' (first | ((try clear hf); with_reducible refine yD fun env K hE hK hf => ?_; have n := cj8 hE 0 1 2 3 4 10 11 12; simp -implicitDefEqProofs only [push_cast, reduceIte, Nat.reduceEqDiff, e0, e1, e2, e3, e4, e10, e11, e12] at n; clear hE e0 e1 e2 e3 e4 e10 e11 e12; obtain ⟨e0, e1, e2, e3, e4, e10, e11, e12⟩ := n) | (with_reducible first | (refine hK _ _ ?_; clear hK K) | (refine Zi ?_; constructor) | refine yB (by decide) ?_ | refine yH (by assumption) ?_ | refine yJ (by assumption) ?_) | (refine yC rfl ?_) | (simp -implicitDefEqProofs only [push_cast, sevalprocAttr, eq_self, e0, e1, e2, e3, e4, e10, e11, e12, hb, hd, hai, haj, hri, hrj, hF.at, WV, UZ, uL, WJ, uK, yV, op_0, yZ]) | (simp (disch := omega) only [yF, yK, yG, yL, hb, hd, hai, haj, hri, hrj, hF.at, WV, UZ, uL, WJ, uK, yV, op_0, yZ]) | (with_reducible refine yM ?_ ?_) | (refine yE rfl (fun bb => ?_) (fun bb => ?_) <;> simp only [bb]) | (with_reducible refine yI (fun bb => ?_) (fun bb => ?_)) | ((with_reducible refine And.intro ?_ ?_); omega) | (refine call_fin hX (by repeat (first | exact Ext.refl _ | refine Ext.tick ?_ | refine Ext.push ?_ (by omega) _ | refine Ext.put ?_ (by omega) _)) (fun o ho => f145 l t o ho i hi hl _) rfl ?_) | (refine UM (e := ⟨0, 0, 0, 0, 1⟩) hX (by repeat (first | exact Ext.refl _ | refine Ext.tick ?_ | refine Ext.push ?_ (by omega) _ | refine Ext.put ?_ (by omega) _)) (by simp -implicitDefEqProofs only [push_cast, sevalprocAttr, eq_self]; rfl) (by first | omega | (dsimp only; omega)) (by first | (simp -implicitDefEqProofs only [push_cast, sevalprocAttr, eq_self]; done) | (simp -implicitDefEqProofs only [push_cast, sevalprocAttr, eq_self]; omega)) (by first | omega | (simp only [List.length_append, List.length_cons, List.length_nil]; omega)) ?_; intro h out hX hF hs; replace hS := FS.trans hS hs; have hb := hX.fin; have hd := hX.ds; have hFe : Fe ≤ h.ep := hX.eF; have hde : de ≤ h.ep := hX.ed))
   all_goals
    refine ⟨_, by simp -implicitDefEqProofs only [push_cast, sevalprocAttr, eq_self, e0], by simp -implicitDefEqProofs only [push_cast, sevalprocAttr, eq_self, e1], by simp -implicitDefEqProofs only [push_cast, sevalprocAttr, eq_self, e2], by simp -implicitDefEqProofs only [push_cast, sevalprocAttr, eq_self, e3], by simp -implicitDefEqProofs only [push_cast, sevalprocAttr, eq_self, e4], es_yes ?_ (hX.ext (by repeat (first | exact Ext.refl _ | refine Ext.tick ?_ | refine Ext.push ?_ (by omega) _ | refine Ext.put ?_ (by omega) _))), hS.ext (by repeat (first | exact Ext.refl _ | refine Ext.tick ?_ | refine Ext.push ?_ (by omega) _ | refine Ext.put ?_ (by omega) _))⟩
    (try clear hf); (try clear e0 e1 e2 e3 e4 e10 e11 e12)
    unfold pair1
    (try simp only [decide_eq_true_eq, decide_eq_false_iff_not, Bool.not_eq_true] at *)
    first | (simp [*]; done) | (simp_all; done)
 rintro ⟨env, h⟩ ⟨out, e0, e1, e2, e3, e4, hX, hS⟩
 simp only at e0 e1 e2 e3 e4 hX hS
 have e10 : True := trivial; have e11 : True := trivial; have e12 : True := trivial
 refine awp_cut (M99 h0 (Fe, Fs) l t (re, rs) (de, ds) out0 i j dist meet (es ++ pair1 l[i] l[j] i j dist ++ pair2 t l[i] l[j] i j dist)) ?_ ?_
 · refine yS fun hF => ?_
   have hb := hX.fin
   have hd := hX.ds
   have hFe : Fe ≤ h.ep := hX.eF
   have hde : de ≤ h.ep := hX.ed
   repeat' (first | ((try clear hf); with_reducible refine yD fun env K hE hK hf => ?_; have n := cj8 hE 0 1 2 3 4 10 11 12; simp -implicitDefEqProofs only [push_cast, reduceIte, Nat.reduceEqDiff, e0, e1, e2, e3, e4, e10, e11, e12] at n; clear hE e0 e1 e2 e3 e4 e10 e11 e12; obtain ⟨e0, e1, e2, e3, e4, e10, e11, e12⟩ := n) | (with_reducible first | (refine hK _ _ ?_; clear hK K) | (refine Zi ?_; constructor) | refine yB (by decide) ?_ | refine yH (by assumption) ?_ | refine yJ (by assumption) ?_) | (refine yC rfl ?_) | (simp -implicitDefEqProofs only [push_cast, sevalprocAttr, eq_self, e0, e1, e2, e3, e4, e10, e11, e12, hb, hd, hai, haj, hri, hrj, hF.at, WV, UZ, uL, WJ, uK, yV, op_0, yZ]) | (simp (disch := omega) only [yF, yK, yG, yL, hb, hd, hai, haj, hri, hrj, hF.at, WV, UZ, uL, WJ, uK, yV, op_0, yZ]) | (with_reducible refine yM ?_ ?_) | (refine yE rfl (fun bb => ?_) (fun bb => ?_) <;> simp only [bb]) | (with_reducible refine yI (fun bb => ?_) (fun bb => ?_)) | ((with_reducible refine And.intro ?_ ?_); omega) | (refine call_fin hX (by repeat (first | exact Ext.refl _ | refine Ext.tick ?_ | refine Ext.push ?_ (by omega) _ | refine Ext.put ?_ (by omega) _)) (fun o ho => f126 l t o ho i hi) rfl ?_) | (refine call_fin hX (by repeat (first | exact Ext.refl _ | refine Ext.tick ?_ | refine Ext.push ?_ (by omega) _ | refine Ext.put ?_ (by omega) _)) (fun o ho => f126 l t o ho j hj) rfl ?_) | (refine UM (e := ⟨0, 0, if latS t l[i] - latS t l[j] + 1 > 0 then latS t l[i] - latS t l[j] + 1 else 0, 0, 2⟩) hX (by repeat (first | exact Ext.refl _ | refine Ext.tick ?_ | refine Ext.push ?_ (by omega) _ | refine Ext.put ?_ (by omega) _)) (by simp -implicitDefEqProofs only [push_cast, sevalprocAttr, eq_self]; rfl) (by first | omega | (dsimp only; omega)) (by first | (simp -implicitDefEqProofs only [push_cast, sevalprocAttr, eq_self]; done) | (simp -implicitDefEqProofs only [push_cast, sevalprocAttr, eq_self]; omega)) (by first | omega | (simp only [List.length_append, List.length_cons, List.length_nil]; omega)) ?_; intro h out hX hF hs; replace hS := FS.trans hS hs; have hb := hX.fin; have hd := hX.ds; have hFe : Fe ≤ h.ep := hX.eF; have hde : de ≤ h.ep := hX.ed))
   all_goals
    refine ⟨_, by simp -implicitDefEqProofs only [push_cast, sevalprocAttr, eq_self, e0], by simp -implicitDefEqProofs only [push_cast, sevalprocAttr, eq_self, e1], by simp -implicitDefEqProofs only [push_cast, sevalprocAttr, eq_self, e2], by simp -implicitDefEqProofs only [push_cast, sevalprocAttr, eq_self, e3], by simp -implicitDefEqProofs only [push_cast, sevalprocAttr, eq_self, e4], es_yes ?_ (hX.ext (by repeat (first | exact Ext.refl _ | refine Ext.tick ?_ | refine Ext.push ?_ (by omega) _ | refine Ext.put ?_ (by omega) _))), hS.ext (by repeat (first | exact Ext.refl _ | refine Ext.tick ?_ | refine Ext.push ?_ (by omega) _ | refine Ext.put ?_ (by omega) _))⟩
    (try clear hf); (try clear e0 e1 e2 e3 e4 e10 e11 e12)
    unfold pair2
    (try simp only [decide_eq_true_eq, decide_eq_false_iff_not, Bool.not_eq_true] at *)
    first | (simp [*]; done) | (simp_all; done)
 rintro ⟨env, h⟩ ⟨out, e0, e1, e2, e3, e4, hX, hS⟩
 simp only at e0 e1 e2 e3 e4 hX hS
 have e10 : True := trivial; have e11 : True := trivial; have e12 : True := trivial
 refine awp_cut (M99b h0 (Fe, Fs) l t (re, rs) (de, ds) out0 i j dist meet (stS l[i]) (stS l[j]) (es ++ pair1 l[i] l[j] i j dist ++ pair2 t l[i] l[j] i j dist)) ?_ ?_
 · have hb := hX.fin
   have hd := hX.ds
   repeat' (first | ((try clear hf); with_reducible refine yD fun env K hE hK hf => ?_; have n := cj8 hE 0 1 2 3 4 10 11 12; simp -implicitDefEqProofs only [push_cast, reduceIte, Nat.reduceEqDiff, e0, e1, e2, e3, e4, e10, e11, e12] at n; clear hE e0 e1 e2 e3 e4 e10 e11 e12; obtain ⟨e0, e1, e2, e3, e4, e10, e11, e12⟩ := n) | (with_reducible first | (refine hK _ _ ?_; clear hK K) | (refine Zi ?_; constructor) | refine yB (by decide) ?_ | refine yH (by assumption) ?_ | refine yJ (by assumption) ?_) | (refine yC rfl ?_) | (simp -implicitDefEqProofs only [push_cast, sevalprocAttr, eq_self, e0, e1, e2, e3, e4, e10, e11, e12, hb, hd, hai, haj, hri, hrj, WV, UZ, uL, WJ, uK, yV, op_0, yZ]) | (simp (disch := omega) only [yF, yK, yG, yL, hb, hd, hai, haj, hri, hrj, WV, UZ, uL, WJ, uK, yV, op_0, yZ]) | (with_reducible refine yM ?_ ?_) | (refine yE rfl (fun bb => ?_) (fun bb => ?_) <;> simp only [bb]) | (with_reducible refine yI (fun bb => ?_) (fun bb => ?_)) | ((with_reducible refine And.intro ?_ ?_); omega))
   exact ⟨_, by simp -implicitDefEqProofs only [push_cast, sevalprocAttr, eq_self, e0], by simp -implicitDefEqProofs only [push_cast, sevalprocAttr, eq_self, e1], by simp -implicitDefEqProofs only [push_cast, sevalprocAttr, eq_self, e2], by simp -implicitDefEqProofs only [push_cast, sevalprocAttr, eq_self, e3], by simp -implicitDefEqProofs only [push_cast, sevalprocAttr, eq_self, e4], by simp -implicitDefEqProofs only [push_cast, sevalprocAttr, eq_self]; rfl, by simp -implicitDefEqProofs only [push_cast, sevalprocAttr, eq_self]; rfl, hX.ext (by repeat (first | exact Ext.refl _ | refine Ext.tick ?_ | refine Ext.push ?_ (by omega) _ | refine Ext.put ?_ (by omega) _)), hS.ext (by repeat (first | exact Ext.refl _ | refine Ext.tick ?_ | refine Ext.push ?_ (by omega) _ | refine Ext.put ?_ (by omega) _))⟩
 rintro ⟨env, h⟩ ⟨out, e0, e1, e2, e3, e4, e10, e11, hX, hS⟩
 simp only at e0 e1 e2 e3 e4 e10 e11 hX hS
 have e12 : True := trivial
 refine awp_cut (M99 h0 (Fe, Fs) l t (re, rs) (de, ds) out0 i j dist meet (es ++ pair1 l[i] l[j] i j dist ++ pair2 t l[i] l[j] i j dist ++ pair3 t l[i] l[j] i j dist meet)) ?_ ?_
 · refine yS fun hF => ?_
   have hb := hX.fin
   have hd := hX.ds
   have hFe : Fe ≤ h.ep := hX.eF
   have hde : de ≤ h.ep := hX.ed
   repeat' (first | ((try clear hf); with_reducible refine yD fun env K hE hK hf => ?_; have n := cj8 hE 0 1 2 3 4 10 11 12; simp -implicitDefEqProofs only [push_cast, reduceIte, Nat.reduceEqDiff, e0, e1, e2, e3, e4, e10, e11, e12] at n; clear hE e0 e1 e2 e3 e4 e10 e11 e12; obtain ⟨e0, e1, e2, e3, e4, e10, e11, e12⟩ := n) | (with_reducible first | (refine hK _ _ ?_; clear hK K) | (refine Zi ?_; constructor) | refine yB (by decide) ?_ | refine yH (by assumption) ?_ | refine yJ (by assumption) ?_) | (refine yC rfl ?_) | (simp -implicitDefEqProofs only [push_cast, sevalprocAttr, eq_self, e0, e1, e2, e3, e4, e10, e11, e12, hb, hd, hai, haj, hri, hrj, hF.at, WV, UZ, uL, WJ, uK, yV, op_0, yZ]) | (simp (disch := omega) only [yF, yK, yG, yL, hb, hd, hai, haj, hri, hrj, hF.at, WV, UZ, uL, WJ, uK, yV, op_0, yZ]) | (with_reducible refine yM ?_ ?_) | (refine yE rfl (fun bb => ?_) (fun bb => ?_) <;> simp only [bb]) | (with_reducible refine yI (fun bb => ?_) (fun bb => ?_)) | ((with_reducible refine And.intro ?_ ?_); omega) | (refine UM (e := ⟨0, 0, 1, 0, 3⟩) hX (by repeat (first | exact Ext.refl _ | refine Ext.tick ?_ | refine Ext.push ?_ (by omega) _ | refine Ext.put ?_ (by omega) _)) (by simp -implicitDefEqProofs only [push_cast, sevalprocAttr, eq_self]; rfl) (by first | omega | (dsimp only; omega)) (by first | (simp -implicitDefEqProofs only [push_cast, sevalprocAttr, eq_self]; done) | (simp -implicitDefEqProofs only [push_cast, sevalprocAttr, eq_self]; omega)) (by first | omega | (simp only [List.length_append, List.length_cons, List.length_nil]; omega)) ?_; intro h out hX hF hs; replace hS := FS.trans hS hs; have hb := hX.fin; have hd := hX.ds; have hFe : Fe ≤ h.ep := hX.eF; have hde : de ≤ h.ep := hX.ed) | (refine UM (e := ⟨0, 0, t.l 2, 0, 3⟩) hX (by repeat (first | exact Ext.refl _ | refine Ext.tick ?_ | refine Ext.push ?_ (by omega) _ | refine Ext.put ?_ (by omega) _)) (by simp -implicitDefEqProofs only [push_cast, sevalprocAttr, eq_self]; rfl) (by first | omega | (dsimp only; omega)) (by first | (simp -implicitDefEqProofs only [push_cast, sevalprocAttr, eq_self]; done) | (simp -implicitDefEqProofs only [push_cast, sevalprocAttr, eq_self]; omega)) (by first | omega | (simp only [List.length_append, List.length_cons, List.length_nil]; omega)) ?_; intro h out hX hF hs; replace hS := FS.trans hS hs; have hb := hX.fin; have hd := hX.ds; have hFe : Fe ≤ h.ep := hX.eF; have hde : de ≤ h.ep := hX.ed) | (refine UM (e := ⟨0, 0, 0, 0, 3⟩) hX (by repeat (first | exact Ext.refl _ | refine Ext.tick ?_ | refine Ext.push ?_ (by omega) _ | refine Ext.put ?_ (by omega) _)) (by simp -implicitDefEqProofs only [push_cast, sevalprocAttr, eq_self]; rfl) (by first | omega | (dsimp only; omega)) (by first | (simp -implicitDefEqProofs only [push_cast, sevalprocAttr, eq_self]; done) | (simp -implicitDefEqProofs only [push_cast, sevalprocAttr, eq_self]; omega)) (by first | omega | (simp only [List.length_append, List.length_cons, List.length_nil]; omega)) ?_; intro h out hX hF hs; replace hS := FS.trans hS hs; have hb := hX.fin; have hd := hX.ds; have hFe : Fe ≤ h.ep := hX.eF; have hde : de ≤ h.ep := hX.ed))
   all_goals
    refine ⟨_, by simp -implicitDefEqProofs only [push_cast, sevalprocAttr, eq_self, e0], by simp -implicitDefEqProofs only [push_cast, sevalprocAttr, eq_self, e1], by simp -implicitDefEqProofs only [push_cast, sevalprocAttr, eq_self, e2], by simp -implicitDefEqProofs only [push_cast, sevalprocAttr, eq_self, e3], by simp -implicitDefEqProofs only [push_cast, sevalprocAttr, eq_self, e4], es_yes ?_ (hX.ext (by repeat (first | exact Ext.refl _ | refine Ext.tick ?_ | refine Ext.push ?_ (by omega) _ | refine Ext.put ?_ (by omega) _))), hS.ext (by repeat (first | exact Ext.refl _ | refine Ext.tick ?_ | refine Ext.push ?_ (by omega) _ | refine Ext.put ?_ (by omega) _))⟩
    (try clear hf); (try clear e0 e1 e2 e3 e4 e10 e11 e12)
    unfold pair3
    (try simp only [decide_eq_true_eq, decide_eq_false_iff_not, Bool.not_eq_true] at *)
    first | (simp [*]; done) | (simp_all; done)
 rintro ⟨env, h⟩ ⟨out, e0, e1, e2, e3, e4, hX, hS⟩
 simp only at e0 e1 e2 e3 e4 hX hS
 have e10 : True := trivial; have e11 : True := trivial; have e12 : True := trivial
 refine yS fun hF => ?_
 have hb := hX.fin
 have hd := hX.ds
 have hFe : Fe ≤ h.ep := hX.eF
 have hde : de ≤ h.ep := hX.ed
 repeat' (first | ((try clear hf); with_reducible refine yD fun env K hE hK hf => ?_; have n := cj8 hE 0 1 2 3 4 10 11 12; simp -implicitDefEqProofs only [push_cast, reduceIte, Nat.reduceEqDiff, e0, e1, e2, e3, e4, e10, e11, e12] at n; clear hE e0 e1 e2 e3 e4 e10 e11 e12; obtain ⟨e0, e1, e2, e3, e4, e10, e11, e12⟩ := n) | (with_reducible first | (refine hK _ _ ?_; clear hK K) | (refine Zi ?_; constructor) | refine yB (by decide) ?_ | refine yH (by assumption) ?_ | refine yJ (by assumption) ?_) | (refine yC rfl ?_) | (simp -implicitDefEqProofs only [push_cast, sevalprocAttr, eq_self, e0, e1, e2, e3, e4, e10, e11, e12, hb, hd, hai, haj, hri, hrj, hF.at, WV, UZ, uL, WJ, uK, yV, op_0, yZ]) | (simp (disch := omega) only [yF, yK, yG, yL, hb, hd, hai, haj, hri, hrj, hF.at, WV, UZ, uL, WJ, uK, yV, op_0, yZ]) | (with_reducible refine yM ?_ ?_) | (refine yE rfl (fun bb => ?_) (fun bb => ?_) <;> simp only [bb]) | (with_reducible refine yI (fun bb => ?_) (fun bb => ?_)) | ((with_reducible refine And.intro ?_ ?_); omega) | (refine yO (f146 _) ?_) | (refine UM (e := ⟨0, 0, 1, 0, 4⟩) hX (by repeat (first | exact Ext.refl _ | refine Ext.tick ?_ | refine Ext.push ?_ (by omega) _ | refine Ext.put ?_ (by omega) _)) (by simp -implicitDefEqProofs only [push_cast, sevalprocAttr, eq_self]; rfl) (by first | omega | (dsimp only; omega)) (by first | (simp -implicitDefEqProofs only [push_cast, sevalprocAttr, eq_self]; done) | (simp -implicitDefEqProofs only [push_cast, sevalprocAttr, eq_self]; omega)) (by first | omega | (simp only [List.length_append, List.length_cons, List.length_nil]; omega)) ?_; intro h out hX hF hs; replace hS := FS.trans hS hs; have hb := hX.fin; have hd := hX.ds; have hFe : Fe ≤ h.ep := hX.eF; have hde : de ≤ h.ep := hX.ed))
 all_goals
  refine ⟨_, es_yes ?_ (hX.ext (by repeat (first | exact Ext.refl _ | refine Ext.tick ?_ | refine Ext.push ?_ (by omega) _ | refine Ext.put ?_ (by omega) _))), hS.ext (by repeat (first | exact Ext.refl _ | refine Ext.tick ?_ | refine Ext.push ?_ (by omega) _ | refine Ext.put ?_ (by omega) _))⟩
  (try clear hf); (try clear e0 e1 e2 e3 e4 e10 e11 e12)
  unfold pair4
  (try simp only [decide_eq_true_eq, decide_eq_false_iff_not, Bool.not_eq_true] at *)
  simp [*]
theorem call_fin2 {P : Program} {d : Option Nat} {K : St → Prop} {env : Nat → AV} {h g : Hp} {fn : Nat} {F : Id} {l : List Opn} {t : Tab} {es : List Edg} {rid did : Id} {out : AV} {args args' : List AV} {v : Value} (hX : FinH h F l t es rid did out) (hg : Ext h g)
 (hi : mapO (lend YW g) args = some args') (hv : ∀ o, imm o = true → HV P fn (.ip (finA l t o) :: args') (.lit v)) (k : K ⟨putA env d (.lit v), g.tick⟩) : qB P d K env g false (.fn fn []) (.ptr F 0 :: args) := by
 obtain ⟨o', hi', hl⟩ := lend_fin hX hg
 refine kI (args' := .ip (finA l t o') :: args') ?_ (hv o' hi') rfl k
 rw [List.append_nil, mapO_cons, hl, hi]
 rfl
theorem call_pair {d : Option Nat} {K : St → Prop} {env : Nat → AV} {h g : Hp} {F : Id} {l : List Opn} {t : Tab} {es : List Edg} {rid did : Id} {out : AV} {dist : Int} {meet : Bool} {i j : Nat} (hX : FinH h F l t es rid did out) (hg : Ext h g)
 (hi : i < l.length) (hj : j < l.length) (hl : ∀ o ∈ l, o.ok) (ht : YK t) (hn : es.length ≤ 10000000)
 (k : ∀ h' out', FinH h' F l t (es ++ pairE t l[i] l[j] i j dist meet) rid did out' → qY h' → FS h F out h' out' → K ⟨putA env d (.tup []), h'.tick⟩) :
 qB Try.prog d K env g false (.fn 127 []) [.ptr F 0, i64 i, i64 j, i64 dist, bl meet] := by
 refine qH (HC.mono (f127 (hX.ext hg) i j hi hj dist meet hl ht hn) ?_)
 rintro r h' ⟨rfl, out', h1, h2⟩ hF
 refine k h' out' h1 hF (FS.trans ((FS.refl h F out).ext hg) h2)
def opAt (l : List Opn) (j : Nat) : Opn := l.getD j ⟨0, 0, 0, 0, 0⟩
theorem uI {l : List Opn} {j : Nat} (hj : j < l.length) : l[j] = opAt l j := by simp [opAt, hj]
def uV (l : List Opn) : Nat → Nat → Int
 | 0, _ => 0
 | j + 1, r => if 0 ≤ dS (opAt l j) ∧ r = (dS (opAt l j)).toNat then (j : Int) + 1 else uV l j r
def ijE (l : List Opn) (t : Tab) (i j : Nat) : List Edg :=
 (if fromS (uV l j) (opAt l j) i = true then [⟨i, j, latS t (opAt l i), 0, 0⟩] else []) ++ pairE t (opAt l i) (opAt l j) i j 0 (meetS (opAt l i) (opAt l j) ((l.drop i).take (j - i)))
def toE (l : List Opn) (t : Tab) (j : Nat) : Nat → List Edg
 | 0 => []
 | i + 1 => toE l t j i ++ ijE l t i j
def YP (l : List Opn) (t : Tab) : Nat → List Edg
 | 0 => []
 | j + 1 => YP l t j ++ toE l t j j
theorem ijE_len (l : List Opn) (t : Tab) (i j : Nat) : (ijE l t i j).length ≤ 5 := by
 have := pair_lens t (opAt l i) (opAt l j) i j 0 (meetS (opAt l i) (opAt l j) ((l.drop i).take (j - i)))
 unfold ijE
 rw [pairE_eq]
 simp only [List.length_append]
 split <;> simp <;> omega
theorem toE_len (l : List Opn) (t : Tab) (j : Nat) : ∀ i, (toE l t j i).length ≤ 5 * i
 | 0 => by simp [toE]
 | i + 1 => by
   have := toE_len l t j i
   have := ijE_len l t i j
   simp only [toE, List.length_append]; omega
theorem uZ (l : List Opn) (t : Tab) (n : Nat) : ∀ j, j ≤ n → (YP l t j).length ≤ 5 * n * j
 | 0, _ => by simp [YP]
 | j + 1, h => by
   have h1 := uZ l t n j (by omega)
   have h2 := toE_len l t j j
   simp only [YP, List.length_append]
   have : 5 * n * (j + 1) = 5 * n * j + 5 * n := by rw [Nat.mul_add, Nat.mul_one]
   omega
theorem WO (L : Nat → Int) : (WF L).length = 32 := by simp [WF]
theorem lastC_put (L : Nat → Int) {k : Nat} (hk : k < 32) (v : Int) : (WF L).take k ++ [i64 v] ++ (WF L).drop (k + 1) = WF fun r => if r = k then v else L r := by
 apply List.ext_getElem?
 intro r
 by_cases hr : r < 32
 · rw [lastC_at _ hr]
   by_cases h1 : r < k
   · rw [List.append_assoc, List.getElem?_append_left (by simp [WO]; omega), List.getElem?_take, if_pos h1, lastC_at _ hr, if_neg (by omega)]
   · rw [List.append_assoc, List.getElem?_append_right (by simp [WO]; omega)]
     by_cases h2 : r = k
     · subst h2; simp [WO, Nat.min_eq_left (Nat.le_of_lt hk)]
     · rw [if_neg h2, List.getElem?_append_right (by simp [WO]; omega), List.getElem?_drop]
       simp only [List.length_take, WO, List.length_cons, List.length_nil]
       rw [show k + 1 + (r - min k 32 - (0 + 1)) = r from by omega, lastC_at _ hr]
 · rw [List.getElem?_eq_none (by simp [WO]; omega), List.getElem?_eq_none (by simp [WO]; omega)]
theorem dS_lt {o : Opn} (ho : o.ok) : -1 ≤ dS o ∧ dS o ≤ 31 := by
 unfold Opn.ok at ho
 by_cases h : (ofS o.k).d = true ∧ chkE o = 0
 · have := chkE_regs h.2
   simp only [dS, wrS, if_pos h, if_true]; omega
 · simp only [dS, wrS, if_neg h]; simp
theorem FinH.putL {h : Hp} {F : Id} {l : List Opn} {t : Tab} {es : List Edg} {rid did L : Id} {out : AV} (hX : FinH h F l t es rid did out) (c : List AV) (h1 : L ≠ F) (h2 : L ≠ rid) (h3 : L ≠ did) (h4 : idOf out ≠ some L) : FinH (h.put L c) F l t es rid did out :=
 ⟨(YD _ _ _ _ (Ne.symm h1)).trans hX.fin, (YD _ _ _ _ (Ne.symm h2)).trans hX.rds, (YD _ _ _ _ (Ne.symm h3)).trans hX.ds, by
   rcases hX.outr with g1 | ⟨id, g1, g2, g3⟩
   · exact .inl g1
   · exact .inr ⟨id, g1, (YD _ _ _ _ (fun e => h4 (by rw [g1, ← e]; rfl))).trans g2, g3⟩, hX.eF, hX.er, hX.ed, hX.rF, hX.dF, hX.rd, hX.oF⟩
theorem FS.putL {h0 h : Hp} {F L : Id} {o o1 : AV} (a : FS h0 F o h o1) (hL : h0.ep < L.1) (c : List AV) : FS h0 F o (h.put L c) o1 :=
 ⟨a.1, fun x hx hF ho => ⟨(YD _ _ _ _ (fun e => by rw [e] at hx; omega)).trans (a.2 x hx hF ho).1, (a.2 x hx hF ho).2⟩⟩
theorem FinH.tick {h : Hp} {F : Id} {l : List Opn} {t : Tab} {es : List Edg} {rid did : Id} {out : AV} (hX : FinH h F l t es rid did out) : FinH h.tick F l t es rid did out := hX.ext (Ext.refl h).tick
def I66a (h0 : Hp) (F : Id) (l : List Opn) (t : Tab) (rid did : Id) (out0 : AV) (L : Id) (j : Nat) (n : Nat) (σ : St) : Prop := ∃ (i : Nat) (out : AV), i ≤ j ∧ n = j - i ∧ σ.env 0 = .ptr F 0 ∧ σ.env 2 = .ptr L 0 ∧ σ.env 3 = i64 j ∧ σ.env 9 = i64 l.length ∧ σ.env 10 = i64 j ∧ σ.env 13 = i64 j ∧ σ.env 14 = i64 i ∧
 FinH σ.h F l t (YP l t j ++ toE l t j i) rid did out ∧ FS h0 F out0 σ.h out ∧ idOf out ≠ some L ∧ σ.h.hp L = some ⟨true, WF (uV l j)⟩ ∧ L.1 ≤ σ.h.ep
def I66b (h0 : Hp) (F : Id) (l : List Opn) (t : Tab) (rid did : Id) (out0 : AV) (L : Id) (n : Nat) (σ : St) : Prop := ∃ (j : Nat) (out : AV), j ≤ l.length ∧ n = l.length - j ∧ σ.env 0 = .ptr F 0 ∧ σ.env 2 = .ptr L 0 ∧ σ.env 9 = i64 l.length ∧ σ.env 10 = i64 j ∧
 FinH σ.h F l t (YP l t j) rid did out ∧ FS h0 F out0 σ.h out ∧ idOf out ≠ some L ∧ σ.h.hp L = some ⟨true, WF (uV l j)⟩ ∧ L.1 ≤ σ.h.ep
set_option maxHeartbeats 1000000 in
theorem f112 {h0 : Hp} {F : Id} {l : List Opn} {t : Tab} {rid did : Id} {out0 : AV} (hX : FinH h0 F l t [] rid did out0) (ho0 : ∀ x, idOf out0 = some x → x.1 ≤ h0.ep) (hl : ∀ o ∈ l, o.ok) (ht : YK t) (hn : l.length ≤ 1024) :
 HC Try.prog 112 [.ptr F 0] h0 fun r h' => r = .tup [] ∧ ∃ out', FinH h' F l t (YP l t l.length) rid did out' ∧ FS h0 F out0 h' out' := by
 refine qJ qM cf112 (by simp) fun hF => ?_
 unfold ac112 re112
 refine yN fun env hE => ?_; obtain ⟨e0, e2, e3, e4, e9, e10, e11, e13, e14, e15⟩ := cj10 hE 0 2 3 4 9 10 11 13 14 15; simp -implicitDefEqProofs only [push_cast] at e0 e2 e3 e4 e9 e10 e11 e13 e14 e15; clear hE
 obtain ⟨Fe, Fs⟩ := F
 obtain ⟨re, rs⟩ := rid
 obtain ⟨de, ds⟩ := did
 have hb := hX.fin
 have hFe : Fe ≤ h0.ep := hX.eF
 repeat' (first | ((try clear hf); with_reducible refine yD fun env K hE hK hf => ?_; have n := cj10 hE 0 2 3 4 9 10 11 13 14 15; simp -implicitDefEqProofs only [push_cast, reduceIte, Nat.reduceEqDiff, e0, e2, e3, e4, e9, e10, e11, e13, e14, e15] at n; clear hE e0 e2 e3 e4 e9 e10 e11 e13 e14 e15; obtain ⟨e0, e2, e3, e4, e9, e10, e11, e13, e14, e15⟩ := n) | (with_reducible first | (refine hK _ _ ?_; clear hK K) | (refine Zi ?_; constructor) | refine yB (by decide) ?_ | refine yH (by assumption) ?_ | refine yJ (by assumption) ?_) | (refine yC rfl ?_) | (simp -implicitDefEqProofs only [push_cast, sevalprocAttr, eq_self, e0, e2, e3, e4, e9, e10, e11, e13, e14, e15, hb, hF.at, WV, qD]) | (simp (disch := omega) only [yF, yK, yG, yL, hb, hF.at, WV, qD]) | (with_reducible refine yM ?_ ?_) | (refine yE rfl (fun bb => ?_) (fun bb => ?_) <;> simp only [bb]) | (with_reducible refine yI (fun bb => ?_) (fun bb => ?_)) | ((with_reducible refine And.intro ?_ ?_); omega))
 generalize hL0 : (h0.ep + 1 + 1, 2) = L
 have hLF : L ≠ (Fe, Fs) := by rw [← hL0]; intro e; cases e; omega
 have hre : re ≤ h0.ep := hX.er
 have hde0 : de ≤ h0.ep := hX.ed
 have hLr : L ≠ (re, rs) := by rw [← hL0]; intro e; cases e; omega
 have hLd : L ≠ (de, ds) := by rw [← hL0]; intro e; cases e; omega
 have hLe : h0.ep < L.1 := by rw [← hL0]; show h0.ep < h0.ep + 1 + 1; omega
 refine qC (I66b h0 (Fe, Fs) l t (re, rs) (de, ds) out0 L) l.length ⟨0, out0, by omega, by omega, by simp -implicitDefEqProofs only [push_cast, sevalprocAttr, eq_self, e0], by simp -implicitDefEqProofs only [push_cast, sevalprocAttr, eq_self, e2, hL0], by simp -implicitDefEqProofs only [push_cast, sevalprocAttr, eq_self], by simp -implicitDefEqProofs only [push_cast, sevalprocAttr, eq_self], ?_, ?_, ?_, ?_, ?_⟩ ?_
 · rw [← hL0]; exact hX.ext (by repeat (first | exact Ext.refl _ | refine Ext.tick ?_ | refine Ext.push ?_ (by omega) _ | refine Ext.put ?_ (by omega) _))
 · rw [← hL0]; exact (FS.refl h0 (Fe, Fs) out0).ext (by repeat (first | exact Ext.refl _ | refine Ext.tick ?_ | refine Ext.push ?_ (by omega) _ | refine Ext.put ?_ (by omega) _))
 · intro e; have := ho0 _ e; rw [← hL0] at this; simp at this; omega
 · rw [← hL0]; simp -implicitDefEqProofs only [push_cast, sevalprocAttr, eq_self]; rfl
 · rw [← hL0]; simp -implicitDefEqProofs only [push_cast, sevalprocAttr, eq_self]; omega
 clear hX hb hF hFe hL0
 rintro n ⟨env, h⟩ ⟨j, out, hj', rfl, e0, e2, e9, e10, hX, hS, hLo, hL, eL⟩
 simp only at e0 e2 e9 e10 hX hS hL eL
 have e3 : True := trivial; have e4 : True := trivial; have e11 : True := trivial; have e13 : True := trivial; have e14 : True := trivial; have e15 : True := trivial
 unfold l112_1
 refine yS fun hF => ?_
 by_cases hj : j < l.length
 · have hdj : decide ((j : Int) < (l.length : Int)) = true := by simp; omega
   repeat' (first | ((try clear hf); with_reducible refine yD fun env K hE hK hf => ?_; have n := cj10 hE 0 2 3 4 9 10 11 13 14 15; simp -implicitDefEqProofs only [push_cast, reduceIte, Nat.reduceEqDiff, e0, e2, e3, e4, e9, e10, e11, e13, e14, e15] at n; clear hE e0 e2 e3 e4 e9 e10 e11 e13 e14 e15; obtain ⟨e0, e2, e3, e4, e9, e10, e11, e13, e14, e15⟩ := n) | (with_reducible first | (refine hK _ _ ?_; clear hK K) | (refine Zi ?_; constructor) | refine yB (by decide) ?_ | refine yH (by assumption) ?_ | refine yJ (by assumption) ?_) | (refine yC rfl ?_) | (simp -implicitDefEqProofs only [push_cast, sevalprocAttr, eq_self, e0, e2, e3, e4, e9, e10, e11, e13, e14, e15, hdj]) | (simp (disch := omega) only [yF, yK, yG, yL, hdj]) | (with_reducible refine yM ?_ ?_) | (refine yE rfl (fun bb => ?_) (fun bb => ?_) <;> simp only [bb]) | (with_reducible refine yI (fun bb => ?_) (fun bb => ?_)) | ((with_reducible refine And.intro ?_ ?_); omega))
   have hlc : ∀ h, mapO (lend 7 h) (WF (uV l j)) = some (WF (uV l j)) := fun h => wA (lastC_imms _)
   have hol := uZ l t l.length j hj'
   have hmul : 5 * l.length * j ≤ 5 * 1024 * 1024 := Nat.mul_le_mul (by omega) (by omega)
   refine qC (I66a h0 (Fe, Fs) l t (re, rs) (de, ds) out0 L j) j ⟨0, out, by omega, by omega, by simp -implicitDefEqProofs only [push_cast, sevalprocAttr, eq_self, e0], by simp -implicitDefEqProofs only [push_cast, sevalprocAttr, eq_self, e2], by simp -implicitDefEqProofs only [push_cast, sevalprocAttr, eq_self, e3], by simp -implicitDefEqProofs only [push_cast, sevalprocAttr, eq_self, e9], by simp -implicitDefEqProofs only [push_cast, sevalprocAttr, eq_self, e10], by simp -implicitDefEqProofs only [push_cast, sevalprocAttr, eq_self], by simp -implicitDefEqProofs only [push_cast, sevalprocAttr, eq_self], es_yes (by simp [toE]) (hX.ext (by repeat (first | exact Ext.refl _ | refine Ext.tick ?_ | refine Ext.push ?_ (by omega) _ | refine Ext.put ?_ (by omega) _))), hS.ext (by repeat (first | exact Ext.refl _ | refine Ext.tick ?_ | refine Ext.push ?_ (by omega) _ | refine Ext.put ?_ (by omega) _)), hLo, by simp -implicitDefEqProofs only [push_cast, sevalprocAttr, eq_self, hL], by simp -implicitDefEqProofs only [push_cast, sevalprocAttr, eq_self]; omega⟩ ?_
   clear hX hS hLo hL eL hF
   rintro n ⟨env, h⟩ ⟨i, out, hij', rfl, e0, e2, e3, e9, e10, e13, e14, hX, hS, hLo, hL, eL⟩
   simp only at e0 e2 e3 e9 e10 e13 e14 hX hS hL eL
   have e4 : True := trivial; have e11 : True := trivial; have e15 : True := trivial
   unfold l112_0
   refine yS fun hF => ?_
   have hb := hX.fin
   have hd := hX.ds
   have hFe : Fe ≤ h.ep := hX.eF
   have hde : de ≤ h.ep := hX.ed
   have hlen := toE_len l t j i
   have hlen2 : (YP l t j ++ toE l t j i).length ≤ 6000000 := by rw [List.length_append]; omega
   by_cases hij : i < j
   · have hdi : decide ((i : Int) < (j : Int)) = true := by simp; omega
     have hi : i < l.length := by omega
     repeat' (first | ((try clear hf); with_reducible refine yD fun env K hE hK hf => ?_; have n := cj10 hE 0 2 3 4 9 10 11 13 14 15; simp -implicitDefEqProofs only [push_cast, reduceIte, Nat.reduceEqDiff, e0, e2, e3, e4, e9, e10, e11, e13, e14, e15] at n; clear hE e0 e2 e3 e4 e9 e10 e11 e13 e14 e15; obtain ⟨e0, e2, e3, e4, e9, e10, e11, e13, e14, e15⟩ := n) | (with_reducible first | (refine hK _ _ ?_; clear hK K) | (refine Zi ?_; constructor) | refine yB (by decide) ?_ | refine yH (by assumption) ?_ | refine yJ (by assumption) ?_) | (refine yC rfl ?_) | (simp -implicitDefEqProofs only [push_cast, sevalprocAttr, eq_self, e0, e2, e3, e4, e9, e10, e11, e13, e14, e15, hdi, hb, hd, hF.at, WV]) | (simp (disch := omega) only [yF, yK, yG, yL, hdi, hb, hd, hF.at, WV]) | (with_reducible refine yM ?_ ?_) | (refine yE rfl (fun bb => ?_) (fun bb => ?_) <;> simp only [bb]) | (with_reducible refine yI (fun bb => ?_) (fun bb => ?_)) | ((with_reducible refine And.intro ?_ ?_); omega) | (refine call_fin2 hX (by repeat (first | exact Ext.refl _ | refine Ext.tick ?_ | refine Ext.push ?_ (by omega) _ | refine Ext.put ?_ (by omega) _)) (by simp -implicitDefEqProofs only [push_cast, sevalprocAttr, eq_self, lend_ptrF, hL, hlc]) (fun o ho => f124 l t o ho (uV l j) i j hj (by omega) hl) ?_) | (refine call_fin hX (by repeat (first | exact Ext.refl _ | refine Ext.tick ?_ | refine Ext.push ?_ (by omega) _ | refine Ext.put ?_ (by omega) _)) (fun o ho => f126 l t o ho i hi) rfl ?_) | (refine yO (f128 l i j hij hj hl (by omega)) ?_) | (refine UM (e := ⟨0, 0, latS t l[i], 0, 0⟩) hX (by repeat (first | exact Ext.refl _ | refine Ext.tick ?_ | refine Ext.push ?_ (by omega) _ | refine Ext.put ?_ (by omega) _)) (by simp -implicitDefEqProofs only [push_cast, sevalprocAttr, eq_self]; rfl) (by first | omega | (dsimp only; omega)) (by first | (simp -implicitDefEqProofs only [push_cast, sevalprocAttr, eq_self]; done) | (simp -implicitDefEqProofs only [push_cast, sevalprocAttr, eq_self]; omega)) (by first | omega | (simp only [List.length_append, List.length_cons, List.length_nil]; omega)) ?_; intro h out hX hF hs; have q := hs.2 _ eL hLF hLo; replace hL := q.1.trans hL; replace hLo := q.2; replace eL := Nat.le_trans eL hs.1; replace hS := FS.trans hS hs; have hb := hX.fin; have hd := hX.ds; have hFe : Fe ≤ h.ep := hX.eF; have hde : de ≤ h.ep := hX.ed) | (refine call_pair hX (by repeat (first | exact Ext.refl _ | refine Ext.tick ?_ | refine Ext.push ?_ (by omega) _ | refine Ext.put ?_ (by omega) _)) hi hj hl ht (by first | omega | (simp only [List.length_append, List.length_cons, List.length_nil]; omega)) ?_; intro h out hX hF hs; have q := hs.2 _ eL hLF hLo; replace hL := q.1.trans hL; replace hLo := q.2; replace eL := Nat.le_trans eL hs.1; replace hS := FS.trans hS hs; have hb := hX.fin; have hd := hX.ds; have hFe : Fe ≤ h.ep := hX.eF; have hde : de ≤ h.ep := hX.ed))
     all_goals
      refine ⟨j - (i + 1), by omega, i + 1, _, by omega, rfl, by simp -implicitDefEqProofs only [push_cast, sevalprocAttr, eq_self, e0], by simp -implicitDefEqProofs only [push_cast, sevalprocAttr, eq_self, e2], by simp -implicitDefEqProofs only [push_cast, sevalprocAttr, eq_self, e3], by simp -implicitDefEqProofs only [push_cast, sevalprocAttr, eq_self, e9], by simp -implicitDefEqProofs only [push_cast, sevalprocAttr, eq_self, e10], by simp -implicitDefEqProofs only [push_cast, sevalprocAttr, eq_self, e13], by simp -implicitDefEqProofs only [push_cast, sevalprocAttr, eq_self], es_yes ?_ (hX.ext (by repeat (first | exact Ext.refl _ | refine Ext.tick ?_ | refine Ext.push ?_ (by omega) _ | refine Ext.put ?_ (by omega) _))), hS.ext (by repeat (first | exact Ext.refl _ | refine Ext.tick ?_ | refine Ext.push ?_ (by omega) _ | refine Ext.put ?_ (by omega) _)), hLo, by simp -implicitDefEqProofs only [push_cast, sevalprocAttr, eq_self, hL], by simp -implicitDefEqProofs only [push_cast, sevalprocAttr, eq_self]; omega⟩
      simp only [toE, ijE, ← uI hi, ← uI hj]
      first
       | (rw [if_pos (by assumption)]; simp [meetL]; done)
       | (rw [if_neg (by simp [*])]; simp [meetL]; done)
   · have hdi : decide ((i : Int) < (j : Int)) = false := by simp; omega
     obtain rfl : i = j := by omega
     have hdj2 := dS_at hj
     obtain ⟨d1, d2⟩ := dS_lt (hl _ (List.getElem_mem hj))
     repeat' (first | ((try clear hf); with_reducible refine yD fun env K hE hK hf => ?_; have n := cj10 hE 0 2 3 4 9 10 11 13 14 15; simp -implicitDefEqProofs only [push_cast, reduceIte, Nat.reduceEqDiff, e0, e2, e3, e4, e9, e10, e11, e13, e14, e15] at n; clear hE e0 e2 e3 e4 e9 e10 e11 e13 e14 e15; obtain ⟨e0, e2, e3, e4, e9, e10, e11, e13, e14, e15⟩ := n) | (with_reducible first | (refine hK _ _ ?_; clear hK K) | (refine Zi ?_; constructor) | refine yB (by decide) ?_ | refine yH (by assumption) ?_ | refine yJ (by assumption) ?_) | (refine yC rfl ?_) | (simp -implicitDefEqProofs only [push_cast, sevalprocAttr, eq_self, e0, e2, e3, e4, e9, e10, e11, e13, e14, e15, hdi, hb, hd, hF.at, WJ, yV, hdj2, idxAddr_ptr, hL]) | (simp (disch := omega) only [yF, yK, yG, yL, hdi, hb, hd, hF.at, WJ, yV, hdj2, idxAddr_ptr, hL]) | (with_reducible refine yM ?_ ?_) | (refine yE rfl (fun bb => ?_) (fun bb => ?_) <;> simp only [bb]) | (with_reducible refine yI (fun bb => ?_) (fun bb => ?_)) | ((with_reducible refine And.intro ?_ ?_); omega))
     · have h9 : 0 ≤ dS l[i] := by simpa using ‹decide (0 ≤ dS l[i]) = true›
       have hk : (dS l[i]).toNat < 32 := by omega
       have hfun : (fun r => if r = (dS l[i]).toNat then ((i : Int) + 1) else uV l i r) = uV l (i + 1) := by
        funext r
        rw [show uV l (i + 1) r = _ from rfl]
        simp only [uV, ← uI hj]
        by_cases hr : r = (dS l[i]).toNat
        · rw [if_pos hr, if_pos ⟨h9, hr⟩]
        · rw [if_neg hr, if_neg (fun h => hr h.2)]
       have hp := (lastC_put (uV l i) hk ((i : Int) + 1)).trans (congrArg WF hfun)
       have hle : (dS l[i]).toNat + 1 ≤ (WF (uV l i)).length := by rw [WO]; omega
       repeat' (first | ((try clear hf); with_reducible refine yD fun env K hE hK hf => ?_; have n := cj10 hE 0 2 3 4 9 10 11 13 14 15; simp -implicitDefEqProofs only [push_cast, reduceIte, Nat.reduceEqDiff, e0, e2, e3, e4, e9, e10, e11, e13, e14, e15] at n; clear hE e0 e2 e3 e4 e9 e10 e11 e13 e14 e15; obtain ⟨e0, e2, e3, e4, e9, e10, e11, e13, e14, e15⟩ := n) | (with_reducible first | (refine hK _ _ ?_; clear hK K) | (refine Zi ?_; constructor) | refine yB (by decide) ?_ | refine yH (by assumption) ?_ | refine yJ (by assumption) ?_) | (refine yC rfl ?_) | (simp -implicitDefEqProofs only [push_cast, sevalprocAttr, eq_self, e0, e2, e3, e4, e9, e10, e11, e13, e14, e15, hb, hd, hF.at, hp, hL]) | (simp (disch := omega) only [yF, yK, yG, yL, hb, hd, hF.at, hp, hL]) | (with_reducible refine yM ?_ ?_) | (refine yE rfl (fun bb => ?_) (fun bb => ?_) <;> simp only [bb]) | (with_reducible refine yI (fun bb => ?_) (fun bb => ?_)) | ((with_reducible refine And.intro ?_ ?_); omega))
       refine ⟨l.length - (i + 1), by omega, i + 1, _, by omega, rfl, by simp -implicitDefEqProofs only [push_cast, sevalprocAttr, eq_self, e0], by simp -implicitDefEqProofs only [push_cast, sevalprocAttr, eq_self, e2], by simp -implicitDefEqProofs only [push_cast, sevalprocAttr, eq_self, e9], by simp -implicitDefEqProofs only [push_cast, sevalprocAttr, eq_self], ((hX.ext (by repeat (first | exact Ext.refl _ | refine Ext.tick ?_))).putL _ hLF hLr hLd hLo).tick, ((hS.ext (by repeat (first | exact Ext.refl _ | refine Ext.tick ?_))).putL hLe _).tick, hLo, by simp -implicitDefEqProofs only [push_cast, sevalprocAttr, eq_self], by simp -implicitDefEqProofs only [push_cast, sevalprocAttr, eq_self]; omega⟩
     · have h9 : ¬ 0 ≤ dS l[i] := by simpa using ‹decide (0 ≤ dS l[i]) = false›
       have hp : WF (uV l (i + 1)) = WF (uV l i) := by
        unfold WF
        apply List.map_congr_left
        intro r _
        simp only [uV, ← uI hj]
        rw [if_neg (fun h => h9 h.1)]
       refine ⟨l.length - (i + 1), by omega, i + 1, _, by omega, rfl, by simp -implicitDefEqProofs only [push_cast, sevalprocAttr, eq_self, e0], by simp -implicitDefEqProofs only [push_cast, sevalprocAttr, eq_self, e2], by simp -implicitDefEqProofs only [push_cast, sevalprocAttr, eq_self, e9], by simp -implicitDefEqProofs only [push_cast, sevalprocAttr, eq_self], hX.ext (by repeat (first | exact Ext.refl _ | refine Ext.tick ?_ | refine Ext.push ?_ (by omega) _ | refine Ext.put ?_ (by omega) _)), hS.ext (by repeat (first | exact Ext.refl _ | refine Ext.tick ?_ | refine Ext.push ?_ (by omega) _ | refine Ext.put ?_ (by omega) _)), hLo, by simp -implicitDefEqProofs only [push_cast, sevalprocAttr, eq_self, hL, hp], by simp -implicitDefEqProofs only [push_cast, sevalprocAttr, eq_self]; omega⟩
 · have hdj : decide ((j : Int) < (l.length : Int)) = false := by simp; omega
   repeat' (first | ((try clear hf); with_reducible refine yD fun env K hE hK hf => ?_; have n := cj10 hE 0 2 3 4 9 10 11 13 14 15; simp -implicitDefEqProofs only [push_cast, reduceIte, Nat.reduceEqDiff, e0, e2, e3, e4, e9, e10, e11, e13, e14, e15] at n; clear hE e0 e2 e3 e4 e9 e10 e11 e13 e14 e15; obtain ⟨e0, e2, e3, e4, e9, e10, e11, e13, e14, e15⟩ := n) | (with_reducible first | (refine hK _ _ ?_; clear hK K) | (refine Zi ?_; constructor) | refine yB (by decide) ?_ | refine yH (by assumption) ?_ | refine yJ (by assumption) ?_) | (refine yC rfl ?_) | (simp -implicitDefEqProofs only [push_cast, sevalprocAttr, eq_self, e0, e2, e3, e4, e9, e10, e11, e13, e14, e15, hdj]) | (simp (disch := omega) only [yF, yK, yG, yL, hdj]) | (with_reducible refine yM ?_ ?_) | (refine yE rfl (fun bb => ?_) (fun bb => ?_) <;> simp only [bb]) | (with_reducible refine yI (fun bb => ?_) (fun bb => ?_)) | ((with_reducible refine And.intro ?_ ?_); omega))
   obtain rfl : j = l.length := by omega
   exact ⟨out, hX.ext (Ext.refl h).tick, hS.ext (Ext.refl h).tick⟩
def finW (l : List Opn) (t : Tab) (a b : AV) : List AV := .row (l.map opC) :: (tabC t ++ [a, b, .nil])
theorem finW_14 (l : List Opn) (t : Tab) (a b : AV) : (finW l t a b)[14]? = some a := rfl
theorem finW_15 (l : List Opn) (t : Tab) (a b : AV) : (finW l t a b)[15]? = some b := rfl
theorem finW_put14 (l : List Opn) (t : Tab) (a b v : AV) : (finW l t a b).take 14 ++ [v] ++ (finW l t a b).drop (14 + 1) = finW l t v b := rfl
theorem finW_put15 (l : List Opn) (t : Tab) (a b v : AV) : (finW l t a b).take 15 ++ [v] ++ (finW l t a b).drop (15 + 1) = finW l t a v := rfl
theorem finW_len (l : List Opn) (t : Tab) (a b : AV) : (finW l t a b).length = 17 := rfl
attribute [push_cast] finW_14 finW_15 finW_put14 finW_put15 finW_len
theorem Ext.kill {h g : Hp} (e : Ext h g) {a b : Nat} (hid : h.ep < a) : Ext h (g.kill (a, b)) :=
 ⟨e.1, fun x hx => by rw [uX _ _ _ (fun e' => by rw [e'] at hx; simp at hx; omega)]; exact e.2 x hx⟩
structure FinW (h0 h : Hp) (F : Id) (l : List Opn) (t : Tab) (j : Nat) (a b : AV) : Prop where
 fin : h.hp F = some ⟨true, finW l t a b⟩
 st : (j = 0 ∧ a = .nil ∧ b = .nil) ∨ ∃ re rs de ds : Nat, a = .sl (re, rs) 0 j 1 ∧ b = .sl (de, ds) 0 j 1 ∧ h.hp (re, rs) = some ⟨true, (l.take j).flatMap wD⟩ ∧ h.hp (de, ds) = some ⟨true, (l.take j).flatMap dRow⟩ ∧
  re ≤ h.ep ∧ de ≤ h.ep ∧ (re, rs) ≠ F ∧ (de, ds) ≠ F ∧ (re, rs) ≠ (de, ds) ∧ h0.ep < re ∧ h0.ep < de
 eF : F.1 ≤ h.ep
 lF : h0.ep < F.1
 ex : Ext h0 h
def I65 (h0 : Hp) (F : Id) (l : List Opn) (t : Tab) (n : Nat) (σ : St) : Prop := ∃ (j : Nat) (a b : AV), j ≤ l.length ∧ n = l.length - j ∧ σ.env 0 = .row (l.map opC) ∧ σ.env 5 = .ptr F 0 ∧ σ.env 14 = i64 l.length ∧ σ.env 15 = i64 j ∧ FinW h0 σ.h F l t j a b
set_option maxHeartbeats 1000000 in
theorem f111 {h0 : Hp} {l : List Opn} {t : Tab} (hl : ∀ o ∈ l, o.ok) (hn : l.length ≤ 1024) :
 HC Try.prog 111 [.row (l.map opC), .agg (tabC t)] h0 fun r h' => ∃ F a b, r = .ptr F 0 ∧ FinW h0 h' F l t l.length a b := by
 refine qJ qM cf111 (by simp) fun hF => ?_
 unfold ac111 re111
 refine yN fun env hE => ?_; obtain ⟨e0, e1, e3, e4, e5, e6, e7, e8, e14, e15, e16⟩ := cj11 hE 0 1 3 4 5 6 7 8 14 15 16; simp -implicitDefEqProofs only [push_cast] at e0 e1 e3 e4 e5 e6 e7 e8 e14 e15 e16; clear hE
 repeat' (first | ((try clear hf); with_reducible refine yD fun env K hE hK hf => ?_; have n := cj11 hE 0 1 3 4 5 6 7 8 14 15 16; simp -implicitDefEqProofs only [push_cast, reduceIte, Nat.reduceEqDiff, e0, e1, e3, e4, e5, e6, e7, e8, e14, e15, e16] at n; clear hE e0 e1 e3 e4 e5 e6 e7 e8 e14 e15 e16; obtain ⟨e0, e1, e3, e4, e5, e6, e7, e8, e14, e15, e16⟩ := n) | (with_reducible first | (refine hK _ _ ?_; clear hK K) | (refine Zi ?_; constructor) | refine yB (by decide) ?_ | refine yH (by assumption) ?_ | refine yJ (by assumption) ?_) | (refine yC rfl ?_) | (simp -implicitDefEqProofs only [push_cast, sevalprocAttr, eq_self, e0, e1, e3, e4, e5, e6, e7, e8, e14, e15, e16, hF.at, qD]) | (simp (disch := omega) only [yF, yK, yG, yL, hF.at, qD]) | (with_reducible refine yM ?_ ?_) | (refine yE rfl (fun bb => ?_) (fun bb => ?_) <;> simp only [bb]) | (with_reducible refine yI (fun bb => ?_) (fun bb => ?_)) | ((with_reducible refine And.intro ?_ ?_); omega))
 generalize hF0 : (h0.ep + 1 + 1 + 1, 12) = F
 have hFl : h0.ep < F.1 := by rw [← hF0]; show h0.ep < h0.ep + 1 + 1 + 1; omega
 refine qC (I65 h0 F l t) l.length ⟨0, .nil, .nil, by omega, by omega, by simp -implicitDefEqProofs only [push_cast, sevalprocAttr, eq_self, e0], by simp -implicitDefEqProofs only [push_cast, sevalprocAttr, eq_self, e5, hF0], by simp -implicitDefEqProofs only [push_cast, sevalprocAttr, eq_self], by simp -implicitDefEqProofs only [push_cast, sevalprocAttr, eq_self], ⟨?_, .inl ⟨rfl, rfl, rfl⟩, ?_, hFl, ?_⟩⟩ ?_
 · rw [← hF0]; simp -implicitDefEqProofs only [push_cast, sevalprocAttr, eq_self]; rfl
 · rw [← hF0]; show h0.ep + 1 + 1 + 1 ≤ _; simp -implicitDefEqProofs only [push_cast, sevalprocAttr, eq_self]; omega
 · rw [← hF0]; exact (by repeat (first | exact Ext.refl _ | refine Ext.tick ?_ | refine Ext.push ?_ (by omega) _ | refine Ext.put ?_ (by omega) _))
 obtain ⟨Fe, Fs⟩ := F
 simp only at hFl
 clear hF hF0
 rintro n ⟨env, h⟩ ⟨j, a, b, hj', rfl, e0, e5, e14, e15, ⟨hb, hst, hFe, hlF, hex⟩⟩
 simp only at e0 e5 e14 e15 hb hst hFe hlF hex
 have e1 : True := trivial; have e3 : True := trivial; have e4 : True := trivial; have e6 : True := trivial; have e7 : True := trivial; have e8 : True := trivial; have e16 : True := trivial
 unfold l111_0
 refine yS fun hF => ?_
 by_cases hj : j < l.length
 · have hd : decide ((j : Int) < (l.length : Int)) = true := by simp; omega
   have ho := hl _ (List.getElem_mem hj)
   have hw : IntKind.i64.wrap (wrS l[j]).1 = (wrS l[j]).1 := by
    have h := ho
    unfold Opn.ok at h
    apply qS <;> (unfold wrS; split <;> simp <;> omega)
   have htk : ∀ f : Opn → List AV, (l.take (j + 1)).flatMap f = (l.take j).flatMap f ++ f l[j] := fun f => by
    rw [List.take_succ_eq_append_getElem hj, List.flatMap_append]
    simp
   rcases hst with ⟨hj0, rfl, rfl⟩ | ⟨re, rs, de, ds, rfl, rfl, h1, h2, g1, g2, g3, g4, g5, g6, g7⟩
   · have hA : ∀ (h' : Hp) (id' : Id) (x : List AV), appV h' id' 1 24 1 x .nil = some (.sl id' 0 1 1, h'.push id' x) := fun h' id' x => appV_nil _ _ (by decide) (by decide)
     have hA2 : ∀ (h' : Hp) (id' : Id) (x : List AV), appV h' id' 1 8 1 x .nil = some (.sl id' 0 1 1, h'.push id' x) := fun h' id' x => appV_nil _ _ (by decide) (by decide)
     repeat' (first | ((try clear hf); with_reducible refine yD fun env K hE hK hf => ?_; have n := cj11 hE 0 1 3 4 5 6 7 8 14 15 16; simp -implicitDefEqProofs only [push_cast, reduceIte, Nat.reduceEqDiff, e0, e1, e3, e4, e5, e6, e7, e8, e14, e15, e16] at n; clear hE e0 e1 e3 e4 e5 e6 e7 e8 e14 e15 e16; obtain ⟨e0, e1, e3, e4, e5, e6, e7, e8, e14, e15, e16⟩ := n) | (with_reducible first | (refine hK _ _ ?_; clear hK K) | (refine Zi ?_; constructor) | refine yB (by decide) ?_ | refine yH (by assumption) ?_ | refine yJ (by assumption) ?_) | (refine yC rfl ?_) | (simp -implicitDefEqProofs only [push_cast, sevalprocAttr, eq_self, e0, e1, e3, e4, e5, e6, e7, e8, e14, e15, e16, hd, hF.at, hb, hA, hA2, yV, wL hj]) | (simp (disch := omega) only [yF, yK, yG, yL, hd, hF.at, hb, hA, hA2, yV, wL hj]) | (with_reducible refine yM ?_ ?_) | (refine yE rfl (fun bb => ?_) (fun bb => ?_) <;> simp only [bb]) | (with_reducible refine yI (fun bb => ?_) (fun bb => ?_)) | ((with_reducible refine And.intro ?_ ?_); omega) | (refine call_ownq (wA rfl) (f42 l[j] ho) ?_) | (refine yO (f16 l[j] ho) ?_))
     all_goals
      subst hj0
      refine ⟨l.length - (0 + 1), by omega, 0 + 1, .sl (h.ep + 1 + 1 + 1, 29) 0 (0 + 1) 1, .sl (h.ep + 1 + 1 + 1 + 1 + 1 + 1, 46) 0 (0 + 1) 1, by omega, rfl, by simp -implicitDefEqProofs only [push_cast, sevalprocAttr, eq_self, e0], by simp -implicitDefEqProofs only [push_cast, sevalprocAttr, eq_self, e5], by simp -implicitDefEqProofs only [push_cast, sevalprocAttr, eq_self, e14], by simp -implicitDefEqProofs only [push_cast, sevalprocAttr, eq_self], ⟨?_, .inr ⟨_, _, _, _, rfl, rfl, ?_, ?_, ?_, ?_, ?_, ?_, ?_, by omega, by omega⟩, ?_, hlF, (by repeat (first | assumption | refine Ext.tick ?_ | refine Ext.push ?_ (by omega) _ | refine Ext.put ?_ (by omega) _))⟩⟩
      · simp -implicitDefEqProofs (disch := first | decide | omega) only [qN, YF, wM, yF, yK, wW, UF]
      · simp -implicitDefEqProofs (disch := first | decide | omega) only [qN, YF, wM, yF, yK, wW, UF]
        rw [htk]
        rfl
      · simp -implicitDefEqProofs (disch := first | decide | omega) only [qN, YF, wM, yF, yK, wW, UF]
        rw [htk]
        simp [dRow, bb, hw]
      · simp -implicitDefEqProofs only [push_cast, sevalprocAttr, eq_self]; omega
      · simp -implicitDefEqProofs only [push_cast, sevalprocAttr, eq_self]; omega
      · intro e; have := congrArg Prod.fst e; simp at this; omega
      · intro e; have := congrArg Prod.fst e; simp at this; omega
      · intro e; have := congrArg Prod.fst e; simp at this
      · simp -implicitDefEqProofs only [push_cast, sevalprocAttr, eq_self]; omega
   · have hlr : ((l.take j).flatMap wD).length = j * 1 := by rw [UC (fun _ => rfl)]; simp; omega
     have hld : ((l.take j).flatMap dRow).length = j * 1 := by rw [UC (fun _ => rfl)]; simp; omega
     have htr : ((l.take j).flatMap wD).take j = (l.take j).flatMap wD := by rw [List.take_of_length_le (by omega)]
     have htd : ((l.take j).flatMap dRow).take j = (l.take j).flatMap dRow := by rw [List.take_of_length_le (by omega)]
     have hdl : ∀ x, ((l.take j).flatMap dRow ++ [x]).take j = (l.take j).flatMap dRow := fun x => by rw [List.take_append_of_le_length (by omega)]; exact htd
     have k1 : ∀ h' : Hp, (h'.kill (re, rs)).hp (Fe, Fs) = h'.hp (Fe, Fs) := fun h' => uX _ _ _ (Ne.symm g3)
     have k2 : ∀ h' : Hp, (h'.kill (de, ds)).hp (Fe, Fs) = h'.hp (Fe, Fs) := fun h' => uX _ _ _ (Ne.symm g4)
     have k3 : ∀ h' : Hp, (h'.kill (re, rs)).hp (de, ds) = h'.hp (de, ds) := fun h' => uX _ _ _ (Ne.symm g5)
     have hle : j + 1 ≤ ((l.take j).flatMap dRow ++ [AV.lit (.int .i64 (-1))]).length := by simp only [List.length_append, hld, List.length_cons, List.length_nil]; omega
     have hdd : ∀ x, ((l.take j).flatMap dRow ++ [x]).drop (j + 1) = [] := fun x => List.drop_eq_nil_of_le (by simp only [List.length_append, hld, List.length_cons, List.length_nil]; omega)
     have k4 : ∀ (h' : Hp) (c : List AV), (h'.put (Fe, Fs) c).hp (de, ds) = h'.hp (de, ds) := fun h' c => YD _ _ _ _ g4
     repeat' (first | ((try clear hf); with_reducible refine yD fun env K hE hK hf => ?_; have n := cj11 hE 0 1 3 4 5 6 7 8 14 15 16; simp -implicitDefEqProofs only [push_cast, reduceIte, Nat.reduceEqDiff, e0, e1, e3, e4, e5, e6, e7, e8, e14, e15, e16] at n; clear hE e0 e1 e3 e4 e5 e6 e7 e8 e14 e15 e16; obtain ⟨e0, e1, e3, e4, e5, e6, e7, e8, e14, e15, e16⟩ := n) | (with_reducible first | (refine hK _ _ ?_; clear hK K) | (refine Zi ?_; constructor) | refine yB (by decide) ?_ | refine yH (by assumption) ?_ | refine yJ (by assumption) ?_) | (refine yC rfl ?_) | (simp -implicitDefEqProofs only [push_cast, sevalprocAttr, eq_self, e0, e1, e3, e4, e5, e6, e7, e8, e14, e15, e16, hd, hF.at, hb, h1, h2, UQ, yV, wL hj, htr, htd, hdl, hdd, List.append_nil, k1, k2, k3, k4]) | (simp (disch := omega) only [yF, yK, yG, yL, hd, hF.at, hb, h1, h2, UQ, yV, wL hj, htr, htd, hdl, hdd, List.append_nil, k1, k2, k3, k4]) | (with_reducible refine yM ?_ ?_) | (refine yE rfl (fun bb => ?_) (fun bb => ?_) <;> simp only [bb]) | (with_reducible refine yI (fun bb => ?_) (fun bb => ?_)) | ((with_reducible refine And.intro ?_ ?_); omega) | (refine call_ownq (wA rfl) (f42 l[j] ho) ?_) | (refine yO (f16 l[j] ho) ?_))
     all_goals
      refine ⟨l.length - (j + 1), by omega, j + 1, .sl (h.ep + 1 + 1 + 1, 29) 0 (j + 1) 1, .sl (h.ep + 1 + 1 + 1 + 1 + 1 + 1, 46) 0 (j + 1) 1, by omega, rfl, by simp -implicitDefEqProofs only [push_cast, sevalprocAttr, eq_self, e0], by simp -implicitDefEqProofs only [push_cast, sevalprocAttr, eq_self, e5], by simp -implicitDefEqProofs only [push_cast, sevalprocAttr, eq_self, e14], by simp -implicitDefEqProofs only [push_cast, sevalprocAttr, eq_self], ⟨?_, .inr ⟨_, _, _, _, rfl, rfl, ?_, ?_, ?_, ?_, ?_, ?_, ?_, by omega, by omega⟩, ?_, hlF, (by repeat (first | assumption | refine Ext.tick ?_ | refine Ext.push ?_ (by omega) _ | refine Ext.put ?_ (by omega) _ | refine Ext.kill ?_ (by omega)))⟩⟩
      · simp -implicitDefEqProofs (disch := first | decide | omega) only [qN, YF, wM, yF, yK, wW, UF, yG, k1, k2, k3, k4]
      · simp -implicitDefEqProofs (disch := first | decide | omega) only [qN, YF, wM, yF, yK, wW, UF, yG, k1, k2, k3, k4]
        rw [htk]
        rfl
      · simp -implicitDefEqProofs (disch := first | decide | omega) only [qN, YF, wM, yF, yK, wW, UF, yG, k1, k2, k3, k4]
        rw [htk]
        simp [dRow, bb, hw]
      · simp -implicitDefEqProofs only [push_cast, sevalprocAttr, eq_self]; omega
      · simp -implicitDefEqProofs only [push_cast, sevalprocAttr, eq_self]; omega
      · intro e; have := congrArg Prod.fst e; simp at this; omega
      · intro e; have := congrArg Prod.fst e; simp at this; omega
      · intro e; have := congrArg Prod.fst e; simp at this
      · simp -implicitDefEqProofs only [push_cast, sevalprocAttr, eq_self]; omega
 · have hd : decide ((j : Int) < (l.length : Int)) = false := by simp; omega
   repeat' (first | ((try clear hf); with_reducible refine yD fun env K hE hK hf => ?_; have n := cj11 hE 0 1 3 4 5 6 7 8 14 15 16; simp -implicitDefEqProofs only [push_cast, reduceIte, Nat.reduceEqDiff, e0, e1, e3, e4, e5, e6, e7, e8, e14, e15, e16] at n; clear hE e0 e1 e3 e4 e5 e6 e7 e8 e14 e15 e16; obtain ⟨e0, e1, e3, e4, e5, e6, e7, e8, e14, e15, e16⟩ := n) | (with_reducible first | (refine hK _ _ ?_; clear hK K) | (refine Zi ?_; constructor) | refine yB (by decide) ?_ | refine yH (by assumption) ?_ | refine yJ (by assumption) ?_) | (refine yC rfl ?_) | (simp -implicitDefEqProofs only [push_cast, sevalprocAttr, eq_self, e0, e1, e3, e4, e5, e6, e7, e8, e14, e15, e16, hd]) | (simp (disch := omega) only [yF, yK, yG, yL, hd]) | (with_reducible refine yM ?_ ?_) | (refine yE rfl (fun bb => ?_) (fun bb => ?_) <;> simp only [bb]) | (with_reducible refine yI (fun bb => ?_) (fun bb => ?_)) | ((with_reducible refine And.intro ?_ ?_); omega))
   obtain rfl : j = l.length := by omega
   exact ⟨(Fe, Fs), a, b, rfl, hb, hst.imp id fun ⟨re, rs, de, ds, e1, e2, e3, e4, e5, e6, r⟩ => ⟨re, rs, de, ds, e1, e2, e3, e4, by rw [qG, qG]; omega, by rw [qG, qG]; omega, r⟩, by rw [qG, qG]; simp only; omega, hlF, hex.tick.tick⟩
theorem FinW.finH {h0 h : Hp} {F : Id} {l : List Opn} {t : Tab} {a b : AV} (w : FinW h0 h F l t l.length a b) (hp : 0 < l.length) : ∃ rid did, FinH h F l t [] rid did .nil := by
 rcases w.st with ⟨h1, _, _⟩ | ⟨re, rs, de, ds, rfl, rfl, e1, e2, e3, e4, e5, e6, e7, e8, e9⟩
 · omega
 · rw [List.take_length] at e1 e2
   exact ⟨(re, rs), (de, ds), w.fin, e1, e2, .inl ⟨rfl, rfl⟩, w.eF, e3, e4, e5, e6, e7, fun id h => by simp [idOf] at h⟩
theorem call_nf {d : Option Nat} {K : St → Prop} {env : Nat → AV} {g : Hp} {l : List Opn} {t : Tab} (hl : ∀ o ∈ l, o.ok) (hn : l.length ≤ 1024)
 (k : ∀ h' F a b, FinW g h' F l t l.length a b → qY h' → K ⟨putA env d (.ptr F 0), h'.tick⟩) :
 qB Try.prog d K env g false (.fn 111 []) [.row (l.map opC), .agg (tabC t)] :=
 qH (HC.mono (f111 hl hn) fun r h' ⟨F, a, b, hr, w⟩ hf => by rw [hr]; exact k h' F a b w hf)
theorem call_once {d : Option Nat} {K : St → Prop} {env : Nat → AV} {g : Hp} {F : Id} {l : List Opn} {t : Tab} {rid did : Id} (hX : FinH g F l t [] rid did .nil) (hl : ∀ o ∈ l, o.ok) (ht : YK t) (hn : l.length ≤ 1024)
 (k : ∀ h' out', FinH h' F l t (YP l t l.length) rid did out' → qY h' → FS g F .nil h' out' → K ⟨putA env d (.tup []), h'.tick⟩) :
 qB Try.prog d K env g false (.fn 112 []) [.ptr F 0] :=
 qH (HC.mono (f112 hX (fun x h => by simp [idOf] at h) hl ht hn) fun r h' ⟨hr, out', h1, h2⟩ hf => by rw [hr]; exact k h' out' h1 hf h2)
theorem Ext.tr {h g k : Hp} (a : Ext h g) (b : Ext g k) : Ext h k := ⟨Nat.le_trans a.1 b.1, fun x hx => (b.2 x (Nat.le_trans hx a.1)).trans (a.2 x hx)⟩
theorem Ext.le {h g : Hp} (a : Ext h g) : h.ep ≤ g.ep := a.1
set_option maxHeartbeats 1000000 in
theorem f85 {h0 : Hp} {l : List Opn} {t : Tab} (hl : ∀ o ∈ l, o.ok) (ht : YK t) (hn : l.length ≤ 1024) (hp : 0 < l.length) (hR : errR l t = 0) :
 HC Try.prog 85 [.row (l.map opC), .agg (tabC t)] h0 fun r h' => ∃ out, r = .tup [out, i64 0] ∧ OutR h' out (YP l t l.length) ∧ Ext h0 h' := by
 refine qJ qM cf85 (by simp) fun hF => ?_
 unfold ac85 re85
 refine yN fun env hE => ?_; have ee := cj7 hE 0 1 3 4 5 6 7; simp -implicitDefEqProofs only [push_cast] at ee; clear hE
 have hr := f110 l t hl
 rw [hR] at hr
 have hb := hR
 have h16 : ∀ l t a b o, (finC l t a b o)[16]? = some o := fun _ _ _ _ _ => rfl
 repeat' (first | ((try clear hf); with_reducible refine yD fun env K hE hK hf => ?_; have n := cj7 hE 0 1 3 4 5 6 7; simp -implicitDefEqProofs only [push_cast, reduceIte, Nat.reduceEqDiff, ee] at n; clear hE ee; have ee := n; clear n) | (with_reducible first | (refine hK _ _ ?_; clear hK K) | (refine Zi ?_; constructor) | refine yB (by decide) ?_ | refine yH (by assumption) ?_ | refine yJ (by assumption) ?_) | (refine yC rfl ?_) | (simp -implicitDefEqProofs only [push_cast, sevalprocAttr, eq_self, ee, hF.at, hb, h16]) | (simp (disch := omega) only [yF, yK, yG, yL, hF.at, hb]) | (refine yE rfl (fun bb => ?_) (fun bb => ?_) <;> simp only [bb]) | (with_reducible refine yI (fun bb => ?_) (fun bb => ?_)) | ((with_reducible refine And.intro ?_ ?_); omega) | (refine yO hr ?_) | (refine call_nf hl hn ?_; intro h F a b w hF; have hx0 : Ext h0 h := Ext.tr (by repeat (first | exact Ext.refl _ | refine Ext.tick ?_ | refine Ext.push ?_ (by omega) _)) w.ex; have lF : h0.ep < F.1 := Nat.lt_of_le_of_lt (Ext.le (by repeat (first | exact Ext.refl _ | refine Ext.tick ?_ | refine Ext.push ?_ (by omega) _))) w.lF; obtain ⟨rid, did, hX⟩ := w.finH hp; have hb := hX.fin) | (refine call_once (hX.ext (by repeat (first | exact Ext.refl _ | refine Ext.tick ?_))) hl ht hn ?_; intro h out hX hF hS; have hb := hX.fin) | (with_reducible refine yM ?_ ?_))
 refine ⟨out, rfl, (hX.ext (by repeat (first | exact Ext.refl _ | refine Ext.tick ?_))).outr, ?_⟩
 have hE : Ext h0 h := ⟨Nat.le_trans hx0.1 (Nat.le_trans (Nat.le_trans (Nat.le_succ _) (Nat.le_succ _)) hS.1), fun x hx => ((hS.2 x (Nat.le_trans hx (Nat.le_trans hx0.1 (Nat.le_trans (Nat.le_succ _) (Nat.le_succ _)))) (fun e => by rw [e] at hx; omega) (by simp [idOf])).1).trans (hx0.2 x hx)⟩
 repeat (first | exact hE | refine Ext.tick ?_)
theorem f85'e {h0 : Hp} {l : List Opn} {t : Tab} (hl : ∀ o ∈ l, o.ok) (hR : errR l t ≠ 0) :
 HC Try.prog 85 [.row (l.map opC), .agg (tabC t)] h0 fun r h' => r = .tup [.nil, i64 (errR l t)] ∧ Ext h0 h' := by
 refine qJ qM cf85 (by simp) fun hF => ?_
 unfold ac85 re85
 refine yN fun env hE => ?_; obtain ⟨e0, e1, e3, e4, e5, e6, e7⟩ := cj7 hE 0 1 3 4 5 6 7; simp -implicitDefEqProofs only [push_cast] at e0 e1 e3 e4 e5 e6 e7; clear hE
 have hr := f110 l t hl
 have hb : decide (errR l t = 0) = false := by simpa using hR
 have hb2 : decide (errR l t ≠ 0) = true := by simpa using hR
 repeat' (first | ((try clear hf); with_reducible refine yD fun env K hE hK hf => ?_; have n := cj7 hE 0 1 3 4 5 6 7; simp -implicitDefEqProofs only [push_cast, reduceIte, Nat.reduceEqDiff, e0, e1, e3, e4, e5, e6, e7] at n; clear hE e0 e1 e3 e4 e5 e6 e7; obtain ⟨e0, e1, e3, e4, e5, e6, e7⟩ := n) | (with_reducible first | (refine hK _ _ ?_; clear hK K) | (refine Zi ?_; constructor) | refine yB (by decide) ?_ | refine yH (by assumption) ?_ | refine yJ (by assumption) ?_) | (refine yC rfl ?_) | (simp -implicitDefEqProofs only [push_cast, sevalprocAttr, eq_self, e0, e1, e3, e4, e5, e6, e7, hF.at, hb, hb2]) | (simp (disch := omega) only [yF, yK, yG, yL, hF.at, hb, hb2]) | (with_reducible refine yM ?_ ?_) | (refine yE rfl (fun bb => ?_) (fun bb => ?_) <;> simp only [bb]) | (with_reducible refine yI (fun bb => ?_) (fun bb => ?_)) | ((with_reducible refine And.intro ?_ ?_); omega) | (refine yO hr ?_))
 exact (show Ext h0 _ from (by repeat (first | exact Ext.refl _ | assumption | refine Ext.tick ?_ | refine Ext.push ?_ (by omega) _ | refine Ext.put ?_ (by omega) _)))
theorem f112'n {h0 : Hp} {F : Id} {t : Tab} {a b : AV} (hb : h0.hp F = some ⟨true, finW [] t a b⟩) (hFe : F.1 ≤ h0.ep) :
 HC Try.prog 112 [.ptr F 0] h0 fun r h' => r = .tup [] ∧ Ext h0 h' := by
 refine qJ qM cf112 (by simp) fun hF => ?_
 unfold ac112 re112
 refine yN fun env hE => ?_; obtain ⟨e0, e2, e3, e4, e9, e10, e11, e13, e14, e15⟩ := cj10 hE 0 2 3 4 9 10 11 13 14 15; simp -implicitDefEqProofs only [push_cast] at e0 e2 e3 e4 e9 e10 e11 e13 e14 e15; clear hE
 obtain ⟨Fe, Fs⟩ := F
 have h00 : (finW [] t a b)[0]? = some (.row []) := rfl
 have h01 : lenV (.row []) = some (.lit (.int .i64 0)) := rfl
 repeat' (first | ((try clear hf); with_reducible refine yD fun env K hE hK hf => ?_; have n := cj10 hE 0 2 3 4 9 10 11 13 14 15; simp -implicitDefEqProofs only [push_cast, reduceIte, Nat.reduceEqDiff, e0, e2, e3, e4, e9, e10, e11, e13, e14, e15] at n; clear hE e0 e2 e3 e4 e9 e10 e11 e13 e14 e15; obtain ⟨e0, e2, e3, e4, e9, e10, e11, e13, e14, e15⟩ := n) | (with_reducible first | (refine hK _ _ ?_; clear hK K) | (refine Zi ?_; constructor) | refine yB (by decide) ?_ | refine yH (by assumption) ?_ | refine yJ (by assumption) ?_) | (refine yC rfl ?_) | (simp -implicitDefEqProofs only [push_cast, sevalprocAttr, eq_self, e0, e2, e3, e4, e9, e10, e11, e13, e14, e15, hb, hF.at, h00, h01]) | (simp (disch := omega) only [yF, yK, yG, yL, hb, hF.at, h00, h01]) | (with_reducible refine yM ?_ ?_) | (refine yE rfl (fun bb => ?_) (fun bb => ?_) <;> simp only [bb]) | (with_reducible refine yI (fun bb => ?_) (fun bb => ?_)) | ((with_reducible refine And.intro ?_ ?_); omega))
 refine qC (fun n σ => σ.env 9 = i64 0 ∧ σ.env 10 = i64 0 ∧ Ext h0 σ.h) 0 ⟨by simp -implicitDefEqProofs only [push_cast, sevalprocAttr, eq_self], by simp -implicitDefEqProofs only [push_cast, sevalprocAttr, eq_self], (by repeat (first | exact Ext.refl _ | assumption | refine Ext.tick ?_ | refine Ext.push ?_ (by omega) _ | refine Ext.put ?_ (by omega) _))⟩ ?_
 rintro n ⟨env, h⟩ ⟨e9, e10, hE⟩
 simp only at e9 e10 hE
 have e0 : True := trivial; have e2 : True := trivial; have e3 : True := trivial; have e4 : True := trivial; have e11 : True := trivial; have e13 : True := trivial; have e14 : True := trivial; have e15 : True := trivial
 unfold l112_1
 refine yS fun hF => ?_
 repeat' (first | ((try clear hf); with_reducible refine yD fun env K hE hK hf => ?_; have n := cj10 hE 0 2 3 4 9 10 11 13 14 15; simp -implicitDefEqProofs only [push_cast, reduceIte, Nat.reduceEqDiff, e0, e2, e3, e4, e9, e10, e11, e13, e14, e15] at n; clear hE e0 e2 e3 e4 e9 e10 e11 e13 e14 e15; obtain ⟨e0, e2, e3, e4, e9, e10, e11, e13, e14, e15⟩ := n) | (with_reducible first | (refine hK _ _ ?_; clear hK K) | (refine Zi ?_; constructor) | refine yB (by decide) ?_ | refine yH (by assumption) ?_ | refine yJ (by assumption) ?_) | (refine yC rfl ?_) | (simp -implicitDefEqProofs only [push_cast, sevalprocAttr, eq_self, e0, e2, e3, e4, e9, e10, e11, e13, e14, e15]) | (simp (disch := omega) only [yF, yK, yG, yL]) | (with_reducible refine yM ?_ ?_) | (refine yE rfl (fun bb => ?_) (fun bb => ?_) <;> simp only [bb]) | (with_reducible refine yI (fun bb => ?_) (fun bb => ?_)) | ((with_reducible refine And.intro ?_ ?_); omega))
 exact (show Ext h0 _ from (by repeat (first | exact Ext.refl _ | assumption | refine Ext.tick ?_ | refine Ext.push ?_ (by omega) _ | refine Ext.put ?_ (by omega) _)))
theorem f85'n {h0 : Hp} {t : Tab} (hR : errR [] t = 0) :
 HC Try.prog 85 [.row [], .agg (tabC t)] h0 fun r h' => r = .tup [.nil, i64 0] ∧ Ext h0 h' := by
 refine qJ qM cf85 (by simp) fun hF => ?_
 unfold ac85 re85
 refine yN fun env hE => ?_; obtain ⟨e0, e1, e3, e4, e5, e6, e7⟩ := cj7 hE 0 1 3 4 5 6 7; simp -implicitDefEqProofs only [push_cast] at e0 e1 e3 e4 e5 e6 e7; clear hE
 have hr := f110 [] t (by simp)
 rw [hR] at hr
 have hb := hR
 have h16 : ∀ t a b, (finW [] t a b)[16]? = some .nil := fun _ _ _ => rfl
 repeat' (first | ((try clear hf); with_reducible refine yD fun env K hE hK hf => ?_; have n := cj7 hE 0 1 3 4 5 6 7; simp -implicitDefEqProofs only [push_cast, reduceIte, Nat.reduceEqDiff, e0, e1, e3, e4, e5, e6, e7] at n; clear hE e0 e1 e3 e4 e5 e6 e7; obtain ⟨e0, e1, e3, e4, e5, e6, e7⟩ := n) | (with_reducible first | (refine hK _ _ ?_; clear hK K) | (refine Zi ?_; constructor) | refine yB (by decide) ?_ | refine yH (by assumption) ?_ | refine yJ (by assumption) ?_) | (refine yC rfl ?_) | (simp -implicitDefEqProofs only [push_cast, sevalprocAttr, eq_self, e0, e1, e3, e4, e5, e6, e7, hF.at, hb, h16]) | (simp (disch := omega) only [yF, yK, yG, yL, hF.at, hb, h16]) | (with_reducible refine yM ?_ ?_) | (refine yE rfl (fun bb => ?_) (fun bb => ?_) <;> simp only [bb]) | (with_reducible refine yI (fun bb => ?_) (fun bb => ?_)) | ((with_reducible refine And.intro ?_ ?_); omega) | (refine yO hr ?_) | (refine call_nf (l := []) (by simp) (by simp) ?_; intro h F a b w hF; have hx0 : Ext h0 h := Ext.tr (by repeat (first | exact Ext.refl _ | assumption | refine Ext.tick ?_ | refine Ext.push ?_ (by omega) _ | refine Ext.put ?_ (by omega) _)) w.ex; have hb := w.fin) | (refine qH (HC.mono (f112'n (F := F) (t := t) (a := a) (b := b) hb (Nat.le_trans w.eF (by simp only [qG]; omega))) fun r h' ⟨hr, hE⟩ hf => ?_); have hb := (hE.2 F (Nat.le_trans w.eF (by simp only [qG]; omega))).trans hb; rw [hr]))
 have hE2 : Ext h0 h' := Ext.tr (Ext.tick (Ext.tick hx0)) hE
 exact (show Ext h0 _ from (by repeat (first | exact Ext.refl _ | assumption | refine Ext.tick ?_)))
theorem wX {l : List Opn} {t : Tab} (h : errR l t = 0) : YK t ∧ l.length ≤ 1024 ∧ ∀ o ∈ l, opOK o := by
 unfold errR tabE at h
 by_cases h1 : YK t
 · by_cases h2 : 1024 < l.length
   · simp [h1, h2] at h
   · by_cases h3 : ∀ o ∈ l, opOK o
     · exact ⟨h1, by omega, h3⟩
     · simp only [if_pos h1, if_neg h2, if_neg h3] at h; simp at h
 · simp [h1] at h
theorem of_all {h0 : Hp} {l : List Opn} {t : Tab} (hl : ∀ o ∈ l, o.ok) :
 HC Try.prog 85 [.row (l.map opC), .agg (tabC t)] h0 fun r h' => Ext h0 h' ∧ ((errR l t ≠ 0 ∧ r = .tup [.nil, i64 (errR l t)]) ∨ (errR l t = 0 ∧ ∃ out, r = .tup [out, i64 0] ∧ OutR h' out (YP l t l.length))) := by
 by_cases hR : errR l t = 0
 · obtain ⟨ht, hn, _⟩ := wX hR
   by_cases hp : 0 < l.length
   · exact HC.mono (f85 hl ht hn hp hR) fun r h' ⟨out, h1, h2, h3⟩ => ⟨h3, .inr ⟨hR, out, h1, h2⟩⟩
   · obtain rfl : l = [] := List.length_eq_zero_iff.1 (by omega)
     exact HC.mono (f85'n hR) fun r h' ⟨h1, h2⟩ => ⟨h2, .inr ⟨hR, .nil, h1, .inl ⟨rfl, rfl⟩⟩⟩
 · exact HC.mono (f85'e hl hR) fun r h' ⟨h1, h2⟩ => ⟨h2, .inl ⟨hR, h1⟩⟩
end Go.Proofs.Hx
