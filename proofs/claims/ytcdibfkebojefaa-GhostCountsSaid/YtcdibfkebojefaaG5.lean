import Derived.Test.YtcdibfkebojefaaCodeA
import Derived.Test.YtcdibfkebojefaaG2
set_option linter.unusedVariables false
set_option linter.unusedSimpArgs false
namespace Go.Proofs.Hx
open Go Go.Proofs
attribute [local irreducible] yL awp opK goV goM qM qI qK yN HV HVF HC
theorem f76 (x lo hi : Int) : HV Try.prog 76 [.lit (.int .i64 x), .lit (.int .i64 lo), .lit (.int .i64 hi)] (.lit (.bool (decide (lo ≤ x) && decide (x ≤ hi)))) := by
  refine yR yS cf76 (by simp) rfl ?_ rfl
  unfold ac76 re76
  refine yF fun env hE => ?_; have e0 := hE 0; have e1 := hE 1; have e2 := hE 2; have e6 := hE 6; simp -implicitDefEqProofs only [push_cast] at e0 e1 e2 e6; clear hE
  repeat' (first | ((try clear hf); with_reducible refine zN fun env K hE hK hf => ?_; have n : _ ∧ _ ∧ _ ∧ _ := ⟨hE 0, hE 1, hE 2, hE 6⟩; simp -implicitDefEqProofs only [push_cast, reduceIte, Nat.reduceEqDiff, e0, e1, e2, e6] at n; clear hE e0 e1 e2 e6; obtain ⟨e0, e1, e2, e6⟩ := n) | (with_reducible refine hK _ _ ?_; clear hK K) | (with_reducible first | refine zL ?_ | refine zS ?_ | refine zC ?_ | refine zH ?_ | refine zF ?_ | refine zM ?_ | refine zR ?_ | refine zE ?_ | refine zI ?_ | refine zT ?_ | refine zG ?_ | refine zB (by decide) ?_ | refine zQ ?_ | refine zP ?_ | refine zK ?_ | refine zZ ?_ | refine yB ?_ | refine zW (by assumption) ?_ | refine zY (by assumption) ?_) | (refine zJ rfl ?_) | (simp -implicitDefEqProofs only [push_cast, sevalprocAttr, eq_self, e0, e1, e2, e6]) | (simp -implicitDefEqProofs (disch := omega) only [zU, yC, zV, zD, e0, e1, e2, e6]) | (with_reducible refine yI ?_ ?_) | (refine zO rfl (fun bb => ?_) (fun bb => ?_) <;> simp only [bb]) | (with_reducible refine zX (fun bb => ?_) (fun bb => ?_)) | ((with_reducible refine And.intro ?_ ?_); omega) | fail)
  all_goals simp [bb]
abbrev i64 (n : Int) : AV := .lit (.int .i64 n)
structure Tab where
  u : Nat → Int
  l : Nat → Int
  b : Nat → Int
  d : Int
def tabC (t : Tab) : List AV := [i64 (t.u 0), i64 (t.u 1), i64 (t.u 2), i64 (t.u 3), i64 (t.l 0), i64 (t.l 1), i64 (t.l 2), i64 (t.l 3), i64 (t.b 0), i64 (t.b 1), i64 (t.b 2), i64 (t.b 3), i64 t.d]
def okC (t : Tab) (c : Nat) : Prop := 0 ≤ t.u c ∧ t.u c ≤ 8 ∧ 1 ≤ t.l c ∧ t.l c ≤ 8 ∧ 1 ≤ t.b c ∧ t.b c ≤ 4
instance (t : Tab) (c : Nat) : Decidable (okC t c) := by unfold okC; infer_instance
def tabOK (t : Tab) : Prop := (∀ c < 4, okC t c) ∧ 0 ≤ t.d ∧ t.d ≤ 4
instance (t : Tab) : Decidable (tabOK t) := by unfold tabOK; infer_instance
def tabE (t : Tab) : Int := if tabOK t then 0 else 20
theorem tab_u (t : Tab) {c : Nat} (hc : c < 4) : (tabC t)[c]? = some (i64 (t.u c)) := by
  match c, hc with
  | 0, _ | 1, _ | 2, _ | 3, _ => rfl
theorem tab_l (t : Tab) {c : Nat} (hc : c < 4) : (tabC t)[4 + c]? = some (i64 (t.l c)) := by
  match c, hc with
  | 0, _ | 1, _ | 2, _ | 3, _ => rfl
theorem tab_b (t : Tab) {c : Nat} (hc : c < 4) : (tabC t)[8 + c]? = some (i64 (t.b c)) := by
  match c, hc with
  | 0, _ | 1, _ | 2, _ | 3, _ => rfl
theorem tab_d (t : Tab) : (tabC t)[12]? = some (i64 t.d) := rfl
theorem tab_len (t : Tab) : (tabC t).length = 13 := rfl
theorem tab_take (t : Tab) : (tabC t).take 13 = tabC t := rfl
theorem tab_one (t : Tab) : (tabC t).all one = true := rfl
theorem tab_imms (t : Tab) : imms (tabC t) = true := rfl
attribute [push_cast] tab_len tab_take tab_one tab_imms
theorem tabE_bad {t : Tab} (h : ¬ tabOK t) : tabE t = 20 := by simp [tabE, h]
theorem tabE_ok {t : Tab} (h : tabOK t) : tabE t = 0 := by simp [tabE, h]

def I42 (t : Tab) (n : Nat) (σ : St) : Prop := ∃ c : Nat, c ≤ 4 ∧ n = 4 - c ∧ σ.env 5 = i64 c ∧ σ.env 1 = .ptr (2, 1) 0 ∧ σ.env 3 = .fn 76 [] ∧ σ.h.hp (2, 1) = some ⟨true, tabC t⟩ ∧ ∀ j < c, okC t j
theorem f42 (t : Tab) : HV Try.prog 42 [.agg (tabC t)] (i64 (tabE t)) := by
  refine yR yS cf42 (by simp) rfl ?_ rfl
  unfold ac42 re42
  refine yF fun env hE => ?_; have e0 := hE 0; have e1 := hE 1; have e2 := hE 2; have e3 := hE 3; have e4 := hE 4; have e5 := hE 5; have e6 := hE 6; simp -implicitDefEqProofs only [push_cast] at e0 e1 e2 e3 e4 e5 e6; clear hE
  repeat' (first | ((try clear hf); with_reducible refine zN fun env K hE hK hf => ?_; have n : _ ∧ _ ∧ _ ∧ _ ∧ _ ∧ _ ∧ _ := ⟨hE 0, hE 1, hE 2, hE 3, hE 4, hE 5, hE 6⟩; simp -implicitDefEqProofs only [push_cast, reduceIte, Nat.reduceEqDiff, e0, e1, e2, e3, e4, e5, e6] at n; clear hE e0 e1 e2 e3 e4 e5 e6; obtain ⟨e0, e1, e2, e3, e4, e5, e6⟩ := n) | (with_reducible refine hK _ _ ?_; clear hK K) | (with_reducible first | refine zL ?_ | refine zS ?_ | refine zC ?_ | refine zH ?_ | refine zF ?_ | refine zM ?_ | refine zR ?_ | refine zE ?_ | refine zI ?_ | refine zT ?_ | refine zG ?_ | refine zB (by decide) ?_ | refine zQ ?_ | refine zP ?_ | refine zK ?_ | refine zZ ?_ | refine yB ?_ | refine zW (by assumption) ?_ | refine zY (by assumption) ?_) | (refine zJ rfl ?_) | (simp -implicitDefEqProofs only [push_cast, sevalprocAttr, eq_self, e0, e1, e2, e3, e4, e5, e6]) | (simp -implicitDefEqProofs (disch := omega) only [zU, yC, zV, zD, e0, e1, e2, e3, e4, e5, e6]) | (with_reducible refine yI ?_ ?_) | (refine zO rfl (fun bb => ?_) (fun bb => ?_) <;> simp only [bb]) | (with_reducible refine zX (fun bb => ?_) (fun bb => ?_)) | ((with_reducible refine And.intro ?_ ?_); omega) | fail)
  refine qN (I42 t) 4 ⟨0, by omega, rfl, by simp -implicitDefEqProofs only [push_cast, sevalprocAttr, eq_self], by simp -implicitDefEqProofs only [push_cast, sevalprocAttr, eq_self, e1], by simp -implicitDefEqProofs only [push_cast, sevalprocAttr, eq_self, e3], by simp -implicitDefEqProofs only [push_cast, sevalprocAttr, eq_self], by omega⟩ ?_
  rintro n ⟨env, h⟩ ⟨c, hc4, rfl, e5, e1, e3, hb, hall⟩
  simp only at e5 e1 e3 hb
  have e0 : True := trivial; have e2 : True := trivial; have e4 : True := trivial; have e6 : True := trivial
  unfold l42_0
  by_cases hc : c < 4
  · have hx := tab_u t hc
    have hy := tab_l t hc
    have hz := tab_b t hc
    have hlt : decide ((c : Int) < 4) = true := by simp; omega
    repeat' (first | ((try clear hf); with_reducible refine zN fun env K hE hK hf => ?_; have n : _ ∧ _ ∧ _ ∧ _ ∧ _ ∧ _ ∧ _ := ⟨hE 0, hE 1, hE 2, hE 3, hE 4, hE 5, hE 6⟩; simp -implicitDefEqProofs only [push_cast, reduceIte, Nat.reduceEqDiff, e0, e1, e2, e3, e4, e5, e6] at n; clear hE e0 e1 e2 e3 e4 e5 e6; obtain ⟨e0, e1, e2, e3, e4, e5, e6⟩ := n) | (with_reducible refine hK _ _ ?_; clear hK K) | (with_reducible first | refine zL ?_ | refine zS ?_ | refine zC ?_ | refine zH ?_ | refine zF ?_ | refine zM ?_ | refine zR ?_ | refine zE ?_ | refine zI ?_ | refine zT ?_ | refine zG ?_ | refine zB (by decide) ?_ | refine zQ ?_ | refine zP ?_ | refine zK ?_ | refine zZ ?_ | refine yB ?_ | refine zW (by assumption) ?_ | refine zY (by assumption) ?_) | (refine zJ rfl ?_) | (simp -implicitDefEqProofs only [push_cast, sevalprocAttr, eq_self, e0, e1, e2, e3, e4, e5, e6, hlt, hb, hx, hy, hz]) | (simp -implicitDefEqProofs (disch := omega) only [zU, yC, zV, zD, e0, e1, e2, e3, e4, e5, e6, hlt, hb, hx, hy, hz]) | (with_reducible refine yI ?_ ?_) | (refine zO rfl (fun bb => ?_) (fun bb => ?_) <;> simp only [bb]) | (with_reducible refine zX (fun bb => ?_) (fun bb => ?_)) | ((with_reducible refine And.intro ?_ ?_); omega) | (refine yG (f76 _ _ _) ?_) | fail)
    all_goals first
      | (rw [tabE_bad]; intro h; have := h.1 c hc; simp [okC] at *; omega)
      | skip
    refine ⟨4 - (c + 1), by omega, c + 1, by omega, rfl, ?_, ?_, ?_, ?_, ?_⟩
    · simp -implicitDefEqProofs only [push_cast, sevalprocAttr, eq_self]
    · simp -implicitDefEqProofs only [push_cast, sevalprocAttr, eq_self, e1]
    · simp -implicitDefEqProofs only [push_cast, sevalprocAttr, eq_self, e3]
    · simp -implicitDefEqProofs only [push_cast, sevalprocAttr, eq_self, hb]
    · intro j hj
      by_cases e : j < c
      · exact hall j e
      · obtain rfl : j = c := by omega
        simp [okC] at *; omega
  · have hlt : decide ((c : Int) < 4) = false := by simp; omega
    repeat' (first | ((try clear hf); with_reducible refine zN fun env K hE hK hf => ?_; have n : _ ∧ _ ∧ _ ∧ _ ∧ _ ∧ _ ∧ _ := ⟨hE 0, hE 1, hE 2, hE 3, hE 4, hE 5, hE 6⟩; simp -implicitDefEqProofs only [push_cast, reduceIte, Nat.reduceEqDiff, e0, e1, e2, e3, e4, e5, e6] at n; clear hE e0 e1 e2 e3 e4 e5 e6; obtain ⟨e0, e1, e2, e3, e4, e5, e6⟩ := n) | (with_reducible refine hK _ _ ?_; clear hK K) | (with_reducible first | refine zL ?_ | refine zS ?_ | refine zC ?_ | refine zH ?_ | refine zF ?_ | refine zM ?_ | refine zR ?_ | refine zE ?_ | refine zI ?_ | refine zT ?_ | refine zG ?_ | refine zB (by decide) ?_ | refine zQ ?_ | refine zP ?_ | refine zK ?_ | refine zZ ?_ | refine yB ?_ | refine zW (by assumption) ?_ | refine zY (by assumption) ?_) | (refine zJ rfl ?_) | (simp -implicitDefEqProofs only [push_cast, sevalprocAttr, eq_self, e0, e1, e2, e3, e4, e5, e6, hlt, hb, tab_d]) | (simp -implicitDefEqProofs (disch := omega) only [zU, yC, zV, zD, e0, e1, e2, e3, e4, e5, e6, hlt, hb, tab_d]) | (with_reducible refine yI ?_ ?_) | (refine zO rfl (fun bb => ?_) (fun bb => ?_) <;> simp only [bb]) | (with_reducible refine zX (fun bb => ?_) (fun bb => ?_)) | ((with_reducible refine And.intro ?_ ?_); omega) | (refine yG (f76 _ _ _) ?_) | fail)
    · rw [tabE_bad]; intro h; have := h.2; simp at *; omega
    · rw [tabE_ok]; exact ⟨fun j hj => hall j (by omega), by simp at *; omega⟩
end Go.Proofs.Hx

set_option linter.unusedVariables false
set_option linter.unusedSimpArgs false
namespace Go.Proofs.Hx
open Go Go.Proofs
attribute [local irreducible] yL awp opK goV goM qM qI qK yN HV HVF HC
structure Shp where
  nm : ByteArray
  cl : Int
  d : Bool
  a : Bool
  b : Bool
  n : Bool
  im : Bool
  is : Bool
def shpA (s : Shp) : List AV := [.lit (.string s.nm), .lit (.int .i8 s.cl), .lit (.bool s.d), .lit (.bool s.a), .lit (.bool s.b), .lit (.bool s.n), .lit (.bool s.im), .lit (.bool s.is)]
def noShp : Shp := ⟨⟨#[]⟩, 0, false, false, false, false, false, false⟩
def shpT : Nat → Shp
  | 0 => ⟨⟨#[110, 111, 112]⟩, (-1), false, false, false, false, false, true⟩
  | 1 => ⟨⟨#[99, 111, 110, 115, 116]⟩, 0, true, false, false, false, true, true⟩
  | 2 => ⟨⟨#[97, 100, 100]⟩, 0, true, true, true, false, false, true⟩
  | 3 => ⟨⟨#[115, 117, 98]⟩, 0, true, true, true, false, false, true⟩
  | 4 => ⟨⟨#[97, 110, 100]⟩, 0, true, true, true, false, false, true⟩
  | 5 => ⟨⟨#[111, 114]⟩, 0, true, true, true, false, false, true⟩
  | 6 => ⟨⟨#[120, 111, 114]⟩, 0, true, true, true, false, false, true⟩
  | 7 => ⟨⟨#[115, 104, 108]⟩, 0, true, true, true, false, false, true⟩
  | 8 => ⟨⟨#[115, 104, 114]⟩, 0, true, true, true, false, false, true⟩
  | 9 => ⟨⟨#[108, 101, 115, 115]⟩, 0, true, true, true, false, false, true⟩
  | 10 => ⟨⟨#[101, 113, 117, 97, 108]⟩, 0, true, true, true, false, false, true⟩
  | 11 => ⟨⟨#[109, 111, 118, 101]⟩, 0, true, true, false, false, false, true⟩
  | 12 => ⟨⟨#[116, 105, 109, 101, 115]⟩, 1, true, true, true, false, false, true⟩
  | 13 => ⟨⟨#[100, 105, 118, 105, 100, 101]⟩, 1, true, true, true, false, false, true⟩
  | 14 => ⟨⟨#[114, 101, 115, 116]⟩, 1, true, true, true, false, false, true⟩
  | 15 => ⟨⟨#[108, 111, 97, 100]⟩, 2, true, true, false, false, true, true⟩
  | 16 => ⟨⟨#[115, 116, 111, 114, 101]⟩, 2, false, true, true, false, true, true⟩
  | 17 => ⟨⟨#[112, 114, 105, 110, 116]⟩, 2, false, true, false, false, false, true⟩
  | 18 => ⟨⟨#[106, 117, 109, 112]⟩, 3, false, false, false, false, true, true⟩
  | 19 => ⟨⟨#[98, 114, 97, 110, 99, 104]⟩, 3, false, true, false, false, true, true⟩
  | 20 => ⟨⟨#[104, 97, 108, 116]⟩, 3, false, true, false, false, false, true⟩
  | 21 => ⟨⟨#[99, 111, 117, 110, 116]⟩, 3, false, true, false, false, true, true⟩
  | 22 => ⟨⟨#[115, 104, 111, 114, 116]⟩, 3, false, true, false, true, true, true⟩
  | 23 => ⟨⟨#[97, 103, 97, 105, 110]⟩, 3, false, false, false, false, true, true⟩
  | _ => noShp
def qA : List AV := (List.range 24).flatMap fun i => shpA (shpT i)


def tblShapes : Tbl := [(105, 39, ac105, re105), (121, 8, ac121, re121)]
theorem f105 : HV Try.prog 105 [] (.agg qA) :=
  yP yS (T := tblShapes) (by simp only [TblOk, tblShapes, List.forall_mem_cons, List.not_mem_nil, false_imp_iff, implies_true, and_true]; exact ⟨cf105, cf121⟩) 1000 rfl (by kernel_rfl) (by kernel_rfl)
def ofS (n : Int) : Shp := if n < 0 ∨ 24 ≤ n then noShp else shpT n.toNat
theorem ofS_bad {n : Int} (h : n < 0 ∨ 24 ≤ n) : ofS n = noShp := by simp [ofS, h]
theorem ofS_ok {n : Int} (h : ¬ (n < 0 ∨ 24 ≤ n)) : ofS n = shpT n.toNat := by simp [ofS, h]
theorem sh_0 : yT true (0 * 8) 8 qA = some (.agg (shpA (shpT 0))) := by kernel_rfl
theorem sh_1 : yT true (1 * 8) 8 qA = some (.agg (shpA (shpT 1))) := by kernel_rfl
theorem sh_2 : yT true (2 * 8) 8 qA = some (.agg (shpA (shpT 2))) := by kernel_rfl
theorem sh_3 : yT true (3 * 8) 8 qA = some (.agg (shpA (shpT 3))) := by kernel_rfl
theorem sh_4 : yT true (4 * 8) 8 qA = some (.agg (shpA (shpT 4))) := by kernel_rfl
theorem sh_5 : yT true (5 * 8) 8 qA = some (.agg (shpA (shpT 5))) := by kernel_rfl
theorem sh_6 : yT true (6 * 8) 8 qA = some (.agg (shpA (shpT 6))) := by kernel_rfl
theorem sh_7 : yT true (7 * 8) 8 qA = some (.agg (shpA (shpT 7))) := by kernel_rfl
theorem sh_8 : yT true (8 * 8) 8 qA = some (.agg (shpA (shpT 8))) := by kernel_rfl
theorem sh_9 : yT true (9 * 8) 8 qA = some (.agg (shpA (shpT 9))) := by kernel_rfl
theorem sh_10 : yT true (10 * 8) 8 qA = some (.agg (shpA (shpT 10))) := by kernel_rfl
theorem sh_11 : yT true (11 * 8) 8 qA = some (.agg (shpA (shpT 11))) := by kernel_rfl
theorem sh_12 : yT true (12 * 8) 8 qA = some (.agg (shpA (shpT 12))) := by kernel_rfl
theorem sh_13 : yT true (13 * 8) 8 qA = some (.agg (shpA (shpT 13))) := by kernel_rfl
theorem sh_14 : yT true (14 * 8) 8 qA = some (.agg (shpA (shpT 14))) := by kernel_rfl
theorem sh_15 : yT true (15 * 8) 8 qA = some (.agg (shpA (shpT 15))) := by kernel_rfl
theorem sh_16 : yT true (16 * 8) 8 qA = some (.agg (shpA (shpT 16))) := by kernel_rfl
theorem sh_17 : yT true (17 * 8) 8 qA = some (.agg (shpA (shpT 17))) := by kernel_rfl
theorem sh_18 : yT true (18 * 8) 8 qA = some (.agg (shpA (shpT 18))) := by kernel_rfl
theorem sh_19 : yT true (19 * 8) 8 qA = some (.agg (shpA (shpT 19))) := by kernel_rfl
theorem sh_20 : yT true (20 * 8) 8 qA = some (.agg (shpA (shpT 20))) := by kernel_rfl
theorem sh_21 : yT true (21 * 8) 8 qA = some (.agg (shpA (shpT 21))) := by kernel_rfl
theorem sh_22 : yT true (22 * 8) 8 qA = some (.agg (shpA (shpT 22))) := by kernel_rfl
theorem sh_23 : yT true (23 * 8) 8 qA = some (.agg (shpA (shpT 23))) := by kernel_rfl
theorem shapes_at {i : Nat} (h : i < 24) : yT true (i * 8) 8 qA = some (.agg (shpA (shpT i))) := by
  match i, h with
  | 0, _ => exact sh_0
  | 1, _ => exact sh_1
  | 2, _ => exact sh_2
  | 3, _ => exact sh_3
  | 4, _ => exact sh_4
  | 5, _ => exact sh_5
  | 6, _ => exact sh_6
  | 7, _ => exact sh_7
  | 8, _ => exact sh_8
  | 9, _ => exact sh_9
  | 10, _ => exact sh_10
  | 11, _ => exact sh_11
  | 12, _ => exact sh_12
  | 13, _ => exact sh_13
  | 14, _ => exact sh_14
  | 15, _ => exact sh_15
  | 16, _ => exact sh_16
  | 17, _ => exact sh_17
  | 18, _ => exact sh_18
  | 19, _ => exact sh_19
  | 20, _ => exact sh_20
  | 21, _ => exact sh_21
  | 22, _ => exact sh_22
  | 23, _ => exact sh_23
  | n + 24, h => omega
theorem shp_imms (s : Shp) : imms (shpA s) = true := by cases s; simp [shpA, imm, imms]
theorem f75 (n : Int) : HV Try.prog 75 [.lit (.int .i8 n)] (.tup [.agg (shpA (ofS n)), .lit (.bool (ofS n).is)]) := by
  refine yR yS cf75 (by simp) rfl ?_ (by simp [imm, imms, shp_imms])
  unfold ac75 re75
  refine yF fun env hE => ?_; have e0 := hE 0; have e2 := hE 2; have e3 := hE 3; have e4 := hE 4; simp -implicitDefEqProofs only [push_cast] at e0 e2 e3 e4; clear hE
  by_cases hn : n < 0 ∨ 24 ≤ n
  · rw [ofS_bad hn]
    repeat' (first | ((try clear hf); with_reducible refine zN fun env K hE hK hf => ?_; have n : _ ∧ _ ∧ _ ∧ _ := ⟨hE 0, hE 2, hE 3, hE 4⟩; simp -implicitDefEqProofs only [push_cast, reduceIte, Nat.reduceEqDiff, e0, e2, e3, e4] at n; clear hE e0 e2 e3 e4; obtain ⟨e0, e2, e3, e4⟩ := n) | (with_reducible refine hK _ _ ?_; clear hK K) | (with_reducible first | refine zL ?_ | refine zS ?_ | refine zC ?_ | refine zH ?_ | refine zF ?_ | refine zM ?_ | refine zR ?_ | refine zE ?_ | refine zI ?_ | refine zT ?_ | refine zG ?_ | refine zB (by decide) ?_ | refine zQ ?_ | refine zP ?_ | refine zK ?_ | refine zZ ?_ | refine yB ?_ | refine zW (by assumption) ?_ | refine zY (by assumption) ?_) | (refine zJ rfl ?_) | (simp -implicitDefEqProofs only [push_cast, sevalprocAttr, eq_self, e0, e2, e3, e4]) | (simp -implicitDefEqProofs (disch := omega) only [zU, yC, zV, zD, e0, e2, e3, e4]) | (with_reducible refine yI ?_ ?_) | (refine zO rfl (fun bb => ?_) (fun bb => ?_) <;> simp only [bb]) | (with_reducible refine zX (fun bb => ?_) (fun bb => ?_)) | ((with_reducible refine And.intro ?_ ?_); omega) | fail)
    all_goals first | rfl | (exfalso; simp at *; omega) | skip
  · obtain ⟨i, rfl⟩ : ∃ i : Nat, n = i := ⟨n.toNat, by omega⟩
    have hi : i < 24 := by omega
    have hx : ofS (i : Int) = shpT i := by
      have := ofS_ok (n := i) (by omega)
      simpa using this
    rw [hx]
    have hs := shapes_at hi
    repeat' (first | ((try clear hf); with_reducible refine zN fun env K hE hK hf => ?_; have n : _ ∧ _ ∧ _ ∧ _ := ⟨hE 0, hE 2, hE 3, hE 4⟩; simp -implicitDefEqProofs only [push_cast, reduceIte, Nat.reduceEqDiff, e0, e2, e3, e4] at n; clear hE e0 e2 e3 e4; obtain ⟨e0, e2, e3, e4⟩ := n) | (with_reducible refine hK _ _ ?_; clear hK K) | (with_reducible first | refine zL ?_ | refine zS ?_ | refine zC ?_ | refine zH ?_ | refine zF ?_ | refine zM ?_ | refine zR ?_ | refine zE ?_ | refine zI ?_ | refine zT ?_ | refine zG ?_ | refine zB (by decide) ?_ | refine zQ ?_ | refine zP ?_ | refine zK ?_ | refine zZ ?_ | refine yB ?_ | refine zW (by assumption) ?_ | refine zY (by assumption) ?_) | (refine zJ rfl ?_) | (simp -implicitDefEqProofs only [push_cast, sevalprocAttr, eq_self, e0, e2, e3, e4, hs, shpA]) | (simp -implicitDefEqProofs (disch := omega) only [zU, yC, zV, zD, e0, e2, e3, e4, hs, shpA]) | (with_reducible refine yI ?_ ?_) | (refine zO rfl (fun bb => ?_) (fun bb => ?_) <;> simp only [bb]) | (with_reducible refine zX (fun bb => ?_) (fun bb => ?_)) | ((with_reducible refine And.intro ?_ ?_); omega) | (refine yG f105 ?_) | fail)
    all_goals first | rfl | (exfalso; simp at *; omega) | skip
/-- A kind's class: the number, and whether there is one. -/
def clsS (n : Int) : Int × Bool := if (ofS n).is = true ∧ 0 ≤ (ofS n).cl then ((ofS n).cl, true) else (0, false)
theorem shpT_cl (i : Nat) : IntKind.wrap .i64 (shpT i).cl = (shpT i).cl := by
  unfold shpT
  split <;> rfl
theorem ofS_cl (n : Int) : IntKind.wrap .i64 (ofS n).cl = (ofS n).cl := by
  unfold ofS
  split
  · rfl
  · exact shpT_cl _

theorem f41 (n : Int) : HV Try.prog 41 [.lit (.int .i8 n)] (.tup [.lit (.int .i64 (clsS n).1), .lit (.bool (clsS n).2)]) := by
  refine yR yS cf41 (by simp) rfl ?_ (by simp [imm, imms])
  unfold ac41 re41
  refine yF fun env hE => ?_; have e0 := hE 0; have e2 := hE 2; have e3 := hE 3; have e4 := hE 4; have e5 := hE 5; simp -implicitDefEqProofs only [push_cast] at e0 e2 e3 e4 e5; clear hE
  have hw := ofS_cl n
  repeat' (first | ((try clear hf); with_reducible refine zN fun env K hE hK hf => ?_; have n : _ ∧ _ ∧ _ ∧ _ ∧ _ := ⟨hE 0, hE 2, hE 3, hE 4, hE 5⟩; simp -implicitDefEqProofs only [push_cast, reduceIte, Nat.reduceEqDiff, e0, e2, e3, e4, e5] at n; clear hE e0 e2 e3 e4 e5; obtain ⟨e0, e2, e3, e4, e5⟩ := n) | (with_reducible refine hK _ _ ?_; clear hK K) | (with_reducible first | refine zL ?_ | refine zS ?_ | refine zC ?_ | refine zH ?_ | refine zF ?_ | refine zM ?_ | refine zR ?_ | refine zE ?_ | refine zI ?_ | refine zT ?_ | refine zG ?_ | refine zB (by decide) ?_ | refine zQ ?_ | refine zP ?_ | refine zK ?_ | refine zZ ?_ | refine yB ?_ | refine zW (by assumption) ?_ | refine zY (by assumption) ?_) | (refine zJ rfl ?_) | (simp -implicitDefEqProofs only [push_cast, sevalprocAttr, eq_self, e0, e2, e3, e4, e5, hw, shpA]) | (simp -implicitDefEqProofs (disch := omega) only [zU, yC, zV, zD, e0, e2, e3, e4, e5, hw, shpA]) | (with_reducible refine yI ?_ ?_) | (refine zO rfl (fun bb => ?_) (fun bb => ?_) <;> simp only [bb]) | (with_reducible refine zX (fun bb => ?_) (fun bb => ?_)) | ((with_reducible refine And.intro ?_ ?_); omega) | (refine yG (f75 n) ?_) | fail)
  all_goals (have hx : clsS n = clsS n := rfl; conv at hx => rhs; unfold clsS)
  all_goals rw [hx]; simp at *; first | (simp [*]; done) | (rw [if_neg (by simp [*])]; simp) | skip
def sgn32 (u : Int) : Int := (IntKind.wrap .i64 (IntKind.wrap .u64 (u * 2 ^ 32))).fdiv (2 ^ 32)
theorem bin_shl32 (u : Int) : binV .shl (.lit (.int .u64 u)) (.lit (.int .u8 32)) = some (.lit (.int .u64 (IntKind.wrap .u64 (u * 2 ^ 32)))) := rfl
theorem bin_shr32 (u : Int) : binV .shr (.lit (.int .i64 u)) (.lit (.int .u8 32)) = some (.lit (.int .i64 (u.fdiv (2 ^ 32)))) := rfl

theorem f123 (u : Int) : HV Try.prog 123 [.lit (.int .u64 u), .lit (.int .i64 32)] (.lit (.int .i64 (sgn32 u))) := by
  refine yR yS cf123 (by simp) rfl ?_ rfl
  unfold ac123 re123
  refine yF fun env hE => ?_; have e0 := hE 0; have e1 := hE 1; have e4 := hE 4; have e5 := hE 5; simp -implicitDefEqProofs only [push_cast] at e0 e1 e4 e5; clear hE
  have k1 : IntKind.wrap .i64 (64 - 32) = 32 := rfl
  have k2 : IntKind.wrap .u8 32 = 32 := rfl
  have k3 : maxV [AV.lit (.int .i64 32), AV.lit (.int .i64 1)] = some (.lit (.int .i64 32)) := rfl
  have k4 : minV [AV.lit (.int .i64 32), AV.lit (.int .i64 64)] = some (.lit (.int .i64 32)) := rfl
  repeat' (first | ((try clear hf); with_reducible refine zN fun env K hE hK hf => ?_; have n : _ ∧ _ ∧ _ ∧ _ := ⟨hE 0, hE 1, hE 4, hE 5⟩; simp -implicitDefEqProofs only [push_cast, reduceIte, Nat.reduceEqDiff, e0, e1, e4, e5] at n; clear hE e0 e1 e4 e5; obtain ⟨e0, e1, e4, e5⟩ := n) | (with_reducible refine hK _ _ ?_; clear hK K) | (with_reducible first | refine zL ?_ | refine zS ?_ | refine zC ?_ | refine zH ?_ | refine zF ?_ | refine zM ?_ | refine zR ?_ | refine zE ?_ | refine zI ?_ | refine zT ?_ | refine zG ?_ | refine zB (by decide) ?_ | refine zQ ?_ | refine zP ?_ | refine zK ?_ | refine zZ ?_ | refine yB ?_ | refine zW (by assumption) ?_ | refine zY (by assumption) ?_) | (refine zJ rfl ?_) | (simp -implicitDefEqProofs only [push_cast, sevalprocAttr, eq_self, e0, e1, e4, e5, k1, k2, k3, k4, bin_shl32, bin_shr32]) | (simp -implicitDefEqProofs (disch := omega) only [zU, yC, zV, zD, e0, e1, e4, e5, k1, k2, k3, k4, bin_shl32, bin_shr32]) | (with_reducible refine yI ?_ ?_) | (refine zO rfl (fun bb => ?_) (fun bb => ?_) <;> simp only [bb]) | (with_reducible refine zX (fun bb => ?_) (fun bb => ?_)) | ((with_reducible refine And.intro ?_ ?_); omega) | fail)
  rfl
theorem sgn32_eq (x : Int) (h1 : -9223372036854775808 ≤ x) (h2 : x ≤ 9223372036854775807) : decide (sgn32 (IntKind.wrap .u64 x) = x) = decide (-2147483648 ≤ x ∧ x ≤ 2147483647) := by
  unfold sgn32
  simp only [IntKind.wrap, IntKind.bits, IntKind.signed, Bool.true_and, Bool.false_and, decide_eq_true_eq, ge_iff_le, Bool.false_eq_true, if_false]
  rw [Int.fdiv_eq_ediv_of_nonneg _ (by decide)]
  apply decide_eq_decide.2
  split <;> omega

theorem f110 (x : Int) (h1 : -9223372036854775808 ≤ x) (h2 : x ≤ 9223372036854775807) : HV Try.prog 110 [.lit (.int .i64 x), .lit (.int .i64 32)] (.lit (.bool (decide (-2147483648 ≤ x ∧ x ≤ 2147483647)))) := by
  refine yR yS cf110 (by simp) rfl ?_ rfl
  unfold ac110 re110
  refine yF fun env hE => ?_; have e0 := hE 0; have e1 := hE 1; have e4 := hE 4; simp -implicitDefEqProofs only [push_cast] at e0 e1 e4; clear hE
  repeat' (first | ((try clear hf); with_reducible refine zN fun env K hE hK hf => ?_; have n : _ ∧ _ ∧ _ := ⟨hE 0, hE 1, hE 4⟩; simp -implicitDefEqProofs only [push_cast, reduceIte, Nat.reduceEqDiff, e0, e1, e4] at n; clear hE e0 e1 e4; obtain ⟨e0, e1, e4⟩ := n) | (with_reducible refine hK _ _ ?_; clear hK K) | (with_reducible first | refine zL ?_ | refine zS ?_ | refine zC ?_ | refine zH ?_ | refine zF ?_ | refine zM ?_ | refine zR ?_ | refine zE ?_ | refine zI ?_ | refine zT ?_ | refine zG ?_ | refine zB (by decide) ?_ | refine zQ ?_ | refine zP ?_ | refine zK ?_ | refine zZ ?_ | refine yB ?_ | refine zW (by assumption) ?_ | refine zY (by assumption) ?_) | (refine zJ rfl ?_) | (simp -implicitDefEqProofs only [push_cast, sevalprocAttr, eq_self, e0, e1, e4, sgn32_eq x h1 h2]) | (simp -implicitDefEqProofs (disch := omega) only [zU, yC, zV, zD, e0, e1, e4, sgn32_eq x h1 h2]) | (with_reducible refine yI ?_ ?_) | (refine zO rfl (fun bb => ?_) (fun bb => ?_) <;> simp only [bb]) | (with_reducible refine zX (fun bb => ?_) (fun bb => ?_)) | ((with_reducible refine And.intro ?_ ?_); omega) | (refine yG (f123 _) ?_) | fail)
structure Opn where
  k : Int
  d : Int
  a : Int
  b : Int
  im : Int
def opC (o : Opn) : List AV := [.lit (.int .i8 o.k), .lit (.int .u8 o.d), .lit (.int .u8 o.a), .lit (.int .u8 o.b), .lit (.int .i64 o.im)]
/-- An operation that is one. -/
def chkP (o : Opn) : Prop := (ofS o.k).is = true ∧ o.d ≤ 31 ∧ o.a ≤ 31 ∧ o.b ≤ 31 ∧ (-2147483648 ≤ o.im ∧ o.im ≤ 2147483647) ∧ ((ofS o.k).d = true ∨ o.d = 0) ∧ ((ofS o.k).a = true ∨ o.a = 0) ∧ ((ofS o.k).b = true ∨ (ofS o.k).n = true ∨ o.b = 0) ∧ ((ofS o.k).im = true ∨ o.im = 0)
instance (o : Opn) : Decidable (chkP o) := by unfold chkP; infer_instance
def chkE (o : Opn) : Int := if chkP o then 0 else 30
theorem op_0 (o : Opn) : (opC o)[0]? = some (.lit (.int .i8 o.k)) := rfl
theorem op_1 (o : Opn) : (opC o)[1]? = some (.lit (.int .u8 o.d)) := rfl
theorem op_2 (o : Opn) : (opC o)[2]? = some (.lit (.int .u8 o.a)) := rfl
theorem op_3 (o : Opn) : (opC o)[3]? = some (.lit (.int .u8 o.b)) := rfl
theorem op_4 (o : Opn) : (opC o)[4]? = some (.lit (.int .i64 o.im)) := rfl

set_option maxHeartbeats 4000000 in
theorem f87 (o : Opn) (h1' : -9223372036854775808 ≤ o.im) (h2' : o.im ≤ 9223372036854775807) : HV Try.prog 87 [.agg (opC o)] (.lit (.int .i64 (chkE o))) := by
  refine yR yS cf87 (by simp) rfl ?_ rfl
  unfold ac87 re87
  refine yF fun env hE => ?_; have e0 := hE 0; have e1 := hE 1; have e2 := hE 2; have e3 := hE 3; have e4 := hE 4; have e11 := hE 11; have e27 := hE 27; simp -implicitDefEqProofs only [push_cast] at e0 e1 e2 e3 e4 e11 e27; clear hE
  repeat' (first | ((try clear hf); with_reducible refine zN fun env K hE hK hf => ?_; have n : _ ∧ _ ∧ _ ∧ _ ∧ _ ∧ _ ∧ _ := ⟨hE 0, hE 1, hE 2, hE 3, hE 4, hE 11, hE 27⟩; simp -implicitDefEqProofs only [push_cast, reduceIte, Nat.reduceEqDiff, e0, e1, e2, e3, e4, e11, e27] at n; clear hE e0 e1 e2 e3 e4 e11 e27; obtain ⟨e0, e1, e2, e3, e4, e11, e27⟩ := n) | (with_reducible refine hK _ _ ?_; clear hK K) | (with_reducible first | refine zL ?_ | refine zS ?_ | refine zC ?_ | refine zH ?_ | refine zF ?_ | refine zM ?_ | refine zR ?_ | refine zE ?_ | refine zI ?_ | refine zT ?_ | refine zG ?_ | refine zB (by decide) ?_ | refine zQ ?_ | refine zP ?_ | refine zK ?_ | refine zZ ?_ | refine yB ?_ | refine zW (by assumption) ?_ | refine zY (by assumption) ?_) | (refine zJ rfl ?_) | (simp -implicitDefEqProofs only [push_cast, sevalprocAttr, eq_self, e0, e1, e2, e3, e4, e11, e27, shpA, opC]) | (simp -implicitDefEqProofs (disch := omega) only [zU, yC, zV, zD, e0, e1, e2, e3, e4, e11, e27, shpA, opC]) | (with_reducible refine yI ?_ ?_) | (refine zO rfl (fun bb => ?_) (fun bb => ?_) <;> simp only [bb]) | (with_reducible refine zX (fun bb => ?_) (fun bb => ?_)) | ((with_reducible refine And.intro ?_ ?_); omega) | (refine yG (f75 o.k) ?_) | (refine yG (f110 o.im h1' h2') ?_) | fail)
  all_goals ((try clear hf); (try clear e0 e1 e2 e3 e4 e11 e27); simp only [chkE, chkP]; simp at *; simp [*]; try omega)
end Go.Proofs.Hx

set_option linter.unusedVariables false
set_option linter.unusedSimpArgs false
namespace Go.Proofs.Hx
open Go Go.Proofs
attribute [local irreducible] yL awp opK goV goM qM qI qK yN HV HVF HC
abbrev u8 (n : Int) : AV := .lit (.int .u8 n)
abbrev bl (b : Bool) : AV := .lit (.bool b)
def Opn.ok (o : Opn) : Prop := -9223372036854775808 ≤ o.im ∧ o.im ≤ 9223372036854775807 ∧ 0 ≤ o.d ∧ o.d ≤ 255 ∧ 0 ≤ o.a ∧ o.a ≤ 255 ∧ 0 ≤ o.b ∧ o.b ≤ 255 ∧ -128 ≤ o.k ∧ o.k ≤ 127
theorem f87' (o : Opn) (h : o.ok) : HV Try.prog 87 [.agg (opC o)] (i64 (chkE o)) := f87 o h.1 h.2.1
/-- The register that an operation writes, and whether there is one. -/
def wrS (o : Opn) : Int × Bool := if (ofS o.k).d = true ∧ chkE o = 0 then (o.d, true) else (0, false)
theorem f52 (o : Opn) (h : o.ok) : HV Try.prog 52 [.agg (opC o)] (.tup [u8 (wrS o).1, bl (wrS o).2]) := by
  refine yR yS cf52 (by simp) rfl ?_ (by simp [imm, imms])
  unfold ac52 re52
  refine yF fun env hE => ?_; have e0 := hE 0; have e1 := hE 1; have e2 := hE 2; have e3 := hE 3; have e4 := hE 4; simp -implicitDefEqProofs only [push_cast] at e0 e1 e2 e3 e4; clear hE
  have hc := f87' o h
  unfold opC at hc
  repeat' (first | ((try clear hf); with_reducible refine zN fun env K hE hK hf => ?_; have n : _ ∧ _ ∧ _ ∧ _ ∧ _ := ⟨hE 0, hE 1, hE 2, hE 3, hE 4⟩; simp -implicitDefEqProofs only [push_cast, reduceIte, Nat.reduceEqDiff, e0, e1, e2, e3, e4] at n; clear hE e0 e1 e2 e3 e4; obtain ⟨e0, e1, e2, e3, e4⟩ := n) | (with_reducible refine hK _ _ ?_; clear hK K) | (with_reducible first | refine zL ?_ | refine zS ?_ | refine zC ?_ | refine zH ?_ | refine zF ?_ | refine zM ?_ | refine zR ?_ | refine zE ?_ | refine zI ?_ | refine zT ?_ | refine zG ?_ | refine zB (by decide) ?_ | refine zQ ?_ | refine zP ?_ | refine zK ?_ | refine zZ ?_ | refine yB ?_ | refine zW (by assumption) ?_ | refine zY (by assumption) ?_) | (refine zJ rfl ?_) | (simp -implicitDefEqProofs only [push_cast, sevalprocAttr, eq_self, e0, e1, e2, e3, e4, shpA, opC]) | (simp -implicitDefEqProofs (disch := omega) only [zU, yC, zV, zD, e0, e1, e2, e3, e4, shpA, opC]) | (with_reducible refine yI ?_ ?_) | (refine zO rfl (fun bb => ?_) (fun bb => ?_) <;> simp only [bb]) | (with_reducible refine zX (fun bb => ?_) (fun bb => ?_)) | ((with_reducible refine And.intro ?_ ?_); omega) | (refine yG (f75 o.k) ?_) | (refine yG hc ?_) | fail)
  all_goals ((try clear hf); (try clear e0 e1 e2 e3 e4); clear hc; simp only [wrS]; simp at *; simp [*])
/-- The registers that an operation reads. -/
def rdS (o : Opn) : List Int :=
  if chkE o ≠ 0 then [] else if (ofS o.k).a = true ∧ (ofS o.k).b = true ∧ o.a ≠ o.b then [o.a, o.b] else if (ofS o.k).a = true then [o.a] else if (ofS o.k).b = true then [o.b] else []
def regsC (l : List Int) : List (List AV) := l.map fun r => [u8 r]
theorem f54 (o : Opn) (h : o.ok) : HVF Try.prog 54 [.agg (opC o)] (.row (regsC (rdS o))) := by
  refine HVF_of_awp yS cf54 (by simp) rfl ?_ (by simp [imm]; exact immss_of_get fun i x hx => by simp [regsC] at hx; obtain ⟨a, _, rfl⟩ := hx; rfl)
  unfold ac54 re54
  refine yF fun env hE => ?_; have e0 := hE 0; have e1 := hE 1; have e2 := hE 2; have e3 := hE 3; have e5 := hE 5; simp -implicitDefEqProofs only [push_cast] at e0 e1 e2 e3 e5; clear hE
  have hc := f87' o h
  unfold opC at hc
  repeat' (first | ((try clear hf); with_reducible refine zN fun env K hE hK hf => ?_; have n : _ ∧ _ ∧ _ ∧ _ ∧ _ := ⟨hE 0, hE 1, hE 2, hE 3, hE 5⟩; simp -implicitDefEqProofs only [push_cast, reduceIte, Nat.reduceEqDiff, e0, e1, e2, e3, e5] at n; clear hE e0 e1 e2 e3 e5; obtain ⟨e0, e1, e2, e3, e5⟩ := n) | (with_reducible refine hK _ _ ?_; clear hK K) | (with_reducible first | refine zL ?_ | refine zS ?_ | refine zC ?_ | refine zH ?_ | refine zF ?_ | refine zM ?_ | refine zR ?_ | refine zE ?_ | refine zI ?_ | refine zT ?_ | refine zG ?_ | refine zB (by decide) ?_ | refine zQ ?_ | refine zP ?_ | refine zK ?_ | refine zZ ?_ | refine yB ?_ | refine zW (by assumption) ?_ | refine zY (by assumption) ?_) | (refine zJ rfl ?_) | (simp -implicitDefEqProofs only [push_cast, sevalprocAttr, eq_self, e0, e1, e2, e3, e5, shpA, opC]) | (simp -implicitDefEqProofs (disch := omega) only [zU, yC, zV, zD, e0, e1, e2, e3, e5, shpA, opC]) | (with_reducible refine yI ?_ ?_) | (refine zO rfl (fun bb => ?_) (fun bb => ?_) <;> simp only [bb]) | (with_reducible refine zX (fun bb => ?_) (fun bb => ?_)) | ((with_reducible refine And.intro ?_ ?_); omega) | (refine yG (f75 o.k) ?_) | (refine yG hc ?_) | fail)
  all_goals ((try clear hf); (try clear e0 e1 e2 e3 e5); clear hc; simp only [rdS, regsC]; simp at *; simp [*])
end Go.Proofs.Hx

set_option linter.unusedVariables false
set_option linter.unusedSimpArgs false
namespace Go.Proofs.Hx
open Go Go.Proofs
attribute [local irreducible] yL awp opK goV goM qM qI qK yN HV HVF HC
/-- An operation that may stand in a list. -/
def opOK (o : Opn) : Prop := 1 ≤ o.k ∧ o.k ≤ 17 ∧ chkE o = 0
instance (o : Opn) : Decidable (opOK o) := by unfold opOK; infer_instance
theorem opC_len (o : Opn) : (opC o).length = 5 := rfl
theorem opC_take (o : Opn) : (opC o).take 5 = opC o := rfl
theorem opC_one (o : Opn) : (opC o).all one = true := rfl
theorem opC_imms (o : Opn) : imms (opC o) = true := rfl
attribute [push_cast] opC_len opC_take opC_one opC_imms
end Go.Proofs.Hx

set_option linter.unusedVariables false
set_option linter.unusedSimpArgs false
namespace Go.Proofs.Hx
open Go Go.Proofs
attribute [local irreducible] yL awp opK goV goM qM qI qK yN HV HVF HC
def clsN (o : Opn) : Nat := (clsS o.k).1.toNat
theorem clsN_eq (o : Opn) : (clsS o.k).1 = (clsN o : Int) := by
  have : 0 ≤ (clsS o.k).1 := by unfold clsS; split <;> simp_all
  unfold clsN; omega
theorem shpT_cl3 (i : Nat) : (shpT i).cl ≤ 3 := by unfold shpT; split <;> decide
theorem clsN_lt (o : Opn) : clsN o < 4 := by
  have : (clsS o.k).1 ≤ 3 := by
    unfold clsS
    split
    · unfold ofS
      split
      · decide
      · exact shpT_cl3 _
    · decide
  unfold clsN; omega
def cntC (l : List Opn) (c : Nat) : Nat := (if c = 3 then 1 else 0) + (l.filter fun o => clsN o == c).length
def nC (n : Nat → Int) : List AV := [i64 (n 0), i64 (n 1), i64 (n 2), i64 (n 3)]
theorem nC_len (n : Nat → Int) : (nC n).length = 4 := rfl
theorem nC_take (n : Nat → Int) : (nC n).take 4 = nC n := rfl
theorem nC_one (n : Nat → Int) : (nC n).all one = true := rfl
theorem nC_imms (n : Nat → Int) : imms (nC n) = true := rfl
theorem nC_drop (n : Nat → Int) : (nC n).drop 4 = [] := rfl
attribute [push_cast] nC_len nC_take nC_one nC_imms nC_drop
def noU (l : List Opn) (t : Tab) : Prop := ∃ c < 4, 0 < cntC l c ∧ t.u c = 0
instance (l : List Opn) (t : Tab) : Decidable (noU l t) := by unfold noU; infer_instance
theorem maxV_two (k k' : IntKind) (a b : Int) : maxV [.lit (.int k a), .lit (.int k' b)] = some (.lit (.int k (if b > a then b else a))) := rfl
end Go.Proofs.Hx

set_option linter.unusedVariables false
set_option linter.unusedSimpArgs false
namespace Go.Proofs.Hx
open Go Go.Proofs
attribute [local irreducible] yL awp opK goV goM qM qI qK yN HV HVF HC
theorem nilV_ip (cs : List AV) : nilV (.ip cs) = some (.ip cs) := rfl
theorem nilV_ptr (id : Id) (off : Nat) : nilV (.ptr id off) = some (.ptr id off) := rfl
attribute [push_cast] nilV_ip nilV_ptr
/-! The finder: it is lent where it is only read. -/
def regRow (o : Opn) : List AV := [.row (regsC (rdS o))]
def dRow (o : Opn) : List AV := [i64 (if (wrS o).2 then (wrS o).1 else -1)]
/-- Does an operation read a register? -/
def seesS (o : Opn) (r : Int) : Bool := (rdS o).any fun x => decide (x = r)
theorem regs_at {l : List Int} {k : Nat} (hk : k < l.length) (kd : IntKind) : idxAddrV none 1 (.row (regsC l)) (.lit (.int kd (k : Int))) = some (.ip [u8 l[k]]) := idxAddr_row (fun r => [u8 r]) 1 (fun _ => rfl) l kd hk
theorem lenV_regs (l : List Int) : lenV (.row (regsC l)) = some (i64 l.length) := lenV_row _ l
theorem rdS_len (o : Opn) : (rdS o).length ≤ 2 := by
  unfold rdS
  split
  · simp
  · split
    · simp
    · split
      · simp
      · split <;> simp
theorem chkE_regs {o : Opn} (h : chkE o = 0) : o.d ≤ 31 ∧ o.a ≤ 31 ∧ o.b ≤ 31 := by
  unfold chkE at h
  split at h
  · rename_i hc; unfold chkP at hc; omega
  · cases h
theorem rdS_mem {o : Opn} (ho : o.ok) {x : Int} (hx : x ∈ rdS o) : 0 ≤ x ∧ x ≤ 31 := by
  unfold Opn.ok at ho
  unfold rdS at hx
  split at hx
  · simp at hx
  · rename_i hc
    have := chkE_regs (o := o) (by simpa using hc)
    split at hx
    · simp at hx; rcases hx with rfl | rfl <;> omega
    · split at hx
      · simp at hx; omega
      · split at hx
        · simp at hx; omega
        · simp at hx
end Go.Proofs.Hx

set_option linter.unusedVariables false
set_option linter.unusedSimpArgs false
namespace Go.Proofs.Hx
open Go Go.Proofs
attribute [local irreducible] yL awp opK goV goM qM qI qK yN HV HVF HC
structure Edg where
  f : Int
  t : Int
  l : Int
  d : Int
  w : Int
  deriving DecidableEq
def edC (e : Edg) : List AV := [i64 e.f, i64 e.t, i64 e.l, i64 e.d, .lit (.int .i8 e.w)]
theorem edC_len (e : Edg) : (edC e).length = 5 := rfl
theorem edC_take (e : Edg) : (edC e).take 5 = edC e := rfl
theorem edC_one (e : Edg) : (edC e).all one = true := rfl
theorem edC_imms (e : Edg) : imms (edC e) = true := rfl
attribute [push_cast] edC_len edC_take edC_one edC_imms
/-- The edges so far, where they lie. -/
def OutR (h : Hp) (out : AV) (es : List Edg) : Prop := (out = .nil ∧ es = []) ∨ (∃ id, out = .sl id 0 es.length 5 ∧ h.hp id = some ⟨true, es.flatMap edC⟩ ∧ id.1 ≤ h.ep)
/-- What 'put' leaves. -/
def PutP (h : Hp) (F : Id) (cells : List AV) (out : AV) (es : List Edg) (h' : Hp) : Prop :=
  h.ep ≤ h'.ep ∧ (∀ x : Id, x.1 ≤ h.ep → x ≠ F → idOf out ≠ some x → h'.hp x = h.hp x) ∧ ∃ id : Id, h.ep < id.1 ∧ id.1 ≤ h'.ep ∧ h'.hp id = some ⟨true, es.flatMap edC⟩ ∧ h'.hp F = some ⟨true, cells.take 16 ++ [.sl id 0 es.length 5]⟩
theorem appV_sl_eq (h : Hp) (id t : Id) (sz bytes n off len sz' : Nat) (new : List AV) : appV h id sz bytes n new (.sl t off len sz') = (h.hp t).bind fun blk => if sz' = sz ∧ blk.wr = true ∧ new.all one = true ∧ (len + n + (len + n) / 4 + 512) * bytes ≤ 281474976710656 then
    some (.sl id 0 (len + n) sz, (h.kill t).push id ((blk.cells.drop off).take (len * sz) ++ new)) else none := by simp only [appV]
theorem one_sl (id : Id) (o n s : Nat) : one (.sl id o n s) = true := rfl
theorem one_row (x : List (List AV)) : one (.row x) = true := rfl
theorem one_nil : one .nil = true := rfl
theorem one_ptr (id : Id) (o : Nat) : one (.ptr id o) = true := rfl
theorem one_fn (f : Nat) (c : List AV) : one (.fn f c) = true := rfl
attribute [push_cast] one_sl one_row one_nil one_ptr one_fn
theorem PutP.tick {h : Hp} {F : Id} {cells : List AV} {out : AV} {es : List Edg} {h' : Hp} (hp : PutP h F cells out es h') : PutP h F cells out es h'.tick := by
  obtain ⟨h1, h2, id, h3, h4, h5, h6⟩ := hp
  exact ⟨by rw [tick_ep]; omega, h2, id, h3, by rw [tick_ep]; omega, h5, h6⟩
end Go.Proofs.Hx

set_option linter.unusedVariables false
set_option linter.unusedSimpArgs false
namespace Go.Proofs.Hx
open Go Go.Proofs
attribute [local irreducible] yL awp opK goV goM qM qI qK yN HV HVF HC
/-- 'g' holds what 'h' held, and perhaps more. -/
def Ext (h g : Hp) : Prop := h.ep ≤ g.ep ∧ ∀ x : Id, x.1 ≤ h.ep → g.hp x = h.hp x
theorem Ext.refl (h : Hp) : Ext h h := ⟨Nat.le_refl _, fun _ _ => rfl⟩
theorem Ext.tick {h g : Hp} (e : Ext h g) : Ext h g.tick := ⟨Nat.le_succ_of_le e.1, e.2⟩
theorem Ext.push {h g : Hp} (e : Ext h g) {a b : Nat} (hid : h.ep < a) (cells : List AV) : Ext h (g.push (a, b) cells) :=
  ⟨e.1, fun x hx => by rw [push_ne _ _ _ _ (fun e' => by rw [e'] at hx; simp at hx; omega)]; exact e.2 x hx⟩
theorem Ext.put {h g : Hp} (e : Ext h g) {a b : Nat} (hid : h.ep < a) (cells : List AV) : Ext h (g.put (a, b) cells) :=
  ⟨e.1, fun x hx => by rw [put_ne _ _ _ _ (fun e' => by rw [e'] at hx; simp at hx; omega)]; exact e.2 x hx⟩
/-- The finder's cells. -/
def finC (l : List Opn) (t : Tab) (rid did : Id) (out : AV) : List AV := .row (l.map opC) :: (tabC t ++ [.sl rid 0 l.length 1, .sl did 0 l.length 1, out])
/-- What steps behind the finder leave. -/
def FS (h : Hp) (F : Id) (out : AV) (h' : Hp) (out' : AV) : Prop := h.ep ≤ h'.ep ∧ ∀ x : Id, x.1 ≤ h.ep → x ≠ F → idOf out ≠ some x → h'.hp x = h.hp x ∧ idOf out' ≠ some x
theorem FS.refl (h : Hp) (F : Id) (out : AV) : FS h F out h out := ⟨Nat.le_refl _, fun _ _ _ h => ⟨rfl, h⟩⟩
theorem FS.trans {h h1 h2 : Hp} {F : Id} {o o1 o2 : AV} (a : FS h F o h1 o1) (b : FS h1 F o1 h2 o2) : FS h F o h2 o2 :=
  ⟨Nat.le_trans a.1 b.1, fun x hx hF ho => by
    obtain ⟨a1, a2⟩ := a.2 x hx hF ho
    obtain ⟨b1, b2⟩ := b.2 x (Nat.le_trans hx a.1) hF a2
    exact ⟨b1.trans a1, b2⟩⟩
theorem FS.tick {h h1 : Hp} {F : Id} {o o1 : AV} (a : FS h F o h1 o1) : FS h F o h1.tick o1 := ⟨Nat.le_succ_of_le a.1, a.2⟩
/-- The finder in the heap, with the edges so far. -/
structure FinH (h : Hp) (F : Id) (l : List Opn) (t : Tab) (es : List Edg) (rid did : Id) (out : AV) : Prop where
  fin : h.hp F = some ⟨true, finC l t rid did out⟩
  rds : h.hp rid = some ⟨true, l.flatMap regRow⟩
  ds : h.hp did = some ⟨true, l.flatMap dRow⟩
  outr : OutR h out es
  eF : F.1 ≤ h.ep
  er : rid.1 ≤ h.ep
  ed : did.1 ≤ h.ep
  rF : rid ≠ F
  dF : did ≠ F
  rd : rid ≠ did
  oF : ∀ id, idOf out = some id → id ≠ F ∧ id ≠ rid ∧ id ≠ did
theorem FinH.ext {h g : Hp} {F : Id} {l : List Opn} {t : Tab} {es : List Edg} {rid did : Id} {out : AV} (hX : FinH h F l t es rid did out) (hg : Ext h g) : FinH g F l t es rid did out :=
  ⟨(hg.2 _ hX.eF).trans hX.fin, (hg.2 _ hX.er).trans hX.rds, (hg.2 _ hX.ed).trans hX.ds, by
    rcases hX.outr with h1 | ⟨id, h1, h2, h3⟩
    · exact .inl h1
    · exact .inr ⟨id, h1, (hg.2 _ h3).trans h2, Nat.le_trans h3 hg.1⟩, Nat.le_trans hX.eF hg.1, Nat.le_trans hX.er hg.1, Nat.le_trans hX.ed hg.1, hX.rF, hX.dF, hX.rd, hX.oF⟩
theorem FS.ext {h0 h g : Hp} {F : Id} {o o1 : AV} (a : FS h0 F o h o1) (hg : Ext h g) : FS h0 F o g o1 :=
  ⟨Nat.le_trans a.1 hg.1, fun x hx hF ho => ⟨(hg.2 x (Nat.le_trans hx a.1)).trans (a.2 x hx hF ho).1, (a.2 x hx hF ho).2⟩⟩
end Go.Proofs.Hx

set_option linter.unusedVariables false
set_option linter.unusedSimpArgs false
namespace Go.Proofs.Hx
open Go Go.Proofs
attribute [local irreducible] yL awp opK goV goM qM qI qK yN HV HVF HC
end Go.Proofs.Hx

set_option linter.unusedVariables false
set_option linter.unusedSimpArgs false
namespace Go.Proofs.Hx
open Go Go.Proofs
attribute [local irreducible] yL awp opK goV goM qM qI qK yN HV HVF HC
theorem FinH.putL {h : Hp} {F : Id} {l : List Opn} {t : Tab} {es : List Edg} {rid did L : Id} {out : AV} (hX : FinH h F l t es rid did out) (c : List AV) (h1 : L ≠ F) (h2 : L ≠ rid) (h3 : L ≠ did) (h4 : idOf out ≠ some L) : FinH (h.put L c) F l t es rid did out :=
  ⟨(put_ne _ _ _ _ (Ne.symm h1)).trans hX.fin, (put_ne _ _ _ _ (Ne.symm h2)).trans hX.rds, (put_ne _ _ _ _ (Ne.symm h3)).trans hX.ds, by
    rcases hX.outr with g1 | ⟨id, g1, g2, g3⟩
    · exact .inl g1
    · exact .inr ⟨id, g1, (put_ne _ _ _ _ (fun e => h4 (by rw [g1, ← e]; rfl))).trans g2, g3⟩, hX.eF, hX.er, hX.ed, hX.rF, hX.dF, hX.rd, hX.oF⟩
theorem FS.putL {h0 h : Hp} {F L : Id} {o o1 : AV} (a : FS h0 F o h o1) (hL : h0.ep < L.1) (c : List AV) : FS h0 F o (h.put L c) o1 :=
  ⟨a.1, fun x hx hF ho => ⟨(put_ne _ _ _ _ (fun e => by rw [e] at hx; omega)).trans (a.2 x hx hF ho).1, (a.2 x hx hF ho).2⟩⟩
theorem FinH.tick {h : Hp} {F : Id} {l : List Opn} {t : Tab} {es : List Edg} {rid did : Id} {out : AV} (hX : FinH h F l t es rid did out) : FinH h.tick F l t es rid did out := hX.ext (Ext.refl h).tick
end Go.Proofs.Hx

set_option linter.unusedVariables false
set_option linter.unusedSimpArgs false
namespace Go.Proofs.Hx
open Go Go.Proofs
attribute [local irreducible] yL awp opK goV goM qM qI qK yN HV HVF HC
/-- The finder while it is made: reads and d as they stand. -/
def finW (l : List Opn) (t : Tab) (a b : AV) : List AV := .row (l.map opC) :: (tabC t ++ [a, b, .nil])
theorem finW_14 (l : List Opn) (t : Tab) (a b : AV) : (finW l t a b)[14]? = some a := rfl
theorem finW_15 (l : List Opn) (t : Tab) (a b : AV) : (finW l t a b)[15]? = some b := rfl
theorem finW_put14 (l : List Opn) (t : Tab) (a b v : AV) : (finW l t a b).take 14 ++ [v] ++ (finW l t a b).drop (14 + 1) = finW l t v b := rfl
theorem finW_put15 (l : List Opn) (t : Tab) (a b v : AV) : (finW l t a b).take 15 ++ [v] ++ (finW l t a b).drop (15 + 1) = finW l t a v := rfl
theorem finW_len (l : List Opn) (t : Tab) (a b : AV) : (finW l t a b).length = 17 := rfl
attribute [push_cast] finW_14 finW_15 finW_put14 finW_put15 finW_len
theorem Ext.kill {h g : Hp} (e : Ext h g) {a b : Nat} (hid : h.ep < a) : Ext h (g.kill (a, b)) :=
  ⟨e.1, fun x hx => by rw [kill_ne _ _ _ (fun e' => by rw [e'] at hx; simp at hx; omega)]; exact e.2 x hx⟩
end Go.Proofs.Hx

set_option linter.unusedVariables false
set_option linter.unusedSimpArgs false
namespace Go.Proofs.Hx
open Go Go.Proofs
attribute [local irreducible] yL awp opK goV goM qM qI qK yN HV HVF HC
theorem Ext.tr {h g k : Hp} (a : Ext h g) (b : Ext g k) : Ext h k := ⟨Nat.le_trans a.1 b.1, fun x hx => (b.2 x (Nat.le_trans hx a.1)).trans (a.2 x hx)⟩
theorem Ext.le {h g : Hp} (a : Ext h g) : h.ep ≤ g.ep := a.1
end Go.Proofs.Hx

set_option linter.unusedVariables false
set_option linter.unusedSimpArgs false
namespace Go.Proofs.Hx
open Go Go.Proofs
attribute [local irreducible] yL awp opK goV goM qM qI qK yN HV HVF HC
end Go.Proofs.Hx

set_option linter.unusedVariables false
set_option linter.unusedSimpArgs false
namespace Go.Proofs.Hx
open Go Go.Proofs
/-! ### Slices that grow, whatever they lie in -/
def killA (h : Hp) (a : AV) : Hp := match idOf a with | some t => h.kill t | none => h
theorem killA_ep (h : Hp) (a : AV) : (killA h a).ep = h.ep := by unfold killA; split <;> rfl
theorem killA_ne (h : Hp) (a : AV) {x : Id} (hx : idOf a ≠ some x) : (killA h a).hp x = h.hp x := by
  unfold killA
  split
  · rename_i t e
    exact kill_ne _ _ _ (fun e' => hx (by rw [e, e']))
  · rfl
theorem Ext.killA {h g : Hp} (e : Ext h g) {a : AV} (ha : ∀ x, idOf a = some x → h.ep < x.1) : Ext h (Hx.killA g a) :=
  ⟨by rw [killA_ep]; exact e.1, fun x hx => by rw [killA_ne _ _ (fun e' => by have := ha x e'; omega)]; exact e.2 x hx⟩
/-- A slice of 'es', each with cells of its own. -/
structure SlO {α : Type} (f : α → List AV) (sz : Nat) (h : Hp) (a : AV) (es : List α) : Prop where
  st : (a = .nil ∧ es = []) ∨ (∃ id, a = .sl id 0 es.length sz ∧ h.hp id = some ⟨true, es.flatMap f⟩ ∧ id.1 ≤ h.ep)
theorem SlO.nil {α : Type} (f : α → List AV) (sz : Nat) (h : Hp) : SlO f sz h .nil [] := ⟨.inl ⟨rfl, rfl⟩⟩
theorem SlO.ext {α : Type} {f : α → List AV} {sz : Nat} {h g : Hp} {a : AV} {es : List α} (s : SlO f sz h a es) (he : Ext h g) : SlO f sz g a es := by
  rcases s.st with h1 | ⟨id, h1, h2, h3⟩
  · exact ⟨.inl h1⟩
  · exact ⟨.inr ⟨id, h1, (he.2 id h3).trans h2, Nat.le_trans h3 he.1⟩⟩
theorem SlO.len {α : Type} {f : α → List AV} {sz : Nat} {h : Hp} {a : AV} {es : List α} (s : SlO f sz h a es) : lenV a = some (i64 es.length) := by
  rcases s.st with ⟨rfl, rfl⟩ | ⟨id, rfl, h2, h3⟩
  · exact lenV_nil
  · exact lenV_sl _ _ _ _
theorem SlO.id_le {α : Type} {f : α → List AV} {sz : Nat} {h : Hp} {a : AV} {es : List α} (s : SlO f sz h a es) {x : Id} (hx : idOf a = some x) : x.1 ≤ h.ep := by
  rcases s.st with ⟨rfl, rfl⟩ | ⟨id, rfl, h2, h3⟩
  · simp [idOf] at hx
  · simp [idOf] at hx; subst hx; exact h3
/-- The same, where the slice has not been touched. -/
theorem SlO.keep {α : Type} {f : α → List AV} {sz : Nat} {h g : Hp} {a : AV} {es : List α} (s : SlO f sz h a es) (hk : ∀ x, idOf a = some x → g.hp x = h.hp x) (he : h.ep ≤ g.ep) : SlO f sz g a es := by
  rcases s.st with h1 | ⟨id, h1, h2, h3⟩
  · exact ⟨.inl h1⟩
  · exact ⟨.inr ⟨id, h1, (hk id (by rw [h1]; rfl)).trans h2, Nat.le_trans h3 he⟩⟩
/-- It has memory, where there is an element. -/
theorem SlO.blk {α : Type} {f : α → List AV} {sz : Nat} {h : Hp} {a : AV} {es : List α} (s : SlO f sz h a es) (hp : 0 < es.length) : ∃ e n, a = .sl (e, n) 0 es.length sz ∧ h.hp (e, n) = some ⟨true, es.flatMap f⟩ ∧ e ≤ h.ep := by
  rcases s.st with ⟨rfl, rfl⟩ | ⟨⟨e, n⟩, h1, h2, h3⟩
  · simp at hp
  · exact ⟨e, n, h1, h2, h3⟩
theorem flat_len {α : Type} {f : α → List AV} {sz : Nat} (hf : ∀ a, (f a).length = sz) (l : List α) : (l.flatMap f).length = l.length * sz := by
  induction l with
  | nil => simp
  | cons a l ih => rw [List.flatMap_cons, List.length_append, hf, ih, List.length_cons, Nat.add_mul]; omega
theorem flat_drop {α : Type} {f : α → List AV} {sz : Nat} (hf : ∀ a, (f a).length = sz) (l : List α) (k : Nat) : (l.flatMap f).drop (k * sz) = (l.drop k).flatMap f := by
  induction l generalizing k with
  | nil => simp
  | cons a l ih =>
    cases k with
    | zero => simp
    | succ k =>
      have : (k + 1) * sz = (f a).length + k * sz := by rw [hf a, Nat.add_mul]; omega
      rw [List.flatMap_cons, this, ← List.drop_drop, List.drop_left, ih]
      rfl
theorem flat_take {α : Type} {f : α → List AV} {sz : Nat} (hf : ∀ a, (f a).length = sz) (l : List α) {k : Nat} (hk : k < l.length) : ((l.flatMap f).drop (k * sz)).take sz = f l[k] := by
  rw [flat_drop hf, List.drop_eq_getElem_cons hk, List.flatMap_cons, ← hf l[k], List.take_left]
theorem SlO.app {α : Type} {f : α → List AV} {sz : Nat} {h : Hp} {a : AV} {es : List α} (s : SlO f sz h a es) (hf : ∀ a, (f a).length = sz) {bytes n : Nat} {new : List AV} (id : Id) (hn : n ≠ 0) (ho : new.all one = true)
    (hb : (es.length + n + (es.length + n) / 4 + 512) * bytes ≤ 281474976710656) : appV h id sz bytes n new a = some (.sl id 0 (es.length + n) sz, (killA h a).push id (es.flatMap f ++ new)) := by
  rcases s.st with ⟨rfl, rfl⟩ | ⟨t, rfl, h2, h3⟩
  · simp only [List.length_nil, Nat.zero_add] at hb ⊢
    rw [appV_nil _ _ hn (Nat.le_trans (Nat.mul_le_mul_right bytes (by omega)) hb)]
    rfl
  · rw [appV_sl_eq, h2]
    simp only [Option.bind_some]
    rw [if_pos ⟨trivial, trivial, ho, hb⟩, List.drop_zero, ← flat_len hf, List.take_length]
    rfl
/-! ### Rows of slices -/
structure RowsO {α : Type} (f : α → List AV) (sz : Nat) (h : Hp) (E : Nat) (c : List AV) (fs : Nat → List α) : Prop where
  get : ∀ (i : Nat) (a : AV), c[i]? = some a → SlO f sz h a (fs i) ∧ ∀ x, idOf a = some x → E < x.1
  sep : ∀ (i j : Nat) (a b : AV) (x : Id), c[i]? = some a → c[j]? = some b → i ≠ j → idOf a = some x → idOf b ≠ some x
theorem RowsO.keep {α : Type} {f : α → List AV} {sz : Nat} {h g : Hp} {E : Nat} {c : List AV} {fs : Nat → List α} (r : RowsO f sz h E c fs) (hk : ∀ x, E < x.1 → x.1 ≤ h.ep → g.hp x = h.hp x) (he : h.ep ≤ g.ep) : RowsO f sz g E c fs :=
  ⟨fun i a hi => ⟨(r.get i a hi).1.keep (fun x hx => hk x ((r.get i a hi).2 x hx) ((r.get i a hi).1.id_le hx)) he, (r.get i a hi).2⟩, r.sep⟩
theorem RowsO.ext {α : Type} {f : α → List AV} {sz : Nat} {h g : Hp} {E : Nat} {c : List AV} {fs : Nat → List α} (r : RowsO f sz h E c fs) (he : Ext h g) : RowsO f sz g E c fs := r.keep (fun x _ hx => he.2 x hx) he.1
/-- One of the rows grows. -/
theorem RowsO.app {α : Type} {f : α → List AV} {sz : Nat} {h g : Hp} {E : Nat} {c : List AV} {fs : Nat → List α} (r : RowsO f sz h E c fs) {k : Nat} {a : AV} (hk : c[k]? = some a) {id : Id} (hid : h.ep < id.1) (hE : E ≤ h.ep) (e : α)
    (hg : g.hp id = some ⟨true, (fs k).flatMap f ++ f e⟩) (hi : id.1 ≤ g.ep) (he : h.ep ≤ g.ep) (ho : ∀ x, E < x.1 → x.1 ≤ h.ep → idOf a ≠ some x → g.hp x = h.hp x) :
    RowsO f sz g E (c.set k (.sl id 0 ((fs k).length + 1) sz)) (fun i => if i = k then fs k ++ [e] else fs i) := by
  have hkl : k < c.length := (List.getElem?_eq_some_iff.1 hk).1
  have new : ∀ (i : Nat) (b : AV), (c.set k (.sl id 0 ((fs k).length + 1) sz))[i]? = some b → (i = k ∧ b = .sl id 0 ((fs k).length + 1) sz) ∨ (i ≠ k ∧ c[i]? = some b) := by
    intro i b hb
    rw [List.getElem?_set] at hb
    by_cases e1 : k = i
    · subst e1
      rw [if_pos rfl, if_pos hkl] at hb
      cases hb
      exact .inl ⟨rfl, rfl⟩
    · rw [if_neg e1] at hb
      exact .inr ⟨Ne.symm e1, hb⟩
  refine ⟨fun i b hb => ?_, fun i j b d x hb hd hij hx => ?_⟩
  · rcases new i b hb with ⟨rfl, rfl⟩ | ⟨h1, h2⟩
    · refine ⟨⟨.inr ⟨id, by simp, ?_, hi⟩⟩, fun x hx => by simp [idOf] at hx; subst hx; omega⟩
      rw [hg]
      simp
    · obtain ⟨g1, g2⟩ := r.get i b h2
      refine ⟨?_, g2⟩
      rw [if_neg h1]
      exact g1.keep (fun x hx => ho x (g2 x hx) (g1.id_le hx) (r.sep i k b a x h2 hk h1 hx)) he
  · rcases new i b hb with ⟨rfl, rfl⟩ | ⟨h1, h2⟩ <;> rcases new j d hd with ⟨rfl, rfl⟩ | ⟨h3, h4⟩
    · exact absurd rfl hij
    · simp [idOf] at hx
      subst hx
      intro h
      have := (r.get j d h4).1.id_le h
      omega
    · intro h
      simp [idOf] at h
      subst h
      have := (r.get i b h2).1.id_le hx
      omega
    · exact r.sep i j b d x h2 h4 hij hx
theorem yD {x y : Int} (h : x = y) : (.lit (.int .i64 x) : AV) = i64 y := by rw [h]
theorem yZ {P : Program} {l : List zA} {s : List (Nat × Nat)} {b c : ACode} {Q : AEx → St → Prop} {env : Nat → AV} {h : Hp} (k : qG h → awp P (.seq (.seq (.ops l s) b) c) Q ⟨env, h⟩) : awp P (.seq (.seq (.ops l s) b) c) Q ⟨env, h⟩ := fun hf => k hf hf
theorem yY {P : Program} {l : List zA} {s : List (Nat × Nat)} {b c d : ACode} {Q : AEx → St → Prop} {env : Nat → AV} {h : Hp} (k : qG h → awp P (.seq (.seq (.seq (.ops l s) b) c) d) Q ⟨env, h⟩) : awp P (.seq (.seq (.seq (.ops l s) b) c) d) Q ⟨env, h⟩ := fun hf => k hf hf
theorem ed_0 (e : Edg) : (edC e)[0]? = some (i64 e.f) := rfl
theorem ed_1 (e : Edg) : (edC e)[1]? = some (i64 e.t) := rfl
theorem ed_2 (e : Edg) : (edC e)[2]? = some (i64 e.l) := rfl
theorem ed_3 (e : Edg) : (edC e)[3]? = some (i64 e.d) := rfl
theorem ed_drop (e : Edg) : (edC e).drop 5 = [] := rfl
attribute [push_cast] lenV_row lenV_sl lenV_nil maxV_two op_0 one_sl ed_0 ed_1 ed_2 ed_3 edC_take edC_len edC_one ed_drop killA_ep
end Go.Proofs.Hx

set_option linter.unusedVariables false
set_option linter.unusedSimpArgs false
namespace Go.Proofs.Hx
open Go Go.Proofs
attribute [local irreducible] yL awp opK goV goM qM qI qK yN HV HVF HC
/-! ### The reference's kinds -/
def refA (s : Shp) : List AV := [.lit (.string s.nm), i64 s.cl, bl s.d, bl s.a, bl s.b, bl s.n, bl s.im]
theorem refA_len (s : Shp) : (refA s).length = 7 := rfl
theorem refA_one (s : Shp) : (refA s).all one = true := rfl
theorem refA_1 (s : Shp) : (refA s)[1]? = some (i64 s.cl) := rfl
theorem refA_2 (s : Shp) : (refA s)[2]? = some (bl s.d) := rfl
theorem refA_3 (s : Shp) : (refA s)[3]? = some (bl s.a) := rfl
theorem refA_4 (s : Shp) : (refA s)[4]? = some (bl s.b) := rfl
theorem refA_5 (s : Shp) : (refA s)[5]? = some (bl s.n) := rfl
theorem refA_6 (s : Shp) : (refA s)[6]? = some (bl s.im) := rfl
theorem refA_drop (s : Shp) : (refA s).drop 7 = [] := rfl
attribute [push_cast] refA_len refA_one refA_1 refA_2 refA_3 refA_4 refA_5 refA_6 refA_drop
def qH : Tbl := [(86, 57, ac86, re86), (109, 24, ac109, re109)]
theorem yQ : TblOk Try.prog qH := by simp only [TblOk, qH, List.forall_mem_cons, List.not_mem_nil, false_imp_iff, implies_true, and_true]; exact ⟨cf86, cf109⟩
theorem ref_0 : HV Try.prog 86 [.lit (.int .i8 0)] (.tup [.agg (refA (shpT 0)), bl (shpT 0).is]) := yP yS (T := qH) yQ 1000 rfl (by kernel_rfl) (by kernel_rfl)
theorem ref_1 : HV Try.prog 86 [.lit (.int .i8 1)] (.tup [.agg (refA (shpT 1)), bl (shpT 1).is]) := yP yS (T := qH) yQ 1000 rfl (by kernel_rfl) (by kernel_rfl)
theorem ref_2 : HV Try.prog 86 [.lit (.int .i8 2)] (.tup [.agg (refA (shpT 2)), bl (shpT 2).is]) := yP yS (T := qH) yQ 1000 rfl (by kernel_rfl) (by kernel_rfl)
theorem ref_3 : HV Try.prog 86 [.lit (.int .i8 3)] (.tup [.agg (refA (shpT 3)), bl (shpT 3).is]) := yP yS (T := qH) yQ 1000 rfl (by kernel_rfl) (by kernel_rfl)
theorem ref_4 : HV Try.prog 86 [.lit (.int .i8 4)] (.tup [.agg (refA (shpT 4)), bl (shpT 4).is]) := yP yS (T := qH) yQ 1000 rfl (by kernel_rfl) (by kernel_rfl)
theorem ref_5 : HV Try.prog 86 [.lit (.int .i8 5)] (.tup [.agg (refA (shpT 5)), bl (shpT 5).is]) := yP yS (T := qH) yQ 1000 rfl (by kernel_rfl) (by kernel_rfl)
theorem ref_6 : HV Try.prog 86 [.lit (.int .i8 6)] (.tup [.agg (refA (shpT 6)), bl (shpT 6).is]) := yP yS (T := qH) yQ 1000 rfl (by kernel_rfl) (by kernel_rfl)
theorem ref_7 : HV Try.prog 86 [.lit (.int .i8 7)] (.tup [.agg (refA (shpT 7)), bl (shpT 7).is]) := yP yS (T := qH) yQ 1000 rfl (by kernel_rfl) (by kernel_rfl)
theorem ref_8 : HV Try.prog 86 [.lit (.int .i8 8)] (.tup [.agg (refA (shpT 8)), bl (shpT 8).is]) := yP yS (T := qH) yQ 1000 rfl (by kernel_rfl) (by kernel_rfl)
theorem ref_9 : HV Try.prog 86 [.lit (.int .i8 9)] (.tup [.agg (refA (shpT 9)), bl (shpT 9).is]) := yP yS (T := qH) yQ 1000 rfl (by kernel_rfl) (by kernel_rfl)
theorem ref_10 : HV Try.prog 86 [.lit (.int .i8 10)] (.tup [.agg (refA (shpT 10)), bl (shpT 10).is]) := yP yS (T := qH) yQ 1000 rfl (by kernel_rfl) (by kernel_rfl)
theorem ref_11 : HV Try.prog 86 [.lit (.int .i8 11)] (.tup [.agg (refA (shpT 11)), bl (shpT 11).is]) := yP yS (T := qH) yQ 1000 rfl (by kernel_rfl) (by kernel_rfl)
theorem ref_12 : HV Try.prog 86 [.lit (.int .i8 12)] (.tup [.agg (refA (shpT 12)), bl (shpT 12).is]) := yP yS (T := qH) yQ 1000 rfl (by kernel_rfl) (by kernel_rfl)
theorem ref_13 : HV Try.prog 86 [.lit (.int .i8 13)] (.tup [.agg (refA (shpT 13)), bl (shpT 13).is]) := yP yS (T := qH) yQ 1000 rfl (by kernel_rfl) (by kernel_rfl)
theorem ref_14 : HV Try.prog 86 [.lit (.int .i8 14)] (.tup [.agg (refA (shpT 14)), bl (shpT 14).is]) := yP yS (T := qH) yQ 1000 rfl (by kernel_rfl) (by kernel_rfl)
theorem ref_15 : HV Try.prog 86 [.lit (.int .i8 15)] (.tup [.agg (refA (shpT 15)), bl (shpT 15).is]) := yP yS (T := qH) yQ 1000 rfl (by kernel_rfl) (by kernel_rfl)
theorem ref_16 : HV Try.prog 86 [.lit (.int .i8 16)] (.tup [.agg (refA (shpT 16)), bl (shpT 16).is]) := yP yS (T := qH) yQ 1000 rfl (by kernel_rfl) (by kernel_rfl)
theorem ref_17 : HV Try.prog 86 [.lit (.int .i8 17)] (.tup [.agg (refA (shpT 17)), bl (shpT 17).is]) := yP yS (T := qH) yQ 1000 rfl (by kernel_rfl) (by kernel_rfl)
theorem ref_18 : HV Try.prog 86 [.lit (.int .i8 18)] (.tup [.agg (refA (shpT 18)), bl (shpT 18).is]) := yP yS (T := qH) yQ 1000 rfl (by kernel_rfl) (by kernel_rfl)
theorem ref_19 : HV Try.prog 86 [.lit (.int .i8 19)] (.tup [.agg (refA (shpT 19)), bl (shpT 19).is]) := yP yS (T := qH) yQ 1000 rfl (by kernel_rfl) (by kernel_rfl)
theorem ref_20 : HV Try.prog 86 [.lit (.int .i8 20)] (.tup [.agg (refA (shpT 20)), bl (shpT 20).is]) := yP yS (T := qH) yQ 1000 rfl (by kernel_rfl) (by kernel_rfl)
theorem ref_21 : HV Try.prog 86 [.lit (.int .i8 21)] (.tup [.agg (refA (shpT 21)), bl (shpT 21).is]) := yP yS (T := qH) yQ 1000 rfl (by kernel_rfl) (by kernel_rfl)
theorem ref_22 : HV Try.prog 86 [.lit (.int .i8 22)] (.tup [.agg (refA (shpT 22)), bl (shpT 22).is]) := yP yS (T := qH) yQ 1000 rfl (by kernel_rfl) (by kernel_rfl)
theorem ref_23 : HV Try.prog 86 [.lit (.int .i8 23)] (.tup [.agg (refA (shpT 23)), bl (shpT 23).is]) := yP yS (T := qH) yQ 1000 rfl (by kernel_rfl) (by kernel_rfl)
theorem ref_ok {i : Nat} (h : i < 24) : HV Try.prog 86 [.lit (.int .i8 (i : Int))] (.tup [.agg (refA (shpT i)), bl (shpT i).is]) := by
  match i, h with
  | 0, _ => exact ref_0
  | 1, _ => exact ref_1
  | 2, _ => exact ref_2
  | 3, _ => exact ref_3
  | 4, _ => exact ref_4
  | 5, _ => exact ref_5
  | 6, _ => exact ref_6
  | 7, _ => exact ref_7
  | 8, _ => exact ref_8
  | 9, _ => exact ref_9
  | 10, _ => exact ref_10
  | 11, _ => exact ref_11
  | 12, _ => exact ref_12
  | 13, _ => exact ref_13
  | 14, _ => exact ref_14
  | 15, _ => exact ref_15
  | 16, _ => exact ref_16
  | 17, _ => exact ref_17
  | 18, _ => exact ref_18
  | 19, _ => exact ref_19
  | 20, _ => exact ref_20
  | 21, _ => exact ref_21
  | 22, _ => exact ref_22
  | 23, _ => exact ref_23
  | n + 24, h => omega
theorem f109 (n : Int) (hn : n < 0 ∨ 24 ≤ n) : HV Try.prog 109 [.lit (.int .i8 n)] (.tup [.agg (refA noShp), bl false]) := by
  refine yR yS cf109 (by simp) rfl ?_ rfl
  unfold ac109 re109
  refine yF fun env hE => ?_; have e0 := hE 0; have e2 := hE 2; have e3 := hE 3; have e4 := hE 4; simp -implicitDefEqProofs only [push_cast] at e0 e2 e3 e4; clear hE
  have d18 : decide (n = 18) = false := decide_eq_false (by omega)
  have d19 : decide (n = 19) = false := decide_eq_false (by omega)
  have d20 : decide (n = 20) = false := decide_eq_false (by omega)
  have d21 : decide (n = 21) = false := decide_eq_false (by omega)
  have d22 : decide (n = 22) = false := decide_eq_false (by omega)
  have d23 : decide (n = 23) = false := decide_eq_false (by omega)
  repeat' (first | ((try clear hf); with_reducible refine zN fun env K hE hK hf => ?_; have n : _ ∧ _ ∧ _ ∧ _ := ⟨hE 0, hE 2, hE 3, hE 4⟩; simp -implicitDefEqProofs only [push_cast, reduceIte, Nat.reduceEqDiff, e0, e2, e3, e4] at n; clear hE e0 e2 e3 e4; obtain ⟨e0, e2, e3, e4⟩ := n) | (with_reducible refine hK _ _ ?_; clear hK K) | (with_reducible first | refine zL ?_ | refine zS ?_ | refine zC ?_ | refine zH ?_ | refine zF ?_ | refine zM ?_ | refine zR ?_ | refine zE ?_ | refine zI ?_ | refine zT ?_ | refine zG ?_ | refine zB (by decide) ?_ | refine zQ ?_ | refine zP ?_ | refine zK ?_ | refine zZ ?_ | refine yB ?_ | refine zW (by assumption) ?_ | refine zY (by assumption) ?_) | (refine zJ rfl ?_) | (simp -implicitDefEqProofs only [push_cast, sevalprocAttr, eq_self, e0, e2, e3, e4, d18, d19, d20, d21, d22, d23]) | (simp -implicitDefEqProofs (disch := omega) only [zU, yC, zV, zD, e0, e2, e3, e4, d18, d19, d20, d21, d22, d23]) | (with_reducible refine yI ?_ ?_) | (refine zO rfl (fun bb => ?_) (fun bb => ?_) <;> (first | have bp := of_decide_eq_true bb | have bp := of_decide_eq_false bb | skip) <;> simp only [bb]) | (with_reducible refine zX (fun bb => ?_) (fun bb => ?_) <;> (first | have bp := of_decide_eq_true bb | have bp := of_decide_eq_false bb | skip)) | ((with_reducible refine And.intro ?_ ?_); omega) | fail)
  all_goals rfl
theorem f86 (n : Int) : HV Try.prog 86 [.lit (.int .i8 n)] (.tup [.agg (refA (ofS n)), bl (ofS n).is]) := by
  by_cases hn : n < 0 ∨ 24 ≤ n
  rotate_left
  · obtain ⟨i, rfl⟩ : ∃ i : Nat, n = i := ⟨n.toNat, by omega⟩
    rw [show ofS (i : Int) = shpT i from by have := ofS_ok (n := i) (by omega); simpa using this]
    exact ref_ok (by omega)
  rw [ofS_bad hn]
  refine yR yS cf86 (by simp) rfl ?_ rfl
  unfold ac86 re86
  refine yF fun env hE => ?_; have e0 := hE 0; have e2 := hE 2; have e3 := hE 3; have e4 := hE 4; have e5 := hE 5; have e6 := hE 6; have e13 := hE 13; have e33 := hE 33; simp -implicitDefEqProofs only [push_cast] at e0 e2 e3 e4 e5 e6 e13 e33; clear hE
  have d0 : decide (n = 0) = false := decide_eq_false (by omega)
  have d1 : decide (n = 1) = false := decide_eq_false (by omega)
  have d2 : decide (n = 2) = false := decide_eq_false (by omega)
  have d3 : decide (n = 3) = false := decide_eq_false (by omega)
  have d4 : decide (n = 4) = false := decide_eq_false (by omega)
  have d5 : decide (n = 5) = false := decide_eq_false (by omega)
  have d6 : decide (n = 6) = false := decide_eq_false (by omega)
  have d7 : decide (n = 7) = false := decide_eq_false (by omega)
  have d8 : decide (n = 8) = false := decide_eq_false (by omega)
  have d9 : decide (n = 9) = false := decide_eq_false (by omega)
  have d10 : decide (n = 10) = false := decide_eq_false (by omega)
  have d11 : decide (n = 11) = false := decide_eq_false (by omega)
  have d12 : decide (n = 12) = false := decide_eq_false (by omega)
  have d13 : decide (n = 13) = false := decide_eq_false (by omega)
  have d14 : decide (n = 14) = false := decide_eq_false (by omega)
  have d15 : decide (n = 15) = false := decide_eq_false (by omega)
  have d16 : decide (n = 16) = false := decide_eq_false (by omega)
  have d17 : decide (n = 17) = false := decide_eq_false (by omega)
  have d18 : decide (n = 18) = false := decide_eq_false (by omega)
  have d19 : decide (n = 19) = false := decide_eq_false (by omega)
  have d20 : decide (n = 20) = false := decide_eq_false (by omega)
  have d21 : decide (n = 21) = false := decide_eq_false (by omega)
  have d22 : decide (n = 22) = false := decide_eq_false (by omega)
  have d23 : decide (n = 23) = false := decide_eq_false (by omega)
  repeat' (first | ((try clear hf); with_reducible refine zN fun env K hE hK hf => ?_; have n : _ ∧ _ ∧ _ ∧ _ ∧ _ ∧ _ ∧ _ ∧ _ := ⟨hE 0, hE 2, hE 3, hE 4, hE 5, hE 6, hE 13, hE 33⟩; simp -implicitDefEqProofs only [push_cast, reduceIte, Nat.reduceEqDiff, e0, e2, e3, e4, e5, e6, e13, e33] at n; clear hE e0 e2 e3 e4 e5 e6 e13 e33; obtain ⟨e0, e2, e3, e4, e5, e6, e13, e33⟩ := n) | (with_reducible refine hK _ _ ?_; clear hK K) | (with_reducible first | refine zL ?_ | refine zS ?_ | refine zC ?_ | refine zH ?_ | refine zF ?_ | refine zM ?_ | refine zR ?_ | refine zE ?_ | refine zI ?_ | refine zT ?_ | refine zG ?_ | refine zB (by decide) ?_ | refine zQ ?_ | refine zP ?_ | refine zK ?_ | refine zZ ?_ | refine yB ?_ | refine zW (by assumption) ?_ | refine zY (by assumption) ?_) | (refine zJ rfl ?_) | (simp -implicitDefEqProofs only [push_cast, sevalprocAttr, eq_self, e0, e2, e3, e4, e5, e6, e13, e33, d0, d1, d2, d3, d4, d5, d6, d7, d8, d9, d10, d11, d12, d13, d14, d15, d16, d17, d18, d19, d20, d21, d22, d23]) | (simp -implicitDefEqProofs (disch := omega) only [zU, yC, zV, zD, e0, e2, e3, e4, e5, e6, e13, e33, d0, d1, d2, d3, d4, d5, d6, d7, d8, d9, d10, d11, d12, d13, d14, d15, d16, d17, d18, d19, d20, d21, d22, d23]) | (with_reducible refine yI ?_ ?_) | (refine zO rfl (fun bb => ?_) (fun bb => ?_) <;> (first | have bp := of_decide_eq_true bb | have bp := of_decide_eq_false bb | skip) <;> simp only [bb]) | (with_reducible refine zX (fun bb => ?_) (fun bb => ?_) <;> (first | have bp := of_decide_eq_true bb | have bp := of_decide_eq_false bb | skip)) | ((with_reducible refine And.intro ?_ ?_); omega) | (refine yG (f109 n hn) ?_) | fail)
  all_goals rfl
theorem f51 (n : Int) : HV Try.prog 51 [.lit (.int .i8 n)] (.tup [.lit (.int .i64 (clsS n).1), .lit (.bool (clsS n).2)]) := by
  refine yR yS cf51 (by simp) rfl ?_ (by simp [imm, imms])
  unfold ac51 re51
  refine yF fun env hE => ?_; have e0 := hE 0; have e2 := hE 2; have e3 := hE 3; have e4 := hE 4; have e5 := hE 5; simp -implicitDefEqProofs only [push_cast] at e0 e2 e3 e4 e5; clear hE
  repeat' (first | ((try clear hf); with_reducible refine zN fun env K hE hK hf => ?_; have n : _ ∧ _ ∧ _ ∧ _ ∧ _ := ⟨hE 0, hE 2, hE 3, hE 4, hE 5⟩; simp -implicitDefEqProofs only [push_cast, reduceIte, Nat.reduceEqDiff, e0, e2, e3, e4, e5] at n; clear hE e0 e2 e3 e4 e5; obtain ⟨e0, e2, e3, e4, e5⟩ := n) | (with_reducible refine hK _ _ ?_; clear hK K) | (with_reducible first | refine zL ?_ | refine zS ?_ | refine zC ?_ | refine zH ?_ | refine zF ?_ | refine zM ?_ | refine zR ?_ | refine zE ?_ | refine zI ?_ | refine zT ?_ | refine zG ?_ | refine zB (by decide) ?_ | refine zQ ?_ | refine zP ?_ | refine zK ?_ | refine zZ ?_ | refine yB ?_ | refine zW (by assumption) ?_ | refine zY (by assumption) ?_) | (refine zJ rfl ?_) | (simp -implicitDefEqProofs only [push_cast, sevalprocAttr, eq_self, e0, e2, e3, e4, e5]) | (simp -implicitDefEqProofs (disch := omega) only [zU, yC, zV, zD, e0, e2, e3, e4, e5]) | (with_reducible refine yI ?_ ?_) | (refine zO rfl (fun bb => ?_) (fun bb => ?_) <;> (first | have bp := of_decide_eq_true bb | have bp := of_decide_eq_false bb | skip) <;> simp only [bb]) | (with_reducible refine zX (fun bb => ?_) (fun bb => ?_) <;> (first | have bp := of_decide_eq_true bb | have bp := of_decide_eq_false bb | skip)) | ((with_reducible refine And.intro ?_ ?_); omega) | (refine yG (f86 n) ?_) | fail)
  all_goals ((try clear hf); (try clear e0 e2 e3 e4 e5); simp only [clsS]; simp at *; first | (simp [*]; done) | (rw [if_neg (by simp [*])]; simp))
set_option maxHeartbeats 4000000 in
theorem f111 (o : Opn) (h : o.ok) : HV Try.prog 111 [.agg (opC o)] (i64 (chkE o)) := by
  refine yR yS cf111 (by simp) rfl ?_ rfl
  unfold ac111 re111
  refine yF fun env hE => ?_; have e0 := hE 0; have e1 := hE 1; have e2 := hE 2; have e3 := hE 3; have e4 := hE 4; simp -implicitDefEqProofs only [push_cast] at e0 e1 e2 e3 e4; clear hE
  repeat' (first | ((try clear hf); with_reducible refine zN fun env K hE hK hf => ?_; have n : _ ∧ _ ∧ _ ∧ _ ∧ _ := ⟨hE 0, hE 1, hE 2, hE 3, hE 4⟩; simp -implicitDefEqProofs only [push_cast, reduceIte, Nat.reduceEqDiff, e0, e1, e2, e3, e4] at n; clear hE e0 e1 e2 e3 e4; obtain ⟨e0, e1, e2, e3, e4⟩ := n) | (with_reducible refine hK _ _ ?_; clear hK K) | (with_reducible first | refine zL ?_ | refine zS ?_ | refine zC ?_ | refine zH ?_ | refine zF ?_ | refine zM ?_ | refine zR ?_ | refine zE ?_ | refine zI ?_ | refine zT ?_ | refine zG ?_ | refine zB (by decide) ?_ | refine zQ ?_ | refine zP ?_ | refine zK ?_ | refine zZ ?_ | refine yB ?_ | refine zW (by assumption) ?_ | refine zY (by assumption) ?_) | (refine zJ rfl ?_) | (simp -implicitDefEqProofs only [push_cast, sevalprocAttr, eq_self, e0, e1, e2, e3, e4, opC]) | (simp -implicitDefEqProofs (disch := omega) only [zU, yC, zV, zD, e0, e1, e2, e3, e4, opC]) | (with_reducible refine yI ?_ ?_) | (refine zO rfl (fun bb => ?_) (fun bb => ?_) <;> (first | have bp := of_decide_eq_true bb | have bp := of_decide_eq_false bb | skip) <;> simp only [bb]) | (with_reducible refine zX (fun bb => ?_) (fun bb => ?_) <;> (first | have bp := of_decide_eq_true bb | have bp := of_decide_eq_false bb | skip)) | ((with_reducible refine And.intro ?_ ?_); omega) | (refine yG (f86 o.k) ?_) | fail)
  all_goals ((try clear hf); (try clear e0 e1 e2 e3 e4); simp only [chkE, chkP]; simp at *; simp [*]; try omega)
theorem f88 (o : Opn) (h : o.ok) : HV Try.prog 88 [.agg (opC o)] (.tup [u8 (wrS o).1, bl (wrS o).2]) := by
  refine yR yS cf88 (by simp) rfl ?_ rfl
  unfold ac88 re88
  refine yF fun env hE => ?_; have e0 := hE 0; have e1 := hE 1; have e2 := hE 2; have e3 := hE 3; have e4 := hE 4; simp -implicitDefEqProofs only [push_cast] at e0 e1 e2 e3 e4; clear hE
  repeat' (first | ((try clear hf); with_reducible refine zN fun env K hE hK hf => ?_; have n : _ ∧ _ ∧ _ ∧ _ ∧ _ := ⟨hE 0, hE 1, hE 2, hE 3, hE 4⟩; simp -implicitDefEqProofs only [push_cast, reduceIte, Nat.reduceEqDiff, e0, e1, e2, e3, e4] at n; clear hE e0 e1 e2 e3 e4; obtain ⟨e0, e1, e2, e3, e4⟩ := n) | (with_reducible refine hK _ _ ?_; clear hK K) | (with_reducible first | refine zL ?_ | refine zS ?_ | refine zC ?_ | refine zH ?_ | refine zF ?_ | refine zM ?_ | refine zR ?_ | refine zE ?_ | refine zI ?_ | refine zT ?_ | refine zG ?_ | refine zB (by decide) ?_ | refine zQ ?_ | refine zP ?_ | refine zK ?_ | refine zZ ?_ | refine yB ?_ | refine zW (by assumption) ?_ | refine zY (by assumption) ?_) | (refine zJ rfl ?_) | (simp -implicitDefEqProofs only [push_cast, sevalprocAttr, eq_self, e0, e1, e2, e3, e4, opC]) | (simp -implicitDefEqProofs (disch := omega) only [zU, yC, zV, zD, e0, e1, e2, e3, e4, opC]) | (with_reducible refine yI ?_ ?_) | (refine zO rfl (fun bb => ?_) (fun bb => ?_) <;> (first | have bp := of_decide_eq_true bb | have bp := of_decide_eq_false bb | skip) <;> simp only [bb]) | (with_reducible refine zX (fun bb => ?_) (fun bb => ?_) <;> (first | have bp := of_decide_eq_true bb | have bp := of_decide_eq_false bb | skip)) | ((with_reducible refine And.intro ?_ ?_); omega) | (refine yG (f86 o.k) ?_) | (refine yG (f111 o h) ?_) | fail)
  all_goals ((try clear hf); (try clear e0 e1 e2 e3 e4); simp only [wrS]; simp at *; simp [*])
end Go.Proofs.Hx

set_option linter.unusedVariables false
set_option linter.unusedSimpArgs false
namespace Go.Proofs.Hx
open Go Go.Proofs
attribute [local irreducible] yL awp opK goV goM qM qI qK yN HV HVF HC
theorem f89 (o : Opn) (h : o.ok) : HVF Try.prog 89 [.agg (opC o)] (.row (regsC (rdS o))) := by
  refine HVF_of_awp yS cf89 (by simp) rfl ?_ (by simp [imm]; exact immss_of_get fun i x hx => by simp [regsC] at hx; obtain ⟨a, _, rfl⟩ := hx; rfl)
  unfold ac89 re89
  refine yF fun env hE => ?_; have e0 := hE 0; have e1 := hE 1; have e2 := hE 2; have e3 := hE 3; have e5 := hE 5; simp -implicitDefEqProofs only [push_cast] at e0 e1 e2 e3 e5; clear hE
  have hA : ∀ (h' : Hp) (id' : Id) (x : List AV), appV h' id' 1 1 1 x .nil = some (.sl id' 0 1 1, h'.push id' x) := fun h' id' x => appV_nil _ _ (by decide) (by decide)
  repeat' (first | ((try clear hf); with_reducible refine zN fun env K hE hK hf => ?_; have n : _ ∧ _ ∧ _ ∧ _ ∧ _ := ⟨hE 0, hE 1, hE 2, hE 3, hE 5⟩; simp -implicitDefEqProofs only [push_cast, reduceIte, Nat.reduceEqDiff, e0, e1, e2, e3, e5] at n; clear hE e0 e1 e2 e3 e5; obtain ⟨e0, e1, e2, e3, e5⟩ := n) | (with_reducible refine hK _ _ ?_; clear hK K) | (with_reducible first | refine zL ?_ | refine zS ?_ | refine zC ?_ | refine zH ?_ | refine zF ?_ | refine zM ?_ | refine zR ?_ | refine zE ?_ | refine zI ?_ | refine zT ?_ | refine zG ?_ | refine zB (by decide) ?_ | refine zQ ?_ | refine zP ?_ | refine zK ?_ | refine zZ ?_ | refine yB ?_ | refine zW (by assumption) ?_ | refine zY (by assumption) ?_) | (refine zJ rfl ?_) | (simp -implicitDefEqProofs only [push_cast, sevalprocAttr, eq_self, e0, e1, e2, e3, e5, opC, hA, appV_sl_eq]) | (simp -implicitDefEqProofs (disch := omega) only [zU, yC, zV, zD, e0, e1, e2, e3, e5, opC, hA, appV_sl_eq]) | (with_reducible refine yI ?_ ?_) | (refine zO rfl (fun bb => ?_) (fun bb => ?_) <;> (first | have bp := of_decide_eq_true bb | have bp := of_decide_eq_false bb | skip) <;> simp only [bb]) | (with_reducible refine zX (fun bb => ?_) (fun bb => ?_) <;> (first | have bp := of_decide_eq_true bb | have bp := of_decide_eq_false bb | skip)) | ((with_reducible refine And.intro ?_ ?_); omega) | (refine yG (f86 o.k) ?_) | (refine yG (f111 o h) ?_) | fail)
  all_goals ((try clear hf); (try clear e0 e1 e2 e3 e5); clear hA; simp only [rdS, regsC]; by_cases hab : o.a = o.b <;> simp_all)
theorem f56 (o : Opn) (ho : o.ok) (r : Int) : HV Try.prog 56 [.agg (opC o), u8 r] (bl (seesS o r)) := by
  refine yR yS cf56 (by simp) rfl ?_ rfl
  unfold ac56 re56
  refine yF fun env hE => ?_; have e0 := hE 0; have e1 := hE 1; have e2 := hE 2; have e4 := hE 4; have e5 := hE 5; have e6 := hE 6; simp -implicitDefEqProofs only [push_cast] at e0 e1 e2 e4 e5 e6; clear hE
  repeat' (first | ((try clear hf); with_reducible refine zN fun env K hE hK hf => ?_; have n : _ ∧ _ ∧ _ ∧ _ ∧ _ ∧ _ := ⟨hE 0, hE 1, hE 2, hE 4, hE 5, hE 6⟩; simp -implicitDefEqProofs only [push_cast, reduceIte, Nat.reduceEqDiff, e0, e1, e2, e4, e5, e6] at n; clear hE e0 e1 e2 e4 e5 e6; obtain ⟨e0, e1, e2, e4, e5, e6⟩ := n) | (with_reducible refine hK _ _ ?_; clear hK K) | (with_reducible first | refine zL ?_ | refine zS ?_ | refine zC ?_ | refine zH ?_ | refine zF ?_ | refine zM ?_ | refine zR ?_ | refine zE ?_ | refine zI ?_ | refine zT ?_ | refine zG ?_ | refine zB (by decide) ?_ | refine zQ ?_ | refine zP ?_ | refine zK ?_ | refine zZ ?_ | refine yB ?_ | refine zW (by assumption) ?_ | refine zY (by assumption) ?_) | (refine zJ rfl ?_) | (simp -implicitDefEqProofs only [push_cast, sevalprocAttr, eq_self, e0, e1, e2, e4, e5, e6, opC]) | (simp -implicitDefEqProofs (disch := omega) only [zU, yC, zV, zD, e0, e1, e2, e4, e5, e6, opC]) | (with_reducible refine yI ?_ ?_) | (refine zO rfl (fun bb => ?_) (fun bb => ?_) <;> (first | have bp := of_decide_eq_true bb | have bp := of_decide_eq_false bb | skip) <;> simp only [bb]) | (with_reducible refine zX (fun bb => ?_) (fun bb => ?_) <;> (first | have bp := of_decide_eq_true bb | have bp := of_decide_eq_false bb | skip)) | ((with_reducible refine And.intro ?_ ?_); omega) | (refine call_own (lends_imm rfl) (f89 o ho) ?_) | fail)
  refine yF fun env hE => ?_; have n : _ ∧ _ ∧ _ ∧ _ ∧ _ ∧ _ := ⟨hE 0, hE 1, hE 2, hE 4, hE 5, hE 6⟩; simp -implicitDefEqProofs only [push_cast, reduceIte, Nat.reduceEqDiff, e0, e1, e2, e4, e5, e6] at n; clear hE e0 e1 e2 e4 e5 e6; obtain ⟨e0, e1, e2, e4, e5, e6⟩ := n; have E56_0_0 := e0; have E56_0_1 := e1; have E56_0_2 := e2; have E56_0_5 := e5
  refine qN (fun nn σ => ∃ (k : Nat), nn = (rdS o).length - k ∧ σ.env 0 = env 0 ∧ σ.env 1 = env 1 ∧ σ.env 2 = env 2 ∧ σ.env 5 = env 5 ∧ σ.env 6 = i64 k ∧ (k ≤ (rdS o).length ∧ ∀ (j : Nat) (hj : j < k) (h : j < (rdS o).length), (rdS o)[j] ≠ r)) _ ⟨0, rfl, rfl, rfl, rfl, rfl, by refine e6.trans ?_; first | rfl | exact yD (by omega) | (simp -implicitDefEqProofs (disch := omega) only [zD]; first | rfl | exact yD (by omega)), ?_⟩ ?_
  · exact ⟨by omega, fun j hj => by omega⟩
  clear e0 e1 e2 e4 e5 e6; rintro nn ⟨env, h⟩ ⟨k, rfl, q0, q1, q2, q5, e6, hI⟩; simp only at q0 q1 q2 q5 e6 hI; (first | have e0 := q0.trans E56_0_0 | have e0 := True.intro); (first | have e1 := q1.trans E56_0_1 | have e1 := True.intro); (first | have e2 := q2.trans E56_0_2 | have e2 := True.intro); (first | have e5 := q5.trans E56_0_5 | have e5 := True.intro); clear q0 q1 q2 q5; have e4 := True.intro
  obtain ⟨hk, hall⟩ := hI
  unfold l56_0
  have hrl := rdS_len o
  by_cases hlt : k < (rdS o).length
  · have hd : decide ((k : Int) < ((rdS o).length : Int)) = true := decide_eq_true (by omega)
    have hr := regs_at hlt .i64
    have hm := rdS_mem ho (List.getElem_mem hlt)
    repeat' (first | ((try clear hf); with_reducible refine zN fun env K hE hK hf => ?_; have n : _ ∧ _ ∧ _ ∧ _ ∧ _ ∧ _ := ⟨hE 0, hE 1, hE 2, hE 4, hE 5, hE 6⟩; simp -implicitDefEqProofs only [push_cast, reduceIte, Nat.reduceEqDiff, e0, e1, e2, e4, e5, e6] at n; clear hE e0 e1 e2 e4 e5 e6; obtain ⟨e0, e1, e2, e4, e5, e6⟩ := n) | (with_reducible refine hK _ _ ?_; clear hK K) | (with_reducible first | refine zL ?_ | refine zS ?_ | refine zC ?_ | refine zH ?_ | refine zF ?_ | refine zM ?_ | refine zR ?_ | refine zE ?_ | refine zI ?_ | refine zT ?_ | refine zG ?_ | refine zB (by decide) ?_ | refine zQ ?_ | refine zP ?_ | refine zK ?_ | refine zZ ?_ | refine yB ?_ | refine zW (by assumption) ?_ | refine zY (by assumption) ?_) | (refine zJ rfl ?_) | (simp -implicitDefEqProofs only [push_cast, sevalprocAttr, eq_self, e0, e1, e2, e4, e5, e6, hd, hr, lenV_regs]) | (simp -implicitDefEqProofs (disch := omega) only [zU, yC, zV, zD, e0, e1, e2, e4, e5, e6, hd, hr, lenV_regs]) | (with_reducible refine yI ?_ ?_) | (refine zO rfl (fun bb => ?_) (fun bb => ?_) <;> (first | have bp := of_decide_eq_true bb | have bp := of_decide_eq_false bb | skip) <;> simp only [bb]) | (with_reducible refine zX (fun bb => ?_) (fun bb => ?_) <;> (first | have bp := of_decide_eq_true bb | have bp := of_decide_eq_false bb | skip)) | ((with_reducible refine And.intro ?_ ?_); omega) | fail)
    · have : seesS o r = true := by
        unfold seesS
        rw [List.any_eq_true]
        exact ⟨_, List.getElem_mem hlt, decide_eq_true (by assumption)⟩
      rw [this]
    · refine ⟨_, ?_, k + 1, rfl, E56_0_0.symm, E56_0_1.symm, E56_0_2.symm, E56_0_5.symm, by first | rfl | exact yD (by omega) | (simp -implicitDefEqProofs (disch := omega) only [zD]; first | rfl | exact yD (by omega)), ?_⟩
      · omega
      · refine ⟨by omega, fun j hj h => ?_⟩
        by_cases e : j < k
        · exact hall j e h
        · obtain rfl : j = k := by omega
          assumption
  · have hd : decide ((k : Int) < ((rdS o).length : Int)) = false := decide_eq_false (by omega)
    repeat' (first | ((try clear hf); with_reducible refine zN fun env K hE hK hf => ?_; have n : _ ∧ _ ∧ _ ∧ _ ∧ _ ∧ _ := ⟨hE 0, hE 1, hE 2, hE 4, hE 5, hE 6⟩; simp -implicitDefEqProofs only [push_cast, reduceIte, Nat.reduceEqDiff, e0, e1, e2, e4, e5, e6] at n; clear hE e0 e1 e2 e4 e5 e6; obtain ⟨e0, e1, e2, e4, e5, e6⟩ := n) | (with_reducible refine hK _ _ ?_; clear hK K) | (with_reducible first | refine zL ?_ | refine zS ?_ | refine zC ?_ | refine zH ?_ | refine zF ?_ | refine zM ?_ | refine zR ?_ | refine zE ?_ | refine zI ?_ | refine zT ?_ | refine zG ?_ | refine zB (by decide) ?_ | refine zQ ?_ | refine zP ?_ | refine zK ?_ | refine zZ ?_ | refine yB ?_ | refine zW (by assumption) ?_ | refine zY (by assumption) ?_) | (refine zJ rfl ?_) | (simp -implicitDefEqProofs only [push_cast, sevalprocAttr, eq_self, e0, e1, e2, e4, e5, e6, hd, lenV_regs]) | (simp -implicitDefEqProofs (disch := omega) only [zU, yC, zV, zD, e0, e1, e2, e4, e5, e6, hd, lenV_regs]) | (with_reducible refine yI ?_ ?_) | (refine zO rfl (fun bb => ?_) (fun bb => ?_) <;> (first | have bp := of_decide_eq_true bb | have bp := of_decide_eq_false bb | skip) <;> simp only [bb]) | (with_reducible refine zX (fun bb => ?_) (fun bb => ?_) <;> (first | have bp := of_decide_eq_true bb | have bp := of_decide_eq_false bb | skip)) | ((with_reducible refine And.intro ?_ ?_); omega) | fail)
    have : seesS o r = false := by
      unfold seesS
      rw [List.any_eq_false]
      intro x hx
      obtain ⟨j, hj, rfl⟩ := List.getElem_of_mem hx
      simpa using hall j (by omega) hj
    rw [this]
theorem f69 (t : Tab) : HV Try.prog 69 [.agg (tabC t)] (i64 (tabE t)) := by
  refine yR yS cf69 (by simp) rfl ?_ rfl
  unfold ac69 re69
  refine yF fun env hE => ?_; have e0 := hE 0; have e1 := hE 1; have e2 := hE 2; have e3 := hE 3; simp -implicitDefEqProofs only [push_cast] at e0 e1 e2 e3; clear hE
  repeat' (first | ((try clear hf); with_reducible refine zN fun env K hE hK hf => ?_; have n : _ ∧ _ ∧ _ ∧ _ := ⟨hE 0, hE 1, hE 2, hE 3⟩; simp -implicitDefEqProofs only [push_cast, reduceIte, Nat.reduceEqDiff, e0, e1, e2, e3] at n; clear hE e0 e1 e2 e3; obtain ⟨e0, e1, e2, e3⟩ := n) | (with_reducible refine hK _ _ ?_; clear hK K) | (with_reducible first | refine zL ?_ | refine zS ?_ | refine zC ?_ | refine zH ?_ | refine zF ?_ | refine zM ?_ | refine zR ?_ | refine zE ?_ | refine zI ?_ | refine zT ?_ | refine zG ?_ | refine zB (by decide) ?_ | refine zQ ?_ | refine zP ?_ | refine zK ?_ | refine zZ ?_ | refine yB ?_ | refine zW (by assumption) ?_ | refine zY (by assumption) ?_) | (refine zJ rfl ?_) | (simp -implicitDefEqProofs only [push_cast, sevalprocAttr, eq_self, e0, e1, e2, e3]) | (simp -implicitDefEqProofs (disch := omega) only [zU, yC, zV, zD, e0, e1, e2, e3]) | (with_reducible refine yI ?_ ?_) | (refine zO rfl (fun bb => ?_) (fun bb => ?_) <;> (first | have bp := of_decide_eq_true bb | have bp := of_decide_eq_false bb | skip) <;> simp only [bb]) | (with_reducible refine zX (fun bb => ?_) (fun bb => ?_) <;> (first | have bp := of_decide_eq_true bb | have bp := of_decide_eq_false bb | skip)) | ((with_reducible refine And.intro ?_ ?_); omega) | fail)
  refine yF fun env hE => ?_; have n : _ ∧ _ ∧ _ ∧ _ := ⟨hE 0, hE 1, hE 2, hE 3⟩; simp -implicitDefEqProofs only [push_cast, reduceIte, Nat.reduceEqDiff, e0, e1, e2, e3] at n; clear hE e0 e1 e2 e3; obtain ⟨e0, e1, e2, e3⟩ := n; have E69_0_0 := e0; have E69_0_1 := e1
  refine qN (fun nn σ => ∃ (c : Nat), nn = 4 - c ∧ σ.env 0 = env 0 ∧ σ.env 1 = env 1 ∧ σ.env 3 = i64 c ∧ (c ≤ 4 ∧ σ.h.hp (2, 1) = some ⟨true, tabC t⟩ ∧ ∀ j, j < c → okC t j)) _ ⟨0, rfl, rfl, rfl, by refine e3.trans ?_; first | rfl | exact yD (by omega) | (simp -implicitDefEqProofs (disch := omega) only [zD]; first | rfl | exact yD (by omega)), ?_⟩ ?_
  · exact ⟨by omega, by simp -implicitDefEqProofs only [push_cast, sevalprocAttr, eq_self], fun j hj => by omega⟩
  clear e0 e1 e2 e3; rintro nn ⟨env, h⟩ ⟨c, rfl, q0, q1, e3, hI⟩; simp only at q0 q1 e3 hI; (first | have e0 := q0.trans E69_0_0 | have e0 := True.intro); (first | have e1 := q1.trans E69_0_1 | have e1 := True.intro); clear q0 q1; have e2 := True.intro
  obtain ⟨hc4, hb, hall⟩ := hI
  unfold l69_0
  by_cases hc : c < 4
  · have hx := tab_u t hc
    have hy := tab_l t hc
    have hz := tab_b t hc
    have hd : decide ((c : Int) < 4) = true := decide_eq_true (by omega)
    repeat' (first | ((try clear hf); with_reducible refine zN fun env K hE hK hf => ?_; have n : _ ∧ _ ∧ _ ∧ _ := ⟨hE 0, hE 1, hE 2, hE 3⟩; simp -implicitDefEqProofs only [push_cast, reduceIte, Nat.reduceEqDiff, e0, e1, e2, e3] at n; clear hE e0 e1 e2 e3; obtain ⟨e0, e1, e2, e3⟩ := n) | (with_reducible refine hK _ _ ?_; clear hK K) | (with_reducible first | refine zL ?_ | refine zS ?_ | refine zC ?_ | refine zH ?_ | refine zF ?_ | refine zM ?_ | refine zR ?_ | refine zE ?_ | refine zI ?_ | refine zT ?_ | refine zG ?_ | refine zB (by decide) ?_ | refine zQ ?_ | refine zP ?_ | refine zK ?_ | refine zZ ?_ | refine yB ?_ | refine zW (by assumption) ?_ | refine zY (by assumption) ?_) | (refine zJ rfl ?_) | (simp -implicitDefEqProofs only [push_cast, sevalprocAttr, eq_self, e0, e1, e2, e3, hd, hb, hx, hy, hz]) | (simp -implicitDefEqProofs (disch := omega) only [zU, yC, zV, zD, e0, e1, e2, e3, hd, hb, hx, hy, hz]) | (with_reducible refine yI ?_ ?_) | (refine zO rfl (fun bb => ?_) (fun bb => ?_) <;> (first | have bp := of_decide_eq_true bb | have bp := of_decide_eq_false bb | skip) <;> simp only [bb]) | (with_reducible refine zX (fun bb => ?_) (fun bb => ?_) <;> (first | have bp := of_decide_eq_true bb | have bp := of_decide_eq_false bb | skip)) | ((with_reducible refine And.intro ?_ ?_); omega) | fail)
    all_goals first
      | (rw [tabE_bad]; intro h; have := h.1 c hc; unfold okC at this; omega)
      | skip
    refine ⟨_, ?_, c + 1, rfl, E69_0_0.symm, E69_0_1.symm, by first | rfl | exact yD (by omega) | (simp -implicitDefEqProofs (disch := omega) only [zD]; first | rfl | exact yD (by omega)), ?_⟩
    · omega
    · refine ⟨by omega, fun j hj => ?_⟩
      by_cases e : j < c
      · exact hall j e
      · obtain rfl : j = c := by omega
        unfold okC; omega
  · have hd : decide ((c : Int) < 4) = false := decide_eq_false (by omega)
    repeat' (first | ((try clear hf); with_reducible refine zN fun env K hE hK hf => ?_; have n : _ ∧ _ ∧ _ ∧ _ := ⟨hE 0, hE 1, hE 2, hE 3⟩; simp -implicitDefEqProofs only [push_cast, reduceIte, Nat.reduceEqDiff, e0, e1, e2, e3] at n; clear hE e0 e1 e2 e3; obtain ⟨e0, e1, e2, e3⟩ := n) | (with_reducible refine hK _ _ ?_; clear hK K) | (with_reducible first | refine zL ?_ | refine zS ?_ | refine zC ?_ | refine zH ?_ | refine zF ?_ | refine zM ?_ | refine zR ?_ | refine zE ?_ | refine zI ?_ | refine zT ?_ | refine zG ?_ | refine zB (by decide) ?_ | refine zQ ?_ | refine zP ?_ | refine zK ?_ | refine zZ ?_ | refine yB ?_ | refine zW (by assumption) ?_ | refine zY (by assumption) ?_) | (refine zJ rfl ?_) | (simp -implicitDefEqProofs only [push_cast, sevalprocAttr, eq_self, e0, e1, e2, e3, hd, hb, tab_d]) | (simp -implicitDefEqProofs (disch := omega) only [zU, yC, zV, zD, e0, e1, e2, e3, hd, hb, tab_d]) | (with_reducible refine yI ?_ ?_) | (refine zO rfl (fun bb => ?_) (fun bb => ?_) <;> (first | have bp := of_decide_eq_true bb | have bp := of_decide_eq_false bb | skip) <;> simp only [bb]) | (with_reducible refine zX (fun bb => ?_) (fun bb => ?_) <;> (first | have bp := of_decide_eq_true bb | have bp := of_decide_eq_false bb | skip)) | ((with_reducible refine And.intro ?_ ?_); omega) | fail)
    all_goals first
      | (rw [tabE_bad]; intro h; have := h.2; omega)
      | (rw [tabE_ok]; exact ⟨fun j hj => hall j (by omega), by omega⟩)
end Go.Proofs.Hx

set_option linter.unusedVariables false
set_option linter.unusedSimpArgs false
namespace Go.Proofs.Hx
open Go Go.Proofs
attribute [local irreducible] yL awp opK goV goM qM qI qK yN HV HVF HC
/-! ### Finite maps, as lists of what was put -/
section
variable {κ β : Type} [DecidableEq κ]
def qR : List (κ × β) → κ → Option β
  | [], _ => none
  | p :: r, k => if p.1 = k then some p.2 else qR r k
def putL : List (κ × β) → κ → β → List (κ × β)
  | [], k, v => [(k, v)]
  | p :: r, k, v => if p.1 = k then (k, v) :: r else p :: putL r k v
theorem lookL_put (k k' : κ) (v : β) : ∀ l : List (κ × β), qR (putL l k v) k' = if k' = k then some v else qR l k'
  | [] => by
    by_cases e : k' = k
    · subst e; simp [putL, qR]
    · rw [if_neg e]; simp only [putL, qR]; rw [if_neg fun h => e h.symm]
  | p :: r => by
    by_cases h : p.1 = k
    · simp only [putL, if_pos h, qR]
      by_cases e : k' = k
      · subst e; simp
      · rw [if_neg fun h => e h.symm, if_neg e, if_neg fun h2 => e (h2.symm.trans h)]
    · simp only [putL, if_neg h, qR, lookL_put k k' v r]
      by_cases e2 : p.1 = k'
      · rw [if_pos e2, if_pos e2, if_neg fun e => h (e2.trans e)]
      · rw [if_neg e2, if_neg e2]
def idxL : List (κ × β) → κ → Option Nat
  | [], _ => none
  | p :: r, k => if p.1 = k then some 0 else (idxL r k).map (· + 1)
variable {g : Bool} {ls : List (Nat × Nat)} {sz : Nat} {kf : κ → AV} {vf : β → AV} {kc : κ → List AV}
def entL (kf : κ → AV) (vf : β → AV) (l : List (κ × β)) : List (AV × AV) := l.map fun p => (kf p.1, vf p.2)
theorem find_L (h1 : ∀ k, keyC g sz (kf k) = some (kc k)) (h2 : ∀ k k', qQ (kc k) (kc k') ls = some (decide (k = k'))) (k : κ) : ∀ l : List (κ × β), findE ls sz (keyC g sz) (kc k) (entL kf vf l) = some (idxL l k)
  | [] => rfl
  | p :: r => by
    have ih := find_L h1 h2 k r
    simp only [entL, List.map_cons, findE, h1, Option.bind_some, h2, idxL]
    by_cases e : k = p.1
    · subst e; simp
    · rw [decide_eq_false e]
      have e' : ¬ p.1 = k := fun h => e h.symm
      simp only [e', Bool.false_eq_true, if_false]
      rw [show List.map (fun p => (kf p.1, vf p.2)) r = entL kf vf r from rfl, ih]
      rfl
theorem look_L (h1 : ∀ k, keyC g sz (kf k) = some (kc k)) (h2 : ∀ k k', qQ (kc k) (kc k') ls = some (decide (k = k'))) (z : AV) (k : κ) (l : List (κ × β)) : lookE g ls sz z (entL kf vf l) (kf k) = some (match qR l k with | some v => vf v | none => z) := by
  unfold lookE
  rw [h1, Option.bind_some, find_L h1 h2, Option.bind_some]
  have key : ∀ l : List (κ × β), (match idxL l k with | none => some z | some i => ((entL kf vf l)[i]?).map fun e => e.2) = some (match qR l k with | some v => vf v | none => z) := by
    intro l
    induction l with
    | nil => rfl
    | cons p r ih =>
      simp only [idxL, qR]
      by_cases e : p.1 = k
      · simp [e, entL]
      · simp only [if_neg e]
        cases hi : idxL r k with
        | none => rw [hi] at ih; simpa using ih
        | some i => rw [hi] at ih; simpa [entL] using ih
  exact key l
theorem put_L (h1 : ∀ k, keyC g sz (kf k) = some (kc k)) (h2 : ∀ k k', qQ (kc k) (kc k') ls = some (decide (k = k'))) (k : κ) (v : β) (l : List (κ × β)) : putE g ls sz (entL kf vf l) (kf k) (vf v) = some (entL kf vf (putL l k v)) := by
  unfold putE
  rw [h1, Option.bind_some, find_L h1 h2, Option.bind_some]
  have key : ∀ l : List (κ × β), (match idxL l k with | none => some (entL kf vf l ++ [(kf k, vf v)]) | some i => some ((entL kf vf l).set i (kf k, vf v))) = some (entL kf vf (putL l k v)) := by
    intro l
    induction l with
    | nil => rfl
    | cons p r ih =>
      simp only [idxL, putL]
      by_cases e : p.1 = k
      · simp [e, entL]
      · simp only [if_neg e]
        cases hi : idxL r k with
        | none => rw [hi] at ih; simp only [Option.map_none, entL, List.map_cons, List.cons_append, Option.some.injEq, List.cons.injEq, true_and] at ih ⊢; exact ih
        | some i => rw [hi] at ih; simp only [Option.map_some, entL, List.map_cons, List.set_cons_succ, Option.some.injEq, List.cons.injEq, true_and] at ih ⊢; exact ih
  exact key l
end
/-- A class in a cycle, as a key. -/
def spotK (p : Int × Int) : AV := .agg [i64 p.1, i64 p.2]
def oneV (n : Int) : AV := .agg [i64 n]
theorem spot_keyC (p : Int × Int) : keyC true 2 (spotK p) = some [i64 p.1, i64 p.2] := rfl
theorem spot_eq (p q : Int × Int) : qQ [i64 p.1, i64 p.2] [i64 q.1, i64 q.2] [(0, 0), (1, 0)] = some (decide (p = q)) := by
  simp only [qQ, List.getElem?_cons_zero, List.getElem?_cons_succ, scEq, if_true, Option.bind_some, Option.map_some, Option.some.injEq, Bool.and_true]
  obtain ⟨a, b⟩ := p
  obtain ⟨c, d⟩ := q
  by_cases h1 : a = c <;> by_cases h2 : b = d <;> simp [h1, h2]
theorem spot_look (l : List ((Int × Int) × Int)) (c y : Int) : lookE true [(0, 0), (1, 0)] 2 (.agg [.lit (.int .i64 0)]) (entL spotK oneV l) (.agg [.lit (.int .i64 c), .lit (.int .i64 y)]) = some (.agg [.lit (.int .i64 ((qR l (c, y)).getD 0))]) := by
  have := look_L (kf := spotK) (vf := oneV) (kc := fun p => [i64 p.1, i64 p.2]) spot_keyC spot_eq (.agg [.lit (.int .i64 0)]) (c, y) l
  exact this.trans (by cases qR l (c, y) <;> rfl)
theorem spot_put (l : List ((Int × Int) × Int)) (c y v : Int) : putE true [(0, 0), (1, 0)] 2 (entL spotK oneV l) (.agg [.lit (.int .i64 c), .lit (.int .i64 y)]) (.agg [.lit (.int .i64 v)]) = some (entL spotK oneV (putL l (c, y) v)) :=
  put_L (kf := spotK) (vf := oneV) (kc := fun p => [i64 p.1, i64 p.2]) spot_keyC spot_eq (c, y) v l
/-! ### Issues -/
structure Iss where
  cy : Int
  at_ : Int
  o : Opn
  g0 : Int
  g1 : Bool
  g2 : Int
  g3 : Bool
def isC (x : Iss) : List AV := [i64 x.cy, i64 x.at_, .lit (.int .i8 x.o.k), u8 x.o.d, u8 x.o.a, u8 x.o.b, i64 x.o.im, i64 x.g0, bl x.g1, i64 x.g2, bl x.g3]
theorem isC_len (x : Iss) : (isC x).length = 11 := rfl
theorem isC_take (x : Iss) : (isC x).take 11 = isC x := rfl
theorem isC_one (x : Iss) : (isC x).all one = true := rfl
theorem isC_imms (x : Iss) : imms (isC x) = true := rfl
theorem isC_drop0 (x : Iss) : (isC x).drop 11 = [] := rfl
theorem isC_0 (x : Iss) : (isC x)[0]? = some (i64 x.cy) := rfl
theorem isC_2 (x : Iss) : (isC x)[2]? = some (.lit (.int .i8 x.o.k)) := rfl
theorem isC_d2 (x : Iss) : ((isC x).drop 2)[0]? = some (.lit (.int .i8 x.o.k)) := rfl
theorem isC_op (x : Iss) : ((isC x).drop 2).take 5 = opC x.o := rfl
attribute [push_cast] isC_len isC_take isC_one isC_imms isC_drop0 isC_0 isC_2 isC_d2 isC_op
theorem isrow_at {l : List Iss} {k : Nat} (hk : k < l.length) (kd : IntKind) : idxAddrV none 11 (.row (l.map isC)) (.lit (.int kd (k : Int))) = some (.ip (isC l[k])) := idxAddr_row isC 11 isC_len l kd hk
theorem isrows_imms (l : List Iss) : immss (l.map isC) = true := immss_of_get fun i x hx => by simp at hx; obtain ⟨o, _, rfl⟩ := hx; rfl
theorem yU (l : List Iss) : lenV (.row (l.map isC)) = some (.lit (.int .i64 l.length)) := by simp [lenV]
def Iss.fair (x : Iss) : Prop := 0 ≤ x.cy ∧ x.cy ≤ 1048576
instance (x : Iss) : Decidable x.fair := by unfold Iss.fair; infer_instance
def fairP (l : List Iss) (t : Tab) : Prop := tabOK t ∧ ∀ x ∈ l, x.fair
instance (l : List Iss) (t : Tab) : Decidable (fairP l t) := by unfold fairP; infer_instance
theorem f49 (l : List Iss) (t : Tab) (hl : l.length ≤ 1000000) : HV Try.prog 49 [.row (l.map isC), .agg (tabC t)] (bl (decide (fairP l t))) := by
  refine yR yS cf49 (by simp) (by simp [imms, imm, isrows_imms, tab_imms]) ?_ rfl
  unfold ac49 re49
  refine yF fun env hE => ?_; have e0 := hE 0; have e1 := hE 1; have e3 := hE 3; have e4 := hE 4; have e6 := hE 6; have e10 := hE 10; have e11 := hE 11; have e12 := hE 12; have e13 := hE 13; simp -implicitDefEqProofs only [push_cast] at e0 e1 e3 e4 e6 e10 e11 e12 e13; clear hE
  by_cases ht : tabE t = 0
  · have hd : decide (¬ tabE t = 0) = false := decide_eq_false (by simpa using ht)
    have htok : tabOK t := Classical.byContradiction fun h => by unfold tabE at ht; rw [if_neg h] at ht; simp at ht
    repeat' (first | ((try clear hf); with_reducible refine zN fun env K hE hK hf => ?_; have n : _ ∧ _ ∧ _ ∧ _ ∧ _ ∧ _ ∧ _ ∧ _ ∧ _ := ⟨hE 0, hE 1, hE 3, hE 4, hE 6, hE 10, hE 11, hE 12, hE 13⟩; simp -implicitDefEqProofs only [push_cast, reduceIte, Nat.reduceEqDiff, e0, e1, e3, e4, e6, e10, e11, e12, e13] at n; clear hE e0 e1 e3 e4 e6 e10 e11 e12 e13; obtain ⟨e0, e1, e3, e4, e6, e10, e11, e12, e13⟩ := n) | (with_reducible refine hK _ _ ?_; clear hK K) | (with_reducible first | refine zL ?_ | refine zS ?_ | refine zC ?_ | refine zH ?_ | refine zF ?_ | refine zM ?_ | refine zR ?_ | refine zE ?_ | refine zI ?_ | refine zT ?_ | refine zG ?_ | refine zB (by decide) ?_ | refine zQ ?_ | refine zP ?_ | refine zK ?_ | refine zZ ?_ | refine yB ?_ | refine zW (by assumption) ?_ | refine zY (by assumption) ?_) | (refine zJ rfl ?_) | (simp -implicitDefEqProofs only [push_cast, sevalprocAttr, eq_self, e0, e1, e3, e4, e6, e10, e11, e12, e13, hd, yU]) | (simp -implicitDefEqProofs (disch := omega) only [zU, yC, zV, zD, e0, e1, e3, e4, e6, e10, e11, e12, e13, hd, yU]) | (with_reducible refine yI ?_ ?_) | (refine zO rfl (fun bb => ?_) (fun bb => ?_) <;> (first | have bp := of_decide_eq_true bb | have bp := of_decide_eq_false bb | skip) <;> simp only [bb]) | (with_reducible refine zX (fun bb => ?_) (fun bb => ?_) <;> (first | have bp := of_decide_eq_true bb | have bp := of_decide_eq_false bb | skip)) | ((with_reducible refine And.intro ?_ ?_); omega) | (refine yG (f42 t) ?_) | fail)
    refine yF fun env hE => ?_; have n : _ ∧ _ ∧ _ ∧ _ ∧ _ ∧ _ ∧ _ ∧ _ ∧ _ := ⟨hE 0, hE 1, hE 3, hE 4, hE 6, hE 10, hE 11, hE 12, hE 13⟩; simp -implicitDefEqProofs only [push_cast, reduceIte, Nat.reduceEqDiff, e0, e1, e3, e4, e6, e10, e11, e12, e13] at n; clear hE e0 e1 e3 e4 e6 e10 e11 e12 e13; obtain ⟨e0, e1, e3, e4, e6, e10, e11, e12, e13⟩ := n; have E49_0_0 := e0; have E49_0_1 := e1; have E49_0_3 := e3; have E49_0_10 := e10; have E49_0_11 := e11
    refine qN (fun nn σ => ∃ (k : Nat), nn = l.length - k ∧ σ.env 0 = env 0 ∧ σ.env 1 = env 1 ∧ σ.env 3 = env 3 ∧ σ.env 10 = env 10 ∧ σ.env 11 = env 11 ∧ σ.env 12 = i64 k ∧ (k ≤ l.length ∧ ∀ j, j < k → ∀ h : j < l.length, l[j].fair)) _ ⟨0, rfl, rfl, rfl, rfl, rfl, rfl, by refine e12.trans ?_; first | rfl | exact yD (by omega) | (simp -implicitDefEqProofs (disch := omega) only [zD]; first | rfl | exact yD (by omega)), ?_⟩ ?_
    · exact ⟨by omega, fun j h => absurd h (by omega)⟩
    clear e0 e1 e3 e4 e6 e10 e11 e12 e13; rintro nn ⟨env, h⟩ ⟨k, rfl, q0, q1, q3, q10, q11, e12, hI⟩; simp only at q0 q1 q3 q10 q11 e12 hI; (first | have e0 := q0.trans E49_0_0 | have e0 := True.intro); (first | have e1 := q1.trans E49_0_1 | have e1 := True.intro); (first | have e3 := q3.trans E49_0_3 | have e3 := True.intro); (first | have e10 := q10.trans E49_0_10 | have e10 := True.intro); (first | have e11 := q11.trans E49_0_11 | have e11 := True.intro); clear q0 q1 q3 q10 q11; have e4 := True.intro; have e6 := True.intro; have e13 := True.intro
    obtain ⟨hk, hq⟩ := hI
    unfold l49_0
    (first | refine qC fun hF => ?_ | refine yZ fun hF => ?_ | refine yY fun hF => ?_)
    by_cases hlt : k < l.length
    · have hdk : decide ((k : Int) < (l.length : Int)) = true := decide_eq_true (by omega)
      have hr := isrow_at hlt .i64
      by_cases h1 : l[k].cy < 0
      · have hd1 : decide (l[k].cy < 0) = true := decide_eq_true h1
        have hE : decide (fairP l t) = false := decide_eq_false fun h => by have := h.2 _ (List.getElem_mem hlt); unfold Iss.fair at this; omega
        repeat' (first | ((try clear hf); with_reducible refine zN fun env K hE hK hf => ?_; have n : _ ∧ _ ∧ _ ∧ _ ∧ _ ∧ _ ∧ _ ∧ _ ∧ _ := ⟨hE 0, hE 1, hE 3, hE 4, hE 6, hE 10, hE 11, hE 12, hE 13⟩; simp -implicitDefEqProofs only [push_cast, reduceIte, Nat.reduceEqDiff, e0, e1, e3, e4, e6, e10, e11, e12, e13] at n; clear hE e0 e1 e3 e4 e6 e10 e11 e12 e13; obtain ⟨e0, e1, e3, e4, e6, e10, e11, e12, e13⟩ := n) | (with_reducible refine hK _ _ ?_; clear hK K) | (with_reducible first | refine zL ?_ | refine zS ?_ | refine zC ?_ | refine zH ?_ | refine zF ?_ | refine zM ?_ | refine zR ?_ | refine zE ?_ | refine zI ?_ | refine zT ?_ | refine zG ?_ | refine zB (by decide) ?_ | refine zQ ?_ | refine zP ?_ | refine zK ?_ | refine zZ ?_ | refine yB ?_ | refine zW (by assumption) ?_ | refine zY (by assumption) ?_) | (refine zJ rfl ?_) | (simp -implicitDefEqProofs only [push_cast, sevalprocAttr, eq_self, e0, e1, e3, e4, e6, e10, e11, e12, e13, hdk, hr, hF.at, hd1, hE]) | (simp -implicitDefEqProofs (disch := omega) only [zU, yC, zV, zD, e0, e1, e3, e4, e6, e10, e11, e12, e13, hdk, hr, hF.at, hd1, hE]) | (with_reducible refine yI ?_ ?_) | (refine zO rfl (fun bb => ?_) (fun bb => ?_) <;> (first | have bp := of_decide_eq_true bb | have bp := of_decide_eq_false bb | skip) <;> simp only [bb]) | (with_reducible refine zX (fun bb => ?_) (fun bb => ?_) <;> (first | have bp := of_decide_eq_true bb | have bp := of_decide_eq_false bb | skip)) | ((with_reducible refine And.intro ?_ ?_); omega) | fail)
      · have hd1 : decide (l[k].cy < 0) = false := decide_eq_false h1
        by_cases h2 : 1048576 < l[k].cy
        · have hd2 : decide (1048576 < l[k].cy) = true := decide_eq_true h2
          have hE : decide (fairP l t) = false := decide_eq_false fun h => by have := h.2 _ (List.getElem_mem hlt); unfold Iss.fair at this; omega
          repeat' (first | ((try clear hf); with_reducible refine zN fun env K hE hK hf => ?_; have n : _ ∧ _ ∧ _ ∧ _ ∧ _ ∧ _ ∧ _ ∧ _ ∧ _ := ⟨hE 0, hE 1, hE 3, hE 4, hE 6, hE 10, hE 11, hE 12, hE 13⟩; simp -implicitDefEqProofs only [push_cast, reduceIte, Nat.reduceEqDiff, e0, e1, e3, e4, e6, e10, e11, e12, e13] at n; clear hE e0 e1 e3 e4 e6 e10 e11 e12 e13; obtain ⟨e0, e1, e3, e4, e6, e10, e11, e12, e13⟩ := n) | (with_reducible refine hK _ _ ?_; clear hK K) | (with_reducible first | refine zL ?_ | refine zS ?_ | refine zC ?_ | refine zH ?_ | refine zF ?_ | refine zM ?_ | refine zR ?_ | refine zE ?_ | refine zI ?_ | refine zT ?_ | refine zG ?_ | refine zB (by decide) ?_ | refine zQ ?_ | refine zP ?_ | refine zK ?_ | refine zZ ?_ | refine yB ?_ | refine zW (by assumption) ?_ | refine zY (by assumption) ?_) | (refine zJ rfl ?_) | (simp -implicitDefEqProofs only [push_cast, sevalprocAttr, eq_self, e0, e1, e3, e4, e6, e10, e11, e12, e13, hdk, hr, hF.at, hd1, hd2, hE]) | (simp -implicitDefEqProofs (disch := omega) only [zU, yC, zV, zD, e0, e1, e3, e4, e6, e10, e11, e12, e13, hdk, hr, hF.at, hd1, hd2, hE]) | (with_reducible refine yI ?_ ?_) | (refine zO rfl (fun bb => ?_) (fun bb => ?_) <;> (first | have bp := of_decide_eq_true bb | have bp := of_decide_eq_false bb | skip) <;> simp only [bb]) | (with_reducible refine zX (fun bb => ?_) (fun bb => ?_) <;> (first | have bp := of_decide_eq_true bb | have bp := of_decide_eq_false bb | skip)) | ((with_reducible refine And.intro ?_ ?_); omega) | fail)
        · have hd2 : decide (1048576 < l[k].cy) = false := decide_eq_false h2
          repeat' (first | ((try clear hf); with_reducible refine zN fun env K hE hK hf => ?_; have n : _ ∧ _ ∧ _ ∧ _ ∧ _ ∧ _ ∧ _ ∧ _ ∧ _ := ⟨hE 0, hE 1, hE 3, hE 4, hE 6, hE 10, hE 11, hE 12, hE 13⟩; simp -implicitDefEqProofs only [push_cast, reduceIte, Nat.reduceEqDiff, e0, e1, e3, e4, e6, e10, e11, e12, e13] at n; clear hE e0 e1 e3 e4 e6 e10 e11 e12 e13; obtain ⟨e0, e1, e3, e4, e6, e10, e11, e12, e13⟩ := n) | (with_reducible refine hK _ _ ?_; clear hK K) | (with_reducible first | refine zL ?_ | refine zS ?_ | refine zC ?_ | refine zH ?_ | refine zF ?_ | refine zM ?_ | refine zR ?_ | refine zE ?_ | refine zI ?_ | refine zT ?_ | refine zG ?_ | refine zB (by decide) ?_ | refine zQ ?_ | refine zP ?_ | refine zK ?_ | refine zZ ?_ | refine yB ?_ | refine zW (by assumption) ?_ | refine zY (by assumption) ?_) | (refine zJ rfl ?_) | (simp -implicitDefEqProofs only [push_cast, sevalprocAttr, eq_self, e0, e1, e3, e4, e6, e10, e11, e12, e13, hdk, hr, hF.at, hd1, hd2]) | (simp -implicitDefEqProofs (disch := omega) only [zU, yC, zV, zD, e0, e1, e3, e4, e6, e10, e11, e12, e13, hdk, hr, hF.at, hd1, hd2]) | (with_reducible refine yI ?_ ?_) | (refine zO rfl (fun bb => ?_) (fun bb => ?_) <;> (first | have bp := of_decide_eq_true bb | have bp := of_decide_eq_false bb | skip) <;> simp only [bb]) | (with_reducible refine zX (fun bb => ?_) (fun bb => ?_) <;> (first | have bp := of_decide_eq_true bb | have bp := of_decide_eq_false bb | skip)) | ((with_reducible refine And.intro ?_ ?_); omega) | fail)
          refine ⟨_, ?_, k + 1, rfl, E49_0_0.symm, E49_0_1.symm, E49_0_3.symm, E49_0_10.symm, E49_0_11.symm, by first | rfl | exact yD (by omega) | (simp -implicitDefEqProofs (disch := omega) only [zD]; first | rfl | exact yD (by omega)), ?_⟩
          · omega
          · refine ⟨by omega, fun j hj h => ?_⟩
            by_cases e : j = k
            · subst e; unfold Iss.fair; omega
            · exact hq j (by omega) h
    · have hdk : decide ((k : Int) < (l.length : Int)) = false := decide_eq_false (by omega)
      have hE : decide (fairP l t) = true := decide_eq_true ⟨htok, fun x hx => by
        obtain ⟨j, hj, rfl⟩ := List.mem_iff_getElem.1 hx
        exact hq j (by omega) hj⟩
      repeat' (first | ((try clear hf); with_reducible refine zN fun env K hE hK hf => ?_; have n : _ ∧ _ ∧ _ ∧ _ ∧ _ ∧ _ ∧ _ ∧ _ ∧ _ := ⟨hE 0, hE 1, hE 3, hE 4, hE 6, hE 10, hE 11, hE 12, hE 13⟩; simp -implicitDefEqProofs only [push_cast, reduceIte, Nat.reduceEqDiff, e0, e1, e3, e4, e6, e10, e11, e12, e13] at n; clear hE e0 e1 e3 e4 e6 e10 e11 e12 e13; obtain ⟨e0, e1, e3, e4, e6, e10, e11, e12, e13⟩ := n) | (with_reducible refine hK _ _ ?_; clear hK K) | (with_reducible first | refine zL ?_ | refine zS ?_ | refine zC ?_ | refine zH ?_ | refine zF ?_ | refine zM ?_ | refine zR ?_ | refine zE ?_ | refine zI ?_ | refine zT ?_ | refine zG ?_ | refine zB (by decide) ?_ | refine zQ ?_ | refine zP ?_ | refine zK ?_ | refine zZ ?_ | refine yB ?_ | refine zW (by assumption) ?_ | refine zY (by assumption) ?_) | (refine zJ rfl ?_) | (simp -implicitDefEqProofs only [push_cast, sevalprocAttr, eq_self, e0, e1, e3, e4, e6, e10, e11, e12, e13, hdk, hE]) | (simp -implicitDefEqProofs (disch := omega) only [zU, yC, zV, zD, e0, e1, e3, e4, e6, e10, e11, e12, e13, hdk, hE]) | (with_reducible refine yI ?_ ?_) | (refine zO rfl (fun bb => ?_) (fun bb => ?_) <;> (first | have bp := of_decide_eq_true bb | have bp := of_decide_eq_false bb | skip) <;> simp only [bb]) | (with_reducible refine zX (fun bb => ?_) (fun bb => ?_) <;> (first | have bp := of_decide_eq_true bb | have bp := of_decide_eq_false bb | skip)) | ((with_reducible refine And.intro ?_ ?_); omega) | fail)
  · have hd : decide (¬ tabE t = 0) = true := decide_eq_true ht
    have hE : decide (fairP l t) = false := decide_eq_false fun h => ht (tabE_ok h.1)
    repeat' (first | ((try clear hf); with_reducible refine zN fun env K hE hK hf => ?_; have n : _ ∧ _ ∧ _ ∧ _ ∧ _ ∧ _ ∧ _ ∧ _ ∧ _ := ⟨hE 0, hE 1, hE 3, hE 4, hE 6, hE 10, hE 11, hE 12, hE 13⟩; simp -implicitDefEqProofs only [push_cast, reduceIte, Nat.reduceEqDiff, e0, e1, e3, e4, e6, e10, e11, e12, e13] at n; clear hE e0 e1 e3 e4 e6 e10 e11 e12 e13; obtain ⟨e0, e1, e3, e4, e6, e10, e11, e12, e13⟩ := n) | (with_reducible refine hK _ _ ?_; clear hK K) | (with_reducible first | refine zL ?_ | refine zS ?_ | refine zC ?_ | refine zH ?_ | refine zF ?_ | refine zM ?_ | refine zR ?_ | refine zE ?_ | refine zI ?_ | refine zT ?_ | refine zG ?_ | refine zB (by decide) ?_ | refine zQ ?_ | refine zP ?_ | refine zK ?_ | refine zZ ?_ | refine yB ?_ | refine zW (by assumption) ?_ | refine zY (by assumption) ?_) | (refine zJ rfl ?_) | (simp -implicitDefEqProofs only [push_cast, sevalprocAttr, eq_self, e0, e1, e3, e4, e6, e10, e11, e12, e13, hd, hE]) | (simp -implicitDefEqProofs (disch := omega) only [zU, yC, zV, zD, e0, e1, e3, e4, e6, e10, e11, e12, e13, hd, hE]) | (with_reducible refine yI ?_ ?_) | (refine zO rfl (fun bb => ?_) (fun bb => ?_) <;> (first | have bp := of_decide_eq_true bb | have bp := of_decide_eq_false bb | skip) <;> simp only [bb]) | (with_reducible refine zX (fun bb => ?_) (fun bb => ?_) <;> (first | have bp := of_decide_eq_true bb | have bp := of_decide_eq_false bb | skip)) | ((with_reducible refine And.intro ?_ ?_); omega) | (refine yG (f42 t) ?_) | fail)
theorem f50 (l : List Iss) (t : Tab) (hl : l.length ≤ 1000000) : HV Try.prog 50 [.row (l.map isC), .agg (tabC t)] (bl (decide (fairP l t))) := by
  refine yR yS cf50 (by simp) (by simp [imms, imm, isrows_imms, tab_imms]) ?_ rfl
  unfold ac50 re50
  refine yF fun env hE => ?_; have e0 := hE 0; have e1 := hE 1; have e3 := hE 3; have e4 := hE 4; have e5 := hE 5; simp -implicitDefEqProofs only [push_cast] at e0 e1 e3 e4 e5; clear hE
  by_cases ht : tabE t = 0
  · have hd : decide (¬ tabE t = 0) = false := decide_eq_false (by simpa using ht)
    have htok : tabOK t := Classical.byContradiction fun h => by unfold tabE at ht; rw [if_neg h] at ht; simp at ht
    repeat' (first | ((try clear hf); with_reducible refine zN fun env K hE hK hf => ?_; have n : _ ∧ _ ∧ _ ∧ _ ∧ _ := ⟨hE 0, hE 1, hE 3, hE 4, hE 5⟩; simp -implicitDefEqProofs only [push_cast, reduceIte, Nat.reduceEqDiff, e0, e1, e3, e4, e5] at n; clear hE e0 e1 e3 e4 e5; obtain ⟨e0, e1, e3, e4, e5⟩ := n) | (with_reducible refine hK _ _ ?_; clear hK K) | (with_reducible first | refine zL ?_ | refine zS ?_ | refine zC ?_ | refine zH ?_ | refine zF ?_ | refine zM ?_ | refine zR ?_ | refine zE ?_ | refine zI ?_ | refine zT ?_ | refine zG ?_ | refine zB (by decide) ?_ | refine zQ ?_ | refine zP ?_ | refine zK ?_ | refine zZ ?_ | refine yB ?_ | refine zW (by assumption) ?_ | refine zY (by assumption) ?_) | (refine zJ rfl ?_) | (simp -implicitDefEqProofs only [push_cast, sevalprocAttr, eq_self, e0, e1, e3, e4, e5, hd]) | (simp -implicitDefEqProofs (disch := omega) only [zU, yC, zV, zD, e0, e1, e3, e4, e5, hd]) | (with_reducible refine yI ?_ ?_) | (refine zO rfl (fun bb => ?_) (fun bb => ?_) <;> (first | have bp := of_decide_eq_true bb | have bp := of_decide_eq_false bb | skip) <;> simp only [bb]) | (with_reducible refine zX (fun bb => ?_) (fun bb => ?_) <;> (first | have bp := of_decide_eq_true bb | have bp := of_decide_eq_false bb | skip)) | ((with_reducible refine And.intro ?_ ?_); omega) | (refine yG (f69 t) ?_) | fail)
    refine yF fun env hE => ?_; have n : _ ∧ _ ∧ _ ∧ _ ∧ _ := ⟨hE 0, hE 1, hE 3, hE 4, hE 5⟩; simp -implicitDefEqProofs only [push_cast, reduceIte, Nat.reduceEqDiff, e0, e1, e3, e4, e5] at n; clear hE e0 e1 e3 e4 e5; obtain ⟨e0, e1, e3, e4, e5⟩ := n; have E50_0_0 := e0; have E50_0_1 := e1; have E50_0_3 := e3
    refine qN (fun nn σ => ∃ (k : Nat), nn = l.length - k ∧ σ.env 0 = env 0 ∧ σ.env 1 = env 1 ∧ σ.env 3 = env 3 ∧ σ.env 5 = i64 k ∧ (k ≤ l.length ∧ ∀ j, j < k → ∀ h : j < l.length, l[j].fair)) _ ⟨0, rfl, rfl, rfl, rfl, by refine e5.trans ?_; first | rfl | exact yD (by omega) | (simp -implicitDefEqProofs (disch := omega) only [zD]; first | rfl | exact yD (by omega)), ?_⟩ ?_
    · exact ⟨by omega, fun j h => absurd h (by omega)⟩
    clear e0 e1 e3 e4 e5; rintro nn ⟨env, h⟩ ⟨k, rfl, q0, q1, q3, e5, hI⟩; simp only at q0 q1 q3 e5 hI; (first | have e0 := q0.trans E50_0_0 | have e0 := True.intro); (first | have e1 := q1.trans E50_0_1 | have e1 := True.intro); (first | have e3 := q3.trans E50_0_3 | have e3 := True.intro); clear q0 q1 q3; have e4 := True.intro
    obtain ⟨hk, hq⟩ := hI
    unfold l50_0
    (first | refine qC fun hF => ?_ | refine yZ fun hF => ?_ | refine yY fun hF => ?_)
    by_cases hlt : k < l.length
    · have hdk : decide ((k : Int) < (l.length : Int)) = true := decide_eq_true (by omega)
      have hr := isrow_at hlt .i64
      by_cases h1 : l[k].cy < 0
      · have hd1 : decide (l[k].cy < 0) = true := decide_eq_true h1
        have hE : decide (fairP l t) = false := decide_eq_false fun h => by have := h.2 _ (List.getElem_mem hlt); unfold Iss.fair at this; omega
        repeat' (first | ((try clear hf); with_reducible refine zN fun env K hE hK hf => ?_; have n : _ ∧ _ ∧ _ ∧ _ ∧ _ := ⟨hE 0, hE 1, hE 3, hE 4, hE 5⟩; simp -implicitDefEqProofs only [push_cast, reduceIte, Nat.reduceEqDiff, e0, e1, e3, e4, e5] at n; clear hE e0 e1 e3 e4 e5; obtain ⟨e0, e1, e3, e4, e5⟩ := n) | (with_reducible refine hK _ _ ?_; clear hK K) | (with_reducible first | refine zL ?_ | refine zS ?_ | refine zC ?_ | refine zH ?_ | refine zF ?_ | refine zM ?_ | refine zR ?_ | refine zE ?_ | refine zI ?_ | refine zT ?_ | refine zG ?_ | refine zB (by decide) ?_ | refine zQ ?_ | refine zP ?_ | refine zK ?_ | refine zZ ?_ | refine yB ?_ | refine zW (by assumption) ?_ | refine zY (by assumption) ?_) | (refine zJ rfl ?_) | (simp -implicitDefEqProofs only [push_cast, sevalprocAttr, eq_self, e0, e1, e3, e4, e5, hdk, yU, hr, hF.at, hd1, hE]) | (simp -implicitDefEqProofs (disch := omega) only [zU, yC, zV, zD, e0, e1, e3, e4, e5, hdk, yU, hr, hF.at, hd1, hE]) | (with_reducible refine yI ?_ ?_) | (refine zO rfl (fun bb => ?_) (fun bb => ?_) <;> (first | have bp := of_decide_eq_true bb | have bp := of_decide_eq_false bb | skip) <;> simp only [bb]) | (with_reducible refine zX (fun bb => ?_) (fun bb => ?_) <;> (first | have bp := of_decide_eq_true bb | have bp := of_decide_eq_false bb | skip)) | ((with_reducible refine And.intro ?_ ?_); omega) | fail)
      · have hd1 : decide (l[k].cy < 0) = false := decide_eq_false h1
        by_cases h2 : 1048576 < l[k].cy
        · have hd2 : decide (1048576 < l[k].cy) = true := decide_eq_true h2
          have hE : decide (fairP l t) = false := decide_eq_false fun h => by have := h.2 _ (List.getElem_mem hlt); unfold Iss.fair at this; omega
          repeat' (first | ((try clear hf); with_reducible refine zN fun env K hE hK hf => ?_; have n : _ ∧ _ ∧ _ ∧ _ ∧ _ := ⟨hE 0, hE 1, hE 3, hE 4, hE 5⟩; simp -implicitDefEqProofs only [push_cast, reduceIte, Nat.reduceEqDiff, e0, e1, e3, e4, e5] at n; clear hE e0 e1 e3 e4 e5; obtain ⟨e0, e1, e3, e4, e5⟩ := n) | (with_reducible refine hK _ _ ?_; clear hK K) | (with_reducible first | refine zL ?_ | refine zS ?_ | refine zC ?_ | refine zH ?_ | refine zF ?_ | refine zM ?_ | refine zR ?_ | refine zE ?_ | refine zI ?_ | refine zT ?_ | refine zG ?_ | refine zB (by decide) ?_ | refine zQ ?_ | refine zP ?_ | refine zK ?_ | refine zZ ?_ | refine yB ?_ | refine zW (by assumption) ?_ | refine zY (by assumption) ?_) | (refine zJ rfl ?_) | (simp -implicitDefEqProofs only [push_cast, sevalprocAttr, eq_self, e0, e1, e3, e4, e5, hdk, yU, hr, hF.at, hd1, hd2, hE]) | (simp -implicitDefEqProofs (disch := omega) only [zU, yC, zV, zD, e0, e1, e3, e4, e5, hdk, yU, hr, hF.at, hd1, hd2, hE]) | (with_reducible refine yI ?_ ?_) | (refine zO rfl (fun bb => ?_) (fun bb => ?_) <;> (first | have bp := of_decide_eq_true bb | have bp := of_decide_eq_false bb | skip) <;> simp only [bb]) | (with_reducible refine zX (fun bb => ?_) (fun bb => ?_) <;> (first | have bp := of_decide_eq_true bb | have bp := of_decide_eq_false bb | skip)) | ((with_reducible refine And.intro ?_ ?_); omega) | fail)
        · have hd2 : decide (1048576 < l[k].cy) = false := decide_eq_false h2
          repeat' (first | ((try clear hf); with_reducible refine zN fun env K hE hK hf => ?_; have n : _ ∧ _ ∧ _ ∧ _ ∧ _ := ⟨hE 0, hE 1, hE 3, hE 4, hE 5⟩; simp -implicitDefEqProofs only [push_cast, reduceIte, Nat.reduceEqDiff, e0, e1, e3, e4, e5] at n; clear hE e0 e1 e3 e4 e5; obtain ⟨e0, e1, e3, e4, e5⟩ := n) | (with_reducible refine hK _ _ ?_; clear hK K) | (with_reducible first | refine zL ?_ | refine zS ?_ | refine zC ?_ | refine zH ?_ | refine zF ?_ | refine zM ?_ | refine zR ?_ | refine zE ?_ | refine zI ?_ | refine zT ?_ | refine zG ?_ | refine zB (by decide) ?_ | refine zQ ?_ | refine zP ?_ | refine zK ?_ | refine zZ ?_ | refine yB ?_ | refine zW (by assumption) ?_ | refine zY (by assumption) ?_) | (refine zJ rfl ?_) | (simp -implicitDefEqProofs only [push_cast, sevalprocAttr, eq_self, e0, e1, e3, e4, e5, hdk, yU, hr, hF.at, hd1, hd2]) | (simp -implicitDefEqProofs (disch := omega) only [zU, yC, zV, zD, e0, e1, e3, e4, e5, hdk, yU, hr, hF.at, hd1, hd2]) | (with_reducible refine yI ?_ ?_) | (refine zO rfl (fun bb => ?_) (fun bb => ?_) <;> (first | have bp := of_decide_eq_true bb | have bp := of_decide_eq_false bb | skip) <;> simp only [bb]) | (with_reducible refine zX (fun bb => ?_) (fun bb => ?_) <;> (first | have bp := of_decide_eq_true bb | have bp := of_decide_eq_false bb | skip)) | ((with_reducible refine And.intro ?_ ?_); omega) | fail)
          refine ⟨_, ?_, k + 1, rfl, E50_0_0.symm, E50_0_1.symm, E50_0_3.symm, by first | rfl | exact yD (by omega) | (simp -implicitDefEqProofs (disch := omega) only [zD]; first | rfl | exact yD (by omega)), ?_⟩
          · omega
          · refine ⟨by omega, fun j hj h => ?_⟩
            by_cases e : j = k
            · subst e; unfold Iss.fair; omega
            · exact hq j (by omega) h
    · have hdk : decide ((k : Int) < (l.length : Int)) = false := decide_eq_false (by omega)
      have hE : decide (fairP l t) = true := decide_eq_true ⟨htok, fun x hx => by
        obtain ⟨j, hj, rfl⟩ := List.mem_iff_getElem.1 hx
        exact hq j (by omega) hj⟩
      repeat' (first | ((try clear hf); with_reducible refine zN fun env K hE hK hf => ?_; have n : _ ∧ _ ∧ _ ∧ _ ∧ _ := ⟨hE 0, hE 1, hE 3, hE 4, hE 5⟩; simp -implicitDefEqProofs only [push_cast, reduceIte, Nat.reduceEqDiff, e0, e1, e3, e4, e5] at n; clear hE e0 e1 e3 e4 e5; obtain ⟨e0, e1, e3, e4, e5⟩ := n) | (with_reducible refine hK _ _ ?_; clear hK K) | (with_reducible first | refine zL ?_ | refine zS ?_ | refine zC ?_ | refine zH ?_ | refine zF ?_ | refine zM ?_ | refine zR ?_ | refine zE ?_ | refine zI ?_ | refine zT ?_ | refine zG ?_ | refine zB (by decide) ?_ | refine zQ ?_ | refine zP ?_ | refine zK ?_ | refine zZ ?_ | refine yB ?_ | refine zW (by assumption) ?_ | refine zY (by assumption) ?_) | (refine zJ rfl ?_) | (simp -implicitDefEqProofs only [push_cast, sevalprocAttr, eq_self, e0, e1, e3, e4, e5, hdk, yU, hE]) | (simp -implicitDefEqProofs (disch := omega) only [zU, yC, zV, zD, e0, e1, e3, e4, e5, hdk, yU, hE]) | (with_reducible refine yI ?_ ?_) | (refine zO rfl (fun bb => ?_) (fun bb => ?_) <;> (first | have bp := of_decide_eq_true bb | have bp := of_decide_eq_false bb | skip) <;> simp only [bb]) | (with_reducible refine zX (fun bb => ?_) (fun bb => ?_) <;> (first | have bp := of_decide_eq_true bb | have bp := of_decide_eq_false bb | skip)) | ((with_reducible refine And.intro ?_ ?_); omega) | fail)
  · have hd : decide (¬ tabE t = 0) = true := decide_eq_true ht
    have hE : decide (fairP l t) = false := decide_eq_false fun h => ht (tabE_ok h.1)
    repeat' (first | ((try clear hf); with_reducible refine zN fun env K hE hK hf => ?_; have n : _ ∧ _ ∧ _ ∧ _ ∧ _ := ⟨hE 0, hE 1, hE 3, hE 4, hE 5⟩; simp -implicitDefEqProofs only [push_cast, reduceIte, Nat.reduceEqDiff, e0, e1, e3, e4, e5] at n; clear hE e0 e1 e3 e4 e5; obtain ⟨e0, e1, e3, e4, e5⟩ := n) | (with_reducible refine hK _ _ ?_; clear hK K) | (with_reducible first | refine zL ?_ | refine zS ?_ | refine zC ?_ | refine zH ?_ | refine zF ?_ | refine zM ?_ | refine zR ?_ | refine zE ?_ | refine zI ?_ | refine zT ?_ | refine zG ?_ | refine zB (by decide) ?_ | refine zQ ?_ | refine zP ?_ | refine zK ?_ | refine zZ ?_ | refine yB ?_ | refine zW (by assumption) ?_ | refine zY (by assumption) ?_) | (refine zJ rfl ?_) | (simp -implicitDefEqProofs only [push_cast, sevalprocAttr, eq_self, e0, e1, e3, e4, e5, hd, hE]) | (simp -implicitDefEqProofs (disch := omega) only [zU, yC, zV, zD, e0, e1, e3, e4, e5, hd, hE]) | (with_reducible refine yI ?_ ?_) | (refine zO rfl (fun bb => ?_) (fun bb => ?_) <;> (first | have bp := of_decide_eq_true bb | have bp := of_decide_eq_false bb | skip) <;> simp only [bb]) | (with_reducible refine zX (fun bb => ?_) (fun bb => ?_) <;> (first | have bp := of_decide_eq_true bb | have bp := of_decide_eq_false bb | skip)) | ((with_reducible refine And.intro ?_ ?_); omega) | (refine yG (f69 t) ?_) | fail)
end Go.Proofs.Hx

set_option linter.unusedVariables false
set_option linter.unusedSimpArgs false
namespace Go.Proofs.Hx
open Go Go.Proofs
attribute [local irreducible] yL awp opK goV goM qM qI qK yN HV HVF HC
/-- How many operations of a class are busy in a cycle. -/
def covP (t : Tab) (c y : Int) (x : Iss) : Bool := (clsS x.o.k).2 && decide ((clsS x.o.k).1 = c ∧ x.cy ≤ y ∧ y < x.cy + t.b c.toNat)
def cov (l : List Iss) (t : Tab) (c y : Int) : Nat := (l.filter (covP t c y)).length
def busyP (l : List Iss) (t : Tab) : Prop := fairP l t ∧ ∀ c : Nat, c < 4 → ∀ y : Int, (cov l t c y : Int) ≤ t.u c
theorem cov_take {l : List Iss} {t : Tab} {k : Nat} (hk : k < l.length) (c y : Int) : cov (l.take (k + 1)) t c y = cov (l.take k) t c y + (if covP t c y l[k] = true then 1 else 0) := by
  unfold cov
  rw [List.take_succ_eq_append_getElem hk, List.filter_append, List.length_append]
  by_cases h : covP t c y l[k] = true
  · simp [h]
  · simp [h]
theorem cov_le {l : List Iss} {t : Tab} (k : Nat) (c y : Int) : cov (l.take k) t c y ≤ cov l t c y := by
  unfold cov
  exact List.Sublist.length_le (List.Sublist.filter _ (List.take_sublist k l))
theorem cov_len {l : List Iss} {t : Tab} (c y : Int) : cov l t c y ≤ l.length := by unfold cov; exact List.length_filter_le _ _
open Classical in
noncomputable def busyB (l : List Iss) (t : Tab) : Bool := decide (busyP l t)
open Classical in
theorem busyB_t {l : List Iss} {t : Tab} (h : busyP l t) : busyB l t = true := by unfold busyB; exact decide_eq_true h
open Classical in
theorem busyB_f {l : List Iss} {t : Tab} (h : ¬ busyP l t) : busyB l t = false := by unfold busyB; exact decide_eq_false h
set_option maxHeartbeats 4000000 in
theorem f15 (l : List Iss) (t : Tab) (hl : l.length ≤ 100000) : HV Try.prog 15 [.row (l.map isC), .agg (tabC t)] (bl (busyB l t)) := by
  refine yR yS cf15 (by simp) (by simp [imms, imm, isrows_imms, tab_imms]) ?_ rfl
  unfold ac15 re15
  refine yF fun env hE => ?_; have e0 := hE 0; have e1 := hE 1; have e3 := hE 3; have e4 := hE 4; have e5 := hE 5; have e7 := hE 7; have e8 := hE 8; have e9 := hE 9; have e10 := hE 10; have e11 := hE 11; have e17 := hE 17; have e18 := hE 18; have e19 := hE 19; have e20 := hE 20; have e35 := hE 35; have e36 := hE 36; have e37 := hE 37; simp -implicitDefEqProofs only [push_cast] at e0 e1 e3 e4 e5 e7 e8 e9 e10 e11 e17 e18 e19 e20 e35 e36 e37; clear hE
  by_cases hfa : fairP l t
  · have hd : decide (fairP l t) = true := decide_eq_true hfa
    repeat' (first | ((try clear hf); with_reducible refine zN fun env K hE hK hf => ?_; have n : _ ∧ _ ∧ _ ∧ _ ∧ _ ∧ _ ∧ _ ∧ _ ∧ _ ∧ _ ∧ _ ∧ _ ∧ _ ∧ _ ∧ _ ∧ _ ∧ _ := ⟨hE 0, hE 1, hE 3, hE 4, hE 5, hE 7, hE 8, hE 9, hE 10, hE 11, hE 17, hE 18, hE 19, hE 20, hE 35, hE 36, hE 37⟩; simp -implicitDefEqProofs only [push_cast, reduceIte, Nat.reduceEqDiff, e0, e1, e3, e4, e5, e7, e8, e9, e10, e11, e17, e18, e19, e20, e35, e36, e37] at n; clear hE e0 e1 e3 e4 e5 e7 e8 e9 e10 e11 e17 e18 e19 e20 e35 e36 e37; obtain ⟨e0, e1, e3, e4, e5, e7, e8, e9, e10, e11, e17, e18, e19, e20, e35, e36, e37⟩ := n) | (with_reducible refine hK _ _ ?_; clear hK K) | (with_reducible first | refine zL ?_ | refine zS ?_ | refine zC ?_ | refine zH ?_ | refine zF ?_ | refine zM ?_ | refine zR ?_ | refine zE ?_ | refine zI ?_ | refine zT ?_ | refine zG ?_ | refine zB (by decide) ?_ | refine zQ ?_ | refine zP ?_ | refine zK ?_ | refine zZ ?_ | refine yB ?_ | refine zW (by assumption) ?_ | refine zY (by assumption) ?_) | (refine zJ rfl ?_) | (simp -implicitDefEqProofs only [push_cast, sevalprocAttr, eq_self, e0, e1, e3, e4, e5, e7, e8, e9, e10, e11, e17, e18, e19, e20, e35, e36, e37, hd, yU]) | (simp -implicitDefEqProofs (disch := omega) only [zU, yC, zV, zD, e0, e1, e3, e4, e5, e7, e8, e9, e10, e11, e17, e18, e19, e20, e35, e36, e37, hd, yU]) | (with_reducible refine yI ?_ ?_) | (refine zO rfl (fun bb => ?_) (fun bb => ?_) <;> (first | have bp := of_decide_eq_true bb | have bp := of_decide_eq_false bb | skip) <;> simp only [bb]) | (with_reducible refine zX (fun bb => ?_) (fun bb => ?_) <;> (first | have bp := of_decide_eq_true bb | have bp := of_decide_eq_false bb | skip)) | ((with_reducible refine And.intro ?_ ?_); omega) | (refine yG (f49 l t (by omega)) ?_) | fail)
    refine yF fun env hE => ?_; have n : _ ∧ _ ∧ _ ∧ _ ∧ _ ∧ _ ∧ _ ∧ _ ∧ _ ∧ _ ∧ _ ∧ _ ∧ _ ∧ _ ∧ _ ∧ _ ∧ _ := ⟨hE 0, hE 1, hE 3, hE 4, hE 5, hE 7, hE 8, hE 9, hE 10, hE 11, hE 17, hE 18, hE 19, hE 20, hE 35, hE 36, hE 37⟩; simp -implicitDefEqProofs only [push_cast, reduceIte, Nat.reduceEqDiff, e0, e1, e3, e4, e5, e7, e8, e9, e10, e11, e17, e18, e19, e20, e35, e36, e37] at n; clear hE e0 e1 e3 e4 e5 e7 e8 e9 e10 e11 e17 e18 e19 e20 e35 e36 e37; obtain ⟨e0, e1, e3, e4, e5, e7, e8, e9, e10, e11, e17, e18, e19, e20, e35, e36, e37⟩ := n; have E15_1_0 := e0; have E15_1_1 := e1; have E15_1_3 := e3; have E15_1_5 := e5; have E15_1_17 := e17; have E15_1_18 := e18
    refine qN (fun nn σ => ∃ (i : Nat) (m : List ((Int × Int) × Int)), nn = l.length - i ∧ σ.env 0 = env 0 ∧ σ.env 1 = env 1 ∧ σ.env 3 = env 3 ∧ σ.env 5 = env 5 ∧ σ.env 17 = env 17 ∧ σ.env 18 = env 18 ∧ σ.env 19 = i64 i ∧ (i ≤ l.length ∧ σ.h.hp (2, 3) = some ⟨true, tabC t⟩ ∧ σ.h.mp (5, 16) = some (.ents (entL spotK oneV m)) ∧ (∀ c y : Int, (qR m (c, y)).getD 0 = cov (l.take i) t c y) ∧ (∀ c : Nat, c < 4 → ∀ y : Int, (cov (l.take i) t c y : Int) ≤ t.u c) ∧ 5 ≤ σ.h.ep)) _ ⟨0, [], rfl, rfl, rfl, rfl, rfl, rfl, rfl, by refine e19.trans ?_; first | rfl | exact yD (by omega) | (simp -implicitDefEqProofs (disch := omega) only [zD]; first | rfl | exact yD (by omega)), ?_⟩ ?_
    · exact ⟨by omega, by simp -implicitDefEqProofs only [push_cast, sevalprocAttr, eq_self], by simp -implicitDefEqProofs only [push_cast, sevalprocAttr, eq_self]; rfl, fun c y => by simp [qR, cov], fun c hc y => by have := hfa.1.1 c hc; unfold okC at this; simp [cov]; omega, (by first | omega | (simp -implicitDefEqProofs only [push_cast, sevalprocAttr, eq_self]; first | done | omega))⟩
    clear e0 e1 e3 e4 e5 e7 e8 e9 e10 e11 e17 e18 e19 e20 e35 e36 e37; rintro nn ⟨env, h⟩ ⟨i, m, rfl, q0, q1, q3, q5, q17, q18, e19, hI⟩; simp only at q0 q1 q3 q5 q17 q18 e19 hI; (first | have e0 := q0.trans E15_1_0 | have e0 := True.intro); (first | have e1 := q1.trans E15_1_1 | have e1 := True.intro); (first | have e3 := q3.trans E15_1_3 | have e3 := True.intro); (first | have e5 := q5.trans E15_1_5 | have e5 := True.intro); (first | have e17 := q17.trans E15_1_17 | have e17 := True.intro); (first | have e18 := q18.trans E15_1_18 | have e18 := True.intro); clear q0 q1 q3 q5 q17 q18; have e4 := True.intro; have e7 := True.intro; have e8 := True.intro; have e9 := True.intro; have e10 := True.intro; have e11 := True.intro; have e20 := True.intro; have e35 := True.intro; have e36 := True.intro; have e37 := True.intro
    obtain ⟨hi, hb3, hmp, hm, hu, hep⟩ := hI
    unfold l15_1
    (first | refine qC fun hF => ?_ | refine yZ fun hF => ?_ | refine yY fun hF => ?_)
    by_cases hlt : i < l.length
    · have hdk : decide ((i : Int) < (l.length : Int)) = true := decide_eq_true (by omega)
      have hr := isrow_at hlt .i64
      have hc := clsN_eq l[i].o
      have hc4 := clsN_lt l[i].o
      have hfx := hfa.2 _ (List.getElem_mem hlt)
      unfold Iss.fair at hfx
      have hct := fun c y => cov_take (t := t) hlt c y
      by_cases hok : (clsS l[i].o.k).2 = true
      · have hy := tab_b t hc4
        repeat' (first | ((try clear hf); with_reducible refine zN fun env K hE hK hf => ?_; have n : _ ∧ _ ∧ _ ∧ _ ∧ _ ∧ _ ∧ _ ∧ _ ∧ _ ∧ _ ∧ _ ∧ _ ∧ _ ∧ _ ∧ _ ∧ _ ∧ _ := ⟨hE 0, hE 1, hE 3, hE 4, hE 5, hE 7, hE 8, hE 9, hE 10, hE 11, hE 17, hE 18, hE 19, hE 20, hE 35, hE 36, hE 37⟩; simp -implicitDefEqProofs only [push_cast, reduceIte, Nat.reduceEqDiff, e0, e1, e3, e4, e5, e7, e8, e9, e10, e11, e17, e18, e19, e20, e35, e36, e37] at n; clear hE e0 e1 e3 e4 e5 e7 e8 e9 e10 e11 e17 e18 e19 e20 e35 e36 e37; obtain ⟨e0, e1, e3, e4, e5, e7, e8, e9, e10, e11, e17, e18, e19, e20, e35, e36, e37⟩ := n) | (with_reducible refine hK _ _ ?_; clear hK K) | (with_reducible first | refine zL ?_ | refine zS ?_ | refine zC ?_ | refine zH ?_ | refine zF ?_ | refine zM ?_ | refine zR ?_ | refine zE ?_ | refine zI ?_ | refine zT ?_ | refine zG ?_ | refine zB (by decide) ?_ | refine zQ ?_ | refine zP ?_ | refine zK ?_ | refine zZ ?_ | refine yB ?_ | refine zW (by assumption) ?_ | refine zY (by assumption) ?_) | (refine zJ rfl ?_) | (simp -implicitDefEqProofs only [push_cast, sevalprocAttr, eq_self, e0, e1, e3, e4, e5, e7, e8, e9, e10, e11, e17, e18, e19, e20, e35, e36, e37, hdk, hr, hF.at, hc, hok, hb3, hy]) | (simp -implicitDefEqProofs (disch := omega) only [zU, yC, zV, zD, e0, e1, e3, e4, e5, e7, e8, e9, e10, e11, e17, e18, e19, e20, e35, e36, e37, hdk, hr, hF.at, hc, hok, hb3, hy]) | (with_reducible refine yI ?_ ?_) | (refine zO rfl (fun bb => ?_) (fun bb => ?_) <;> (first | have bp := of_decide_eq_true bb | have bp := of_decide_eq_false bb | skip) <;> simp only [bb]) | (with_reducible refine zX (fun bb => ?_) (fun bb => ?_) <;> (first | have bp := of_decide_eq_true bb | have bp := of_decide_eq_false bb | skip)) | ((with_reducible refine And.intro ?_ ?_); omega) | (refine yG (f41 _) ?_) | fail)
        generalize hT : h.ep + 1 + 1 = Te at *
        generalize hcl : clsN l[i].o = cl at *
        have hbu := hfa.1.1 cl hc4
        unfold okC at hbu
        obtain ⟨B, hB⟩ : ∃ B : Nat, t.b cl = B := ⟨(t.b cl).toNat, by omega⟩
        have hcv : ∀ c y : Int, covP t c y l[i] = decide (c = cl ∧ l[i].cy ≤ y ∧ y < l[i].cy + B) := fun c y => by
          unfold covP
          rw [hok, hc, Bool.true_and]
          by_cases e : (cl : Int) = c
          · subst e; rw [Int.toNat_natCast, hB]
          · rw [decide_eq_false (fun h => e h.1), decide_eq_false (fun h => e h.1.symm)]
        refine yF fun env hE => ?_; have n : _ ∧ _ ∧ _ ∧ _ ∧ _ ∧ _ ∧ _ ∧ _ ∧ _ ∧ _ ∧ _ ∧ _ ∧ _ ∧ _ ∧ _ ∧ _ ∧ _ := ⟨hE 0, hE 1, hE 3, hE 4, hE 5, hE 7, hE 8, hE 9, hE 10, hE 11, hE 17, hE 18, hE 19, hE 20, hE 35, hE 36, hE 37⟩; simp -implicitDefEqProofs only [push_cast, reduceIte, Nat.reduceEqDiff, e0, e1, e3, e4, e5, e7, e8, e9, e10, e11, e17, e18, e19, e20, e35, e36, e37] at n; clear hE e0 e1 e3 e4 e5 e7 e8 e9 e10 e11 e17 e18 e19 e20 e35 e36 e37; obtain ⟨e0, e1, e3, e4, e5, e7, e8, e9, e10, e11, e17, e18, e19, e20, e35, e36, e37⟩ := n; have E15_0_0 := e0; have E15_0_1 := e1; have E15_0_3 := e3; have E15_0_5 := e5; have E15_0_7 := e7; have E15_0_8 := e8; have E15_0_9 := e9; have E15_0_17 := e17; have E15_0_18 := e18; have E15_0_19 := e19; have E15_0_20 := e20; have E15_0_35 := e35
        refine qN (fun nn σ => ∃ (k : Nat) (m2 : List ((Int × Int) × Int)), nn = B - k ∧ σ.env 0 = env 0 ∧ σ.env 1 = env 1 ∧ σ.env 3 = env 3 ∧ σ.env 5 = env 5 ∧ σ.env 7 = env 7 ∧ σ.env 8 = env 8 ∧ σ.env 9 = env 9 ∧ σ.env 17 = env 17 ∧ σ.env 18 = env 18 ∧ σ.env 19 = env 19 ∧ σ.env 20 = env 20 ∧ σ.env 35 = env 35 ∧ σ.env 36 = i64 k ∧ (k ≤ B ∧ σ.h.hp (2, 3) = some ⟨true, tabC t⟩ ∧ σ.h.hp (Te, 7) = some ⟨true, isC l[i]⟩ ∧ σ.h.mp (5, 16) = some (.ents (entL spotK oneV m2)) ∧ (∀ c y : Int, (qR m2 (c, y)).getD 0 = cov (l.take i) t c y + (if c = cl ∧ l[i].cy ≤ y ∧ y < l[i].cy + k then 1 else 0)) ∧ (∀ c : Nat, c < 4 → ∀ y : Int, (qR m2 ((c : Int), y)).getD 0 ≤ t.u c) ∧ Te ≤ σ.h.ep ∧ 5 ≤ σ.h.ep)) _ ⟨0, m, rfl, rfl, rfl, rfl, rfl, rfl, rfl, rfl, rfl, rfl, rfl, rfl, rfl, by refine e36.trans ?_; first | rfl | exact yD (by omega) | (simp -implicitDefEqProofs (disch := omega) only [zD]; first | rfl | exact yD (by omega)), ?_⟩ ?_
        · exact ⟨by omega, by simp -implicitDefEqProofs only [push_cast, sevalprocAttr, eq_self, hb3], by simp -implicitDefEqProofs only [push_cast, sevalprocAttr, eq_self], by simp -implicitDefEqProofs only [push_cast, sevalprocAttr, eq_self, hmp], fun c y => by rw [hm, if_neg (by omega)]; simp, fun c hc y => by rw [hm]; exact hu c hc y, (by first | omega | (simp -implicitDefEqProofs only [push_cast, sevalprocAttr, eq_self]; first | done | omega)), (by first | omega | (simp -implicitDefEqProofs only [push_cast, sevalprocAttr, eq_self]; first | done | omega))⟩
        clear hb3 hmp hm hu hep hF
        clear e0 e1 e3 e4 e5 e7 e8 e9 e10 e11 e17 e18 e19 e20 e35 e36 e37; rintro nn ⟨env, h⟩ ⟨k, m2, rfl, q0, q1, q3, q5, q7, q8, q9, q17, q18, q19, q20, q35, e36, hI⟩; simp only at q0 q1 q3 q5 q7 q8 q9 q17 q18 q19 q20 q35 e36 hI; (first | have e0 := q0.trans E15_0_0 | have e0 := True.intro); (first | have e1 := q1.trans E15_0_1 | have e1 := True.intro); (first | have e3 := q3.trans E15_0_3 | have e3 := True.intro); (first | have e5 := q5.trans E15_0_5 | have e5 := True.intro); (first | have e7 := q7.trans E15_0_7 | have e7 := True.intro); (first | have e8 := q8.trans E15_0_8 | have e8 := True.intro); (first | have e9 := q9.trans E15_0_9 | have e9 := True.intro); (first | have e17 := q17.trans E15_0_17 | have e17 := True.intro); (first | have e18 := q18.trans E15_0_18 | have e18 := True.intro); (first | have e19 := q19.trans E15_0_19 | have e19 := True.intro); (first | have e20 := q20.trans E15_0_20 | have e20 := True.intro); (first | have e35 := q35.trans E15_0_35 | have e35 := True.intro); clear q0 q1 q3 q5 q7 q8 q9 q17 q18 q19 q20 q35; have e4 := True.intro; have e10 := True.intro; have e11 := True.intro; have e37 := True.intro
        obtain ⟨hk, hb3, hb7, hmp, hm, hu, hep, hep5⟩ := hI
        unfold l15_0
        (first | refine qC fun hF => ?_ | refine yZ fun hF => ?_ | refine yY fun hF => ?_)
        by_cases hltk : k < B
        · have hdk2 : decide ((k : Int) < t.b cl) = true := decide_eq_true (by omega)
          have hw1 : IntKind.i64.wrap (l[i].cy + k) = l[i].cy + k := wrap64 (by omega) (by omega)
          have hv0 := hm cl (l[i].cy + k)
          rw [if_neg (by omega)] at hv0
          have hcl1 := cov_le (l := l) (t := t) i cl (l[i].cy + k)
          have hcl2 := cov_len (l := l) (t := t) cl (l[i].cy + k)
          have hw2 : IntKind.i64.wrap ((qR m2 ((cl : Int), l[i].cy + k)).getD 0 + 1) = (qR m2 ((cl : Int), l[i].cy + k)).getD 0 + 1 := wrap64 (by omega) (by omega)
          have hl2 : ∀ v : Int, (qR (putL m2 ((cl : Int), l[i].cy + k) v) ((cl : Int), l[i].cy + k)).getD 0 = v := fun v => by rw [lookL_put, if_pos rfl]; rfl
          have hxu := tab_u t hc4
          generalize hvg : (qR m2 ((cl : Int), l[i].cy + k)).getD 0 = v0 at *
          by_cases hgt : t.u cl < v0 + 1
          · have hdg : decide (t.u cl < v0 + 1) = true := decide_eq_true hgt
            have hE : busyB l t = false := busyB_f fun hb => by
              have h1 := hb.2 cl hc4 (l[i].cy + k)
              have h2 := cov_le (l := l) (t := t) (i + 1) cl (l[i].cy + k)
              have h3 := hct cl (l[i].cy + k)
              rw [if_pos (by rw [hcv]; exact decide_eq_true ⟨rfl, by omega, by omega⟩)] at h3
              omega
            repeat' (first | ((try clear hf); with_reducible refine zN fun env K hE hK hf => ?_; have n : _ ∧ _ ∧ _ ∧ _ ∧ _ ∧ _ ∧ _ ∧ _ ∧ _ ∧ _ ∧ _ ∧ _ ∧ _ ∧ _ ∧ _ ∧ _ ∧ _ := ⟨hE 0, hE 1, hE 3, hE 4, hE 5, hE 7, hE 8, hE 9, hE 10, hE 11, hE 17, hE 18, hE 19, hE 20, hE 35, hE 36, hE 37⟩; simp -implicitDefEqProofs only [push_cast, reduceIte, Nat.reduceEqDiff, e0, e1, e3, e4, e5, e7, e8, e9, e10, e11, e17, e18, e19, e20, e35, e36, e37] at n; clear hE e0 e1 e3 e4 e5 e7 e8 e9 e10 e11 e17 e18 e19 e20 e35 e36 e37; obtain ⟨e0, e1, e3, e4, e5, e7, e8, e9, e10, e11, e17, e18, e19, e20, e35, e36, e37⟩ := n) | (with_reducible refine hK _ _ ?_; clear hK K) | (with_reducible first | refine zL ?_ | refine zS ?_ | refine zC ?_ | refine zH ?_ | refine zF ?_ | refine zM ?_ | refine zR ?_ | refine zE ?_ | refine zI ?_ | refine zT ?_ | refine zG ?_ | refine zB (by decide) ?_ | refine zQ ?_ | refine zP ?_ | refine zK ?_ | refine zZ ?_ | refine yB ?_ | refine zW (by assumption) ?_ | refine zY (by assumption) ?_) | (refine zJ rfl ?_) | (simp -implicitDefEqProofs only [push_cast, sevalprocAttr, eq_self, e0, e1, e3, e4, e5, e7, e8, e9, e10, e11, e17, e18, e19, e20, e35, e36, e37, hdk2, hF.at, hb3, hb7, hmp, hw1, spot_look, spot_put, hvg, hw2, hl2, hxu, hdg, hE]) | (simp -implicitDefEqProofs (disch := omega) only [zU, yC, zV, zD, e0, e1, e3, e4, e5, e7, e8, e9, e10, e11, e17, e18, e19, e20, e35, e36, e37, hdk2, hF.at, hb3, hb7, hmp, hw1, spot_look, spot_put, hvg, hw2, hl2, hxu, hdg, hE]) | (with_reducible refine yI ?_ ?_) | (refine zO rfl (fun bb => ?_) (fun bb => ?_) <;> (first | have bp := of_decide_eq_true bb | have bp := of_decide_eq_false bb | skip) <;> simp only [bb]) | (with_reducible refine zX (fun bb => ?_) (fun bb => ?_) <;> (first | have bp := of_decide_eq_true bb | have bp := of_decide_eq_false bb | skip)) | ((with_reducible refine And.intro ?_ ?_); omega) | fail)
          · have hdg : decide (t.u cl < v0 + 1) = false := decide_eq_false hgt
            repeat' (first | ((try clear hf); with_reducible refine zN fun env K hE hK hf => ?_; have n : _ ∧ _ ∧ _ ∧ _ ∧ _ ∧ _ ∧ _ ∧ _ ∧ _ ∧ _ ∧ _ ∧ _ ∧ _ ∧ _ ∧ _ ∧ _ ∧ _ := ⟨hE 0, hE 1, hE 3, hE 4, hE 5, hE 7, hE 8, hE 9, hE 10, hE 11, hE 17, hE 18, hE 19, hE 20, hE 35, hE 36, hE 37⟩; simp -implicitDefEqProofs only [push_cast, reduceIte, Nat.reduceEqDiff, e0, e1, e3, e4, e5, e7, e8, e9, e10, e11, e17, e18, e19, e20, e35, e36, e37] at n; clear hE e0 e1 e3 e4 e5 e7 e8 e9 e10 e11 e17 e18 e19 e20 e35 e36 e37; obtain ⟨e0, e1, e3, e4, e5, e7, e8, e9, e10, e11, e17, e18, e19, e20, e35, e36, e37⟩ := n) | (with_reducible refine hK _ _ ?_; clear hK K) | (with_reducible first | refine zL ?_ | refine zS ?_ | refine zC ?_ | refine zH ?_ | refine zF ?_ | refine zM ?_ | refine zR ?_ | refine zE ?_ | refine zI ?_ | refine zT ?_ | refine zG ?_ | refine zB (by decide) ?_ | refine zQ ?_ | refine zP ?_ | refine zK ?_ | refine zZ ?_ | refine yB ?_ | refine zW (by assumption) ?_ | refine zY (by assumption) ?_) | (refine zJ rfl ?_) | (simp -implicitDefEqProofs only [push_cast, sevalprocAttr, eq_self, e0, e1, e3, e4, e5, e7, e8, e9, e10, e11, e17, e18, e19, e20, e35, e36, e37, hdk2, hF.at, hb3, hb7, hmp, hw1, spot_look, spot_put, hvg, hw2, hl2, hxu, hdg]) | (simp -implicitDefEqProofs (disch := omega) only [zU, yC, zV, zD, e0, e1, e3, e4, e5, e7, e8, e9, e10, e11, e17, e18, e19, e20, e35, e36, e37, hdk2, hF.at, hb3, hb7, hmp, hw1, spot_look, spot_put, hvg, hw2, hl2, hxu, hdg]) | (with_reducible refine yI ?_ ?_) | (refine zO rfl (fun bb => ?_) (fun bb => ?_) <;> (first | have bp := of_decide_eq_true bb | have bp := of_decide_eq_false bb | skip) <;> simp only [bb]) | (with_reducible refine zX (fun bb => ?_) (fun bb => ?_) <;> (first | have bp := of_decide_eq_true bb | have bp := of_decide_eq_false bb | skip)) | ((with_reducible refine And.intro ?_ ?_); omega) | fail)
            refine ⟨_, ?_, k + 1, putL m2 ((cl : Int), l[i].cy + k) (v0 + 1), rfl, E15_0_0.symm, E15_0_1.symm, E15_0_3.symm, E15_0_5.symm, E15_0_7.symm, E15_0_8.symm, E15_0_9.symm, E15_0_17.symm, E15_0_18.symm, E15_0_19.symm, E15_0_20.symm, E15_0_35.symm, by first | rfl | exact yD (by omega) | (simp -implicitDefEqProofs (disch := omega) only [zD]; first | rfl | exact yD (by omega)), ?_⟩
            · omega
            · refine ⟨by omega, rfl, fun c y => ?_, fun c hc y => ?_, by omega⟩
              · rw [lookL_put]
                by_cases e : (c, y) = ((cl : Int), l[i].cy + (k : Int))
                · rw [if_pos e]
                  simp only [Prod.mk.injEq] at e
                  obtain ⟨rfl, rfl⟩ := e
                  rw [if_pos ⟨rfl, by omega, by omega⟩]
                  simp only [Option.getD_some]; omega
                · rw [if_neg e, hm]
                  congr 1
                  simp only [Prod.mk.injEq, not_and] at e
                  by_cases hcc : c = cl
                  · have := e hcc
                    by_cases hh : l[i].cy ≤ y ∧ y < l[i].cy + (k : Int)
                    · rw [if_pos ⟨hcc, hh⟩, if_pos ⟨hcc, by omega, by omega⟩]
                    · rw [if_neg (fun h => hh h.2), if_neg (fun h => by omega)]
                  · rw [if_neg (fun h => hcc h.1), if_neg (fun h => hcc h.1)]
              · rw [lookL_put]
                by_cases e : ((c : Int), y) = ((cl : Int), l[i].cy + (k : Int))
                · rw [if_pos e]
                  simp only [Prod.mk.injEq] at e
                  have : c = cl := by omega
                  subst this
                  simp only [Option.getD_some]; omega
                · rw [if_neg e]; exact hu c hc y
        · have hdk2 : decide ((k : Int) < t.b cl) = false := decide_eq_false (by omega)
          have hkB : k = B := by omega
          have hmn : ∀ c y : Int, (qR m2 (c, y)).getD 0 = cov (l.take (i + 1)) t c y := fun c y => by
            rw [hm, hct, hcv, hkB, Int.natCast_add]
            congr 1
            by_cases hh : c = cl ∧ l[i].cy ≤ y ∧ y < l[i].cy + (B : Int)
            · rw [if_pos hh, if_pos (decide_eq_true hh)]; rfl
            · rw [if_neg hh, if_neg (by rw [decide_eq_false hh]; simp)]; rfl
          repeat' (first | ((try clear hf); with_reducible refine zN fun env K hE hK hf => ?_; have n : _ ∧ _ ∧ _ ∧ _ ∧ _ ∧ _ ∧ _ ∧ _ ∧ _ ∧ _ ∧ _ ∧ _ ∧ _ ∧ _ ∧ _ ∧ _ ∧ _ := ⟨hE 0, hE 1, hE 3, hE 4, hE 5, hE 7, hE 8, hE 9, hE 10, hE 11, hE 17, hE 18, hE 19, hE 20, hE 35, hE 36, hE 37⟩; simp -implicitDefEqProofs only [push_cast, reduceIte, Nat.reduceEqDiff, e0, e1, e3, e4, e5, e7, e8, e9, e10, e11, e17, e18, e19, e20, e35, e36, e37] at n; clear hE e0 e1 e3 e4 e5 e7 e8 e9 e10 e11 e17 e18 e19 e20 e35 e36 e37; obtain ⟨e0, e1, e3, e4, e5, e7, e8, e9, e10, e11, e17, e18, e19, e20, e35, e36, e37⟩ := n) | (with_reducible refine hK _ _ ?_; clear hK K) | (with_reducible first | refine zL ?_ | refine zS ?_ | refine zC ?_ | refine zH ?_ | refine zF ?_ | refine zM ?_ | refine zR ?_ | refine zE ?_ | refine zI ?_ | refine zT ?_ | refine zG ?_ | refine zB (by decide) ?_ | refine zQ ?_ | refine zP ?_ | refine zK ?_ | refine zZ ?_ | refine yB ?_ | refine zW (by assumption) ?_ | refine zY (by assumption) ?_) | (refine zJ rfl ?_) | (simp -implicitDefEqProofs only [push_cast, sevalprocAttr, eq_self, e0, e1, e3, e4, e5, e7, e8, e9, e10, e11, e17, e18, e19, e20, e35, e36, e37, hdk2]) | (simp -implicitDefEqProofs (disch := omega) only [zU, yC, zV, zD, e0, e1, e3, e4, e5, e7, e8, e9, e10, e11, e17, e18, e19, e20, e35, e36, e37, hdk2]) | (with_reducible refine yI ?_ ?_) | (refine zO rfl (fun bb => ?_) (fun bb => ?_) <;> (first | have bp := of_decide_eq_true bb | have bp := of_decide_eq_false bb | skip) <;> simp only [bb]) | (with_reducible refine zX (fun bb => ?_) (fun bb => ?_) <;> (first | have bp := of_decide_eq_true bb | have bp := of_decide_eq_false bb | skip)) | ((with_reducible refine And.intro ?_ ?_); omega) | fail)
          refine ⟨_, ?_, i + 1, m2, rfl, E15_1_0.symm, E15_1_1.symm, E15_1_3.symm, E15_1_5.symm, E15_1_17.symm, E15_1_18.symm, by first | rfl | exact yD (by omega) | (simp -implicitDefEqProofs (disch := omega) only [zD]; first | rfl | exact yD (by omega)), ?_⟩
          · omega
          · exact ⟨by omega, hb3, hmp, hmn, fun c hc y => by rw [← hmn]; exact hu c hc y, by omega⟩
      · have hok' : (clsS l[i].o.k).2 = false := by simpa using hok
        repeat' (first | ((try clear hf); with_reducible refine zN fun env K hE hK hf => ?_; have n : _ ∧ _ ∧ _ ∧ _ ∧ _ ∧ _ ∧ _ ∧ _ ∧ _ ∧ _ ∧ _ ∧ _ ∧ _ ∧ _ ∧ _ ∧ _ ∧ _ := ⟨hE 0, hE 1, hE 3, hE 4, hE 5, hE 7, hE 8, hE 9, hE 10, hE 11, hE 17, hE 18, hE 19, hE 20, hE 35, hE 36, hE 37⟩; simp -implicitDefEqProofs only [push_cast, reduceIte, Nat.reduceEqDiff, e0, e1, e3, e4, e5, e7, e8, e9, e10, e11, e17, e18, e19, e20, e35, e36, e37] at n; clear hE e0 e1 e3 e4 e5 e7 e8 e9 e10 e11 e17 e18 e19 e20 e35 e36 e37; obtain ⟨e0, e1, e3, e4, e5, e7, e8, e9, e10, e11, e17, e18, e19, e20, e35, e36, e37⟩ := n) | (with_reducible refine hK _ _ ?_; clear hK K) | (with_reducible first | refine zL ?_ | refine zS ?_ | refine zC ?_ | refine zH ?_ | refine zF ?_ | refine zM ?_ | refine zR ?_ | refine zE ?_ | refine zI ?_ | refine zT ?_ | refine zG ?_ | refine zB (by decide) ?_ | refine zQ ?_ | refine zP ?_ | refine zK ?_ | refine zZ ?_ | refine yB ?_ | refine zW (by assumption) ?_ | refine zY (by assumption) ?_) | (refine zJ rfl ?_) | (simp -implicitDefEqProofs only [push_cast, sevalprocAttr, eq_self, e0, e1, e3, e4, e5, e7, e8, e9, e10, e11, e17, e18, e19, e20, e35, e36, e37, hdk, hr, hF.at, hc, hok']) | (simp -implicitDefEqProofs (disch := omega) only [zU, yC, zV, zD, e0, e1, e3, e4, e5, e7, e8, e9, e10, e11, e17, e18, e19, e20, e35, e36, e37, hdk, hr, hF.at, hc, hok']) | (with_reducible refine yI ?_ ?_) | (refine zO rfl (fun bb => ?_) (fun bb => ?_) <;> (first | have bp := of_decide_eq_true bb | have bp := of_decide_eq_false bb | skip) <;> simp only [bb]) | (with_reducible refine zX (fun bb => ?_) (fun bb => ?_) <;> (first | have bp := of_decide_eq_true bb | have bp := of_decide_eq_false bb | skip)) | ((with_reducible refine And.intro ?_ ?_); omega) | (refine yG (f41 _) ?_) | fail)
        have h0 : ∀ c y, cov (l.take (i + 1)) t c y = cov (l.take i) t c y := fun c y => by rw [hct, if_neg (by unfold covP; rw [hok']; simp)]; rfl
        refine ⟨_, ?_, i + 1, m, rfl, E15_1_0.symm, E15_1_1.symm, E15_1_3.symm, E15_1_5.symm, E15_1_17.symm, E15_1_18.symm, by first | rfl | exact yD (by omega) | (simp -implicitDefEqProofs (disch := omega) only [zD]; first | rfl | exact yD (by omega)), ?_⟩
        · omega
        · simp only [h0]
          exact ⟨by omega, hb3, hmp, hm, hu⟩
    · have hdk : decide ((i : Int) < (l.length : Int)) = false := decide_eq_false (by omega)
      have hie : i = l.length := by omega
      rw [hie, List.take_length] at hu
      have hE : busyB l t = true := busyB_t ⟨hfa, hu⟩
      repeat' (first | ((try clear hf); with_reducible refine zN fun env K hE hK hf => ?_; have n : _ ∧ _ ∧ _ ∧ _ ∧ _ ∧ _ ∧ _ ∧ _ ∧ _ ∧ _ ∧ _ ∧ _ ∧ _ ∧ _ ∧ _ ∧ _ ∧ _ := ⟨hE 0, hE 1, hE 3, hE 4, hE 5, hE 7, hE 8, hE 9, hE 10, hE 11, hE 17, hE 18, hE 19, hE 20, hE 35, hE 36, hE 37⟩; simp -implicitDefEqProofs only [push_cast, reduceIte, Nat.reduceEqDiff, e0, e1, e3, e4, e5, e7, e8, e9, e10, e11, e17, e18, e19, e20, e35, e36, e37] at n; clear hE e0 e1 e3 e4 e5 e7 e8 e9 e10 e11 e17 e18 e19 e20 e35 e36 e37; obtain ⟨e0, e1, e3, e4, e5, e7, e8, e9, e10, e11, e17, e18, e19, e20, e35, e36, e37⟩ := n) | (with_reducible refine hK _ _ ?_; clear hK K) | (with_reducible first | refine zL ?_ | refine zS ?_ | refine zC ?_ | refine zH ?_ | refine zF ?_ | refine zM ?_ | refine zR ?_ | refine zE ?_ | refine zI ?_ | refine zT ?_ | refine zG ?_ | refine zB (by decide) ?_ | refine zQ ?_ | refine zP ?_ | refine zK ?_ | refine zZ ?_ | refine yB ?_ | refine zW (by assumption) ?_ | refine zY (by assumption) ?_) | (refine zJ rfl ?_) | (simp -implicitDefEqProofs only [push_cast, sevalprocAttr, eq_self, e0, e1, e3, e4, e5, e7, e8, e9, e10, e11, e17, e18, e19, e20, e35, e36, e37, hdk, hE]) | (simp -implicitDefEqProofs (disch := omega) only [zU, yC, zV, zD, e0, e1, e3, e4, e5, e7, e8, e9, e10, e11, e17, e18, e19, e20, e35, e36, e37, hdk, hE]) | (with_reducible refine yI ?_ ?_) | (refine zO rfl (fun bb => ?_) (fun bb => ?_) <;> (first | have bp := of_decide_eq_true bb | have bp := of_decide_eq_false bb | skip) <;> simp only [bb]) | (with_reducible refine zX (fun bb => ?_) (fun bb => ?_) <;> (first | have bp := of_decide_eq_true bb | have bp := of_decide_eq_false bb | skip)) | ((with_reducible refine And.intro ?_ ?_); omega) | fail)
  · have hd : decide (fairP l t) = false := decide_eq_false hfa
    have hE : busyB l t = false := busyB_f fun h => hfa h.1
    repeat' (first | ((try clear hf); with_reducible refine zN fun env K hE hK hf => ?_; have n : _ ∧ _ ∧ _ ∧ _ ∧ _ ∧ _ ∧ _ ∧ _ ∧ _ ∧ _ ∧ _ ∧ _ ∧ _ ∧ _ ∧ _ ∧ _ ∧ _ := ⟨hE 0, hE 1, hE 3, hE 4, hE 5, hE 7, hE 8, hE 9, hE 10, hE 11, hE 17, hE 18, hE 19, hE 20, hE 35, hE 36, hE 37⟩; simp -implicitDefEqProofs only [push_cast, reduceIte, Nat.reduceEqDiff, e0, e1, e3, e4, e5, e7, e8, e9, e10, e11, e17, e18, e19, e20, e35, e36, e37] at n; clear hE e0 e1 e3 e4 e5 e7 e8 e9 e10 e11 e17 e18 e19 e20 e35 e36 e37; obtain ⟨e0, e1, e3, e4, e5, e7, e8, e9, e10, e11, e17, e18, e19, e20, e35, e36, e37⟩ := n) | (with_reducible refine hK _ _ ?_; clear hK K) | (with_reducible first | refine zL ?_ | refine zS ?_ | refine zC ?_ | refine zH ?_ | refine zF ?_ | refine zM ?_ | refine zR ?_ | refine zE ?_ | refine zI ?_ | refine zT ?_ | refine zG ?_ | refine zB (by decide) ?_ | refine zQ ?_ | refine zP ?_ | refine zK ?_ | refine zZ ?_ | refine yB ?_ | refine zW (by assumption) ?_ | refine zY (by assumption) ?_) | (refine zJ rfl ?_) | (simp -implicitDefEqProofs only [push_cast, sevalprocAttr, eq_self, e0, e1, e3, e4, e5, e7, e8, e9, e10, e11, e17, e18, e19, e20, e35, e36, e37, hd, hE]) | (simp -implicitDefEqProofs (disch := omega) only [zU, yC, zV, zD, e0, e1, e3, e4, e5, e7, e8, e9, e10, e11, e17, e18, e19, e20, e35, e36, e37, hd, hE]) | (with_reducible refine yI ?_ ?_) | (refine zO rfl (fun bb => ?_) (fun bb => ?_) <;> (first | have bp := of_decide_eq_true bb | have bp := of_decide_eq_false bb | skip) <;> simp only [bb]) | (with_reducible refine zX (fun bb => ?_) (fun bb => ?_) <;> (first | have bp := of_decide_eq_true bb | have bp := of_decide_eq_false bb | skip)) | ((with_reducible refine And.intro ?_ ?_); omega) | (refine yG (f49 l t (by omega)) ?_) | fail)
end Go.Proofs.Hx
