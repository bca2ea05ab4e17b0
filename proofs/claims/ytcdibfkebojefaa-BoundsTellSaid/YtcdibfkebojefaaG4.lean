import Derived.Test.YtcdibfkebojefaaCodeA
import Derived.Test.YtcdibfkebojefaaG2
set_option linter.unusedVariables false
set_option linter.unusedSimpArgs false
namespace Go.Proofs.Hx
open Go Go.Proofs
attribute [local irreducible] yM awp opK goV goM yV yZ qF yQ HV HVF HC
theorem f76 (x lo hi : Int) : HV Try.prog 76 [.lit (.int .i64 x), .lit (.int .i64 lo), .lit (.int .i64 hi)] (.lit (.bool (decide (lo ≤ x) && decide (x ≤ hi)))) := by
  refine yJ yL cf76 (by simp) rfl ?_ rfl
  unfold ac76 re76
  refine yF fun env hE => ?_; have e0 := hE 0; have e1 := hE 1; have e2 := hE 2; have e6 := hE 6; simp -implicitDefEqProofs only [push_cast] at e0 e1 e2 e6; clear hE
  repeat' (first | ((try clear hf); with_reducible refine zM fun env K hE hK hf => ?_; have n : _ ∧ _ ∧ _ ∧ _ := ⟨hE 0, hE 1, hE 2, hE 6⟩; simp -implicitDefEqProofs only [push_cast, reduceIte, Nat.reduceEqDiff, e0, e1, e2, e6] at n; clear hE e0 e1 e2 e6; obtain ⟨e0, e1, e2, e6⟩ := n) | (with_reducible refine hK _ _ ?_; clear hK K) | (with_reducible first | refine zJ ?_ | refine zU ?_ | refine zB ?_ | refine zG ?_ | refine zE ?_ | refine zL ?_ | refine zT ?_ | refine zD ?_ | refine zH ?_ | refine zV ?_ | refine zF ?_ | refine zA (by decide) ?_ | refine zP ?_ | refine zO ?_ | refine zK ?_ | refine yB ?_ | refine yC ?_ | refine zW (by assumption) ?_ | refine zY (by assumption) ?_) | (refine zI rfl ?_) | (simp -implicitDefEqProofs only [push_cast, sevalprocAttr, eq_self, e0, e1, e2, e6]) | (simp -implicitDefEqProofs (disch := omega) only [zR, zZ, zS, zQ, e0, e1, e2, e6]) | (with_reducible refine yE ?_ ?_) | (refine zN rfl (fun bb => ?_) (fun bb => ?_) <;> simp only [bb]) | (with_reducible refine zX (fun bb => ?_) (fun bb => ?_)) | ((with_reducible refine And.intro ?_ ?_); omega) | fail)
  all_goals simp [bb]
abbrev i64 (n : Int) : AV := .lit (.int .i64 n)
structure Tab where
  u : Nat → Int
  l : Nat → Int
  b : Nat → Int
  d : Int
def tabC (t : Tab) : List AV := [i64 (t.u 0), i64 (t.u 1), i64 (t.u 2), i64 (t.u 3), i64 (t.l 0), i64 (t.l 1), i64 (t.l 2), i64 (t.l 3), i64 (t.b 0), i64 (t.b 1), i64 (t.b 2), i64 (t.b 3), i64 t.d]
def okC (t : Tab) (c : Nat) : Prop := 0 ≤ t.u c ∧ t.u c ≤ 8 ∧ 1 ≤ t.l c ∧ t.l c ≤ 8 ∧ 1 ≤ t.b c ∧ t.b c ≤ 4
instance (t : Tab) (c : Nat) : Decidable (okC t c) := by unfold okC; infer_instance
def qM (t : Tab) : Prop := (∀ c < 4, okC t c) ∧ 0 ≤ t.d ∧ t.d ≤ 4
instance (t : Tab) : Decidable (qM t) := by unfold qM; infer_instance
def tabE (t : Tab) : Int := if qM t then 0 else 20
theorem tab_u (t : Tab) {c : Nat} (hc : c < 4) : (tabC t)[c]? = some (i64 (t.u c)) := by
  match c, hc with
  | 0, _ | 1, _ | 2, _ | 3, _ => rfl
theorem tab_l (t : Tab) {c : Nat} (hc : c < 4) : (tabC t)[4 + c]? = some (i64 (t.l c)) := by
  match c, hc with
  | 0, _ | 1, _ | 2, _ | 3, _ => rfl
theorem tab_b (t : Tab) {c : Nat} (hc : c < 4) : (tabC t)[8 + c]? = some (i64 (t.b c)) := by
  match c, hc with
  | 0, _ | 1, _ | 2, _ | 3, _ => rfl
theorem tab_d (t : Tab) : (tabC t)[12]? = some (i64 t.d) := rfl
theorem tab_len (t : Tab) : (tabC t).length = 13 := rfl
theorem tab_take (t : Tab) : (tabC t).take 13 = tabC t := rfl
theorem tab_one (t : Tab) : (tabC t).all one = true := rfl
theorem tab_imms (t : Tab) : imms (tabC t) = true := rfl
attribute [push_cast] tab_len tab_take tab_one tab_imms
theorem tabE_bad {t : Tab} (h : ¬ qM t) : tabE t = 20 := by simp [tabE, h]
theorem tabE_ok {t : Tab} (h : qM t) : tabE t = 0 := by simp [tabE, h]

def I42 (t : Tab) (n : Nat) (σ : St) : Prop := ∃ c : Nat, c ≤ 4 ∧ n = 4 - c ∧ σ.env 5 = i64 c ∧ σ.env 1 = .ptr (2, 1) 0 ∧ σ.env 3 = .fn 76 [] ∧ σ.h.hp (2, 1) = some ⟨true, tabC t⟩ ∧ ∀ j < c, okC t j
theorem f42 (t : Tab) : HV Try.prog 42 [.agg (tabC t)] (i64 (tabE t)) := by
  refine yJ yL cf42 (by simp) rfl ?_ rfl
  unfold ac42 re42
  refine yF fun env hE => ?_; have e0 := hE 0; have e1 := hE 1; have e2 := hE 2; have e3 := hE 3; have e4 := hE 4; have e5 := hE 5; have e6 := hE 6; simp -implicitDefEqProofs only [push_cast] at e0 e1 e2 e3 e4 e5 e6; clear hE
  repeat' (first | ((try clear hf); with_reducible refine zM fun env K hE hK hf => ?_; have n : _ ∧ _ ∧ _ ∧ _ ∧ _ ∧ _ ∧ _ := ⟨hE 0, hE 1, hE 2, hE 3, hE 4, hE 5, hE 6⟩; simp -implicitDefEqProofs only [push_cast, reduceIte, Nat.reduceEqDiff, e0, e1, e2, e3, e4, e5, e6] at n; clear hE e0 e1 e2 e3 e4 e5 e6; obtain ⟨e0, e1, e2, e3, e4, e5, e6⟩ := n) | (with_reducible refine hK _ _ ?_; clear hK K) | (with_reducible first | refine zJ ?_ | refine zU ?_ | refine zB ?_ | refine zG ?_ | refine zE ?_ | refine zL ?_ | refine zT ?_ | refine zD ?_ | refine zH ?_ | refine zV ?_ | refine zF ?_ | refine zA (by decide) ?_ | refine zP ?_ | refine zO ?_ | refine zK ?_ | refine yB ?_ | refine yC ?_ | refine zW (by assumption) ?_ | refine zY (by assumption) ?_) | (refine zI rfl ?_) | (simp -implicitDefEqProofs only [push_cast, sevalprocAttr, eq_self, e0, e1, e2, e3, e4, e5, e6]) | (simp -implicitDefEqProofs (disch := omega) only [zR, zZ, zS, zQ, e0, e1, e2, e3, e4, e5, e6]) | (with_reducible refine yE ?_ ?_) | (refine zN rfl (fun bb => ?_) (fun bb => ?_) <;> simp only [bb]) | (with_reducible refine zX (fun bb => ?_) (fun bb => ?_)) | ((with_reducible refine And.intro ?_ ?_); omega) | fail)
  refine yN (I42 t) 4 ⟨0, by omega, rfl, by simp -implicitDefEqProofs only [push_cast, sevalprocAttr, eq_self], by simp -implicitDefEqProofs only [push_cast, sevalprocAttr, eq_self, e1], by simp -implicitDefEqProofs only [push_cast, sevalprocAttr, eq_self, e3], by simp -implicitDefEqProofs only [push_cast, sevalprocAttr, eq_self], by omega⟩ ?_
  rintro n ⟨env, h⟩ ⟨c, hc4, rfl, e5, e1, e3, hb, hall⟩
  simp only at e5 e1 e3 hb
  have e0 : True := trivial; have e2 : True := trivial; have e4 : True := trivial; have e6 : True := trivial
  unfold l42_0
  by_cases hc : c < 4
  · have hx := tab_u t hc
    have hy := tab_l t hc
    have hz := tab_b t hc
    have hlt : decide ((c : Int) < 4) = true := by simp; omega
    repeat' (first | ((try clear hf); with_reducible refine zM fun env K hE hK hf => ?_; have n : _ ∧ _ ∧ _ ∧ _ ∧ _ ∧ _ ∧ _ := ⟨hE 0, hE 1, hE 2, hE 3, hE 4, hE 5, hE 6⟩; simp -implicitDefEqProofs only [push_cast, reduceIte, Nat.reduceEqDiff, e0, e1, e2, e3, e4, e5, e6] at n; clear hE e0 e1 e2 e3 e4 e5 e6; obtain ⟨e0, e1, e2, e3, e4, e5, e6⟩ := n) | (with_reducible refine hK _ _ ?_; clear hK K) | (with_reducible first | refine zJ ?_ | refine zU ?_ | refine zB ?_ | refine zG ?_ | refine zE ?_ | refine zL ?_ | refine zT ?_ | refine zD ?_ | refine zH ?_ | refine zV ?_ | refine zF ?_ | refine zA (by decide) ?_ | refine zP ?_ | refine zO ?_ | refine zK ?_ | refine yB ?_ | refine yC ?_ | refine zW (by assumption) ?_ | refine zY (by assumption) ?_) | (refine zI rfl ?_) | (simp -implicitDefEqProofs only [push_cast, sevalprocAttr, eq_self, e0, e1, e2, e3, e4, e5, e6, hlt, hb, hx, hy, hz]) | (simp -implicitDefEqProofs (disch := omega) only [zR, zZ, zS, zQ, e0, e1, e2, e3, e4, e5, e6, hlt, hb, hx, hy, hz]) | (with_reducible refine yE ?_ ?_) | (refine zN rfl (fun bb => ?_) (fun bb => ?_) <;> simp only [bb]) | (with_reducible refine zX (fun bb => ?_) (fun bb => ?_)) | ((with_reducible refine And.intro ?_ ?_); omega) | (refine yD (f76 _ _ _) ?_) | fail)
    all_goals first
      | (rw [tabE_bad]; intro h; have := h.1 c hc; simp [okC] at *; omega)
      | skip
    refine ⟨4 - (c + 1), by omega, c + 1, by omega, rfl, ?_, ?_, ?_, ?_, ?_⟩
    · simp -implicitDefEqProofs only [push_cast, sevalprocAttr, eq_self]
    · simp -implicitDefEqProofs only [push_cast, sevalprocAttr, eq_self, e1]
    · simp -implicitDefEqProofs only [push_cast, sevalprocAttr, eq_self, e3]
    · simp -implicitDefEqProofs only [push_cast, sevalprocAttr, eq_self, hb]
    · intro j hj
      by_cases e : j < c
      · exact hall j e
      · obtain rfl : j = c := by omega
        simp [okC] at *; omega
  · have hlt : decide ((c : Int) < 4) = false := by simp; omega
    repeat' (first | ((try clear hf); with_reducible refine zM fun env K hE hK hf => ?_; have n : _ ∧ _ ∧ _ ∧ _ ∧ _ ∧ _ ∧ _ := ⟨hE 0, hE 1, hE 2, hE 3, hE 4, hE 5, hE 6⟩; simp -implicitDefEqProofs only [push_cast, reduceIte, Nat.reduceEqDiff, e0, e1, e2, e3, e4, e5, e6] at n; clear hE e0 e1 e2 e3 e4 e5 e6; obtain ⟨e0, e1, e2, e3, e4, e5, e6⟩ := n) | (with_reducible refine hK _ _ ?_; clear hK K) | (with_reducible first | refine zJ ?_ | refine zU ?_ | refine zB ?_ | refine zG ?_ | refine zE ?_ | refine zL ?_ | refine zT ?_ | refine zD ?_ | refine zH ?_ | refine zV ?_ | refine zF ?_ | refine zA (by decide) ?_ | refine zP ?_ | refine zO ?_ | refine zK ?_ | refine yB ?_ | refine yC ?_ | refine zW (by assumption) ?_ | refine zY (by assumption) ?_) | (refine zI rfl ?_) | (simp -implicitDefEqProofs only [push_cast, sevalprocAttr, eq_self, e0, e1, e2, e3, e4, e5, e6, hlt, hb, tab_d]) | (simp -implicitDefEqProofs (disch := omega) only [zR, zZ, zS, zQ, e0, e1, e2, e3, e4, e5, e6, hlt, hb, tab_d]) | (with_reducible refine yE ?_ ?_) | (refine zN rfl (fun bb => ?_) (fun bb => ?_) <;> simp only [bb]) | (with_reducible refine zX (fun bb => ?_) (fun bb => ?_)) | ((with_reducible refine And.intro ?_ ?_); omega) | (refine yD (f76 _ _ _) ?_) | fail)
    · rw [tabE_bad]; intro h; have := h.2; simp at *; omega
    · rw [tabE_ok]; exact ⟨fun j hj => hall j (by omega), by simp at *; omega⟩
end Go.Proofs.Hx

set_option linter.unusedVariables false
set_option linter.unusedSimpArgs false
namespace Go.Proofs.Hx
open Go Go.Proofs
attribute [local irreducible] yM awp opK goV goM yV yZ qF yQ HV HVF HC
structure Shp where
  nm : ByteArray
  cl : Int
  d : Bool
  a : Bool
  b : Bool
  n : Bool
  im : Bool
  is : Bool
def shpA (s : Shp) : List AV := [.lit (.string s.nm), .lit (.int .i8 s.cl), .lit (.bool s.d), .lit (.bool s.a), .lit (.bool s.b), .lit (.bool s.n), .lit (.bool s.im), .lit (.bool s.is)]
def noShp : Shp := ⟨⟨#[]⟩, 0, false, false, false, false, false, false⟩
def shpT : Nat → Shp
  | 0 => ⟨⟨#[110, 111, 112]⟩, (-1), false, false, false, false, false, true⟩
  | 1 => ⟨⟨#[99, 111, 110, 115, 116]⟩, 0, true, false, false, false, true, true⟩
  | 2 => ⟨⟨#[97, 100, 100]⟩, 0, true, true, true, false, false, true⟩
  | 3 => ⟨⟨#[115, 117, 98]⟩, 0, true, true, true, false, false, true⟩
  | 4 => ⟨⟨#[97, 110, 100]⟩, 0, true, true, true, false, false, true⟩
  | 5 => ⟨⟨#[111, 114]⟩, 0, true, true, true, false, false, true⟩
  | 6 => ⟨⟨#[120, 111, 114]⟩, 0, true, true, true, false, false, true⟩
  | 7 => ⟨⟨#[115, 104, 108]⟩, 0, true, true, true, false, false, true⟩
  | 8 => ⟨⟨#[115, 104, 114]⟩, 0, true, true, true, false, false, true⟩
  | 9 => ⟨⟨#[108, 101, 115, 115]⟩, 0, true, true, true, false, false, true⟩
  | 10 => ⟨⟨#[101, 113, 117, 97, 108]⟩, 0, true, true, true, false, false, true⟩
  | 11 => ⟨⟨#[109, 111, 118, 101]⟩, 0, true, true, false, false, false, true⟩
  | 12 => ⟨⟨#[116, 105, 109, 101, 115]⟩, 1, true, true, true, false, false, true⟩
  | 13 => ⟨⟨#[100, 105, 118, 105, 100, 101]⟩, 1, true, true, true, false, false, true⟩
  | 14 => ⟨⟨#[114, 101, 115, 116]⟩, 1, true, true, true, false, false, true⟩
  | 15 => ⟨⟨#[108, 111, 97, 100]⟩, 2, true, true, false, false, true, true⟩
  | 16 => ⟨⟨#[115, 116, 111, 114, 101]⟩, 2, false, true, true, false, true, true⟩
  | 17 => ⟨⟨#[112, 114, 105, 110, 116]⟩, 2, false, true, false, false, false, true⟩
  | 18 => ⟨⟨#[106, 117, 109, 112]⟩, 3, false, false, false, false, true, true⟩
  | 19 => ⟨⟨#[98, 114, 97, 110, 99, 104]⟩, 3, false, true, false, false, true, true⟩
  | 20 => ⟨⟨#[104, 97, 108, 116]⟩, 3, false, true, false, false, false, true⟩
  | 21 => ⟨⟨#[99, 111, 117, 110, 116]⟩, 3, false, true, false, false, true, true⟩
  | 22 => ⟨⟨#[115, 104, 111, 114, 116]⟩, 3, false, true, false, true, true, true⟩
  | 23 => ⟨⟨#[97, 103, 97, 105, 110]⟩, 3, false, false, false, false, true, true⟩
  | _ => noShp
def qL : List AV := (List.range 24).flatMap fun i => shpA (shpT i)


def tblShapes : Tbl := [(105, 39, ac105, re105), (121, 8, ac121, re121)]
theorem f105 : HV Try.prog 105 [] (.agg qL) :=
  yU yL (T := tblShapes) (by simp only [TblOk, tblShapes, List.forall_mem_cons, List.not_mem_nil, false_imp_iff, implies_true, and_true]; exact ⟨cf105, cf121⟩) 1000 rfl (by kernel_rfl) (by kernel_rfl)
def ofS (n : Int) : Shp := if n < 0 ∨ 24 ≤ n then noShp else shpT n.toNat
theorem ofS_bad {n : Int} (h : n < 0 ∨ 24 ≤ n) : ofS n = noShp := by simp [ofS, h]
theorem ofS_ok {n : Int} (h : ¬ (n < 0 ∨ 24 ≤ n)) : ofS n = shpT n.toNat := by simp [ofS, h]
theorem sh_0 : qG true (0 * 8) 8 qL = some (.agg (shpA (shpT 0))) := by kernel_rfl
theorem sh_1 : qG true (1 * 8) 8 qL = some (.agg (shpA (shpT 1))) := by kernel_rfl
theorem sh_2 : qG true (2 * 8) 8 qL = some (.agg (shpA (shpT 2))) := by kernel_rfl
theorem sh_3 : qG true (3 * 8) 8 qL = some (.agg (shpA (shpT 3))) := by kernel_rfl
theorem sh_4 : qG true (4 * 8) 8 qL = some (.agg (shpA (shpT 4))) := by kernel_rfl
theorem sh_5 : qG true (5 * 8) 8 qL = some (.agg (shpA (shpT 5))) := by kernel_rfl
theorem sh_6 : qG true (6 * 8) 8 qL = some (.agg (shpA (shpT 6))) := by kernel_rfl
theorem sh_7 : qG true (7 * 8) 8 qL = some (.agg (shpA (shpT 7))) := by kernel_rfl
theorem sh_8 : qG true (8 * 8) 8 qL = some (.agg (shpA (shpT 8))) := by kernel_rfl
theorem sh_9 : qG true (9 * 8) 8 qL = some (.agg (shpA (shpT 9))) := by kernel_rfl
theorem sh_10 : qG true (10 * 8) 8 qL = some (.agg (shpA (shpT 10))) := by kernel_rfl
theorem sh_11 : qG true (11 * 8) 8 qL = some (.agg (shpA (shpT 11))) := by kernel_rfl
theorem sh_12 : qG true (12 * 8) 8 qL = some (.agg (shpA (shpT 12))) := by kernel_rfl
theorem sh_13 : qG true (13 * 8) 8 qL = some (.agg (shpA (shpT 13))) := by kernel_rfl
theorem sh_14 : qG true (14 * 8) 8 qL = some (.agg (shpA (shpT 14))) := by kernel_rfl
theorem sh_15 : qG true (15 * 8) 8 qL = some (.agg (shpA (shpT 15))) := by kernel_rfl
theorem sh_16 : qG true (16 * 8) 8 qL = some (.agg (shpA (shpT 16))) := by kernel_rfl
theorem sh_17 : qG true (17 * 8) 8 qL = some (.agg (shpA (shpT 17))) := by kernel_rfl
theorem sh_18 : qG true (18 * 8) 8 qL = some (.agg (shpA (shpT 18))) := by kernel_rfl
theorem sh_19 : qG true (19 * 8) 8 qL = some (.agg (shpA (shpT 19))) := by kernel_rfl
theorem sh_20 : qG true (20 * 8) 8 qL = some (.agg (shpA (shpT 20))) := by kernel_rfl
theorem sh_21 : qG true (21 * 8) 8 qL = some (.agg (shpA (shpT 21))) := by kernel_rfl
theorem sh_22 : qG true (22 * 8) 8 qL = some (.agg (shpA (shpT 22))) := by kernel_rfl
theorem sh_23 : qG true (23 * 8) 8 qL = some (.agg (shpA (shpT 23))) := by kernel_rfl
theorem shapes_at {i : Nat} (h : i < 24) : qG true (i * 8) 8 qL = some (.agg (shpA (shpT i))) := by
  match i, h with
  | 0, _ => exact sh_0
  | 1, _ => exact sh_1
  | 2, _ => exact sh_2
  | 3, _ => exact sh_3
  | 4, _ => exact sh_4
  | 5, _ => exact sh_5
  | 6, _ => exact sh_6
  | 7, _ => exact sh_7
  | 8, _ => exact sh_8
  | 9, _ => exact sh_9
  | 10, _ => exact sh_10
  | 11, _ => exact sh_11
  | 12, _ => exact sh_12
  | 13, _ => exact sh_13
  | 14, _ => exact sh_14
  | 15, _ => exact sh_15
  | 16, _ => exact sh_16
  | 17, _ => exact sh_17
  | 18, _ => exact sh_18
  | 19, _ => exact sh_19
  | 20, _ => exact sh_20
  | 21, _ => exact sh_21
  | 22, _ => exact sh_22
  | 23, _ => exact sh_23
  | n + 24, h => omega
theorem shp_imms (s : Shp) : imms (shpA s) = true := by cases s; simp [shpA, imm, imms]
theorem f75 (n : Int) : HV Try.prog 75 [.lit (.int .i8 n)] (.tup [.agg (shpA (ofS n)), .lit (.bool (ofS n).is)]) := by
  refine yJ yL cf75 (by simp) rfl ?_ (by simp [imm, imms, shp_imms])
  unfold ac75 re75
  refine yF fun env hE => ?_; have e0 := hE 0; have e2 := hE 2; have e3 := hE 3; have e4 := hE 4; simp -implicitDefEqProofs only [push_cast] at e0 e2 e3 e4; clear hE
  by_cases hn : n < 0 ∨ 24 ≤ n
  · rw [ofS_bad hn]
    repeat' (first | ((try clear hf); with_reducible refine zM fun env K hE hK hf => ?_; have n : _ ∧ _ ∧ _ ∧ _ := ⟨hE 0, hE 2, hE 3, hE 4⟩; simp -implicitDefEqProofs only [push_cast, reduceIte, Nat.reduceEqDiff, e0, e2, e3, e4] at n; clear hE e0 e2 e3 e4; obtain ⟨e0, e2, e3, e4⟩ := n) | (with_reducible refine hK _ _ ?_; clear hK K) | (with_reducible first | refine zJ ?_ | refine zU ?_ | refine zB ?_ | refine zG ?_ | refine zE ?_ | refine zL ?_ | refine zT ?_ | refine zD ?_ | refine zH ?_ | refine zV ?_ | refine zF ?_ | refine zA (by decide) ?_ | refine zP ?_ | refine zO ?_ | refine zK ?_ | refine yB ?_ | refine yC ?_ | refine zW (by assumption) ?_ | refine zY (by assumption) ?_) | (refine zI rfl ?_) | (simp -implicitDefEqProofs only [push_cast, sevalprocAttr, eq_self, e0, e2, e3, e4]) | (simp -implicitDefEqProofs (disch := omega) only [zR, zZ, zS, zQ, e0, e2, e3, e4]) | (with_reducible refine yE ?_ ?_) | (refine zN rfl (fun bb => ?_) (fun bb => ?_) <;> simp only [bb]) | (with_reducible refine zX (fun bb => ?_) (fun bb => ?_)) | ((with_reducible refine And.intro ?_ ?_); omega) | fail)
    all_goals first | rfl | (exfalso; simp at *; omega) | skip
  · obtain ⟨i, rfl⟩ : ∃ i : Nat, n = i := ⟨n.toNat, by omega⟩
    have hi : i < 24 := by omega
    have hx : ofS (i : Int) = shpT i := by
      have := ofS_ok (n := i) (by omega)
      simpa using this
    rw [hx]
    have hs := shapes_at hi
    repeat' (first | ((try clear hf); with_reducible refine zM fun env K hE hK hf => ?_; have n : _ ∧ _ ∧ _ ∧ _ := ⟨hE 0, hE 2, hE 3, hE 4⟩; simp -implicitDefEqProofs only [push_cast, reduceIte, Nat.reduceEqDiff, e0, e2, e3, e4] at n; clear hE e0 e2 e3 e4; obtain ⟨e0, e2, e3, e4⟩ := n) | (with_reducible refine hK _ _ ?_; clear hK K) | (with_reducible first | refine zJ ?_ | refine zU ?_ | refine zB ?_ | refine zG ?_ | refine zE ?_ | refine zL ?_ | refine zT ?_ | refine zD ?_ | refine zH ?_ | refine zV ?_ | refine zF ?_ | refine zA (by decide) ?_ | refine zP ?_ | refine zO ?_ | refine zK ?_ | refine yB ?_ | refine yC ?_ | refine zW (by assumption) ?_ | refine zY (by assumption) ?_) | (refine zI rfl ?_) | (simp -implicitDefEqProofs only [push_cast, sevalprocAttr, eq_self, e0, e2, e3, e4, hs, shpA]) | (simp -implicitDefEqProofs (disch := omega) only [zR, zZ, zS, zQ, e0, e2, e3, e4, hs, shpA]) | (with_reducible refine yE ?_ ?_) | (refine zN rfl (fun bb => ?_) (fun bb => ?_) <;> simp only [bb]) | (with_reducible refine zX (fun bb => ?_) (fun bb => ?_)) | ((with_reducible refine And.intro ?_ ?_); omega) | (refine yD f105 ?_) | fail)
    all_goals first | rfl | (exfalso; simp at *; omega) | skip
/-- A kind's class: the number, and whether there is one. -/
def clsS (n : Int) : Int × Bool := if (ofS n).is = true ∧ 0 ≤ (ofS n).cl then ((ofS n).cl, true) else (0, false)
theorem shpT_cl (i : Nat) : IntKind.wrap .i64 (shpT i).cl = (shpT i).cl := by
  unfold shpT
  split <;> rfl
theorem ofS_cl (n : Int) : IntKind.wrap .i64 (ofS n).cl = (ofS n).cl := by
  unfold ofS
  split
  · rfl
  · exact shpT_cl _

theorem f41 (n : Int) : HV Try.prog 41 [.lit (.int .i8 n)] (.tup [.lit (.int .i64 (clsS n).1), .lit (.bool (clsS n).2)]) := by
  refine yJ yL cf41 (by simp) rfl ?_ (by simp [imm, imms])
  unfold ac41 re41
  refine yF fun env hE => ?_; have e0 := hE 0; have e2 := hE 2; have e3 := hE 3; have e4 := hE 4; have e5 := hE 5; simp -implicitDefEqProofs only [push_cast] at e0 e2 e3 e4 e5; clear hE
  have hw := ofS_cl n
  repeat' (first | ((try clear hf); with_reducible refine zM fun env K hE hK hf => ?_; have n : _ ∧ _ ∧ _ ∧ _ ∧ _ := ⟨hE 0, hE 2, hE 3, hE 4, hE 5⟩; simp -implicitDefEqProofs only [push_cast, reduceIte, Nat.reduceEqDiff, e0, e2, e3, e4, e5] at n; clear hE e0 e2 e3 e4 e5; obtain ⟨e0, e2, e3, e4, e5⟩ := n) | (with_reducible refine hK _ _ ?_; clear hK K) | (with_reducible first | refine zJ ?_ | refine zU ?_ | refine zB ?_ | refine zG ?_ | refine zE ?_ | refine zL ?_ | refine zT ?_ | refine zD ?_ | refine zH ?_ | refine zV ?_ | refine zF ?_ | refine zA (by decide) ?_ | refine zP ?_ | refine zO ?_ | refine zK ?_ | refine yB ?_ | refine yC ?_ | refine zW (by assumption) ?_ | refine zY (by assumption) ?_) | (refine zI rfl ?_) | (simp -implicitDefEqProofs only [push_cast, sevalprocAttr, eq_self, e0, e2, e3, e4, e5, hw, shpA]) | (simp -implicitDefEqProofs (disch := omega) only [zR, zZ, zS, zQ, e0, e2, e3, e4, e5, hw, shpA]) | (with_reducible refine yE ?_ ?_) | (refine zN rfl (fun bb => ?_) (fun bb => ?_) <;> simp only [bb]) | (with_reducible refine zX (fun bb => ?_) (fun bb => ?_)) | ((with_reducible refine And.intro ?_ ?_); omega) | (refine yD (f75 n) ?_) | fail)
  all_goals (have hx : clsS n = clsS n := rfl; conv at hx => rhs; unfold clsS)
  all_goals rw [hx]; simp at *; first | (simp [*]; done) | (rw [if_neg (by simp [*])]; simp) | skip
def sgn32 (u : Int) : Int := (IntKind.wrap .i64 (IntKind.wrap .u64 (u * 2 ^ 32))).fdiv (2 ^ 32)
theorem bin_shl32 (u : Int) : binV .shl (.lit (.int .u64 u)) (.lit (.int .u8 32)) = some (.lit (.int .u64 (IntKind.wrap .u64 (u * 2 ^ 32)))) := rfl
theorem bin_shr32 (u : Int) : binV .shr (.lit (.int .i64 u)) (.lit (.int .u8 32)) = some (.lit (.int .i64 (u.fdiv (2 ^ 32)))) := rfl

theorem f123 (u : Int) : HV Try.prog 123 [.lit (.int .u64 u), .lit (.int .i64 32)] (.lit (.int .i64 (sgn32 u))) := by
  refine yJ yL cf123 (by simp) rfl ?_ rfl
  unfold ac123 re123
  refine yF fun env hE => ?_; have e0 := hE 0; have e1 := hE 1; have e4 := hE 4; have e5 := hE 5; simp -implicitDefEqProofs only [push_cast] at e0 e1 e4 e5; clear hE
  have k1 : IntKind.wrap .i64 (64 - 32) = 32 := rfl
  have k2 : IntKind.wrap .u8 32 = 32 := rfl
  have k3 : maxV [AV.lit (.int .i64 32), AV.lit (.int .i64 1)] = some (.lit (.int .i64 32)) := rfl
  have k4 : minV [AV.lit (.int .i64 32), AV.lit (.int .i64 64)] = some (.lit (.int .i64 32)) := rfl
  repeat' (first | ((try clear hf); with_reducible refine zM fun env K hE hK hf => ?_; have n : _ ∧ _ ∧ _ ∧ _ := ⟨hE 0, hE 1, hE 4, hE 5⟩; simp -implicitDefEqProofs only [push_cast, reduceIte, Nat.reduceEqDiff, e0, e1, e4, e5] at n; clear hE e0 e1 e4 e5; obtain ⟨e0, e1, e4, e5⟩ := n) | (with_reducible refine hK _ _ ?_; clear hK K) | (with_reducible first | refine zJ ?_ | refine zU ?_ | refine zB ?_ | refine zG ?_ | refine zE ?_ | refine zL ?_ | refine zT ?_ | refine zD ?_ | refine zH ?_ | refine zV ?_ | refine zF ?_ | refine zA (by decide) ?_ | refine zP ?_ | refine zO ?_ | refine zK ?_ | refine yB ?_ | refine yC ?_ | refine zW (by assumption) ?_ | refine zY (by assumption) ?_) | (refine zI rfl ?_) | (simp -implicitDefEqProofs only [push_cast, sevalprocAttr, eq_self, e0, e1, e4, e5, k1, k2, k3, k4, bin_shl32, bin_shr32]) | (simp -implicitDefEqProofs (disch := omega) only [zR, zZ, zS, zQ, e0, e1, e4, e5, k1, k2, k3, k4, bin_shl32, bin_shr32]) | (with_reducible refine yE ?_ ?_) | (refine zN rfl (fun bb => ?_) (fun bb => ?_) <;> simp only [bb]) | (with_reducible refine zX (fun bb => ?_) (fun bb => ?_)) | ((with_reducible refine And.intro ?_ ?_); omega) | fail)
  rfl
theorem sgn32_eq (x : Int) (h1 : -9223372036854775808 ≤ x) (h2 : x ≤ 9223372036854775807) : decide (sgn32 (IntKind.wrap .u64 x) = x) = decide (-2147483648 ≤ x ∧ x ≤ 2147483647) := by
  unfold sgn32
  simp only [IntKind.wrap, IntKind.bits, IntKind.signed, Bool.true_and, Bool.false_and, decide_eq_true_eq, ge_iff_le, Bool.false_eq_true, if_false]
  rw [Int.fdiv_eq_ediv_of_nonneg _ (by decide)]
  apply decide_eq_decide.2
  split <;> omega

theorem f110 (x : Int) (h1 : -9223372036854775808 ≤ x) (h2 : x ≤ 9223372036854775807) : HV Try.prog 110 [.lit (.int .i64 x), .lit (.int .i64 32)] (.lit (.bool (decide (-2147483648 ≤ x ∧ x ≤ 2147483647)))) := by
  refine yJ yL cf110 (by simp) rfl ?_ rfl
  unfold ac110 re110
  refine yF fun env hE => ?_; have e0 := hE 0; have e1 := hE 1; have e4 := hE 4; simp -implicitDefEqProofs only [push_cast] at e0 e1 e4; clear hE
  repeat' (first | ((try clear hf); with_reducible refine zM fun env K hE hK hf => ?_; have n : _ ∧ _ ∧ _ := ⟨hE 0, hE 1, hE 4⟩; simp -implicitDefEqProofs only [push_cast, reduceIte, Nat.reduceEqDiff, e0, e1, e4] at n; clear hE e0 e1 e4; obtain ⟨e0, e1, e4⟩ := n) | (with_reducible refine hK _ _ ?_; clear hK K) | (with_reducible first | refine zJ ?_ | refine zU ?_ | refine zB ?_ | refine zG ?_ | refine zE ?_ | refine zL ?_ | refine zT ?_ | refine zD ?_ | refine zH ?_ | refine zV ?_ | refine zF ?_ | refine zA (by decide) ?_ | refine zP ?_ | refine zO ?_ | refine zK ?_ | refine yB ?_ | refine yC ?_ | refine zW (by assumption) ?_ | refine zY (by assumption) ?_) | (refine zI rfl ?_) | (simp -implicitDefEqProofs only [push_cast, sevalprocAttr, eq_self, e0, e1, e4, sgn32_eq x h1 h2]) | (simp -implicitDefEqProofs (disch := omega) only [zR, zZ, zS, zQ, e0, e1, e4, sgn32_eq x h1 h2]) | (with_reducible refine yE ?_ ?_) | (refine zN rfl (fun bb => ?_) (fun bb => ?_) <;> simp only [bb]) | (with_reducible refine zX (fun bb => ?_) (fun bb => ?_)) | ((with_reducible refine And.intro ?_ ?_); omega) | (refine yD (f123 _) ?_) | fail)
structure Opn where
  k : Int
  d : Int
  a : Int
  b : Int
  im : Int
def opC (o : Opn) : List AV := [.lit (.int .i8 o.k), .lit (.int .u8 o.d), .lit (.int .u8 o.a), .lit (.int .u8 o.b), .lit (.int .i64 o.im)]
/-- An operation that is one. -/
def chkP (o : Opn) : Prop := (ofS o.k).is = true ∧ o.d ≤ 31 ∧ o.a ≤ 31 ∧ o.b ≤ 31 ∧ (-2147483648 ≤ o.im ∧ o.im ≤ 2147483647) ∧ ((ofS o.k).d = true ∨ o.d = 0) ∧ ((ofS o.k).a = true ∨ o.a = 0) ∧ ((ofS o.k).b = true ∨ (ofS o.k).n = true ∨ o.b = 0) ∧ ((ofS o.k).im = true ∨ o.im = 0)
instance (o : Opn) : Decidable (chkP o) := by unfold chkP; infer_instance
def chkE (o : Opn) : Int := if chkP o then 0 else 30
theorem op_0 (o : Opn) : (opC o)[0]? = some (.lit (.int .i8 o.k)) := rfl
theorem op_1 (o : Opn) : (opC o)[1]? = some (.lit (.int .u8 o.d)) := rfl
theorem op_2 (o : Opn) : (opC o)[2]? = some (.lit (.int .u8 o.a)) := rfl
theorem op_3 (o : Opn) : (opC o)[3]? = some (.lit (.int .u8 o.b)) := rfl
theorem op_4 (o : Opn) : (opC o)[4]? = some (.lit (.int .i64 o.im)) := rfl

set_option maxHeartbeats 4000000 in
theorem f87 (o : Opn) (h1' : -9223372036854775808 ≤ o.im) (h2' : o.im ≤ 9223372036854775807) : HV Try.prog 87 [.agg (opC o)] (.lit (.int .i64 (chkE o))) := by
  refine yJ yL cf87 (by simp) rfl ?_ rfl
  unfold ac87 re87
  refine yF fun env hE => ?_; have e0 := hE 0; have e1 := hE 1; have e2 := hE 2; have e3 := hE 3; have e4 := hE 4; have e11 := hE 11; have e27 := hE 27; simp -implicitDefEqProofs only [push_cast] at e0 e1 e2 e3 e4 e11 e27; clear hE
  repeat' (first | ((try clear hf); with_reducible refine zM fun env K hE hK hf => ?_; have n : _ ∧ _ ∧ _ ∧ _ ∧ _ ∧ _ ∧ _ := ⟨hE 0, hE 1, hE 2, hE 3, hE 4, hE 11, hE 27⟩; simp -implicitDefEqProofs only [push_cast, reduceIte, Nat.reduceEqDiff, e0, e1, e2, e3, e4, e11, e27] at n; clear hE e0 e1 e2 e3 e4 e11 e27; obtain ⟨e0, e1, e2, e3, e4, e11, e27⟩ := n) | (with_reducible refine hK _ _ ?_; clear hK K) | (with_reducible first | refine zJ ?_ | refine zU ?_ | refine zB ?_ | refine zG ?_ | refine zE ?_ | refine zL ?_ | refine zT ?_ | refine zD ?_ | refine zH ?_ | refine zV ?_ | refine zF ?_ | refine zA (by decide) ?_ | refine zP ?_ | refine zO ?_ | refine zK ?_ | refine yB ?_ | refine yC ?_ | refine zW (by assumption) ?_ | refine zY (by assumption) ?_) | (refine zI rfl ?_) | (simp -implicitDefEqProofs only [push_cast, sevalprocAttr, eq_self, e0, e1, e2, e3, e4, e11, e27, shpA, opC]) | (simp -implicitDefEqProofs (disch := omega) only [zR, zZ, zS, zQ, e0, e1, e2, e3, e4, e11, e27, shpA, opC]) | (with_reducible refine yE ?_ ?_) | (refine zN rfl (fun bb => ?_) (fun bb => ?_) <;> simp only [bb]) | (with_reducible refine zX (fun bb => ?_) (fun bb => ?_)) | ((with_reducible refine And.intro ?_ ?_); omega) | (refine yD (f75 o.k) ?_) | (refine yD (f110 o.im h1' h2') ?_) | fail)
  all_goals ((try clear hf); (try clear e0 e1 e2 e3 e4 e11 e27); simp only [chkE, chkP]; simp at *; simp [*]; try omega)
end Go.Proofs.Hx

set_option linter.unusedVariables false
set_option linter.unusedSimpArgs false
namespace Go.Proofs.Hx
open Go Go.Proofs
attribute [local irreducible] yM awp opK goV goM yV yZ qF yQ HV HVF HC
abbrev u8 (n : Int) : AV := .lit (.int .u8 n)
abbrev bl (b : Bool) : AV := .lit (.bool b)
def Opn.ok (o : Opn) : Prop := -9223372036854775808 ≤ o.im ∧ o.im ≤ 9223372036854775807 ∧ 0 ≤ o.d ∧ o.d ≤ 255 ∧ 0 ≤ o.a ∧ o.a ≤ 255 ∧ 0 ≤ o.b ∧ o.b ≤ 255 ∧ -128 ≤ o.k ∧ o.k ≤ 127
theorem f87' (o : Opn) (h : o.ok) : HV Try.prog 87 [.agg (opC o)] (i64 (chkE o)) := f87 o h.1 h.2.1
/-- The register that an operation writes, and whether there is one. -/
def wrS (o : Opn) : Int × Bool := if (ofS o.k).d = true ∧ chkE o = 0 then (o.d, true) else (0, false)
theorem f52 (o : Opn) (h : o.ok) : HV Try.prog 52 [.agg (opC o)] (.tup [u8 (wrS o).1, bl (wrS o).2]) := by
  refine yJ yL cf52 (by simp) rfl ?_ (by simp [imm, imms])
  unfold ac52 re52
  refine yF fun env hE => ?_; have e0 := hE 0; have e1 := hE 1; have e2 := hE 2; have e3 := hE 3; have e4 := hE 4; simp -implicitDefEqProofs only [push_cast] at e0 e1 e2 e3 e4; clear hE
  have hc := f87' o h
  unfold opC at hc
  repeat' (first | ((try clear hf); with_reducible refine zM fun env K hE hK hf => ?_; have n : _ ∧ _ ∧ _ ∧ _ ∧ _ := ⟨hE 0, hE 1, hE 2, hE 3, hE 4⟩; simp -implicitDefEqProofs only [push_cast, reduceIte, Nat.reduceEqDiff, e0, e1, e2, e3, e4] at n; clear hE e0 e1 e2 e3 e4; obtain ⟨e0, e1, e2, e3, e4⟩ := n) | (with_reducible refine hK _ _ ?_; clear hK K) | (with_reducible first | refine zJ ?_ | refine zU ?_ | refine zB ?_ | refine zG ?_ | refine zE ?_ | refine zL ?_ | refine zT ?_ | refine zD ?_ | refine zH ?_ | refine zV ?_ | refine zF ?_ | refine zA (by decide) ?_ | refine zP ?_ | refine zO ?_ | refine zK ?_ | refine yB ?_ | refine yC ?_ | refine zW (by assumption) ?_ | refine zY (by assumption) ?_) | (refine zI rfl ?_) | (simp -implicitDefEqProofs only [push_cast, sevalprocAttr, eq_self, e0, e1, e2, e3, e4, shpA, opC]) | (simp -implicitDefEqProofs (disch := omega) only [zR, zZ, zS, zQ, e0, e1, e2, e3, e4, shpA, opC]) | (with_reducible refine yE ?_ ?_) | (refine zN rfl (fun bb => ?_) (fun bb => ?_) <;> simp only [bb]) | (with_reducible refine zX (fun bb => ?_) (fun bb => ?_)) | ((with_reducible refine And.intro ?_ ?_); omega) | (refine yD (f75 o.k) ?_) | (refine yD hc ?_) | fail)
  all_goals ((try clear hf); (try clear e0 e1 e2 e3 e4); clear hc; simp only [wrS]; simp at *; simp [*])
/-- The registers that an operation reads. -/
def rdS (o : Opn) : List Int :=
  if chkE o ≠ 0 then [] else if (ofS o.k).a = true ∧ (ofS o.k).b = true ∧ o.a ≠ o.b then [o.a, o.b] else if (ofS o.k).a = true then [o.a] else if (ofS o.k).b = true then [o.b] else []
def regsC (l : List Int) : List (List AV) := l.map fun r => [u8 r]
theorem f54 (o : Opn) (h : o.ok) : HVF Try.prog 54 [.agg (opC o)] (.row (regsC (rdS o))) := by
  refine HVF_of_awp yL cf54 (by simp) rfl ?_ (by simp [imm]; exact qI fun i x hx => by simp [regsC] at hx; obtain ⟨a, _, rfl⟩ := hx; rfl)
  unfold ac54 re54
  refine yF fun env hE => ?_; have e0 := hE 0; have e1 := hE 1; have e2 := hE 2; have e3 := hE 3; have e5 := hE 5; simp -implicitDefEqProofs only [push_cast] at e0 e1 e2 e3 e5; clear hE
  have hc := f87' o h
  unfold opC at hc
  repeat' (first | ((try clear hf); with_reducible refine zM fun env K hE hK hf => ?_; have n : _ ∧ _ ∧ _ ∧ _ ∧ _ := ⟨hE 0, hE 1, hE 2, hE 3, hE 5⟩; simp -implicitDefEqProofs only [push_cast, reduceIte, Nat.reduceEqDiff, e0, e1, e2, e3, e5] at n; clear hE e0 e1 e2 e3 e5; obtain ⟨e0, e1, e2, e3, e5⟩ := n) | (with_reducible refine hK _ _ ?_; clear hK K) | (with_reducible first | refine zJ ?_ | refine zU ?_ | refine zB ?_ | refine zG ?_ | refine zE ?_ | refine zL ?_ | refine zT ?_ | refine zD ?_ | refine zH ?_ | refine zV ?_ | refine zF ?_ | refine zA (by decide) ?_ | refine zP ?_ | refine zO ?_ | refine zK ?_ | refine yB ?_ | refine yC ?_ | refine zW (by assumption) ?_ | refine zY (by assumption) ?_) | (refine zI rfl ?_) | (simp -implicitDefEqProofs only [push_cast, sevalprocAttr, eq_self, e0, e1, e2, e3, e5, shpA, opC]) | (simp -implicitDefEqProofs (disch := omega) only [zR, zZ, zS, zQ, e0, e1, e2, e3, e5, shpA, opC]) | (with_reducible refine yE ?_ ?_) | (refine zN rfl (fun bb => ?_) (fun bb => ?_) <;> simp only [bb]) | (with_reducible refine zX (fun bb => ?_) (fun bb => ?_)) | ((with_reducible refine And.intro ?_ ?_); omega) | (refine yD (f75 o.k) ?_) | (refine yD hc ?_) | fail)
  all_goals ((try clear hf); (try clear e0 e1 e2 e3 e5); clear hc; simp only [rdS, regsC]; simp at *; simp [*])
def memS (o : Opn) : Bool := (decide (o.k = 15) || decide (o.k = 16)) && decide (chkE o = 0)
theorem f124 (o : Opn) (h : o.ok) : HV Try.prog 124 [.agg (opC o)] (bl (memS o)) := by
  refine yJ yL cf124 (by simp) rfl ?_ rfl
  unfold ac124 re124
  refine yF fun env hE => ?_; have e0 := hE 0; have e1 := hE 1; have e2 := hE 2; simp -implicitDefEqProofs only [push_cast] at e0 e1 e2; clear hE
  have hc := f87' o h
  unfold opC at hc
  repeat' (first | ((try clear hf); with_reducible refine zM fun env K hE hK hf => ?_; have n : _ ∧ _ ∧ _ := ⟨hE 0, hE 1, hE 2⟩; simp -implicitDefEqProofs only [push_cast, reduceIte, Nat.reduceEqDiff, e0, e1, e2] at n; clear hE e0 e1 e2; obtain ⟨e0, e1, e2⟩ := n) | (with_reducible refine hK _ _ ?_; clear hK K) | (with_reducible first | refine zJ ?_ | refine zU ?_ | refine zB ?_ | refine zG ?_ | refine zE ?_ | refine zL ?_ | refine zT ?_ | refine zD ?_ | refine zH ?_ | refine zV ?_ | refine zF ?_ | refine zA (by decide) ?_ | refine zP ?_ | refine zO ?_ | refine zK ?_ | refine yB ?_ | refine yC ?_ | refine zW (by assumption) ?_ | refine zY (by assumption) ?_) | (refine zI rfl ?_) | (simp -implicitDefEqProofs only [push_cast, sevalprocAttr, eq_self, e0, e1, e2, opC]) | (simp -implicitDefEqProofs (disch := omega) only [zR, zZ, zS, zQ, e0, e1, e2, opC]) | (with_reducible refine yE ?_ ?_) | (refine zN rfl (fun bb => ?_) (fun bb => ?_) <;> simp only [bb]) | (with_reducible refine zX (fun bb => ?_) (fun bb => ?_)) | ((with_reducible refine And.intro ?_ ?_); omega) | (refine yD hc ?_) | fail)
  all_goals ((try clear hf); (try clear e0 e1 e2); clear hc; simp only [memS]; simp at *; simp [*])
def effS (o : Opn) : Bool := decide (o.k = 17) || decide (o.k = 13) || decide (o.k = 14)
theorem f118 (o : Opn) : HV Try.prog 118 [.agg (opC o)] (bl (effS o)) := by
  refine yJ yL cf118 (by simp) rfl ?_ rfl
  unfold ac118 re118
  refine yF fun env hE => ?_; have e0 := hE 0; have e1 := hE 1; have e2 := hE 2; simp -implicitDefEqProofs only [push_cast] at e0 e1 e2; clear hE
  repeat' (first | ((try clear hf); with_reducible refine zM fun env K hE hK hf => ?_; have n : _ ∧ _ ∧ _ := ⟨hE 0, hE 1, hE 2⟩; simp -implicitDefEqProofs only [push_cast, reduceIte, Nat.reduceEqDiff, e0, e1, e2] at n; clear hE e0 e1 e2; obtain ⟨e0, e1, e2⟩ := n) | (with_reducible refine hK _ _ ?_; clear hK K) | (with_reducible first | refine zJ ?_ | refine zU ?_ | refine zB ?_ | refine zG ?_ | refine zE ?_ | refine zL ?_ | refine zT ?_ | refine zD ?_ | refine zH ?_ | refine zV ?_ | refine zF ?_ | refine zA (by decide) ?_ | refine zP ?_ | refine zO ?_ | refine zK ?_ | refine yB ?_ | refine yC ?_ | refine zW (by assumption) ?_ | refine zY (by assumption) ?_) | (refine zI rfl ?_) | (simp -implicitDefEqProofs only [push_cast, sevalprocAttr, eq_self, e0, e1, e2, opC]) | (simp -implicitDefEqProofs (disch := omega) only [zR, zZ, zS, zQ, e0, e1, e2, opC]) | (with_reducible refine yE ?_ ?_) | (refine zN rfl (fun bb => ?_) (fun bb => ?_) <;> simp only [bb]) | (with_reducible refine zX (fun bb => ?_) (fun bb => ?_)) | ((with_reducible refine And.intro ?_ ?_); omega) | fail)
  all_goals ((try clear hf); (try clear e0 e1 e2); simp only [effS]; simp at *; simp [*])
end Go.Proofs.Hx

set_option linter.unusedVariables false
set_option linter.unusedSimpArgs false
namespace Go.Proofs.Hx
open Go Go.Proofs
attribute [local irreducible] yM awp opK goV goM yV yZ qF yQ HV HVF HC
/-- An operation that may stand in a list. -/
def opOK (o : Opn) : Prop := 1 ≤ o.k ∧ o.k ≤ 17 ∧ chkE o = 0
instance (o : Opn) : Decidable (opOK o) := by unfold opOK; infer_instance
def errR (l : List Opn) (t : Tab) : Int := if tabE t ≠ 0 then tabE t else if 1024 < l.length then 3 else if ∀ o ∈ l, opOK o then 0 else 30
theorem opC_len (o : Opn) : (opC o).length = 5 := rfl
theorem opC_take (o : Opn) : (opC o).take 5 = opC o := rfl
theorem opC_one (o : Opn) : (opC o).all one = true := rfl
theorem opC_imms (o : Opn) : imms (opC o) = true := rfl
attribute [push_cast] opC_len opC_take opC_one opC_imms
theorem qJ {l : List Opn} {k : Nat} (hk : k < l.length) (kd : IntKind) : idxAddrV none 5 (.row (l.map opC)) (.lit (.int kd (k : Int))) = some (.ip (opC l[k])) := idxAddr_row opC 5 opC_len l kd hk
theorem errR_bad {l : List Opn} {t : Tab} {k : Nat} (h1 : tabE t = 0) (h2 : l.length ≤ 1024) (hk : k < l.length) (hb : ¬ opOK l[k]) : errR l t = 30 := by
  simp only [errR, h1]
  rw [if_neg (by simp), if_neg (by omega), if_neg fun h => hb (h _ (List.getElem_mem hk))]
def I64 (l : List Opn) (t : Tab) (n : Nat) (σ : St) : Prop := ∃ k : Nat, k ≤ l.length ∧ n = l.length - k ∧ σ.env 16 = .row (l.map opC) ∧ σ.env 17 = i64 l.length ∧ σ.env 18 = i64 k ∧ ∀ (j : Nat) (hj : j < k) (h : j < l.length), opOK l[j]
theorem f64 (l : List Opn) (t : Tab) (hl : ∀ o ∈ l, o.ok) : HV Try.prog 64 [.row (l.map opC), .agg (tabC t)] (i64 (errR l t)) := by
  refine yJ yL cf64 (by simp) (by simp [imms, imm]; exact ⟨qI fun i x hx => by simp at hx; obtain ⟨o, _, rfl⟩ := hx; rfl, rfl⟩) ?_ rfl
  unfold ac64 re64
  refine yF fun env hE => ?_; have e0 := hE 0; have e1 := hE 1; have e3 := hE 3; have e4 := hE 4; have e5 := hE 5; have e7 := hE 7; have e16 := hE 16; have e17 := hE 17; have e18 := hE 18; have e19 := hE 19; simp -implicitDefEqProofs only [push_cast] at e0 e1 e3 e4 e5 e7 e16 e17 e18 e19; clear hE
  repeat' (first | ((try clear hf); with_reducible refine zM fun env K hE hK hf => ?_; have n : _ ∧ _ ∧ _ ∧ _ ∧ _ ∧ _ ∧ _ ∧ _ ∧ _ ∧ _ := ⟨hE 0, hE 1, hE 3, hE 4, hE 5, hE 7, hE 16, hE 17, hE 18, hE 19⟩; simp -implicitDefEqProofs only [push_cast, reduceIte, Nat.reduceEqDiff, e0, e1, e3, e4, e5, e7, e16, e17, e18, e19] at n; clear hE e0 e1 e3 e4 e5 e7 e16 e17 e18 e19; obtain ⟨e0, e1, e3, e4, e5, e7, e16, e17, e18, e19⟩ := n) | (with_reducible refine hK _ _ ?_; clear hK K) | (with_reducible first | refine zJ ?_ | refine zU ?_ | refine zB ?_ | refine zG ?_ | refine zE ?_ | refine zL ?_ | refine zT ?_ | refine zD ?_ | refine zH ?_ | refine zV ?_ | refine zF ?_ | refine zA (by decide) ?_ | refine zP ?_ | refine zO ?_ | refine zK ?_ | refine yB ?_ | refine yC ?_ | refine zW (by assumption) ?_ | refine zY (by assumption) ?_) | (refine zI rfl ?_) | (simp -implicitDefEqProofs only [push_cast, sevalprocAttr, eq_self, e0, e1, e3, e4, e5, e7, e16, e17, e18, e19, yK]) | (simp -implicitDefEqProofs (disch := omega) only [zR, zZ, zS, zQ, e0, e1, e3, e4, e5, e7, e16, e17, e18, e19, yK]) | (with_reducible refine yE ?_ ?_) | (refine zN rfl (fun bb => ?_) (fun bb => ?_) <;> simp only [bb]) | (with_reducible refine zX (fun bb => ?_) (fun bb => ?_)) | ((with_reducible refine And.intro ?_ ?_); omega) | (refine yD (f42 t) ?_) | fail)
  · (try clear hf); (try clear e0 e1 e3 e4 e5 e7 e16 e17 e18 e19); simp [errR]; simp at *; simp [*]
  · (try clear hf); (try clear e0 e1 e3 e4 e5 e7 e16 e17 e18 e19); simp [errR]; simp at *; simp [*]; omega
  have h1 : tabE t = 0 := by have := ‹(decide ¬tabE t = 0) = false›; simpa using this
  have h2 : l.length ≤ 1024 := by have := ‹decide (1024 < (l.length : Int)) = false›; simp at this; omega
  refine yN (I64 l t) l.length ⟨0, by omega, by omega, by simp -implicitDefEqProofs only [push_cast, sevalprocAttr, eq_self, e16], by simp -implicitDefEqProofs only [push_cast, sevalprocAttr, eq_self, e17], by simp -implicitDefEqProofs only [push_cast, sevalprocAttr, eq_self], by omega⟩ ?_
  rintro n ⟨env, h⟩ ⟨k, hk, rfl, e16, e17, e18, hall⟩
  simp only at e16 e17 e18
  have e0 : True := trivial; have e1 : True := trivial; have e3 : True := trivial; have e4 : True := trivial; have e5 : True := trivial; have e7 : True := trivial; have e19 : True := trivial
  unfold l64_0
  refine yI fun hF => ?_
  by_cases hlt : k < l.length
  · have hd : decide ((k : Int) < (l.length : Int)) = true := by simp; omega
    have hr := qJ hlt .i64
    have ho := hl _ (List.getElem_mem hlt)
    repeat' (first | ((try clear hf); with_reducible refine zM fun env K hE hK hf => ?_; have n : _ ∧ _ ∧ _ ∧ _ ∧ _ ∧ _ ∧ _ ∧ _ ∧ _ ∧ _ := ⟨hE 0, hE 1, hE 3, hE 4, hE 5, hE 7, hE 16, hE 17, hE 18, hE 19⟩; simp -implicitDefEqProofs only [push_cast, reduceIte, Nat.reduceEqDiff, e0, e1, e3, e4, e5, e7, e16, e17, e18, e19] at n; clear hE e0 e1 e3 e4 e5 e7 e16 e17 e18 e19; obtain ⟨e0, e1, e3, e4, e5, e7, e16, e17, e18, e19⟩ := n) | (with_reducible refine hK _ _ ?_; clear hK K) | (with_reducible first | refine zJ ?_ | refine zU ?_ | refine zB ?_ | refine zG ?_ | refine zE ?_ | refine zL ?_ | refine zT ?_ | refine zD ?_ | refine zH ?_ | refine zV ?_ | refine zF ?_ | refine zA (by decide) ?_ | refine zP ?_ | refine zO ?_ | refine zK ?_ | refine yB ?_ | refine yC ?_ | refine zW (by assumption) ?_ | refine zY (by assumption) ?_) | (refine zI rfl ?_) | (simp -implicitDefEqProofs only [push_cast, sevalprocAttr, eq_self, e0, e1, e3, e4, e5, e7, e16, e17, e18, e19, hd, hr, hF.at, op_0]) | (simp -implicitDefEqProofs (disch := omega) only [zR, zZ, zS, zQ, e0, e1, e3, e4, e5, e7, e16, e17, e18, e19, hd, hr, hF.at, op_0]) | (with_reducible refine yE ?_ ?_) | (refine zN rfl (fun bb => ?_) (fun bb => ?_) <;> simp only [bb]) | (with_reducible refine zX (fun bb => ?_) (fun bb => ?_)) | ((with_reducible refine And.intro ?_ ?_); omega) | (refine yD (f87' _ ho) ?_) | fail)
    all_goals first
      | (rw [errR_bad h1 h2 hlt (fun h => by (try clear hf); (try clear e0 e1 e3 e4 e5 e7 e16 e17 e18 e19); unfold opOK at h; simp only [decide_eq_true_eq, decide_eq_false_iff_not, Decidable.not_not] at *; omega)]; done)
      | skip
    refine ⟨l.length - (k + 1), by omega, k + 1, by omega, rfl, by simp -implicitDefEqProofs only [push_cast, sevalprocAttr, eq_self, e16], by simp -implicitDefEqProofs only [push_cast, sevalprocAttr, eq_self, e17], by simp -implicitDefEqProofs only [push_cast, sevalprocAttr, eq_self], fun j hj h => ?_⟩
    by_cases e : j < k
    · exact hall j e h
    · obtain rfl : j = k := by omega
      (try clear hf); (try clear e0 e1 e3 e4 e5 e7 e16 e17 e18 e19)
      unfold opOK
      simp only [decide_eq_true_eq, decide_eq_false_iff_not, Decidable.not_not] at *
      exact ⟨by omega, by omega, by assumption⟩
  · have hd : decide ((k : Int) < (l.length : Int)) = false := by simp; omega
    repeat' (first | ((try clear hf); with_reducible refine zM fun env K hE hK hf => ?_; have n : _ ∧ _ ∧ _ ∧ _ ∧ _ ∧ _ ∧ _ ∧ _ ∧ _ ∧ _ := ⟨hE 0, hE 1, hE 3, hE 4, hE 5, hE 7, hE 16, hE 17, hE 18, hE 19⟩; simp -implicitDefEqProofs only [push_cast, reduceIte, Nat.reduceEqDiff, e0, e1, e3, e4, e5, e7, e16, e17, e18, e19] at n; clear hE e0 e1 e3 e4 e5 e7 e16 e17 e18 e19; obtain ⟨e0, e1, e3, e4, e5, e7, e16, e17, e18, e19⟩ := n) | (with_reducible refine hK _ _ ?_; clear hK K) | (with_reducible first | refine zJ ?_ | refine zU ?_ | refine zB ?_ | refine zG ?_ | refine zE ?_ | refine zL ?_ | refine zT ?_ | refine zD ?_ | refine zH ?_ | refine zV ?_ | refine zF ?_ | refine zA (by decide) ?_ | refine zP ?_ | refine zO ?_ | refine zK ?_ | refine yB ?_ | refine yC ?_ | refine zW (by assumption) ?_ | refine zY (by assumption) ?_) | (refine zI rfl ?_) | (simp -implicitDefEqProofs only [push_cast, sevalprocAttr, eq_self, e0, e1, e3, e4, e5, e7, e16, e17, e18, e19, hd]) | (simp -implicitDefEqProofs (disch := omega) only [zR, zZ, zS, zQ, e0, e1, e3, e4, e5, e7, e16, e17, e18, e19, hd]) | (with_reducible refine yE ?_ ?_) | (refine zN rfl (fun bb => ?_) (fun bb => ?_) <;> simp only [bb]) | (with_reducible refine zX (fun bb => ?_) (fun bb => ?_)) | ((with_reducible refine And.intro ?_ ?_); omega) | fail)
    have hk' : k = l.length := by omega
    have : ∀ o ∈ l, opOK o := by
      intro o ho
      obtain ⟨j, hj, rfl⟩ := List.getElem_of_mem ho
      exact hall j (by omega) hj
    (try clear hf); (try clear e0 e1 e3 e4 e5 e7 e16 e17 e18 e19)
    simp only [errR, h1]
    rw [if_neg (by simp), if_neg (by omega), if_pos this]
end Go.Proofs.Hx

set_option linter.unusedVariables false
set_option linter.unusedSimpArgs false
namespace Go.Proofs.Hx
open Go Go.Proofs
attribute [local irreducible] yM awp opK goV goM yV yZ qF yQ HV HVF HC
def clsN (o : Opn) : Nat := (clsS o.k).1.toNat
theorem clsN_eq (o : Opn) : (clsS o.k).1 = (clsN o : Int) := by
  have : 0 ≤ (clsS o.k).1 := by unfold clsS; split <;> simp_all
  unfold clsN; omega
theorem shpT_cl3 (i : Nat) : (shpT i).cl ≤ 3 := by unfold shpT; split <;> decide
theorem clsN_lt (o : Opn) : clsN o < 4 := by
  have : (clsS o.k).1 ≤ 3 := by
    unfold clsS
    split
    · unfold ofS
      split
      · decide
      · exact shpT_cl3 _
    · decide
  unfold clsN; omega
def cntC (l : List Opn) (c : Nat) : Nat := (if c = 3 then 1 else 0) + (l.filter fun o => clsN o == c).length
theorem cntC_take {l : List Opn} {k : Nat} (hk : k < l.length) (c : Nat) : cntC (l.take (k + 1)) c = cntC (l.take k) c + (if c = clsN l[k] then 1 else 0) := by
  rw [List.take_succ_eq_append_getElem hk]
  simp only [cntC, List.filter_append, List.length_append, List.filter_cons, List.filter_nil]
  by_cases h : clsN l[k] = c
  · simp [h]; omega
  · have : ¬ c = clsN l[k] := fun e => h e.symm
    simp [h, this]
theorem cntC_le (l : List Opn) (c : Nat) : cntC l c ≤ l.length + 1 := by
  have := List.length_filter_le (fun o => clsN o == c) l
  unfold cntC; split <;> omega
def nC (n : Nat → Int) : List AV := [i64 (n 0), i64 (n 1), i64 (n 2), i64 (n 3)]
theorem nC_len (n : Nat → Int) : (nC n).length = 4 := rfl
theorem nC_take (n : Nat → Int) : (nC n).take 4 = nC n := rfl
theorem nC_one (n : Nat → Int) : (nC n).all one = true := rfl
theorem nC_imms (n : Nat → Int) : imms (nC n) = true := rfl
theorem nC_drop (n : Nat → Int) : (nC n).drop 4 = [] := rfl
attribute [push_cast] nC_len nC_take nC_one nC_imms nC_drop
theorem nC_at (n : Nat → Int) {c : Nat} (hc : c < 4) : (nC n)[c]? = some (i64 (n c)) := by
  match c, hc with
  | 0, _ | 1, _ | 2, _ | 3, _ => rfl
theorem nC_put (n : Nat → Int) {c : Nat} (hc : c < 4) (v : Int) : (nC n).take c ++ [i64 v] ++ (nC n).drop (c + 1) = nC fun d => if d = c then v else n d := by
  match c, hc with
  | 0, _ | 1, _ | 2, _ | 3, _ => rfl
theorem nC_congr {n m : Nat → Int} (h : ∀ c < 4, n c = m c) : nC n = nC m := by simp [nC, h]
def noU (l : List Opn) (t : Tab) : Prop := ∃ c < 4, 0 < cntC l c ∧ t.u c = 0
instance (l : List Opn) (t : Tab) : Decidable (noU l t) := by unfold noU; infer_instance
def preB (l : List Opn) (t : Tab) : Int := if tabE t ≠ 0 then tabE t else if 64 < l.length then 3 else errR l t
def errB (l : List Opn) (t : Tab) : Int := if preB l t ≠ 0 then preB l t else if noU l t then 21 else 0
def cntB (l : List Opn) (t : Tab) (c : Nat) : Int := if preB l t ≠ 0 then 0 else cntC l c
theorem yR (l : List Opn) : immss (l.map opC) = true := qI fun i x hx => by simp at hx; obtain ⟨o, _, rfl⟩ := hx; rfl
def I57a (l : List Opn) (t : Tab) (n : Nat) (σ : St) : Prop := ∃ k : Nat, k ≤ l.length ∧ n = l.length - k ∧ σ.env 3 = .ptr (2, 3) 0 ∧ σ.env 4 = .ptr (2, 4) 0 ∧ σ.env 32 = .row (l.map opC) ∧ σ.env 33 = i64 l.length ∧ σ.env 34 = i64 k ∧
  σ.h.hp (2, 3) = some ⟨true, tabC t⟩ ∧ σ.h.hp (2, 4) = some ⟨true, nC fun c => cntC (l.take k) c⟩
def I57b (l : List Opn) (t : Tab) (n : Nat) (σ : St) : Prop := ∃ c : Nat, c ≤ 4 ∧ n = 4 - c ∧ σ.env 3 = .ptr (2, 3) 0 ∧ σ.env 4 = .ptr (2, 4) 0 ∧ σ.env 50 = .agg (nC fun c => cntC l c) ∧ σ.env 51 = i64 c ∧
  σ.h.hp (2, 3) = some ⟨true, tabC t⟩ ∧ σ.h.hp (2, 4) = some ⟨true, nC fun c => cntC l c⟩ ∧ ∀ j < c, ¬ (0 < cntC l j ∧ t.u j = 0)
theorem f57 (l : List Opn) (t : Tab) (hl : ∀ o ∈ l, o.ok) : HV Try.prog 57 [.row (l.map opC), .agg (tabC t)] (.tup [.agg (nC (cntB l t)), i64 (errB l t)]) := by
  refine yJ yL cf57 (by simp) (by simp [imms, imm, yR, tab_imms]) ?_ (by simp [imm, imms, nC_imms])
  unfold ac57 re57
  refine yF fun env hE => ?_; have e0 := hE 0; have e1 := hE 1; have e3 := hE 3; have e4 := hE 4; have e5 := hE 5; have e6 := hE 6; have e7 := hE 7; have e9 := hE 9; have e10 := hE 10; have e12 := hE 12; have e13 := hE 13; have e32 := hE 32; have e33 := hE 33; have e34 := hE 34; have e35 := hE 35; have e50 := hE 50; have e51 := hE 51; have e52 := hE 52; simp -implicitDefEqProofs only [push_cast] at e0 e1 e3 e4 e5 e6 e7 e9 e10 e12 e13 e32 e33 e34 e35 e50 e51 e52; clear hE
  repeat' (first | ((try clear hf); with_reducible refine zM fun env K hE hK hf => ?_; have n : _ ∧ _ ∧ _ ∧ _ ∧ _ ∧ _ ∧ _ ∧ _ ∧ _ ∧ _ ∧ _ ∧ _ ∧ _ ∧ _ ∧ _ ∧ _ ∧ _ ∧ _ := ⟨hE 0, hE 1, hE 3, hE 4, hE 5, hE 6, hE 7, hE 9, hE 10, hE 12, hE 13, hE 32, hE 33, hE 34, hE 35, hE 50, hE 51, hE 52⟩; simp -implicitDefEqProofs only [push_cast, reduceIte, Nat.reduceEqDiff, e0, e1, e3, e4, e5, e6, e7, e9, e10, e12, e13, e32, e33, e34, e35, e50, e51, e52] at n; clear hE e0 e1 e3 e4 e5 e6 e7 e9 e10 e12 e13 e32 e33 e34 e35 e50 e51 e52; obtain ⟨e0, e1, e3, e4, e5, e6, e7, e9, e10, e12, e13, e32, e33, e34, e35, e50, e51, e52⟩ := n) | (with_reducible refine hK _ _ ?_; clear hK K) | (with_reducible first | refine zJ ?_ | refine zU ?_ | refine zB ?_ | refine zG ?_ | refine zE ?_ | refine zL ?_ | refine zT ?_ | refine zD ?_ | refine zH ?_ | refine zV ?_ | refine zF ?_ | refine zA (by decide) ?_ | refine zP ?_ | refine zO ?_ | refine zK ?_ | refine yB ?_ | refine yC ?_ | refine zW (by assumption) ?_ | refine zY (by assumption) ?_) | (refine zI rfl ?_) | (simp -implicitDefEqProofs only [push_cast, sevalprocAttr, eq_self, e0, e1, e3, e4, e5, e6, e7, e9, e10, e12, e13, e32, e33, e34, e35, e50, e51, e52, yK]) | (simp -implicitDefEqProofs (disch := omega) only [zR, zZ, zS, zQ, e0, e1, e3, e4, e5, e6, e7, e9, e10, e12, e13, e32, e33, e34, e35, e50, e51, e52, yK]) | (with_reducible refine yE ?_ ?_) | (refine zN rfl (fun bb => ?_) (fun bb => ?_) <;> simp only [bb]) | (with_reducible refine zX (fun bb => ?_) (fun bb => ?_)) | ((with_reducible refine And.intro ?_ ?_); omega) | (refine yD (f42 t) ?_) | (refine yD (f64 l t hl) ?_) | fail)
  · have g1 : tabE t ≠ 0 := by have := ‹(decide ¬tabE t = 0) = true›; simpa using this
    have g2 : preB l t = tabE t := by simp [preB, g1]
    (try clear hf); (try clear e0 e1 e3 e4 e5 e6 e7 e9 e10 e12 e13 e32 e33 e34 e35 e50 e51 e52); simp [errB, cntB, g2, g1, nC]
  · have g1 : tabE t = 0 := by have := ‹(decide ¬tabE t = 0) = false›; simpa using this
    have g0 : 64 < l.length := by have := ‹decide (64 < (l.length : Int)) = true›; simp at this; omega
    have g2 : preB l t = 3 := by simp [preB, g1, g0]
    (try clear hf); (try clear e0 e1 e3 e4 e5 e6 e7 e9 e10 e12 e13 e32 e33 e34 e35 e50 e51 e52); simp [errB, cntB, g2, nC]
  · have g1 : tabE t = 0 := by have := ‹(decide ¬tabE t = 0) = false›; simpa using this
    have g0 : ¬ 64 < l.length := by have := ‹decide (64 < (l.length : Int)) = false›; simp at this; omega
    have g3 : errR l t ≠ 0 := by have := ‹(decide ¬errR l t = 0) = true›; simpa using this
    have g2 : preB l t = errR l t := by simp [preB, g1, g0]
    (try clear hf); (try clear e0 e1 e3 e4 e5 e6 e7 e9 e10 e12 e13 e32 e33 e34 e35 e50 e51 e52); simp [errB, cntB, g2, nC, g3]
  have g1 : tabE t = 0 := by have := ‹(decide ¬tabE t = 0) = false›; simpa using this
  have g0 : ¬ 64 < l.length := by have := ‹decide (64 < (l.length : Int)) = false›; simp at this; omega
  have g3 : errR l t = 0 := by have := ‹(decide ¬errR l t = 0) = false›; simpa using this
  have g2 : preB l t = 0 := by simp [preB, g1, g0, g3]
  refine yN (I57a l t) l.length ⟨0, by omega, by omega, by simp -implicitDefEqProofs only [push_cast, sevalprocAttr, eq_self, e3], by simp -implicitDefEqProofs only [push_cast, sevalprocAttr, eq_self, e4], by simp -implicitDefEqProofs only [push_cast, sevalprocAttr, eq_self, e32], by simp -implicitDefEqProofs only [push_cast, sevalprocAttr, eq_self, e33], by simp -implicitDefEqProofs only [push_cast, sevalprocAttr, eq_self], by simp -implicitDefEqProofs only [push_cast, sevalprocAttr, eq_self], by simp -implicitDefEqProofs only [push_cast, sevalprocAttr, eq_self]; rfl⟩ ?_
  rintro n ⟨env, h⟩ ⟨k, hk, rfl, e3, e4, e32, e33, e34, hb3, hb4⟩
  simp only at e3 e4 e32 e33 e34 hb3 hb4
  have e0 : True := trivial; have e1 : True := trivial; have e5 : True := trivial; have e6 : True := trivial; have e7 : True := trivial; have e9 : True := trivial; have e10 : True := trivial; have e12 : True := trivial; have e13 : True := trivial; have e35 : True := trivial; have e50 : True := trivial; have e51 : True := trivial; have e52 : True := trivial
  unfold l57_0
  refine yI fun hF => ?_
  by_cases hlt : k < l.length
  · have hd : decide ((k : Int) < (l.length : Int)) = true := by simp; omega
    have hr := qJ hlt .i64
    have hc := clsN_eq l[k]
    have hc4 := clsN_lt l[k]
    have hn := nC_at (fun c => (cntC (l.take k) c : Int)) hc4
    have hle := cntC_le (l.take k) (clsN l[k])
    rw [List.length_take] at hle
    repeat' (first | ((try clear hf); with_reducible refine zM fun env K hE hK hf => ?_; have n : _ ∧ _ ∧ _ ∧ _ ∧ _ ∧ _ ∧ _ ∧ _ ∧ _ ∧ _ ∧ _ ∧ _ ∧ _ ∧ _ ∧ _ ∧ _ ∧ _ ∧ _ := ⟨hE 0, hE 1, hE 3, hE 4, hE 5, hE 6, hE 7, hE 9, hE 10, hE 12, hE 13, hE 32, hE 33, hE 34, hE 35, hE 50, hE 51, hE 52⟩; simp -implicitDefEqProofs only [push_cast, reduceIte, Nat.reduceEqDiff, e0, e1, e3, e4, e5, e6, e7, e9, e10, e12, e13, e32, e33, e34, e35, e50, e51, e52] at n; clear hE e0 e1 e3 e4 e5 e6 e7 e9 e10 e12 e13 e32 e33 e34 e35 e50 e51 e52; obtain ⟨e0, e1, e3, e4, e5, e6, e7, e9, e10, e12, e13, e32, e33, e34, e35, e50, e51, e52⟩ := n) | (with_reducible refine hK _ _ ?_; clear hK K) | (with_reducible first | refine zJ ?_ | refine zU ?_ | refine zB ?_ | refine zG ?_ | refine zE ?_ | refine zL ?_ | refine zT ?_ | refine zD ?_ | refine zH ?_ | refine zV ?_ | refine zF ?_ | refine zA (by decide) ?_ | refine zP ?_ | refine zO ?_ | refine zK ?_ | refine yB ?_ | refine yC ?_ | refine zW (by assumption) ?_ | refine zY (by assumption) ?_) | (refine zI rfl ?_) | (simp -implicitDefEqProofs only [push_cast, sevalprocAttr, eq_self, e0, e1, e3, e4, e5, e6, e7, e9, e10, e12, e13, e32, e33, e34, e35, e50, e51, e52, hd, hr, hF.at, op_0, hc, hb3, hb4, hn]) | (simp -implicitDefEqProofs (disch := omega) only [zR, zZ, zS, zQ, e0, e1, e3, e4, e5, e6, e7, e9, e10, e12, e13, e32, e33, e34, e35, e50, e51, e52, hd, hr, hF.at, op_0, hc, hb3, hb4, hn]) | (with_reducible refine yE ?_ ?_) | (refine zN rfl (fun bb => ?_) (fun bb => ?_) <;> simp only [bb]) | (with_reducible refine zX (fun bb => ?_) (fun bb => ?_)) | ((with_reducible refine And.intro ?_ ?_); omega) | (refine yD (f41 _) ?_) | fail)
    have hp := (nC_put (fun c => (cntC (l.take k) c : Int)) hc4 ((cntC (l.take k) (clsN l[k]) : Int) + 1)).trans (nC_congr (m := fun c => (cntC (l.take (k + 1)) c : Int)) fun c _ => by
      simp only [cntC_take hlt]; split <;> simp [*])
    refine ⟨l.length - (k + 1), by omega, k + 1, by omega, rfl, by simp -implicitDefEqProofs only [push_cast, sevalprocAttr, eq_self, e3], by simp -implicitDefEqProofs only [push_cast, sevalprocAttr, eq_self, e4], by simp -implicitDefEqProofs only [push_cast, sevalprocAttr, eq_self, e32], by simp -implicitDefEqProofs only [push_cast, sevalprocAttr, eq_self, e33], by simp -implicitDefEqProofs only [push_cast, sevalprocAttr, eq_self], by simp -implicitDefEqProofs only [push_cast, sevalprocAttr, eq_self, hb3], by simp -implicitDefEqProofs only [push_cast, sevalprocAttr, eq_self, hp]⟩
  · have hd : decide ((k : Int) < (l.length : Int)) = false := by simp; omega
    obtain rfl : k = l.length := by omega
    rw [List.take_length] at hb4
    repeat' (first | ((try clear hf); with_reducible refine zM fun env K hE hK hf => ?_; have n : _ ∧ _ ∧ _ ∧ _ ∧ _ ∧ _ ∧ _ ∧ _ ∧ _ ∧ _ ∧ _ ∧ _ ∧ _ ∧ _ ∧ _ ∧ _ ∧ _ ∧ _ := ⟨hE 0, hE 1, hE 3, hE 4, hE 5, hE 6, hE 7, hE 9, hE 10, hE 12, hE 13, hE 32, hE 33, hE 34, hE 35, hE 50, hE 51, hE 52⟩; simp -implicitDefEqProofs only [push_cast, reduceIte, Nat.reduceEqDiff, e0, e1, e3, e4, e5, e6, e7, e9, e10, e12, e13, e32, e33, e34, e35, e50, e51, e52] at n; clear hE e0 e1 e3 e4 e5 e6 e7 e9 e10 e12 e13 e32 e33 e34 e35 e50 e51 e52; obtain ⟨e0, e1, e3, e4, e5, e6, e7, e9, e10, e12, e13, e32, e33, e34, e35, e50, e51, e52⟩ := n) | (with_reducible refine hK _ _ ?_; clear hK K) | (with_reducible first | refine zJ ?_ | refine zU ?_ | refine zB ?_ | refine zG ?_ | refine zE ?_ | refine zL ?_ | refine zT ?_ | refine zD ?_ | refine zH ?_ | refine zV ?_ | refine zF ?_ | refine zA (by decide) ?_ | refine zP ?_ | refine zO ?_ | refine zK ?_ | refine yB ?_ | refine yC ?_ | refine zW (by assumption) ?_ | refine zY (by assumption) ?_) | (refine zI rfl ?_) | (simp -implicitDefEqProofs only [push_cast, sevalprocAttr, eq_self, e0, e1, e3, e4, e5, e6, e7, e9, e10, e12, e13, e32, e33, e34, e35, e50, e51, e52, hd, hb3, hb4]) | (simp -implicitDefEqProofs (disch := omega) only [zR, zZ, zS, zQ, e0, e1, e3, e4, e5, e6, e7, e9, e10, e12, e13, e32, e33, e34, e35, e50, e51, e52, hd, hb3, hb4]) | (with_reducible refine yE ?_ ?_) | (refine zN rfl (fun bb => ?_) (fun bb => ?_) <;> simp only [bb]) | (with_reducible refine zX (fun bb => ?_) (fun bb => ?_)) | ((with_reducible refine And.intro ?_ ?_); omega) | fail)
    refine yN (I57b l t) 4 ⟨0, by omega, by omega, by simp -implicitDefEqProofs only [push_cast, sevalprocAttr, eq_self, e3], by simp -implicitDefEqProofs only [push_cast, sevalprocAttr, eq_self, e4], by simp -implicitDefEqProofs only [push_cast, sevalprocAttr, eq_self], by simp -implicitDefEqProofs only [push_cast, sevalprocAttr, eq_self], by simp -implicitDefEqProofs only [push_cast, sevalprocAttr, eq_self, hb3], by simp -implicitDefEqProofs only [push_cast, sevalprocAttr, eq_self, hb4], by omega⟩ ?_
    clear hb3 hb4 hF
    rintro n ⟨env, h⟩ ⟨c, hc4, rfl, e3, e4, e50, e51, hb3, hb4, hall⟩
    simp only at e3 e4 e50 e51 hb3 hb4
    have e0 : True := trivial; have e1 : True := trivial; have e5 : True := trivial; have e6 : True := trivial; have e7 : True := trivial; have e9 : True := trivial; have e10 : True := trivial; have e12 : True := trivial; have e13 : True := trivial; have e32 : True := trivial; have e33 : True := trivial; have e34 : True := trivial; have e35 : True := trivial; have e52 : True := trivial
    unfold l57_1
    refine yI fun hF => ?_
    by_cases hc : c < 4
    · have hd2 : decide ((c : Int) < 4) = true := by simp; omega
      have hn := nC_at (fun c => (cntC l c : Int)) hc
      have hx := tab_u t hc
      repeat' (first | ((try clear hf); with_reducible refine zM fun env K hE hK hf => ?_; have n : _ ∧ _ ∧ _ ∧ _ ∧ _ ∧ _ ∧ _ ∧ _ ∧ _ ∧ _ ∧ _ ∧ _ ∧ _ ∧ _ ∧ _ ∧ _ ∧ _ ∧ _ := ⟨hE 0, hE 1, hE 3, hE 4, hE 5, hE 6, hE 7, hE 9, hE 10, hE 12, hE 13, hE 32, hE 33, hE 34, hE 35, hE 50, hE 51, hE 52⟩; simp -implicitDefEqProofs only [push_cast, reduceIte, Nat.reduceEqDiff, e0, e1, e3, e4, e5, e6, e7, e9, e10, e12, e13, e32, e33, e34, e35, e50, e51, e52] at n; clear hE e0 e1 e3 e4 e5 e6 e7 e9 e10 e12 e13 e32 e33 e34 e35 e50 e51 e52; obtain ⟨e0, e1, e3, e4, e5, e6, e7, e9, e10, e12, e13, e32, e33, e34, e35, e50, e51, e52⟩ := n) | (with_reducible refine hK _ _ ?_; clear hK K) | (with_reducible first | refine zJ ?_ | refine zU ?_ | refine zB ?_ | refine zG ?_ | refine zE ?_ | refine zL ?_ | refine zT ?_ | refine zD ?_ | refine zH ?_ | refine zV ?_ | refine zF ?_ | refine zA (by decide) ?_ | refine zP ?_ | refine zO ?_ | refine zK ?_ | refine yB ?_ | refine yC ?_ | refine zW (by assumption) ?_ | refine zY (by assumption) ?_) | (refine zI rfl ?_) | (simp -implicitDefEqProofs only [push_cast, sevalprocAttr, eq_self, e0, e1, e3, e4, e5, e6, e7, e9, e10, e12, e13, e32, e33, e34, e35, e50, e51, e52, hd2, hb3, hb4, hn, hx]) | (simp -implicitDefEqProofs (disch := omega) only [zR, zZ, zS, zQ, e0, e1, e3, e4, e5, e6, e7, e9, e10, e12, e13, e32, e33, e34, e35, e50, e51, e52, hd2, hb3, hb4, hn, hx]) | (with_reducible refine yE ?_ ?_) | (refine zN rfl (fun bb => ?_) (fun bb => ?_) <;> simp only [bb]) | (with_reducible refine zX (fun bb => ?_) (fun bb => ?_)) | ((with_reducible refine And.intro ?_ ?_); omega) | fail)
      · have hno : noU l t := ⟨c, hc, by (try clear hf); (try clear e0 e1 e3 e4 e5 e6 e7 e9 e10 e12 e13 e32 e33 e34 e35 e50 e51 e52); simp only [decide_eq_true_eq, Int.natCast_pos] at *; assumption, by (try clear hf); (try clear e0 e1 e3 e4 e5 e6 e7 e9 e10 e12 e13 e32 e33 e34 e35 e50 e51 e52); simp only [decide_eq_true_eq] at *; assumption⟩
        have ha : nC (cntB l t) = nC fun c => (cntC l c : Int) := nC_congr fun c _ => by simp [cntB, g2]
        have hb : errB l t = 21 := by simp [errB, g2, hno]
        rw [ha, hb]
      all_goals
        refine ⟨4 - (c + 1), by omega, c + 1, by omega, rfl, by simp -implicitDefEqProofs only [push_cast, sevalprocAttr, eq_self, e3], by simp -implicitDefEqProofs only [push_cast, sevalprocAttr, eq_self, e4], by simp -implicitDefEqProofs only [push_cast, sevalprocAttr, eq_self, e50], by simp -implicitDefEqProofs only [push_cast, sevalprocAttr, eq_self], by simp -implicitDefEqProofs only [push_cast, sevalprocAttr, eq_self, hb3], by simp -implicitDefEqProofs only [push_cast, sevalprocAttr, eq_self, hb4], fun j hj => ?_⟩
        by_cases e : j < c
        · exact hall j e
        · obtain rfl : j = c := by omega
          (try clear hf); (try clear e0 e1 e3 e4 e5 e6 e7 e9 e10 e12 e13 e32 e33 e34 e35 e50 e51 e52)
          simp only [decide_eq_true_eq, decide_eq_false_iff_not] at *
          omega
    · have hd2 : decide ((c : Int) < 4) = false := by simp; omega
      repeat' (first | ((try clear hf); with_reducible refine zM fun env K hE hK hf => ?_; have n : _ ∧ _ ∧ _ ∧ _ ∧ _ ∧ _ ∧ _ ∧ _ ∧ _ ∧ _ ∧ _ ∧ _ ∧ _ ∧ _ ∧ _ ∧ _ ∧ _ ∧ _ := ⟨hE 0, hE 1, hE 3, hE 4, hE 5, hE 6, hE 7, hE 9, hE 10, hE 12, hE 13, hE 32, hE 33, hE 34, hE 35, hE 50, hE 51, hE 52⟩; simp -implicitDefEqProofs only [push_cast, reduceIte, Nat.reduceEqDiff, e0, e1, e3, e4, e5, e6, e7, e9, e10, e12, e13, e32, e33, e34, e35, e50, e51, e52] at n; clear hE e0 e1 e3 e4 e5 e6 e7 e9 e10 e12 e13 e32 e33 e34 e35 e50 e51 e52; obtain ⟨e0, e1, e3, e4, e5, e6, e7, e9, e10, e12, e13, e32, e33, e34, e35, e50, e51, e52⟩ := n) | (with_reducible refine hK _ _ ?_; clear hK K) | (with_reducible first | refine zJ ?_ | refine zU ?_ | refine zB ?_ | refine zG ?_ | refine zE ?_ | refine zL ?_ | refine zT ?_ | refine zD ?_ | refine zH ?_ | refine zV ?_ | refine zF ?_ | refine zA (by decide) ?_ | refine zP ?_ | refine zO ?_ | refine zK ?_ | refine yB ?_ | refine yC ?_ | refine zW (by assumption) ?_ | refine zY (by assumption) ?_) | (refine zI rfl ?_) | (simp -implicitDefEqProofs only [push_cast, sevalprocAttr, eq_self, e0, e1, e3, e4, e5, e6, e7, e9, e10, e12, e13, e32, e33, e34, e35, e50, e51, e52, hd2, hb3, hb4]) | (simp -implicitDefEqProofs (disch := omega) only [zR, zZ, zS, zQ, e0, e1, e3, e4, e5, e6, e7, e9, e10, e12, e13, e32, e33, e34, e35, e50, e51, e52, hd2, hb3, hb4]) | (with_reducible refine yE ?_ ?_) | (refine zN rfl (fun bb => ?_) (fun bb => ?_) <;> simp only [bb]) | (with_reducible refine zX (fun bb => ?_) (fun bb => ?_)) | ((with_reducible refine And.intro ?_ ?_); omega) | fail)
      have hno : ¬ noU l t := fun ⟨j, h4, hj⟩ => hall j (by omega) hj
      have ha : nC (cntB l t) = nC fun c => (cntC l c : Int) := nC_congr fun c _ => by simp [cntB, g2]
      have hb : errB l t = 0 := by simp [errB, g2, hno]
      rw [ha, hb]
theorem errB_ok {l : List Opn} {t : Tab} (h : errB l t = 0) : preB l t = 0 ∧ ¬ noU l t := by
  unfold errB at h
  split at h
  · exact absurd h (by assumption)
  · rename_i h1
    split at h
    · cases h
    · exact ⟨by simpa using h1, by assumption⟩
theorem tabE_zero {t : Tab} (h : tabE t = 0) : qM t := by
  unfold tabE at h
  split at h
  · assumption
  · cases h
theorem preB_ok {l : List Opn} {t : Tab} (h : preB l t = 0) : qM t ∧ l.length ≤ 64 := by
  unfold preB at h
  split at h
  · exact absurd h (by assumption)
  · rename_i h1
    split at h
    · cases h
    · exact ⟨tabE_zero (by simpa using h1), by omega⟩
theorem qR (k k' : IntKind) (a b : Int) : maxV [.lit (.int k a), .lit (.int k' b)] = some (.lit (.int k (if b > a then b else a))) := rfl
/-- How many cycles the units need. -/
def needU (t : Tab) (k : Nat) (c : Nat) : Int := ((k : Int) * t.b c + t.u c - 1).tdiv (t.u c)
def mostU (l : List Opn) (t : Tab) : Nat → Int
  | 0 => 0
  | c + 1 => if 0 < cntC l c then (if needU t (cntC l c) c > mostU l t c then needU t (cntC l c) c else mostU l t c) else mostU l t c
def unitsS (l : List Opn) (t : Tab) : Int × Int := if errB l t ≠ 0 then (0, errB l t) else (mostU l t 4, 0)
def I20 (l : List Opn) (t : Tab) (n : Nat) (σ : St) : Prop := ∃ c : Nat, c ≤ 4 ∧ n = 4 - c ∧ σ.env 3 = .ptr (2, 3) 0 ∧ σ.env 8 = i64 (mostU l t c) ∧ σ.env 20 = .agg (nC fun c => cntC l c) ∧ σ.env 21 = i64 c ∧ σ.h.hp (2, 3) = some ⟨true, tabC t⟩
theorem f20 (l : List Opn) (t : Tab) (hl : ∀ o ∈ l, o.ok) : HV Try.prog 20 [.row (l.map opC), .agg (tabC t)] (.tup [i64 (unitsS l t).1, i64 (unitsS l t).2]) := by
  refine yJ yL cf20 (by simp) (by simp [imms, imm, yR, tab_imms]) ?_ (by simp [imm, imms])
  unfold ac20 re20
  refine yF fun env hE => ?_; have e0 := hE 0; have e1 := hE 1; have e3 := hE 3; have e4 := hE 4; have e5 := hE 5; have e6 := hE 6; have e7 := hE 7; have e8 := hE 8; have e9 := hE 9; have e10 := hE 10; have e20 := hE 20; have e21 := hE 21; have e22 := hE 22; simp -implicitDefEqProofs only [push_cast] at e0 e1 e3 e4 e5 e6 e7 e8 e9 e10 e20 e21 e22; clear hE
  repeat' (first | ((try clear hf); with_reducible refine zM fun env K hE hK hf => ?_; have n : _ ∧ _ ∧ _ ∧ _ ∧ _ ∧ _ ∧ _ ∧ _ ∧ _ ∧ _ ∧ _ ∧ _ ∧ _ := ⟨hE 0, hE 1, hE 3, hE 4, hE 5, hE 6, hE 7, hE 8, hE 9, hE 10, hE 20, hE 21, hE 22⟩; simp -implicitDefEqProofs only [push_cast, reduceIte, Nat.reduceEqDiff, e0, e1, e3, e4, e5, e6, e7, e8, e9, e10, e20, e21, e22] at n; clear hE e0 e1 e3 e4 e5 e6 e7 e8 e9 e10 e20 e21 e22; obtain ⟨e0, e1, e3, e4, e5, e6, e7, e8, e9, e10, e20, e21, e22⟩ := n) | (with_reducible refine hK _ _ ?_; clear hK K) | (with_reducible first | refine zJ ?_ | refine zU ?_ | refine zB ?_ | refine zG ?_ | refine zE ?_ | refine zL ?_ | refine zT ?_ | refine zD ?_ | refine zH ?_ | refine zV ?_ | refine zF ?_ | refine zA (by decide) ?_ | refine zP ?_ | refine zO ?_ | refine zK ?_ | refine yB ?_ | refine yC ?_ | refine zW (by assumption) ?_ | refine zY (by assumption) ?_) | (refine zI rfl ?_) | (simp -implicitDefEqProofs only [push_cast, sevalprocAttr, eq_self, e0, e1, e3, e4, e5, e6, e7, e8, e9, e10, e20, e21, e22]) | (simp -implicitDefEqProofs (disch := omega) only [zR, zZ, zS, zQ, e0, e1, e3, e4, e5, e6, e7, e8, e9, e10, e20, e21, e22]) | (with_reducible refine yE ?_ ?_) | (refine zN rfl (fun bb => ?_) (fun bb => ?_) <;> simp only [bb]) | (with_reducible refine zX (fun bb => ?_) (fun bb => ?_)) | ((with_reducible refine And.intro ?_ ?_); omega) | (refine yD (f57 l t hl) ?_) | fail)
  · have g : errB l t ≠ 0 := by have := ‹(decide ¬errB l t = 0) = true›; simpa using this
    (try clear hf); (try clear e0 e1 e3 e4 e5 e6 e7 e8 e9 e10 e20 e21 e22); simp [unitsS, g]
  have g : errB l t = 0 := by have := ‹(decide ¬errB l t = 0) = false›; simpa using this
  obtain ⟨g2, g4⟩ := errB_ok g
  obtain ⟨g1, g0⟩ := preB_ok g2
  have ha : nC (cntB l t) = nC fun c => (cntC l c : Int) := nC_congr fun c _ => by simp [cntB, g2]
  rw [ha]
  refine yN (I20 l t) 4 ⟨0, by omega, by omega, by simp -implicitDefEqProofs only [push_cast, sevalprocAttr, eq_self, e3], by simp -implicitDefEqProofs only [push_cast, sevalprocAttr, eq_self, e8]; rfl, by simp -implicitDefEqProofs only [push_cast, sevalprocAttr, eq_self], by simp -implicitDefEqProofs only [push_cast, sevalprocAttr, eq_self], by simp -implicitDefEqProofs only [push_cast, sevalprocAttr, eq_self]⟩ ?_
  rintro n ⟨env, h⟩ ⟨c, hc4, rfl, e3, e8, e20, e21, hb3⟩
  simp only at e3 e8 e20 e21 hb3
  have e0 : True := trivial; have e1 : True := trivial; have e4 : True := trivial; have e5 : True := trivial; have e6 : True := trivial; have e7 : True := trivial; have e9 : True := trivial; have e10 : True := trivial; have e22 : True := trivial
  unfold l20_0
  refine yI fun hF => ?_
  by_cases hc : c < 4
  · have hd2 : decide ((c : Int) < 4) = true := by simp; omega
    have hn := nC_at (fun c => (cntC l c : Int)) hc
    have hx := tab_u t hc
    have hy := tab_b t hc
    by_cases hz : 0 < cntC l c
    · have hz2 : decide (0 < (cntC l c : Int)) = true := by simp; omega
      obtain ⟨t1, t2, _, _, t5, t6⟩ := g1.1 c hc
      have hu : 0 < t.u c := by
        rcases Int.lt_or_eq_of_le t1 with h | h
        · exact h
        · exact absurd ⟨c, hc, hz, h.symm⟩ g4
      have hle := cntC_le l c
      obtain ⟨m1, m2⟩ : 0 ≤ (cntC l c : Int) * t.b c ∧ (cntC l c : Int) * t.b c ≤ 65 * 4 :=
        ⟨Int.mul_nonneg (by omega) (by omega), Int.mul_le_mul (by omega) (by omega) (by omega) (by omega)⟩
      have hq : IntKind.wrap .i64 (((cntC l c : Int) * t.b c + t.u c - 1).tdiv (t.u c)) = needU t (cntC l c) c := by
        unfold needU
        rw [Int.tdiv_eq_ediv_of_nonneg (by omega)]
        have k1 : 0 ≤ ((cntC l c : Int) * t.b c + t.u c - 1) / t.u c := Int.ediv_nonneg (by omega) (by omega)
        have k2 : ((cntC l c : Int) * t.b c + t.u c - 1) / t.u c ≤ (cntC l c : Int) * t.b c + t.u c - 1 := Int.ediv_le_self _ (by omega)
        exact wrap64 (by omega) (by omega)
      repeat' (first | ((try clear hf); with_reducible refine zM fun env K hE hK hf => ?_; have n : _ ∧ _ ∧ _ ∧ _ ∧ _ ∧ _ ∧ _ ∧ _ ∧ _ ∧ _ ∧ _ ∧ _ ∧ _ := ⟨hE 0, hE 1, hE 3, hE 4, hE 5, hE 6, hE 7, hE 8, hE 9, hE 10, hE 20, hE 21, hE 22⟩; simp -implicitDefEqProofs only [push_cast, reduceIte, Nat.reduceEqDiff, e0, e1, e3, e4, e5, e6, e7, e8, e9, e10, e20, e21, e22] at n; clear hE e0 e1 e3 e4 e5 e6 e7 e8 e9 e10 e20 e21 e22; obtain ⟨e0, e1, e3, e4, e5, e6, e7, e8, e9, e10, e20, e21, e22⟩ := n) | (with_reducible refine hK _ _ ?_; clear hK K) | (with_reducible first | refine zJ ?_ | refine zU ?_ | refine zB ?_ | refine zG ?_ | refine zE ?_ | refine zL ?_ | refine zT ?_ | refine zD ?_ | refine zH ?_ | refine zV ?_ | refine zF ?_ | refine zA (by decide) ?_ | refine zP ?_ | refine zO ?_ | refine zK ?_ | refine yB ?_ | refine yC ?_ | refine zW (by assumption) ?_ | refine zY (by assumption) ?_) | (refine zI rfl ?_) | (simp -implicitDefEqProofs only [push_cast, sevalprocAttr, eq_self, e0, e1, e3, e4, e5, e6, e7, e8, e9, e10, e20, e21, e22, hd2, hb3, hn, hx, hy, hz2, hq, qR]) | (simp -implicitDefEqProofs (disch := omega) only [zR, zZ, zS, zQ, e0, e1, e3, e4, e5, e6, e7, e8, e9, e10, e20, e21, e22, hd2, hb3, hn, hx, hy, hz2, hq, qR]) | (with_reducible refine yE ?_ ?_) | (refine zN rfl (fun bb => ?_) (fun bb => ?_) <;> simp only [bb]) | (with_reducible refine zX (fun bb => ?_) (fun bb => ?_)) | ((with_reducible refine And.intro ?_ ?_); omega) | fail)
      refine ⟨4 - (c + 1), by omega, c + 1, by omega, rfl, by simp -implicitDefEqProofs only [push_cast, sevalprocAttr, eq_self, e3], ?_, by simp -implicitDefEqProofs only [push_cast, sevalprocAttr, eq_self, e20], by simp -implicitDefEqProofs only [push_cast, sevalprocAttr, eq_self], by simp -implicitDefEqProofs only [push_cast, sevalprocAttr, eq_self, hb3]⟩
      simp -implicitDefEqProofs only [push_cast, sevalprocAttr, eq_self, e8]
      simp only [mostU, if_pos hz]
    · have hz2 : decide (0 < (cntC l c : Int)) = false := by simp; omega
      repeat' (first | ((try clear hf); with_reducible refine zM fun env K hE hK hf => ?_; have n : _ ∧ _ ∧ _ ∧ _ ∧ _ ∧ _ ∧ _ ∧ _ ∧ _ ∧ _ ∧ _ ∧ _ ∧ _ := ⟨hE 0, hE 1, hE 3, hE 4, hE 5, hE 6, hE 7, hE 8, hE 9, hE 10, hE 20, hE 21, hE 22⟩; simp -implicitDefEqProofs only [push_cast, reduceIte, Nat.reduceEqDiff, e0, e1, e3, e4, e5, e6, e7, e8, e9, e10, e20, e21, e22] at n; clear hE e0 e1 e3 e4 e5 e6 e7 e8 e9 e10 e20 e21 e22; obtain ⟨e0, e1, e3, e4, e5, e6, e7, e8, e9, e10, e20, e21, e22⟩ := n) | (with_reducible refine hK _ _ ?_; clear hK K) | (with_reducible first | refine zJ ?_ | refine zU ?_ | refine zB ?_ | refine zG ?_ | refine zE ?_ | refine zL ?_ | refine zT ?_ | refine zD ?_ | refine zH ?_ | refine zV ?_ | refine zF ?_ | refine zA (by decide) ?_ | refine zP ?_ | refine zO ?_ | refine zK ?_ | refine yB ?_ | refine yC ?_ | refine zW (by assumption) ?_ | refine zY (by assumption) ?_) | (refine zI rfl ?_) | (simp -implicitDefEqProofs only [push_cast, sevalprocAttr, eq_self, e0, e1, e3, e4, e5, e6, e7, e8, e9, e10, e20, e21, e22, hd2, hb3, hn, hx, hy, hz2]) | (simp -implicitDefEqProofs (disch := omega) only [zR, zZ, zS, zQ, e0, e1, e3, e4, e5, e6, e7, e8, e9, e10, e20, e21, e22, hd2, hb3, hn, hx, hy, hz2]) | (with_reducible refine yE ?_ ?_) | (refine zN rfl (fun bb => ?_) (fun bb => ?_) <;> simp only [bb]) | (with_reducible refine zX (fun bb => ?_) (fun bb => ?_)) | ((with_reducible refine And.intro ?_ ?_); omega) | fail)
      refine ⟨4 - (c + 1), by omega, c + 1, by omega, rfl, by simp -implicitDefEqProofs only [push_cast, sevalprocAttr, eq_self, e3], ?_, by simp -implicitDefEqProofs only [push_cast, sevalprocAttr, eq_self, e20], by simp -implicitDefEqProofs only [push_cast, sevalprocAttr, eq_self], by simp -implicitDefEqProofs only [push_cast, sevalprocAttr, eq_self, hb3]⟩
      simp -implicitDefEqProofs only [push_cast, sevalprocAttr, eq_self, e8]
      simp only [mostU, if_neg hz]
  · have hd2 : decide ((c : Int) < 4) = false := by simp; omega
    repeat' (first | ((try clear hf); with_reducible refine zM fun env K hE hK hf => ?_; have n : _ ∧ _ ∧ _ ∧ _ ∧ _ ∧ _ ∧ _ ∧ _ ∧ _ ∧ _ ∧ _ ∧ _ ∧ _ := ⟨hE 0, hE 1, hE 3, hE 4, hE 5, hE 6, hE 7, hE 8, hE 9, hE 10, hE 20, hE 21, hE 22⟩; simp -implicitDefEqProofs only [push_cast, reduceIte, Nat.reduceEqDiff, e0, e1, e3, e4, e5, e6, e7, e8, e9, e10, e20, e21, e22] at n; clear hE e0 e1 e3 e4 e5 e6 e7 e8 e9 e10 e20 e21 e22; obtain ⟨e0, e1, e3, e4, e5, e6, e7, e8, e9, e10, e20, e21, e22⟩ := n) | (with_reducible refine hK _ _ ?_; clear hK K) | (with_reducible first | refine zJ ?_ | refine zU ?_ | refine zB ?_ | refine zG ?_ | refine zE ?_ | refine zL ?_ | refine zT ?_ | refine zD ?_ | refine zH ?_ | refine zV ?_ | refine zF ?_ | refine zA (by decide) ?_ | refine zP ?_ | refine zO ?_ | refine zK ?_ | refine yB ?_ | refine yC ?_ | refine zW (by assumption) ?_ | refine zY (by assumption) ?_) | (refine zI rfl ?_) | (simp -implicitDefEqProofs only [push_cast, sevalprocAttr, eq_self, e0, e1, e3, e4, e5, e6, e7, e8, e9, e10, e20, e21, e22, hd2, hb3]) | (simp -implicitDefEqProofs (disch := omega) only [zR, zZ, zS, zQ, e0, e1, e3, e4, e5, e6, e7, e8, e9, e10, e20, e21, e22, hd2, hb3]) | (with_reducible refine yE ?_ ?_) | (refine zN rfl (fun bb => ?_) (fun bb => ?_) <;> simp only [bb]) | (with_reducible refine zX (fun bb => ?_) (fun bb => ?_)) | ((with_reducible refine And.intro ?_ ?_); omega) | fail)
    obtain rfl : c = 4 := by omega
    (try clear hf); (try clear e0 e1 e3 e4 e5 e6 e7 e8 e9 e10 e20 e21 e22); simp [unitsS, g]
end Go.Proofs.Hx

set_option linter.unusedVariables false
set_option linter.unusedSimpArgs false
namespace Go.Proofs.Hx
open Go Go.Proofs
attribute [local irreducible] yM awp opK goV goM yV yZ qF yQ HV HVF HC
theorem lend_ptrF (h : Hp) (id : Id) (off : Nat) : lend fuelL h (.ptr id off) = (h.hp id).bind fun blk => (mapO (lend 7 h) (blk.cells.drop off)).map .ip := by
  show lend (7 + 1) h (.ptr id off) = _
  have : ∀ d, lend (d + 1) h (.ptr id off) = (h.hp id).bind fun blk => (mapO (lend d h) (blk.cells.drop off)).map .ip := fun d => by
    simp only [lend, imm, Bool.false_eq_true, if_false]
    cases h.hp id <;> rfl
  exact this 7
theorem lend_opsrow (n : Nat) (h : Hp) (l : List Opn) : lend n h (.row (l.map opC)) = some (.row (l.map opC)) := lend_imm (by simp only [imm]; exact yR l)
theorem nilV_ip (cs : List AV) : nilV (.ip cs) = some (.ip cs) := rfl
theorem nilV_ptr (id : Id) (off : Nat) : nilV (.ptr id off) = some (.ptr id off) := rfl
attribute [push_cast] nilV_ip nilV_ptr
def writtenS (s : List Opn) (r : Int) : Bool := s.any fun o => (wrS o).2 && decide ((wrS o).1 = r)
def I125 (r : Int) (s : List Opn) (n : Nat) (σ : St) : Prop := ∃ k : Nat, k ≤ s.length ∧ n = s.length - k ∧ σ.env 0 = u8 r ∧ σ.env 8 = .row (s.map opC) ∧ σ.env 9 = i64 s.length ∧ σ.env 10 = i64 k ∧
  ∀ (j : Nat) (hj : j < k) (h : j < s.length), ((wrS s[j]).2 && decide ((wrS s[j]).1 = r)) = false
theorem f125 (r : Int) (s : List Opn) (hs : ∀ o ∈ s, o.ok) (hn : s.length ≤ 1000000) : HV Try.prog 125 [u8 r, .ip [.row (s.map opC)]] (bl (writtenS s r)) := by
  refine yJ yL cf125 (by simp) (by simp [imms, imm, yR]) ?_ rfl
  unfold ac125 re125
  refine yF fun env hE => ?_; have e0 := hE 0; have e1 := hE 1; have e3 := hE 3; have e5 := hE 5; have e6 := hE 6; have e7 := hE 7; have e8 := hE 8; have e9 := hE 9; have e10 := hE 10; have e11 := hE 11; simp -implicitDefEqProofs only [push_cast] at e0 e1 e3 e5 e6 e7 e8 e9 e10 e11; clear hE
  repeat' (first | ((try clear hf); with_reducible refine zM fun env K hE hK hf => ?_; have n : _ ∧ _ ∧ _ ∧ _ ∧ _ ∧ _ ∧ _ ∧ _ ∧ _ ∧ _ := ⟨hE 0, hE 1, hE 3, hE 5, hE 6, hE 7, hE 8, hE 9, hE 10, hE 11⟩; simp -implicitDefEqProofs only [push_cast, reduceIte, Nat.reduceEqDiff, e0, e1, e3, e5, e6, e7, e8, e9, e10, e11] at n; clear hE e0 e1 e3 e5 e6 e7 e8 e9 e10 e11; obtain ⟨e0, e1, e3, e5, e6, e7, e8, e9, e10, e11⟩ := n) | (with_reducible refine hK _ _ ?_; clear hK K) | (with_reducible first | refine zJ ?_ | refine zU ?_ | refine zB ?_ | refine zG ?_ | refine zE ?_ | refine zL ?_ | refine zT ?_ | refine zD ?_ | refine zH ?_ | refine zV ?_ | refine zF ?_ | refine zA (by decide) ?_ | refine zP ?_ | refine zO ?_ | refine zK ?_ | refine yB ?_ | refine yC ?_ | refine zW (by assumption) ?_ | refine zY (by assumption) ?_) | (refine zI rfl ?_) | (simp -implicitDefEqProofs only [push_cast, sevalprocAttr, eq_self, e0, e1, e3, e5, e6, e7, e8, e9, e10, e11, yK]) | (simp -implicitDefEqProofs (disch := omega) only [zR, zZ, zS, zQ, e0, e1, e3, e5, e6, e7, e8, e9, e10, e11, yK]) | (with_reducible refine yE ?_ ?_) | (refine zN rfl (fun bb => ?_) (fun bb => ?_) <;> simp only [bb]) | (with_reducible refine zX (fun bb => ?_) (fun bb => ?_)) | ((with_reducible refine And.intro ?_ ?_); omega) | fail)
  refine yN (I125 r s) s.length ⟨0, by omega, by omega, by simp -implicitDefEqProofs only [push_cast, sevalprocAttr, eq_self, e0], by simp -implicitDefEqProofs only [push_cast, sevalprocAttr, eq_self], by simp -implicitDefEqProofs only [push_cast, sevalprocAttr, eq_self], by simp -implicitDefEqProofs only [push_cast, sevalprocAttr, eq_self], by omega⟩ ?_
  rintro n ⟨env, h⟩ ⟨k, hk, rfl, e0, e8, e9, e10, hall⟩
  simp only at e0 e8 e9 e10
  have e1 : True := trivial; have e3 : True := trivial; have e5 : True := trivial; have e6 : True := trivial; have e7 : True := trivial; have e11 : True := trivial
  unfold l125_0
  refine yI fun hF => ?_
  by_cases hlt : k < s.length
  · have hd : decide ((k : Int) < (s.length : Int)) = true := by simp; omega
    have hr := qJ hlt .i64
    have ho := hs _ (List.getElem_mem hlt)
    repeat' (first | ((try clear hf); with_reducible refine zM fun env K hE hK hf => ?_; have n : _ ∧ _ ∧ _ ∧ _ ∧ _ ∧ _ ∧ _ ∧ _ ∧ _ ∧ _ := ⟨hE 0, hE 1, hE 3, hE 5, hE 6, hE 7, hE 8, hE 9, hE 10, hE 11⟩; simp -implicitDefEqProofs only [push_cast, reduceIte, Nat.reduceEqDiff, e0, e1, e3, e5, e6, e7, e8, e9, e10, e11] at n; clear hE e0 e1 e3 e5 e6 e7 e8 e9 e10 e11; obtain ⟨e0, e1, e3, e5, e6, e7, e8, e9, e10, e11⟩ := n) | (with_reducible refine hK _ _ ?_; clear hK K) | (with_reducible first | refine zJ ?_ | refine zU ?_ | refine zB ?_ | refine zG ?_ | refine zE ?_ | refine zL ?_ | refine zT ?_ | refine zD ?_ | refine zH ?_ | refine zV ?_ | refine zF ?_ | refine zA (by decide) ?_ | refine zP ?_ | refine zO ?_ | refine zK ?_ | refine yB ?_ | refine yC ?_ | refine zW (by assumption) ?_ | refine zY (by assumption) ?_) | (refine zI rfl ?_) | (simp -implicitDefEqProofs only [push_cast, sevalprocAttr, eq_self, e0, e1, e3, e5, e6, e7, e8, e9, e10, e11, hd, hr, hF.at]) | (simp -implicitDefEqProofs (disch := omega) only [zR, zZ, zS, zQ, e0, e1, e3, e5, e6, e7, e8, e9, e10, e11, hd, hr, hF.at]) | (with_reducible refine yE ?_ ?_) | (refine zN rfl (fun bb => ?_) (fun bb => ?_) <;> simp only [bb]) | (with_reducible refine zX (fun bb => ?_) (fun bb => ?_)) | ((with_reducible refine And.intro ?_ ?_); omega) | (refine yD (f52 _ ho) ?_) | fail)
    · have : writtenS s r = true := by
        unfold writtenS
        rw [List.any_eq_true]
        exact ⟨_, List.getElem_mem hlt, by (try clear hf); (try clear e0 e1 e3 e5 e6 e7 e8 e9 e10 e11); simp only [Bool.and_eq_true]; exact ⟨by assumption, by assumption⟩⟩
      rw [this]
    all_goals
      refine ⟨s.length - (k + 1), by omega, k + 1, by omega, rfl, by simp -implicitDefEqProofs only [push_cast, sevalprocAttr, eq_self, e0], by simp -implicitDefEqProofs only [push_cast, sevalprocAttr, eq_self, e8], by simp -implicitDefEqProofs only [push_cast, sevalprocAttr, eq_self, e9], by simp -implicitDefEqProofs only [push_cast, sevalprocAttr, eq_self], fun j hj h => ?_⟩
      by_cases e : j < k
      · exact hall j e h
      · obtain rfl : j = k := by omega
        simp only [Bool.and_eq_false_iff]
        first | (exact .inr (by assumption)) | exact .inl (by assumption)
  · have hd : decide ((k : Int) < (s.length : Int)) = false := by simp; omega
    repeat' (first | ((try clear hf); with_reducible refine zM fun env K hE hK hf => ?_; have n : _ ∧ _ ∧ _ ∧ _ ∧ _ ∧ _ ∧ _ ∧ _ ∧ _ ∧ _ := ⟨hE 0, hE 1, hE 3, hE 5, hE 6, hE 7, hE 8, hE 9, hE 10, hE 11⟩; simp -implicitDefEqProofs only [push_cast, reduceIte, Nat.reduceEqDiff, e0, e1, e3, e5, e6, e7, e8, e9, e10, e11] at n; clear hE e0 e1 e3 e5 e6 e7 e8 e9 e10 e11; obtain ⟨e0, e1, e3, e5, e6, e7, e8, e9, e10, e11⟩ := n) | (with_reducible refine hK _ _ ?_; clear hK K) | (with_reducible first | refine zJ ?_ | refine zU ?_ | refine zB ?_ | refine zG ?_ | refine zE ?_ | refine zL ?_ | refine zT ?_ | refine zD ?_ | refine zH ?_ | refine zV ?_ | refine zF ?_ | refine zA (by decide) ?_ | refine zP ?_ | refine zO ?_ | refine zK ?_ | refine yB ?_ | refine yC ?_ | refine zW (by assumption) ?_ | refine zY (by assumption) ?_) | (refine zI rfl ?_) | (simp -implicitDefEqProofs only [push_cast, sevalprocAttr, eq_self, e0, e1, e3, e5, e6, e7, e8, e9, e10, e11, hd]) | (simp -implicitDefEqProofs (disch := omega) only [zR, zZ, zS, zQ, e0, e1, e3, e5, e6, e7, e8, e9, e10, e11, hd]) | (with_reducible refine yE ?_ ?_) | (refine zN rfl (fun bb => ?_) (fun bb => ?_) <;> simp only [bb]) | (with_reducible refine zX (fun bb => ?_) (fun bb => ?_)) | ((with_reducible refine And.intro ?_ ?_); omega) | fail)
    have : writtenS s r = false := by
      unfold writtenS
      rw [List.any_eq_false]
      intro o ho
      obtain ⟨j, hj, rfl⟩ := List.getElem_of_mem ho
      rw [hall j (by omega) hj]; simp
    rw [this]
def meetS (a b : Opn) (s : List Opn) : Bool :=
  memS a && memS b && !(decide (a.k = 15) && decide (b.k = 15)) && (decide (a.a ≠ b.a) || decide (IntKind.wrap .u8 a.im = IntKind.wrap .u8 b.im) || writtenS s a.a)
theorem f119 (l s : List Opn) (i j : Nat) (hi : i < l.length) (hj : j < l.length) (hl : ∀ o ∈ l, o.ok) (hs : ∀ o ∈ s, o.ok) (hn : s.length ≤ 1000000) :
    HV Try.prog 119 [.row (l.map opC), i64 i, i64 j, .row (s.map opC)] (bl (meetS l[i] l[j] s)) := by
  refine yJ yL cf119 (by simp) (by simp [imms, imm, yR]) ?_ rfl
  unfold ac119 re119
  refine yF fun env hE => ?_; have e0 := hE 0; have e1 := hE 1; have e2 := hE 2; have e3 := hE 3; have e7 := hE 7; have e8 := hE 8; have e9 := hE 9; have e10 := hE 10; have e11 := hE 11; simp -implicitDefEqProofs only [push_cast] at e0 e1 e2 e3 e7 e8 e9 e10 e11; clear hE
  have hr := qJ hi .i64
  have hq := qJ hj .i64
  have ho := hl _ (List.getElem_mem hi)
  have hp := hl _ (List.getElem_mem hj)
  generalize l[i] = a at *
  generalize l[j] = b at *
  have hc := f125 a.a s hs hn
  repeat' (first | ((try clear hf); with_reducible refine zM fun env K hE hK hf => ?_; have n : _ ∧ _ ∧ _ ∧ _ ∧ _ ∧ _ ∧ _ ∧ _ ∧ _ := ⟨hE 0, hE 1, hE 2, hE 3, hE 7, hE 8, hE 9, hE 10, hE 11⟩; simp -implicitDefEqProofs only [push_cast, reduceIte, Nat.reduceEqDiff, e0, e1, e2, e3, e7, e8, e9, e10, e11] at n; clear hE e0 e1 e2 e3 e7 e8 e9 e10 e11; obtain ⟨e0, e1, e2, e3, e7, e8, e9, e10, e11⟩ := n) | (with_reducible refine hK _ _ ?_; clear hK K) | (with_reducible first | refine zJ ?_ | refine zU ?_ | refine zB ?_ | refine zG ?_ | refine zE ?_ | refine zL ?_ | refine zT ?_ | refine zD ?_ | refine zH ?_ | refine zV ?_ | refine zF ?_ | refine zA (by decide) ?_ | refine zP ?_ | refine zO ?_ | refine zK ?_ | refine yB ?_ | refine yC ?_ | refine zW (by assumption) ?_ | refine zY (by assumption) ?_) | (refine zI rfl ?_) | (simp -implicitDefEqProofs only [push_cast, sevalprocAttr, eq_self, e0, e1, e2, e3, e7, e8, e9, e10, e11, hr, hq, op_0, op_2, op_4]) | (simp -implicitDefEqProofs (disch := omega) only [zR, zZ, zS, zQ, e0, e1, e2, e3, e7, e8, e9, e10, e11, hr, hq, op_0, op_2, op_4]) | (with_reducible refine yE ?_ ?_) | (refine zN rfl (fun bb => ?_) (fun bb => ?_) <;> simp only [bb]) | (with_reducible refine zX (fun bb => ?_) (fun bb => ?_)) | ((with_reducible refine And.intro ?_ ?_); omega) | (refine yD (f124 a ho) ?_) | (refine yD (f124 b hp) ?_) | (refine call_lend (by simp -implicitDefEqProofs only [push_cast, sevalprocAttr, eq_self, lend_ptrF, lend_opsrow]) hc rfl ?_) | fail)
  all_goals ((try clear hf); (try clear e0 e1 e2 e3 e7 e8 e9 e10 e11); clear hc hr hq ho hp hs hl; simp only [meetS]; simp at *; simp [*])
def meetL (l : List Opn) (i j : Nat) (hi : i < l.length) (hj : j < l.length) : Bool := meetS l[i] l[j] ((l.drop i).take (j - i))
theorem f100 (l : List Opn) (i j : Nat) (hij : i < j) (hj : j < l.length) (hl : ∀ o ∈ l, o.ok) (hn : l.length ≤ 1000000) :
    HV Try.prog 100 [.row (l.map opC), i64 i, i64 j] (bl (meetL l i j (by omega) hj)) := by
  refine yJ yL cf100 (by simp) (by simp [imms, imm, yR]) ?_ rfl
  unfold ac100 re100
  refine yF fun env hE => ?_; have e0 := hE 0; have e1 := hE 1; have e2 := hE 2; have e6 := hE 6; simp -implicitDefEqProofs only [push_cast] at e0 e1 e2 e6; clear hE
  have hd1 : decide (0 ≤ (i : Int)) = true := by simp
  have hd2 : decide ((i : Int) < (j : Int)) = true := by simp; omega
  have hd3 : decide ((j : Int) < (l.length : Int)) = true := by simp; omega
  have hsl : sliceV none 5 (.row (l.map opC)) (some (i64 i)) (some (i64 j)) none = some (.row (((l.drop i).take (j - i)).map opC)) := by
    rw [slice_row_eq opC 5 l opC_len]
    simp [qE]; omega
  have hc := f119 l ((l.drop i).take (j - i)) i j (by omega) hj hl (fun o ho => hl o (List.mem_of_mem_drop (List.mem_of_mem_take ho))) (by simp; omega)
  repeat' (first | ((try clear hf); with_reducible refine zM fun env K hE hK hf => ?_; have n : _ ∧ _ ∧ _ ∧ _ := ⟨hE 0, hE 1, hE 2, hE 6⟩; simp -implicitDefEqProofs only [push_cast, reduceIte, Nat.reduceEqDiff, e0, e1, e2, e6] at n; clear hE e0 e1 e2 e6; obtain ⟨e0, e1, e2, e6⟩ := n) | (with_reducible refine hK _ _ ?_; clear hK K) | (with_reducible first | refine zJ ?_ | refine zU ?_ | refine zB ?_ | refine zG ?_ | refine zE ?_ | refine zL ?_ | refine zT ?_ | refine zD ?_ | refine zH ?_ | refine zV ?_ | refine zF ?_ | refine zA (by decide) ?_ | refine zP ?_ | refine zO ?_ | refine zK ?_ | refine yB ?_ | refine yC ?_ | refine zW (by assumption) ?_ | refine zY (by assumption) ?_) | (refine zI rfl ?_) | (simp -implicitDefEqProofs only [push_cast, sevalprocAttr, eq_self, e0, e1, e2, e6, yK, hd1, hd2, hd3, hsl]) | (simp -implicitDefEqProofs (disch := omega) only [zR, zZ, zS, zQ, e0, e1, e2, e6, yK, hd1, hd2, hd3, hsl]) | (with_reducible refine yE ?_ ?_) | (refine zN rfl (fun bb => ?_) (fun bb => ?_) <;> simp only [bb]) | (with_reducible refine zX (fun bb => ?_) (fun bb => ?_)) | ((with_reducible refine And.intro ?_ ?_); omega) | (refine yD hc ?_) | fail)
  rfl
/-! The finder: it is lent where it is only read. -/
def regRow (o : Opn) : List AV := [.row (regsC (rdS o))]
theorem regsC_imms (l : List Int) : immss (regsC l) = true := qI fun i x hx => by simp [regsC] at hx; obtain ⟨a, _, rfl⟩ := hx; rfl
theorem regRow_imms (o : Opn) : imms (regRow o) = true := by simp [regRow, imms, imm, regsC_imms]
theorem regRows_imms (l : List Opn) : immss (l.map regRow) = true := qI fun i x hx => by simp at hx; obtain ⟨a, _, rfl⟩ := hx; exact regRow_imms a
def dRow (o : Opn) : List AV := [i64 (if (wrS o).2 then (wrS o).1 else -1)]
theorem dRows_imms (l : List Opn) : immss (l.map dRow) = true := qI fun i x hx => by simp at hx; obtain ⟨a, _, rfl⟩ := hx; rfl
/-- The finder's cells, lent; 'out': the edges so far, whatever they are. -/
def finA (l : List Opn) (t : Tab) (out : AV) : List AV := .row (l.map opC) :: (tabC t ++ [.row (l.map regRow), .row (l.map dRow), out])
theorem finA_imms {l : List Opn} {t : Tab} {out : AV} (ho : imm out = true) : imms (finA l t out) = true := by
  simp only [finA, imms, imm, yR, Bool.true_and]
  exact imms_app (tab_imms t) (by simp [imms, imm, regRows_imms, dRows_imms, ho])
theorem finA_0 (l : List Opn) (t : Tab) (out : AV) : (finA l t out)[0]? = some (.row (l.map opC)) := rfl
theorem finA_lat (l : List Opn) (t : Tab) (out : AV) {c : Nat} (hc : c < 4) : (finA l t out)[5 + c]? = some (i64 (t.l c)) := by
  match c, hc with
  | 0, _ | 1, _ | 2, _ | 3, _ => rfl
def latS (t : Tab) (o : Opn) : Int := t.l (clsN o)
theorem f98 (l : List Opn) (t : Tab) (out : AV) (ho : imm out = true) (i : Nat) (hi : i < l.length) : HV Try.prog 98 [.ip (finA l t out), i64 i] (i64 (latS t l[i])) := by
  refine yJ yL cf98 (by simp) (by simp [imms, imm, finA_imms ho]) ?_ rfl
  unfold ac98 re98
  refine yF fun env hE => ?_; have e0 := hE 0; have e1 := hE 1; have e4 := hE 4; have e5 := hE 5; simp -implicitDefEqProofs only [push_cast] at e0 e1 e4 e5; clear hE
  have hr := qJ hi .i64
  have hc := clsN_eq l[i]
  have hc4 := clsN_lt l[i]
  have hq : (finA l t out)[1 + (4 + (clsN l[i] + 0))]? = some (i64 (t.l (clsN l[i]))) := by
    have := finA_lat l t out hc4
    rwa [show 5 + clsN l[i] = 1 + (4 + (clsN l[i] + 0)) from by omega] at this
  repeat' (first | ((try clear hf); with_reducible refine zM fun env K hE hK hf => ?_; have n : _ ∧ _ ∧ _ ∧ _ := ⟨hE 0, hE 1, hE 4, hE 5⟩; simp -implicitDefEqProofs only [push_cast, reduceIte, Nat.reduceEqDiff, e0, e1, e4, e5] at n; clear hE e0 e1 e4 e5; obtain ⟨e0, e1, e4, e5⟩ := n) | (with_reducible refine hK _ _ ?_; clear hK K) | (with_reducible first | refine zJ ?_ | refine zU ?_ | refine zB ?_ | refine zG ?_ | refine zE ?_ | refine zL ?_ | refine zT ?_ | refine zD ?_ | refine zH ?_ | refine zV ?_ | refine zF ?_ | refine zA (by decide) ?_ | refine zP ?_ | refine zO ?_ | refine zK ?_ | refine yB ?_ | refine yC ?_ | refine zW (by assumption) ?_ | refine zY (by assumption) ?_) | (refine zI rfl ?_) | (simp -implicitDefEqProofs only [push_cast, sevalprocAttr, eq_self, e0, e1, e4, e5, hr, hc, hq, finA_0, op_0, idxAddr_ip, List.getElem?_drop]) | (simp -implicitDefEqProofs (disch := omega) only [zR, zZ, zS, zQ, e0, e1, e4, e5, hr, hc, hq, finA_0, op_0, idxAddr_ip, List.getElem?_drop]) | (with_reducible refine yE ?_ ?_) | (refine zN rfl (fun bb => ?_) (fun bb => ?_) <;> simp only [bb]) | (with_reducible refine zX (fun bb => ?_) (fun bb => ?_)) | ((with_reducible refine And.intro ?_ ?_); omega) | (refine yD (f41 _) ?_) | fail)
  rfl
/-- Does an operation read a register? -/
def seesS (o : Opn) (r : Int) : Bool := (rdS o).any fun x => decide (x = r)
theorem regRow_at {l : List Opn} {k : Nat} (hk : k < l.length) (kd : IntKind) : idxAddrV none 1 (.row (l.map regRow)) (.lit (.int kd (k : Int))) = some (.ip (regRow l[k])) := idxAddr_row regRow 1 (fun _ => rfl) l kd hk
theorem regs_at {l : List Int} {k : Nat} (hk : k < l.length) (kd : IntKind) : idxAddrV none 1 (.row (regsC l)) (.lit (.int kd (k : Int))) = some (.ip [u8 l[k]]) := idxAddr_row (fun r => [u8 r]) 1 (fun _ => rfl) l kd hk
theorem qC (l : List Int) : lenV (.row (regsC l)) = some (i64 l.length) := yK _ l
theorem rdS_len (o : Opn) : (rdS o).length ≤ 2 := by
  unfold rdS
  split
  · simp
  · split
    · simp
    · split
      · simp
      · split <;> simp
theorem chkE_regs {o : Opn} (h : chkE o = 0) : o.d ≤ 31 ∧ o.a ≤ 31 ∧ o.b ≤ 31 := by
  unfold chkE at h
  split at h
  · rename_i hc; unfold chkP at hc; omega
  · cases h
theorem rdS_mem {o : Opn} (ho : o.ok) {x : Int} (hx : x ∈ rdS o) : 0 ≤ x ∧ x ≤ 31 := by
  unfold Opn.ok at ho
  unfold rdS at hx
  split at hx
  · simp at hx
  · rename_i hc
    have := chkE_regs (o := o) (by simpa using hc)
    split at hx
    · simp at hx; rcases hx with rfl | rfl <;> omega
    · split at hx
      · simp at hx; omega
      · split at hx
        · simp at hx; omega
        · simp at hx
def I117 (o : Opn) (r : Int) (n : Nat) (σ : St) : Prop := ∃ k : Nat, k ≤ (rdS o).length ∧ n = (rdS o).length - k ∧ σ.env 2 = i64 r ∧ σ.env 15 = .row (regsC (rdS o)) ∧ σ.env 16 = i64 (rdS o).length ∧ σ.env 17 = i64 k ∧
  ∀ (j : Nat) (hj : j < k) (h : j < (rdS o).length), (rdS o)[j] ≠ r
theorem f117 (l : List Opn) (t : Tab) (out : AV) (ho : imm out = true) (i : Nat) (hi : i < l.length) (hl : ∀ o ∈ l, o.ok) (r : Int) : HV Try.prog 117 [.ip (finA l t out), i64 i, i64 r] (bl (seesS l[i] r)) := by
  refine yJ yL cf117 (by simp) (by simp [imms, imm, finA_imms ho]) ?_ rfl
  unfold ac117 re117
  refine yF fun env hE => ?_; have e0 := hE 0; have e1 := hE 1; have e2 := hE 2; have e6 := hE 6; have e8 := hE 8; have e15 := hE 15; have e16 := hE 16; have e17 := hE 17; have e18 := hE 18; simp -implicitDefEqProofs only [push_cast] at e0 e1 e2 e6 e8 e15 e16 e17 e18; clear hE
  have hr := regRow_at hi .i64
  have hq : (finA l t out)[14 + 0]? = some (.row (l.map regRow)) := rfl
  have hw : (regRow l[i])[0]? = some (.row (regsC (rdS l[i]))) := rfl
  have hok := hl _ (List.getElem_mem hi)
  generalize l[i] = o at *
  repeat' (first | ((try clear hf); with_reducible refine zM fun env K hE hK hf => ?_; have n : _ ∧ _ ∧ _ ∧ _ ∧ _ ∧ _ ∧ _ ∧ _ ∧ _ := ⟨hE 0, hE 1, hE 2, hE 6, hE 8, hE 15, hE 16, hE 17, hE 18⟩; simp -implicitDefEqProofs only [push_cast, reduceIte, Nat.reduceEqDiff, e0, e1, e2, e6, e8, e15, e16, e17, e18] at n; clear hE e0 e1 e2 e6 e8 e15 e16 e17 e18; obtain ⟨e0, e1, e2, e6, e8, e15, e16, e17, e18⟩ := n) | (with_reducible refine hK _ _ ?_; clear hK K) | (with_reducible first | refine zJ ?_ | refine zU ?_ | refine zB ?_ | refine zG ?_ | refine zE ?_ | refine zL ?_ | refine zT ?_ | refine zD ?_ | refine zH ?_ | refine zV ?_ | refine zF ?_ | refine zA (by decide) ?_ | refine zP ?_ | refine zO ?_ | refine zK ?_ | refine yB ?_ | refine yC ?_ | refine zW (by assumption) ?_ | refine zY (by assumption) ?_) | (refine zI rfl ?_) | (simp -implicitDefEqProofs only [push_cast, sevalprocAttr, eq_self, e0, e1, e2, e6, e8, e15, e16, e17, e18, hr, hq, hw, qC, List.getElem?_drop]) | (simp -implicitDefEqProofs (disch := omega) only [zR, zZ, zS, zQ, e0, e1, e2, e6, e8, e15, e16, e17, e18, hr, hq, hw, qC, List.getElem?_drop]) | (with_reducible refine yE ?_ ?_) | (refine zN rfl (fun bb => ?_) (fun bb => ?_) <;> simp only [bb]) | (with_reducible refine zX (fun bb => ?_) (fun bb => ?_)) | ((with_reducible refine And.intro ?_ ?_); omega) | fail)
  refine yN (I117 o r) (rdS o).length ⟨0, by omega, by omega, by simp -implicitDefEqProofs only [push_cast, sevalprocAttr, eq_self, e2], by simp -implicitDefEqProofs only [push_cast, sevalprocAttr, eq_self], by simp -implicitDefEqProofs only [push_cast, sevalprocAttr, eq_self], by simp -implicitDefEqProofs only [push_cast, sevalprocAttr, eq_self], by omega⟩ ?_
  rintro n ⟨env, h⟩ ⟨k, hk, rfl, e2, e15, e16, e17, hall⟩
  simp only at e2 e15 e16 e17
  have e0 : True := trivial; have e1 : True := trivial; have e6 : True := trivial; have e8 : True := trivial; have e18 : True := trivial
  unfold l117_0
  refine yI fun hF => ?_
  have hrl := rdS_len o
  by_cases hlt : k < (rdS o).length
  · have hd : decide ((k : Int) < ((rdS o).length : Int)) = true := by simp; omega
    have hr := regs_at hlt .i64
    have hm := rdS_mem hok (List.getElem_mem hlt)
    repeat' (first | ((try clear hf); with_reducible refine zM fun env K hE hK hf => ?_; have n : _ ∧ _ ∧ _ ∧ _ ∧ _ ∧ _ ∧ _ ∧ _ ∧ _ := ⟨hE 0, hE 1, hE 2, hE 6, hE 8, hE 15, hE 16, hE 17, hE 18⟩; simp -implicitDefEqProofs only [push_cast, reduceIte, Nat.reduceEqDiff, e0, e1, e2, e6, e8, e15, e16, e17, e18] at n; clear hE e0 e1 e2 e6 e8 e15 e16 e17 e18; obtain ⟨e0, e1, e2, e6, e8, e15, e16, e17, e18⟩ := n) | (with_reducible refine hK _ _ ?_; clear hK K) | (with_reducible first | refine zJ ?_ | refine zU ?_ | refine zB ?_ | refine zG ?_ | refine zE ?_ | refine zL ?_ | refine zT ?_ | refine zD ?_ | refine zH ?_ | refine zV ?_ | refine zF ?_ | refine zA (by decide) ?_ | refine zP ?_ | refine zO ?_ | refine zK ?_ | refine yB ?_ | refine yC ?_ | refine zW (by assumption) ?_ | refine zY (by assumption) ?_) | (refine zI rfl ?_) | (simp -implicitDefEqProofs only [push_cast, sevalprocAttr, eq_self, e0, e1, e2, e6, e8, e15, e16, e17, e18, hd, hr, hF.at]) | (simp -implicitDefEqProofs (disch := omega) only [zR, zZ, zS, zQ, e0, e1, e2, e6, e8, e15, e16, e17, e18, hd, hr, hF.at]) | (with_reducible refine yE ?_ ?_) | (refine zN rfl (fun bb => ?_) (fun bb => ?_) <;> simp only [bb]) | (with_reducible refine zX (fun bb => ?_) (fun bb => ?_)) | ((with_reducible refine And.intro ?_ ?_); omega) | fail)
    · have : seesS o r = true := by
        unfold seesS
        rw [List.any_eq_true]
        exact ⟨_, List.getElem_mem hlt, by assumption⟩
      rw [this]
    · refine ⟨(rdS o).length - (k + 1), by omega, k + 1, by omega, rfl, by simp -implicitDefEqProofs only [push_cast, sevalprocAttr, eq_self, e2], by simp -implicitDefEqProofs only [push_cast, sevalprocAttr, eq_self, e15], by simp -implicitDefEqProofs only [push_cast, sevalprocAttr, eq_self, e16], by simp -implicitDefEqProofs only [push_cast, sevalprocAttr, eq_self], fun j hj h => ?_⟩
      by_cases e : j < k
      · exact hall j e h
      · obtain rfl : j = k := by omega
        have := ‹decide ((rdS o)[j] = r) = false›
        simpa using this
  · have hd : decide ((k : Int) < ((rdS o).length : Int)) = false := by simp; omega
    repeat' (first | ((try clear hf); with_reducible refine zM fun env K hE hK hf => ?_; have n : _ ∧ _ ∧ _ ∧ _ ∧ _ ∧ _ ∧ _ ∧ _ ∧ _ := ⟨hE 0, hE 1, hE 2, hE 6, hE 8, hE 15, hE 16, hE 17, hE 18⟩; simp -implicitDefEqProofs only [push_cast, reduceIte, Nat.reduceEqDiff, e0, e1, e2, e6, e8, e15, e16, e17, e18] at n; clear hE e0 e1 e2 e6 e8 e15 e16 e17 e18; obtain ⟨e0, e1, e2, e6, e8, e15, e16, e17, e18⟩ := n) | (with_reducible refine hK _ _ ?_; clear hK K) | (with_reducible first | refine zJ ?_ | refine zU ?_ | refine zB ?_ | refine zG ?_ | refine zE ?_ | refine zL ?_ | refine zT ?_ | refine zD ?_ | refine zH ?_ | refine zV ?_ | refine zF ?_ | refine zA (by decide) ?_ | refine zP ?_ | refine zO ?_ | refine zK ?_ | refine yB ?_ | refine yC ?_ | refine zW (by assumption) ?_ | refine zY (by assumption) ?_) | (refine zI rfl ?_) | (simp -implicitDefEqProofs only [push_cast, sevalprocAttr, eq_self, e0, e1, e2, e6, e8, e15, e16, e17, e18, hd]) | (simp -implicitDefEqProofs (disch := omega) only [zR, zZ, zS, zQ, e0, e1, e2, e6, e8, e15, e16, e17, e18, hd]) | (with_reducible refine yE ?_ ?_) | (refine zN rfl (fun bb => ?_) (fun bb => ?_) <;> simp only [bb]) | (with_reducible refine zX (fun bb => ?_) (fun bb => ?_)) | ((with_reducible refine And.intro ?_ ?_); omega) | fail)
    have : seesS o r = false := by
      unfold seesS
      rw [List.any_eq_false]
      intro x hx
      obtain ⟨j, hj, rfl⟩ := List.getElem_of_mem hx
      simpa using hall j (by omega) hj
    rw [this]
/-- Who was the last to write: registers' cells. -/
def qN (L : Nat → Int) : List AV := (List.range 32).map fun r => i64 (L r)
theorem lastC_imms (L : Nat → Int) : imms (qN L) = true := imms_of_get fun i x hx => by simp [qN] at hx; obtain ⟨_, _, rfl⟩ := hx; rfl
theorem lastC_at (L : Nat → Int) {r : Nat} (hr : r < 32) : (qN L)[r]? = some (i64 (L r)) := by simp [qN, hr]
/-- Does 'o' read what 'i' was the last to write? -/
def fromS (L : Nat → Int) (o : Opn) (i : Nat) : Bool := (rdS o).any fun x => decide (L x.toNat = (i : Int) + 1)
def I96 (L : Nat → Int) (o : Opn) (i : Nat) (n : Nat) (σ : St) : Prop := ∃ k : Nat, k ≤ (rdS o).length ∧ n = (rdS o).length - k ∧ σ.env 1 = i64 i ∧ σ.env 3 = .ip (qN L) ∧ σ.env 17 = .row (regsC (rdS o)) ∧ σ.env 18 = i64 (rdS o).length ∧ σ.env 19 = i64 k ∧
  ∀ (j : Nat) (hj : j < k) (h : j < (rdS o).length), L ((rdS o)[j]).toNat ≠ (i : Int) + 1
theorem f96 (l : List Opn) (t : Tab) (out : AV) (ho : imm out = true) (L : Nat → Int) (i j : Nat) (hj : j < l.length) (hi : i ≤ 1000000) (hl : ∀ o ∈ l, o.ok) :
    HV Try.prog 96 [.ip (finA l t out), i64 i, i64 j, .ip (qN L)] (bl (fromS L l[j] i)) := by
  refine yJ yL cf96 (by simp) (by simp [imms, imm, finA_imms ho, lastC_imms]) ?_ rfl
  unfold ac96 re96
  refine yF fun env hE => ?_; have e0 := hE 0; have e1 := hE 1; have e2 := hE 2; have e3 := hE 3; have e8 := hE 8; have e10 := hE 10; have e17 := hE 17; have e18 := hE 18; have e19 := hE 19; have e20 := hE 20; simp -implicitDefEqProofs only [push_cast] at e0 e1 e2 e3 e8 e10 e17 e18 e19 e20; clear hE
  have hr := regRow_at hj .i64
  have hq : (finA l t out)[14 + 0]? = some (.row (l.map regRow)) := rfl
  have hw : (regRow l[j])[0]? = some (.row (regsC (rdS l[j]))) := rfl
  have hok := hl _ (List.getElem_mem hj)
  generalize l[j] = o at *
  repeat' (first | ((try clear hf); with_reducible refine zM fun env K hE hK hf => ?_; have n : _ ∧ _ ∧ _ ∧ _ ∧ _ ∧ _ ∧ _ ∧ _ ∧ _ ∧ _ := ⟨hE 0, hE 1, hE 2, hE 3, hE 8, hE 10, hE 17, hE 18, hE 19, hE 20⟩; simp -implicitDefEqProofs only [push_cast, reduceIte, Nat.reduceEqDiff, e0, e1, e2, e3, e8, e10, e17, e18, e19, e20] at n; clear hE e0 e1 e2 e3 e8 e10 e17 e18 e19 e20; obtain ⟨e0, e1, e2, e3, e8, e10, e17, e18, e19, e20⟩ := n) | (with_reducible refine hK _ _ ?_; clear hK K) | (with_reducible first | refine zJ ?_ | refine zU ?_ | refine zB ?_ | refine zG ?_ | refine zE ?_ | refine zL ?_ | refine zT ?_ | refine zD ?_ | refine zH ?_ | refine zV ?_ | refine zF ?_ | refine zA (by decide) ?_ | refine zP ?_ | refine zO ?_ | refine zK ?_ | refine yB ?_ | refine yC ?_ | refine zW (by assumption) ?_ | refine zY (by assumption) ?_) | (refine zI rfl ?_) | (simp -implicitDefEqProofs only [push_cast, sevalprocAttr, eq_self, e0, e1, e2, e3, e8, e10, e17, e18, e19, e20, hr, hq, hw, qC, List.getElem?_drop]) | (simp -implicitDefEqProofs (disch := omega) only [zR, zZ, zS, zQ, e0, e1, e2, e3, e8, e10, e17, e18, e19, e20, hr, hq, hw, qC, List.getElem?_drop]) | (with_reducible refine yE ?_ ?_) | (refine zN rfl (fun bb => ?_) (fun bb => ?_) <;> simp only [bb]) | (with_reducible refine zX (fun bb => ?_) (fun bb => ?_)) | ((with_reducible refine And.intro ?_ ?_); omega) | fail)
  refine yN (I96 L o i) (rdS o).length ⟨0, by omega, by omega, by simp -implicitDefEqProofs only [push_cast, sevalprocAttr, eq_self, e1], by simp -implicitDefEqProofs only [push_cast, sevalprocAttr, eq_self, e3], by simp -implicitDefEqProofs only [push_cast, sevalprocAttr, eq_self], by simp -implicitDefEqProofs only [push_cast, sevalprocAttr, eq_self], by simp -implicitDefEqProofs only [push_cast, sevalprocAttr, eq_self], by omega⟩ ?_
  rintro n ⟨env, h⟩ ⟨k, hk, rfl, e1, e3, e17, e18, e19, hall⟩
  simp only at e1 e3 e17 e18 e19
  have e0 : True := trivial; have e2 : True := trivial; have e8 : True := trivial; have e10 : True := trivial; have e20 : True := trivial
  unfold l96_0
  refine yI fun hF => ?_
  have hrl := rdS_len o
  by_cases hlt : k < (rdS o).length
  · have hd : decide ((k : Int) < ((rdS o).length : Int)) = true := by simp; omega
    have hr := regs_at hlt .i64
    have hm := rdS_mem hok (List.getElem_mem hlt)
    have ht : (rdS o)[k].toNat < 32 := by omega
    have hx : (qN L)[(rdS o)[k].toNat + 0]? = some (i64 (L (rdS o)[k].toNat)) := lastC_at L ht
    repeat' (first | ((try clear hf); with_reducible refine zM fun env K hE hK hf => ?_; have n : _ ∧ _ ∧ _ ∧ _ ∧ _ ∧ _ ∧ _ ∧ _ ∧ _ ∧ _ := ⟨hE 0, hE 1, hE 2, hE 3, hE 8, hE 10, hE 17, hE 18, hE 19, hE 20⟩; simp -implicitDefEqProofs only [push_cast, reduceIte, Nat.reduceEqDiff, e0, e1, e2, e3, e8, e10, e17, e18, e19, e20] at n; clear hE e0 e1 e2 e3 e8 e10 e17 e18 e19 e20; obtain ⟨e0, e1, e2, e3, e8, e10, e17, e18, e19, e20⟩ := n) | (with_reducible refine hK _ _ ?_; clear hK K) | (with_reducible first | refine zJ ?_ | refine zU ?_ | refine zB ?_ | refine zG ?_ | refine zE ?_ | refine zL ?_ | refine zT ?_ | refine zD ?_ | refine zH ?_ | refine zV ?_ | refine zF ?_ | refine zA (by decide) ?_ | refine zP ?_ | refine zO ?_ | refine zK ?_ | refine yB ?_ | refine yC ?_ | refine zW (by assumption) ?_ | refine zY (by assumption) ?_) | (refine zI rfl ?_) | (simp -implicitDefEqProofs only [push_cast, sevalprocAttr, eq_self, e0, e1, e2, e3, e8, e10, e17, e18, e19, e20, hd, hr, hF.at, idxAddr_ip, List.getElem?_drop, hx]) | (simp -implicitDefEqProofs (disch := omega) only [zR, zZ, zS, zQ, e0, e1, e2, e3, e8, e10, e17, e18, e19, e20, hd, hr, hF.at, idxAddr_ip, List.getElem?_drop, hx]) | (with_reducible refine yE ?_ ?_) | (refine zN rfl (fun bb => ?_) (fun bb => ?_) <;> simp only [bb]) | (with_reducible refine zX (fun bb => ?_) (fun bb => ?_)) | ((with_reducible refine And.intro ?_ ?_); omega) | fail)
    · have : fromS L o i = true := by
        unfold fromS
        rw [List.any_eq_true]
        exact ⟨_, List.getElem_mem hlt, by assumption⟩
      rw [this]
    · refine ⟨(rdS o).length - (k + 1), by omega, k + 1, by omega, rfl, by simp -implicitDefEqProofs only [push_cast, sevalprocAttr, eq_self, e1], by simp -implicitDefEqProofs only [push_cast, sevalprocAttr, eq_self, e3], by simp -implicitDefEqProofs only [push_cast, sevalprocAttr, eq_self, e17], by simp -implicitDefEqProofs only [push_cast, sevalprocAttr, eq_self, e18], by simp -implicitDefEqProofs only [push_cast, sevalprocAttr, eq_self], fun j hj h => ?_⟩
      by_cases e : j < k
      · exact hall j e h
      · obtain rfl : j = k := by omega
        have := ‹decide (L (rdS o)[j].toNat = (i : Int) + 1) = false›
        simpa using this
  · have hd : decide ((k : Int) < ((rdS o).length : Int)) = false := by simp; omega
    repeat' (first | ((try clear hf); with_reducible refine zM fun env K hE hK hf => ?_; have n : _ ∧ _ ∧ _ ∧ _ ∧ _ ∧ _ ∧ _ ∧ _ ∧ _ ∧ _ := ⟨hE 0, hE 1, hE 2, hE 3, hE 8, hE 10, hE 17, hE 18, hE 19, hE 20⟩; simp -implicitDefEqProofs only [push_cast, reduceIte, Nat.reduceEqDiff, e0, e1, e2, e3, e8, e10, e17, e18, e19, e20] at n; clear hE e0 e1 e2 e3 e8 e10 e17 e18 e19 e20; obtain ⟨e0, e1, e2, e3, e8, e10, e17, e18, e19, e20⟩ := n) | (with_reducible refine hK _ _ ?_; clear hK K) | (with_reducible first | refine zJ ?_ | refine zU ?_ | refine zB ?_ | refine zG ?_ | refine zE ?_ | refine zL ?_ | refine zT ?_ | refine zD ?_ | refine zH ?_ | refine zV ?_ | refine zF ?_ | refine zA (by decide) ?_ | refine zP ?_ | refine zO ?_ | refine zK ?_ | refine yB ?_ | refine yC ?_ | refine zW (by assumption) ?_ | refine zY (by assumption) ?_) | (refine zI rfl ?_) | (simp -implicitDefEqProofs only [push_cast, sevalprocAttr, eq_self, e0, e1, e2, e3, e8, e10, e17, e18, e19, e20, hd]) | (simp -implicitDefEqProofs (disch := omega) only [zR, zZ, zS, zQ, e0, e1, e2, e3, e8, e10, e17, e18, e19, e20, hd]) | (with_reducible refine yE ?_ ?_) | (refine zN rfl (fun bb => ?_) (fun bb => ?_) <;> simp only [bb]) | (with_reducible refine zX (fun bb => ?_) (fun bb => ?_)) | ((with_reducible refine And.intro ?_ ?_); omega) | fail)
    have : fromS L o i = false := by
      unfold fromS
      rw [List.any_eq_false]
      intro x hx
      obtain ⟨j, hj, rfl⟩ := List.getElem_of_mem hx
      simpa using hall j (by omega) hj
    rw [this]
end Go.Proofs.Hx

set_option linter.unusedVariables false
set_option linter.unusedSimpArgs false
namespace Go.Proofs.Hx
open Go Go.Proofs
attribute [local irreducible] yM awp opK goV goM yV yZ qF yQ HV HVF HC
/-- A loop of one round. -/
theorem awp_once {P : Program} {c : ACode} {Q : AEx → St → Prop} {σ : St} (Post : St → Prop) (h1 : awp P c (seqK P Post Q) σ) (h2 : ∀ τ, Post τ → awp P c (seqK P (fun _ => False) Q) τ) : awp P (.loop c) Q σ := by
  refine yN (fun n τ => (n = 1 ∧ τ = σ) ∨ (n = 0 ∧ Post τ)) 1 (.inl ⟨rfl, rfl⟩) fun n τ hτ => ?_
  rcases hτ with ⟨rfl, rfl⟩ | ⟨rfl, hp⟩
  · refine awp_mono c _ _ (fun e σ' hx => ?_) _ h1
    cases e with
    | normal => exact ⟨0, by omega, .inr ⟨rfl, hx⟩⟩
    | exit i => exact hx
    | ret => exact hx
  · refine awp_mono c _ _ (fun e σ' hx => ?_) _ (h2 τ hp)
    cases e with
    | normal => exact hx.elim
    | exit i => exact hx
    | ret => exact hx
structure Edg where
  f : Int
  t : Int
  l : Int
  d : Int
  w : Int
  deriving DecidableEq
def edC (e : Edg) : List AV := [i64 e.f, i64 e.t, i64 e.l, i64 e.d, .lit (.int .i8 e.w)]
theorem edC_len (e : Edg) : (edC e).length = 5 := rfl
theorem edC_take (e : Edg) : (edC e).take 5 = edC e := rfl
theorem edC_one (e : Edg) : (edC e).all one = true := rfl
theorem edC_imms (e : Edg) : imms (edC e) = true := rfl
attribute [push_cast] edC_len edC_take edC_one edC_imms
theorem eflat_len (l : List Edg) : (l.flatMap edC).length = l.length * 5 := by
  induction l with
  | nil => rfl
  | cons o l ih => rw [List.flatMap_cons, List.length_append, ih, edC_len, List.length_cons]; omega
/-- The edges so far, where they lie. -/
def OutR (h : Hp) (out : AV) (es : List Edg) : Prop := (out = .nil ∧ es = []) ∨ (∃ id, out = .sl id 0 es.length 5 ∧ h.hp id = some ⟨true, es.flatMap edC⟩ ∧ id.1 ≤ h.ep)
/-- What 'put' leaves. -/
def PutP (h : Hp) (F : Id) (cells : List AV) (out : AV) (es : List Edg) (h' : Hp) : Prop :=
  h.ep ≤ h'.ep ∧ (∀ x : Id, x.1 ≤ h.ep → x ≠ F → idOf out ≠ some x → h'.hp x = h.hp x) ∧ ∃ id : Id, h.ep < id.1 ∧ id.1 ≤ h'.ep ∧ h'.hp id = some ⟨true, es.flatMap edC⟩ ∧ h'.hp F = some ⟨true, cells.take 16 ++ [.sl id 0 es.length 5]⟩
theorem appV_sl_eq (h : Hp) (id t : Id) (sz bytes n off len sz' : Nat) (new : List AV) : appV h id sz bytes n new (.sl t off len sz') = (h.hp t).bind fun blk => if sz' = sz ∧ blk.wr = true ∧ new.all one = true ∧ (len + n + (len + n) / 4 + 512) * bytes ≤ 281474976710656 then
    some (.sl id 0 (len + n) sz, (h.kill t).push id ((blk.cells.drop off).take (len * sz) ++ new)) else none := by simp only [appV]
theorem one_sl (id : Id) (o n s : Nat) : one (.sl id o n s) = true := rfl
theorem one_row (x : List (List AV)) : one (.row x) = true := rfl
theorem one_nil : one .nil = true := rfl
theorem one_ptr (id : Id) (o : Nat) : one (.ptr id o) = true := rfl
theorem one_fn (f : Nat) (c : List AV) : one (.fn f c) = true := rfl
attribute [push_cast] one_sl one_row one_nil one_ptr one_fn
theorem PutP.tick {h : Hp} {F : Id} {cells : List AV} {out : AV} {es : List Edg} {h' : Hp} (hp : PutP h F cells out es h') : PutP h F cells out es h'.tick := by
  obtain ⟨h1, h2, id, h3, h4, h5, h6⟩ := hp
  exact ⟨by rw [qO]; omega, h2, id, h3, by rw [qO]; omega, h5, h6⟩
theorem f97 (h : Hp) (F S : Id) (cells : List AV) (out : AV) (es : List Edg) (e : Edg) (i j dist : Int) (hF : h.hp F = some ⟨true, cells⟩) (hlen : cells.length = 17) (hout : cells[16]? = some out)
    (hS : h.hp S = some ⟨true, edC e⟩) (hSF : S ≠ F) (hFe : F.1 ≤ h.ep) (hSe : S.1 ≤ h.ep) (ho : OutR h out es) (hne : ∀ id, idOf out = some id → id ≠ F ∧ id ≠ S) (hn : es.length ≤ 100000000) :
    HC Try.prog 97 [.ptr F 0, i64 i, i64 j, i64 dist, .sl S 0 1 5] h fun r h' => r = .tup [] ∧ PutP h F cells out (es ++ [⟨i, j, e.l, dist, e.w⟩]) h' := by
  refine HC_of_awp yL cf97 (by simp) fun hf0 => ?_
  unfold ac97 re97
  refine yF fun env hE => ?_; have e0 := hE 0; have e1 := hE 1; have e2 := hE 2; have e3 := hE 3; have e4 := hE 4; have e11 := hE 11; have e12 := hE 12; have e13 := hE 13; have e14 := hE 14; have e15 := hE 15; simp -implicitDefEqProofs only [push_cast] at e0 e1 e2 e3 e4 e11 e12 e13 e14 e15; clear hE
  repeat' (first | ((try clear hf); with_reducible refine zM fun env K hE hK hf => ?_; have n : _ ∧ _ ∧ _ ∧ _ ∧ _ ∧ _ ∧ _ ∧ _ ∧ _ ∧ _ := ⟨hE 0, hE 1, hE 2, hE 3, hE 4, hE 11, hE 12, hE 13, hE 14, hE 15⟩; simp -implicitDefEqProofs only [push_cast, reduceIte, Nat.reduceEqDiff, e0, e1, e2, e3, e4, e11, e12, e13, e14, e15] at n; clear hE e0 e1 e2 e3 e4 e11 e12 e13 e14 e15; obtain ⟨e0, e1, e2, e3, e4, e11, e12, e13, e14, e15⟩ := n) | (with_reducible refine hK _ _ ?_; clear hK K) | (with_reducible first | refine zJ ?_ | refine zU ?_ | refine zB ?_ | refine zG ?_ | refine zE ?_ | refine zL ?_ | refine zT ?_ | refine zD ?_ | refine zH ?_ | refine zV ?_ | refine zF ?_ | refine zA (by decide) ?_ | refine zP ?_ | refine zO ?_ | refine zK ?_ | refine yB ?_ | refine yC ?_ | refine zW (by assumption) ?_ | refine zY (by assumption) ?_) | (refine zI rfl ?_) | (simp -implicitDefEqProofs only [push_cast, sevalprocAttr, eq_self, e0, e1, e2, e3, e4, e11, e12, e13, e14, e15, lenV_sl]) | (simp -implicitDefEqProofs (disch := omega) only [zR, zZ, zS, zQ, e0, e1, e2, e3, e4, e11, e12, e13, e14, e15, lenV_sl]) | (with_reducible refine yE ?_ ?_) | (refine zN rfl (fun bb => ?_) (fun bb => ?_) <;> simp only [bb]) | (with_reducible refine zX (fun bb => ?_) (fun bb => ?_)) | ((with_reducible refine And.intro ?_ ?_); omega) | fail)
  obtain ⟨Fe, Fs⟩ := F
  obtain ⟨Se, Ss⟩ := S
  simp only at hFe hSe
  have hdr : cells.drop (16 + 1) = [] := List.drop_eq_nil_of_le (by omega)
  have hle : 16 < cells.length := by omega
  refine awp_once (fun τ => τ.env 14 = i64 1 ∧ τ.env 13 = i64 1 ∧ PutP h (Fe, Fs) cells out (es ++ [⟨i, j, e.l, dist, e.w⟩]) τ.h) ?_ ?_
  · unfold l97_0
    have hz : ((1 : Nat) : Int) = 1 := rfl
    rcases ho with ⟨rfl, rfl⟩ | ⟨⟨Oe, Os⟩, rfl, hO, hOe⟩
    · have hA : ∀ (h' : Hp) (id' : Id), appV h' id' 5 40 1 [i64 i, i64 j, i64 e.l, i64 dist, .lit (.int .i8 e.w)] .nil = some (.sl id' 0 1 5, h'.push id' [i64 i, i64 j, i64 e.l, i64 dist, .lit (.int .i8 e.w)]) := fun h' id' => appV_nil _ _ (by decide) (by decide)
      repeat' (first | ((try clear hf); with_reducible refine zM fun env K hE hK hf => ?_; have n : _ ∧ _ ∧ _ ∧ _ ∧ _ ∧ _ ∧ _ ∧ _ ∧ _ ∧ _ := ⟨hE 0, hE 1, hE 2, hE 3, hE 4, hE 11, hE 12, hE 13, hE 14, hE 15⟩; simp -implicitDefEqProofs only [push_cast, reduceIte, Nat.reduceEqDiff, e0, e1, e2, e3, e4, e11, e12, e13, e14, e15] at n; clear hE e0 e1 e2 e3 e4 e11 e12 e13 e14 e15; obtain ⟨e0, e1, e2, e3, e4, e11, e12, e13, e14, e15⟩ := n) | (with_reducible refine hK _ _ ?_; clear hK K) | (with_reducible first | refine zJ ?_ | refine zU ?_ | refine zB ?_ | refine zG ?_ | refine zE ?_ | refine zL ?_ | refine zT ?_ | refine zD ?_ | refine zH ?_ | refine zV ?_ | refine zF ?_ | refine zA (by decide) ?_ | refine zP ?_ | refine zO ?_ | refine zK ?_ | refine yB ?_ | refine yC ?_ | refine zW (by assumption) ?_ | refine zY (by assumption) ?_) | (refine zI rfl ?_) | (simp -implicitDefEqProofs only [push_cast, sevalprocAttr, eq_self, e0, e1, e2, e3, e4, e11, e12, e13, e14, e15, hF, hS, hout, hf0.at, edC, hA, hdr, yP, List.append_nil]) | (simp -implicitDefEqProofs (disch := omega) only [zR, zZ, zS, zQ, e0, e1, e2, e3, e4, e11, e12, e13, e14, e15, hF, hS, hout, hf0.at, edC, hA, hdr, yP, List.append_nil]) | (with_reducible refine yE ?_ ?_) | (refine zN rfl (fun bb => ?_) (fun bb => ?_) <;> simp only [bb]) | (with_reducible refine zX (fun bb => ?_) (fun bb => ?_)) | ((with_reducible refine And.intro ?_ ?_); omega) | fail)
      refine ⟨by (first | (simp -implicitDefEqProofs only [push_cast, sevalprocAttr, eq_self]; done) | (simp -implicitDefEqProofs only [push_cast, sevalprocAttr, eq_self]; omega)), fun x hx hxF hxo => ?_, (h.ep + 1 + 1 + 1 + 1 + 1 + 1, 31), ?_, ?_, ?_, ?_⟩
      · obtain ⟨xe, xs⟩ := x
        simp only at hx
        simp -implicitDefEqProofs (disch := first | omega | assumption) only [tick_hp, zR, zZ, put_ne]
      · show h.ep < h.ep + 1 + 1 + 1 + 1 + 1 + 1
        omega
      · show h.ep + 1 + 1 + 1 + 1 + 1 + 1 ≤ _
        first | (simp -implicitDefEqProofs only [push_cast, sevalprocAttr, eq_self]; done) | (simp -implicitDefEqProofs only [push_cast, sevalprocAttr, eq_self]; omega)
      · simp -implicitDefEqProofs only [push_cast, sevalprocAttr, eq_self]
        simp -implicitDefEqProofs (disch := omega) only [zR, zZ, zS, zQ]
        simp -implicitDefEqProofs only [push_cast, sevalprocAttr, eq_self]
        all_goals first | rfl | (rw [hfl])
      · simp -implicitDefEqProofs only [push_cast, sevalprocAttr, eq_self]
        all_goals first | rfl | (rw [List.length_append]; rfl)
    · have htk : (es.flatMap edC).take (es.length * 5) = es.flatMap edC := by rw [← eflat_len, List.take_length]
      have hfl : es.flatMap edC ++ [i64 i, i64 j, i64 e.l, i64 dist, .lit (.int .i8 e.w)] = (es ++ [(⟨i, j, e.l, dist, e.w⟩ : Edg)]).flatMap edC := by simp [edC]
      simp only at hOe
      have hOF := (hne _ rfl).1
      have hk1 : ∀ h' : Hp, (h'.kill (Oe, Os)).hp (Fe, Fs) = h'.hp (Fe, Fs) := fun h' => kill_ne _ _ _ (Ne.symm hOF)
      repeat' (first | ((try clear hf); with_reducible refine zM fun env K hE hK hf => ?_; have n : _ ∧ _ ∧ _ ∧ _ ∧ _ ∧ _ ∧ _ ∧ _ ∧ _ ∧ _ := ⟨hE 0, hE 1, hE 2, hE 3, hE 4, hE 11, hE 12, hE 13, hE 14, hE 15⟩; simp -implicitDefEqProofs only [push_cast, reduceIte, Nat.reduceEqDiff, e0, e1, e2, e3, e4, e11, e12, e13, e14, e15] at n; clear hE e0 e1 e2 e3 e4 e11 e12 e13 e14 e15; obtain ⟨e0, e1, e2, e3, e4, e11, e12, e13, e14, e15⟩ := n) | (with_reducible refine hK _ _ ?_; clear hK K) | (with_reducible first | refine zJ ?_ | refine zU ?_ | refine zB ?_ | refine zG ?_ | refine zE ?_ | refine zL ?_ | refine zT ?_ | refine zD ?_ | refine zH ?_ | refine zV ?_ | refine zF ?_ | refine zA (by decide) ?_ | refine zP ?_ | refine zO ?_ | refine zK ?_ | refine yB ?_ | refine yC ?_ | refine zW (by assumption) ?_ | refine zY (by assumption) ?_) | (refine zI rfl ?_) | (simp -implicitDefEqProofs only [push_cast, sevalprocAttr, eq_self, e0, e1, e2, e3, e4, e11, e12, e13, e14, e15, hF, hS, hO, hout, hf0.at, edC, appV_sl_eq, htk, hk1, hdr, yP, List.append_nil]) | (simp -implicitDefEqProofs (disch := omega) only [zR, zZ, zS, zQ, e0, e1, e2, e3, e4, e11, e12, e13, e14, e15, hF, hS, hO, hout, hf0.at, edC, appV_sl_eq, htk, hk1, hdr, yP, List.append_nil]) | (with_reducible refine yE ?_ ?_) | (refine zN rfl (fun bb => ?_) (fun bb => ?_) <;> simp only [bb]) | (with_reducible refine zX (fun bb => ?_) (fun bb => ?_)) | ((with_reducible refine And.intro ?_ ?_); omega) | fail)
      refine ⟨by (first | (simp -implicitDefEqProofs only [push_cast, sevalprocAttr, eq_self]; done) | (simp -implicitDefEqProofs only [push_cast, sevalprocAttr, eq_self]; omega)), fun x hx hxF hxo => ?_, (h.ep + 1 + 1 + 1 + 1 + 1 + 1, 31), ?_, ?_, ?_, ?_⟩
      · obtain ⟨xe, xs⟩ := x
        simp only at hx
        have hxo' : (xe, xs) ≠ (Oe, Os) := fun e => hxo (by rw [e]; rfl)
        simp -implicitDefEqProofs (disch := first | omega | assumption) only [tick_hp, zR, zZ, put_ne, kill_ne]
      · show h.ep < h.ep + 1 + 1 + 1 + 1 + 1 + 1
        omega
      · show h.ep + 1 + 1 + 1 + 1 + 1 + 1 ≤ _
        first | (simp -implicitDefEqProofs only [push_cast, sevalprocAttr, eq_self]; done) | (simp -implicitDefEqProofs only [push_cast, sevalprocAttr, eq_self]; omega)
      · simp -implicitDefEqProofs only [push_cast, sevalprocAttr, eq_self]
        simp -implicitDefEqProofs (disch := omega) only [zR, zZ, zS, zQ]
        simp -implicitDefEqProofs only [push_cast, sevalprocAttr, eq_self]
        all_goals first | rfl | (rw [hfl])
      · simp -implicitDefEqProofs only [push_cast, sevalprocAttr, eq_self]
        all_goals first | rfl | (rw [List.length_append]; rfl)
  · rintro ⟨env, h1⟩ ⟨e14, e13, hP⟩
    simp only at e14 e13 hP
    have e0 : True := trivial; have e1 : True := trivial; have e2 : True := trivial; have e3 : True := trivial; have e4 : True := trivial; have e11 : True := trivial; have e12 : True := trivial; have e15 : True := trivial
    unfold l97_0
    repeat' (first | ((try clear hf); with_reducible refine zM fun env K hE hK hf => ?_; have n : _ ∧ _ ∧ _ ∧ _ ∧ _ ∧ _ ∧ _ ∧ _ ∧ _ ∧ _ := ⟨hE 0, hE 1, hE 2, hE 3, hE 4, hE 11, hE 12, hE 13, hE 14, hE 15⟩; simp -implicitDefEqProofs only [push_cast, reduceIte, Nat.reduceEqDiff, e0, e1, e2, e3, e4, e11, e12, e13, e14, e15] at n; clear hE e0 e1 e2 e3 e4 e11 e12 e13 e14 e15; obtain ⟨e0, e1, e2, e3, e4, e11, e12, e13, e14, e15⟩ := n) | (with_reducible refine hK _ _ ?_; clear hK K) | (with_reducible first | refine zJ ?_ | refine zU ?_ | refine zB ?_ | refine zG ?_ | refine zE ?_ | refine zL ?_ | refine zT ?_ | refine zD ?_ | refine zH ?_ | refine zV ?_ | refine zF ?_ | refine zA (by decide) ?_ | refine zP ?_ | refine zO ?_ | refine zK ?_ | refine yB ?_ | refine yC ?_ | refine zW (by assumption) ?_ | refine zY (by assumption) ?_) | (refine zI rfl ?_) | (simp -implicitDefEqProofs only [push_cast, sevalprocAttr, eq_self, e0, e1, e2, e3, e4, e11, e12, e13, e14, e15]) | (simp -implicitDefEqProofs (disch := omega) only [zR, zZ, zS, zQ, e0, e1, e2, e3, e4, e11, e12, e13, e14, e15]) | (with_reducible refine yE ?_ ?_) | (refine zN rfl (fun bb => ?_) (fun bb => ?_) <;> simp only [bb]) | (with_reducible refine zX (fun bb => ?_) (fun bb => ?_)) | ((with_reducible refine And.intro ?_ ?_); omega) | fail)
    exact hP.tick
end Go.Proofs.Hx

set_option linter.unusedVariables false
set_option linter.unusedSimpArgs false
namespace Go.Proofs.Hx
open Go Go.Proofs
attribute [local irreducible] yM awp opK goV goM yV yZ qF yQ HV HVF HC
/-- 'g' holds what 'h' held, and perhaps more. -/
def Ext (h g : Hp) : Prop := h.ep ≤ g.ep ∧ ∀ x : Id, x.1 ≤ h.ep → g.hp x = h.hp x
theorem Ext.refl (h : Hp) : Ext h h := ⟨Nat.le_refl _, fun _ _ => rfl⟩
theorem Ext.tick {h g : Hp} (e : Ext h g) : Ext h g.tick := ⟨Nat.le_succ_of_le e.1, e.2⟩
theorem Ext.push {h g : Hp} (e : Ext h g) {a b : Nat} (hid : h.ep < a) (cells : List AV) : Ext h (g.push (a, b) cells) :=
  ⟨e.1, fun x hx => by rw [push_ne _ _ _ _ (fun e' => by rw [e'] at hx; simp at hx; omega)]; exact e.2 x hx⟩
theorem Ext.put {h g : Hp} (e : Ext h g) {a b : Nat} (hid : h.ep < a) (cells : List AV) : Ext h (g.put (a, b) cells) :=
  ⟨e.1, fun x hx => by rw [put_ne _ _ _ _ (fun e' => by rw [e'] at hx; simp at hx; omega)]; exact e.2 x hx⟩
/-- The finder's cells. -/
def finC (l : List Opn) (t : Tab) (rid did : Id) (out : AV) : List AV := .row (l.map opC) :: (tabC t ++ [.sl rid 0 l.length 1, .sl did 0 l.length 1, out])
theorem finC_0 (l : List Opn) (t : Tab) (rid did : Id) (out : AV) : (finC l t rid did out)[0]? = some (.row (l.map opC)) := rfl
theorem finC_7 (l : List Opn) (t : Tab) (rid did : Id) (out : AV) : (finC l t rid did out)[7]? = some (i64 (t.l 2)) := rfl
theorem finC_14 (l : List Opn) (t : Tab) (rid did : Id) (out : AV) : (finC l t rid did out)[14]? = some (.sl rid 0 l.length 1) := rfl
theorem finC_15 (l : List Opn) (t : Tab) (rid did : Id) (out : AV) : (finC l t rid did out)[15]? = some (.sl did 0 l.length 1) := rfl
theorem finC_16 (l : List Opn) (t : Tab) (rid did : Id) (out : AV) : (finC l t rid did out)[16]? = some out := rfl
/-- What steps behind the finder leave. -/
def FS (h : Hp) (F : Id) (out : AV) (h' : Hp) (out' : AV) : Prop := h.ep ≤ h'.ep ∧ ∀ x : Id, x.1 ≤ h.ep → x ≠ F → idOf out ≠ some x → h'.hp x = h.hp x ∧ idOf out' ≠ some x
theorem FS.refl (h : Hp) (F : Id) (out : AV) : FS h F out h out := ⟨Nat.le_refl _, fun _ _ _ h => ⟨rfl, h⟩⟩
theorem FS.trans {h h1 h2 : Hp} {F : Id} {o o1 o2 : AV} (a : FS h F o h1 o1) (b : FS h1 F o1 h2 o2) : FS h F o h2 o2 :=
  ⟨Nat.le_trans a.1 b.1, fun x hx hF ho => by
    obtain ⟨a1, a2⟩ := a.2 x hx hF ho
    obtain ⟨b1, b2⟩ := b.2 x (Nat.le_trans hx a.1) hF a2
    exact ⟨b1.trans a1, b2⟩⟩
theorem FS.tick {h h1 : Hp} {F : Id} {o o1 : AV} (a : FS h F o h1 o1) : FS h F o h1.tick o1 := ⟨Nat.le_succ_of_le a.1, a.2⟩
/-- The finder in the heap, with the edges so far. -/
structure FinH (h : Hp) (F : Id) (l : List Opn) (t : Tab) (es : List Edg) (rid did : Id) (out : AV) : Prop where
  fin : h.hp F = some ⟨true, finC l t rid did out⟩
  rds : h.hp rid = some ⟨true, l.flatMap regRow⟩
  ds : h.hp did = some ⟨true, l.flatMap dRow⟩
  outr : OutR h out es
  eF : F.1 ≤ h.ep
  er : rid.1 ≤ h.ep
  ed : did.1 ≤ h.ep
  rF : rid ≠ F
  dF : did ≠ F
  rd : rid ≠ did
  oF : ∀ id, idOf out = some id → id ≠ F ∧ id ≠ rid ∧ id ≠ did
theorem edrows_imms (l : List Edg) : immss (l.map edC) = true := qI fun i x hx => by simp at hx; obtain ⟨o, _, rfl⟩ := hx; rfl
theorem flat1_len {α : Type} {f : α → List AV} (hf : ∀ a, (f a).length = 1) (l : List α) : (l.flatMap f).length = l.length * 1 := by
  induction l with
  | nil => rfl
  | cons o l ih => rw [List.flatMap_cons, List.length_append, ih, hf, List.length_cons]; omega
theorem flat_imms' {α : Type} {f : α → List AV} (hf : ∀ a, imms (f a) = true) (l : List α) : imms (l.flatMap f) = true := by
  induction l with
  | nil => rfl
  | cons o l ih => simp only [List.flatMap_cons]; exact imms_app (hf o) ih
theorem lend_rows_d (d : Nat) {α : Type} {f : α → List AV} {sz : Nat} (hf : ∀ a, (f a).length = sz) (hi : ∀ a, imms (f a) = true) {h : Hp} {id : Id} {l : List α} (hb : h.hp id = some ⟨true, l.flatMap f⟩) (hl : (l.flatMap f).length = l.length * sz) :
    lend (d + 1) h (.sl id 0 l.length sz) = some (.row (l.map f)) := by
  rw [lend_sl_d d hb (flat_imms' hi l) (by omega), List.drop_zero, ← hl, List.take_length, chunks_map f sz hf]
theorem mapO_app {α β : Type} (f : α → Option β) : ∀ (a b : List α) {x y : List β}, mapO f a = some x → mapO f b = some y → mapO f (a ++ b) = some (x ++ y)
  | [], b, x, y, h1, h2 => by simp [mapO] at h1; subst h1; exact h2
  | v :: a, b, x, y, h1, h2 => by
    simp only [mapO] at h1
    split at h1
    · rename_i u us e1 e2
      cases h1
      simp only [List.cons_append, mapO, e1, mapO_app f a b e2 h2]
    · cases h1
theorem lend_fin {h g : Hp} {F : Id} {l : List Opn} {t : Tab} {es : List Edg} {rid did : Id} {out : AV} (hX : FinH h F l t es rid did out) (hg : Ext h g) :
    ∃ o', imm o' = true ∧ lend fuelL g (.ptr F 0) = some (.ip (finA l t o')) := by
  have h1 := (hg.2 F hX.eF).trans hX.fin
  have h2 := (hg.2 rid hX.er).trans hX.rds
  have h3 := (hg.2 did hX.ed).trans hX.ds
  obtain ⟨o', hi, ho⟩ : ∃ o', imm o' = true ∧ lend 7 g out = some o' := by
    rcases hX.outr with ⟨rfl, _⟩ | ⟨id, rfl, hb, he⟩
    · exact ⟨.nil, rfl, lend_imm rfl⟩
    · exact ⟨_, by simp only [imm]; exact edrows_imms es, lend_rows_d 6 edC_len edC_imms ((hg.2 id he).trans hb) (eflat_len es)⟩
  refine ⟨o', hi, ?_⟩
  rw [lend_ptrF, h1]
  simp only [Option.bind_some, List.drop_zero, finC]
  have e1 : mapO (lend 7 g) [.sl rid 0 l.length 1, .sl did 0 l.length 1, out] = some [.row (l.map regRow), .row (l.map dRow), o'] := by
    simp only [mapO, lend_rows_d 6 (f := regRow) (sz := 1) (fun _ => rfl) regRow_imms h2 (flat1_len (fun _ => rfl) l), lend_rows_d 6 (f := dRow) (sz := 1) (fun _ => rfl) (fun _ => rfl) h3 (flat1_len (fun _ => rfl) l), ho]
  have e2 : mapO (lend 7 g) (tabC t) = some (tabC t) := qS (tab_imms t)
  simp only [mapO, lend_opsrow, mapO_app _ _ _ e2 e1, Option.map_some]
  rfl
/-- A call that only reads the finder. -/
theorem call_fin {P : Program} {d : Option Nat} {K : St → Prop} {env : Nat → AV} {h g : Hp} {fn : Nat} {F : Id} {l : List Opn} {t : Tab} {es : List Edg} {rid did : Id} {out : AV} {args : List AV} {v : Value} (hX : FinH h F l t es rid did out) (hg : Ext h g)
    (hv : ∀ o, imm o = true → HV P fn (.ip (finA l t o) :: args) (.lit v)) (hi : imms args = true) (k : K ⟨putA env d (.lit v), g.tick⟩) : yV P d K env g false (.fn fn []) (.ptr F 0 :: args) := by
  obtain ⟨o', hi', hl⟩ := lend_fin hX hg
  refine call_lend (args' := .ip (finA l t o') :: args) ?_ (hv o' hi') rfl k
  rw [List.append_nil, mapO_cons, hl, qS hi]
  rfl
/-- 'put' behind the finder. -/
theorem call_put {d : Option Nat} {K : St → Prop} {env : Nat → AV} {h g : Hp} {F S : Id} {l : List Opn} {t : Tab} {es : List Edg} {rid did : Id} {out : AV} {e : Edg} {i j dist : Int} (hX : FinH h F l t es rid did out) (hg : Ext h g)
    (hS : g.hp S = some ⟨true, edC e⟩) (hS1 : h.ep < S.1) (hS2 : S.1 ≤ g.ep) (hn : es.length ≤ 100000000)
    (k : ∀ h' out', FinH h' F l t (es ++ [⟨i, j, e.l, dist, e.w⟩]) rid did out' → qQ h' → FS h F out h' out' → K ⟨putA env d (.tup []), h'.tick⟩) :
    yV Try.prog d K env g false (.fn 97 []) [.ptr F 0, i64 i, i64 j, i64 dist, .sl S 0 1 5] := by
  have hlt : ∀ {x : Id}, x.1 ≤ h.ep → x ≠ S := fun hx e => by rw [e] at hx; omega
  have hge := hg.1
  refine call_hc (HC.mono (f97 g F S _ out es e i j dist ((hg.2 F hX.eF).trans hX.fin) rfl rfl hS (fun e => hlt hX.eF e.symm) (Nat.le_trans hX.eF hge) hS2 ?_ ?_ hn) ?_)
  · rcases hX.outr with h1 | ⟨id, h1, h2, h3⟩
    · exact .inl h1
    · exact .inr ⟨id, h1, (hg.2 id h3).trans h2, Nat.le_trans h3 hge⟩
  · intro id hid
    refine ⟨(hX.oF id hid).1, ?_⟩
    rcases hX.outr with ⟨h1, _⟩ | ⟨id', h1, h2, h3⟩
    · rw [h1] at hid; cases hid
    · rw [h1] at hid
      simp only [idOf, Option.some.injEq] at hid
      subst hid
      exact hlt h3
  · rintro r h' ⟨rfl, hP⟩ hF'
    obtain ⟨p1, p2, id, p3, p4, p5, p6⟩ := hP
    have keep : ∀ x : Id, x.1 ≤ h.ep → x ≠ F → idOf out ≠ some x → h'.hp x = h.hp x := fun x hx hxF hxo => (p2 x (Nat.le_trans hx hge) hxF hxo).trans (hg.2 x hx)
    have hne : ∀ {x : Id}, x.1 ≤ h.ep → x ≠ id := fun hx e => by rw [e] at hx; omega
    refine k h' (.sl id 0 (es ++ [⟨i, j, e.l, dist, e.w⟩] : List Edg).length 5) ⟨?_, ?_, ?_, ?_, ?_, ?_, ?_, hX.rF, hX.dF, hX.rd, ?_⟩ hF' ⟨Nat.le_trans hge p1, fun x hx hxF hxo => ⟨keep x hx hxF hxo, by simp only [idOf, ne_eq, Option.some.injEq]; exact Ne.symm (hne hx)⟩⟩
    · rw [p6]; rfl
    · rw [keep rid hX.er hX.rF (fun e => (hX.oF _ e).2.1 rfl)]; exact hX.rds
    · rw [keep did hX.ed hX.dF (fun e => (hX.oF _ e).2.2 rfl)]; exact hX.ds
    · exact .inr ⟨id, rfl, p5, p4⟩
    · exact Nat.le_trans (Nat.le_trans hX.eF hge) p1
    · exact Nat.le_trans (Nat.le_trans hX.er hge) p1
    · exact Nat.le_trans (Nat.le_trans hX.ed hge) p1
    · intro x hx
      simp only [idOf, Option.some.injEq] at hx
      subst hx
      exact ⟨Ne.symm (hne hX.eF), Ne.symm (hne hX.er), Ne.symm (hne hX.ed)⟩
theorem FinH.ext {h g : Hp} {F : Id} {l : List Opn} {t : Tab} {es : List Edg} {rid did : Id} {out : AV} (hX : FinH h F l t es rid did out) (hg : Ext h g) : FinH g F l t es rid did out :=
  ⟨(hg.2 _ hX.eF).trans hX.fin, (hg.2 _ hX.er).trans hX.rds, (hg.2 _ hX.ed).trans hX.ds, by
    rcases hX.outr with h1 | ⟨id, h1, h2, h3⟩
    · exact .inl h1
    · exact .inr ⟨id, h1, (hg.2 _ h3).trans h2, Nat.le_trans h3 hg.1⟩, Nat.le_trans hX.eF hg.1, Nat.le_trans hX.er hg.1, Nat.le_trans hX.ed hg.1, hX.rF, hX.dF, hX.rd, hX.oF⟩
theorem FS.ext {h0 h g : Hp} {F : Id} {o o1 : AV} (a : FS h0 F o h o1) (hg : Ext h g) : FS h0 F o g o1 :=
  ⟨Nat.le_trans a.1 hg.1, fun x hx hF ho => ⟨(hg.2 x (Nat.le_trans hx a.1)).trans (a.2 x hx hF ho).1, (a.2 x hx hF ho).2⟩⟩
/-- The register that an operation writes, or -1. -/
def dS (o : Opn) : Int := if (wrS o).2 then (wrS o).1 else -1
theorem dS_at {l : List Opn} {k : Nat} (hk : k < l.length) : (l.flatMap dRow)[k]? = some (i64 (dS l[k])) := by
  induction l generalizing k with
  | nil => simp at hk
  | cons o l ih =>
    cases k with
    | zero => rfl
    | succ k => simpa [List.flatMap_cons, dRow] using ih (by simpa using hk)
def stS (o : Opn) : Bool := decide (o.k = 16)
/-- The dependences of a pair, but for the true ones. -/
def pairE (t : Tab) (a b : Opn) (i j : Int) (dist : Int) (meet : Bool) : List Edg :=
  (if 0 ≤ dS b ∧ seesS a (dS b) = true then [⟨i, j, 0, dist, 1⟩] else []) ++
  (if 0 ≤ dS b ∧ dS a = dS b then [⟨i, j, if latS t a - latS t b + 1 > 0 then latS t a - latS t b + 1 else 0, dist, 2⟩] else []) ++
  (if meet = true ∧ (stS a = true ∨ stS b = true) then [⟨i, j, if stS a = true ∧ stS b = true then 1 else if stS a = true then t.l 2 else 0, dist, 3⟩] else []) ++
  (if effS a = true ∧ effS b = true then [⟨i, j, 1, dist, 4⟩] else [])
theorem latS_ok {t : Tab} (ht : qM t) (o : Opn) : 1 ≤ latS t o ∧ latS t o ≤ 8 := by
  have := ht.1 _ (clsN_lt o)
  unfold okC at this
  unfold latS
  omega
end Go.Proofs.Hx

set_option linter.unusedVariables false
set_option linter.unusedSimpArgs false
namespace Go.Proofs.Hx
open Go Go.Proofs
attribute [local irreducible] yM awp opK goV goM yV yZ qF yQ HV HVF HC
theorem awp_cut {P : Program} {a b : ACode} {Q : AEx → St → Prop} {σ : St} (Mid : St → Prop) (h1 : awp P a (seqK P Mid Q) σ) (h2 : ∀ σ', Mid σ' → awp P b Q σ') : awp P (.seq a b) Q σ :=
  zJ (awp_mono a (seqK P Mid Q) (seqK P (awp P b Q) Q) (fun e σ' hx => by
    cases e with
    | normal => exact h2 σ' hx
    | exit i => exact hx
    | ret => exact hx) σ h1)
def pair1 (a b : Opn) (i j dist : Int) : List Edg := if 0 ≤ dS b ∧ seesS a (dS b) = true then [⟨i, j, 0, dist, 1⟩] else []
def pair2 (t : Tab) (a b : Opn) (i j dist : Int) : List Edg := if 0 ≤ dS b ∧ dS a = dS b then [⟨i, j, if latS t a - latS t b + 1 > 0 then latS t a - latS t b + 1 else 0, dist, 2⟩] else []
def pair3 (t : Tab) (a b : Opn) (i j dist : Int) (meet : Bool) : List Edg := if meet = true ∧ (stS a = true ∨ stS b = true) then [⟨i, j, if stS a = true ∧ stS b = true then 1 else if stS a = true then t.l 2 else 0, dist, 3⟩] else []
def pair4 (a b : Opn) (i j dist : Int) : List Edg := if effS a = true ∧ effS b = true then [⟨i, j, 1, dist, 4⟩] else []
theorem pairE_eq (t : Tab) (a b : Opn) (i j dist : Int) (meet : Bool) : pairE t a b i j dist meet = pair1 a b i j dist ++ pair2 t a b i j dist ++ pair3 t a b i j dist meet ++ pair4 a b i j dist := rfl
theorem pair_lens (t : Tab) (a b : Opn) (i j dist : Int) (meet : Bool) : (pair1 a b i j dist).length ≤ 1 ∧ (pair2 t a b i j dist).length ≤ 1 ∧ (pair3 t a b i j dist meet).length ≤ 1 ∧ (pair4 a b i j dist).length ≤ 1 := by
  unfold pair1 pair2 pair3 pair4
  refine ⟨?_, ?_, ?_, ?_⟩ <;> split <;> simp
def M99 (h0 : Hp) (F : Id) (l : List Opn) (t : Tab) (rid did : Id) (out0 : AV) (i j : Nat) (dist : Int) (meet : Bool) (E : List Edg) (σ : St) : Prop :=
  ∃ out, σ.env 0 = .ptr F 0 ∧ σ.env 1 = i64 i ∧ σ.env 2 = i64 j ∧ σ.env 3 = i64 dist ∧ σ.env 4 = bl meet ∧ FinH σ.h F l t E rid did out ∧ FS h0 F out0 σ.h out
def M99b (h0 : Hp) (F : Id) (l : List Opn) (t : Tab) (rid did : Id) (out0 : AV) (i j : Nat) (dist : Int) (meet sa sb : Bool) (E : List Edg) (σ : St) : Prop :=
  ∃ out, σ.env 0 = .ptr F 0 ∧ σ.env 1 = i64 i ∧ σ.env 2 = i64 j ∧ σ.env 3 = i64 dist ∧ σ.env 4 = bl meet ∧ σ.env 10 = bl sa ∧ σ.env 11 = bl sb ∧ FinH σ.h F l t E rid did out ∧ FS h0 F out0 σ.h out
theorem es_yes {h : Hp} {F : Id} {l : List Opn} {t : Tab} {rid did : Id} {out : AV} {E E' : List Edg} (e : E = E') (hX : FinH h F l t E rid did out) : FinH h F l t E' rid did out := e ▸ hX
set_option maxHeartbeats 2000000 in
theorem f99 {h0 : Hp} {F : Id} {l : List Opn} {t : Tab} {es : List Edg} {rid did : Id} {out0 : AV} (hX : FinH h0 F l t es rid did out0) (i j : Nat) (hi : i < l.length) (hj : j < l.length) (dist : Int) (meet : Bool)
    (hl : ∀ o ∈ l, o.ok) (ht : qM t) (hn : es.length ≤ 10000000) :
    HC Try.prog 99 [.ptr F 0, i64 i, i64 j, i64 dist, bl meet] h0 fun r h' => r = .tup [] ∧ ∃ out', FinH h' F l t (es ++ pairE t l[i] l[j] i j dist meet) rid did out' ∧ FS h0 F out0 h' out' := by
  refine HC_of_awp yL cf99 (by simp) fun hF => ?_
  unfold ac99 re99
  refine yF fun env hE => ?_; have e0 := hE 0; have e1 := hE 1; have e2 := hE 2; have e3 := hE 3; have e4 := hE 4; have e10 := hE 10; have e11 := hE 11; have e12 := hE 12; simp -implicitDefEqProofs only [push_cast] at e0 e1 e2 e3 e4 e10 e11 e12; clear hE
  obtain ⟨Fe, Fs⟩ := F
  obtain ⟨re, rs⟩ := rid
  obtain ⟨de, ds⟩ := did
  have hai := dS_at hi
  have haj := dS_at hj
  have hri := qJ hi .i64
  have hrj := qJ hj .i64
  have l1 := latS_ok ht l[i]
  have l2 := latS_ok ht l[j]
  obtain ⟨n1, n2, n3, n4⟩ := pair_lens t l[i] l[j] i j dist meet
  rw [pairE_eq]
  have hX' := hX.ext (Ext.refl h0).tick
  have hS' := (FS.refl h0 (Fe, Fs) out0).ext (Ext.refl h0).tick
  generalize h0.tick = h at hX' hS' ⊢
  clear hX hF
  revert hX' hS'
  intro hX hS
  refine awp_cut (M99 h0 (Fe, Fs) l t (re, rs) (de, ds) out0 i j dist meet (es ++ pair1 l[i] l[j] i j dist)) ?_ ?_
  · refine yI fun hF => ?_
    have hb := hX.fin
    have hd := hX.ds
    have hFe : Fe ≤ h.ep := hX.eF
    have hde : de ≤ h.ep := hX.ed
    repeat' (first | ((try clear hf); with_reducible refine zM fun env K hE hK hf => ?_; have n : _ ∧ _ ∧ _ ∧ _ ∧ _ ∧ _ ∧ _ ∧ _ := ⟨hE 0, hE 1, hE 2, hE 3, hE 4, hE 10, hE 11, hE 12⟩; simp -implicitDefEqProofs only [push_cast, reduceIte, Nat.reduceEqDiff, e0, e1, e2, e3, e4, e10, e11, e12] at n; clear hE e0 e1 e2 e3 e4 e10 e11 e12; obtain ⟨e0, e1, e2, e3, e4, e10, e11, e12⟩ := n) | (with_reducible refine hK _ _ ?_; clear hK K) | (with_reducible first | refine zJ ?_ | refine zU ?_ | refine zB ?_ | refine zG ?_ | refine zE ?_ | refine zL ?_ | refine zT ?_ | refine zD ?_ | refine zH ?_ | refine zV ?_ | refine zF ?_ | refine zA (by decide) ?_ | refine zP ?_ | refine zO ?_ | refine zK ?_ | refine yB ?_ | refine yC ?_ | refine zW (by assumption) ?_ | refine zY (by assumption) ?_) | (refine zI rfl ?_) | (simp -implicitDefEqProofs only [push_cast, sevalprocAttr, eq_self, e0, e1, e2, e3, e4, e10, e11, e12, hb, hd, hai, haj, hri, hrj, hF.at, finC_0, finC_7, finC_14, finC_15, finC_16, yP, op_0, qR]) | (simp -implicitDefEqProofs (disch := omega) only [zR, zZ, zS, zQ, e0, e1, e2, e3, e4, e10, e11, e12, hb, hd, hai, haj, hri, hrj, hF.at, finC_0, finC_7, finC_14, finC_15, finC_16, yP, op_0, qR]) | (with_reducible refine yE ?_ ?_) | (refine zN rfl (fun bb => ?_) (fun bb => ?_) <;> simp only [bb]) | (with_reducible refine zX (fun bb => ?_) (fun bb => ?_)) | ((with_reducible refine And.intro ?_ ?_); omega) | (refine call_fin hX (by repeat (first | exact Ext.refl _ | refine Ext.tick ?_ | refine Ext.push ?_ (by omega) _ | refine Ext.put ?_ (by omega) _)) (fun o ho => f117 l t o ho i hi hl _) rfl ?_) | (refine call_put (e := ⟨0, 0, 0, 0, 1⟩) hX (by repeat (first | exact Ext.refl _ | refine Ext.tick ?_ | refine Ext.push ?_ (by omega) _ | refine Ext.put ?_ (by omega) _)) (by simp -implicitDefEqProofs only [push_cast, sevalprocAttr, eq_self]; rfl) (by first | omega | (dsimp only; omega)) (by first | (simp -implicitDefEqProofs only [push_cast, sevalprocAttr, eq_self]; done) | (simp -implicitDefEqProofs only [push_cast, sevalprocAttr, eq_self]; omega)) (by first | omega | (simp only [List.length_append, List.length_cons, List.length_nil]; omega)) ?_; intro h out hX hF hs; replace hS := FS.trans hS hs; have hb := hX.fin; have hd := hX.ds; have hFe : Fe ≤ h.ep := hX.eF; have hde : de ≤ h.ep := hX.ed) | fail)
    all_goals
      refine ⟨_, by simp -implicitDefEqProofs only [push_cast, sevalprocAttr, eq_self, e0], by simp -implicitDefEqProofs only [push_cast, sevalprocAttr, eq_self, e1], by simp -implicitDefEqProofs only [push_cast, sevalprocAttr, eq_self, e2], by simp -implicitDefEqProofs only [push_cast, sevalprocAttr, eq_self, e3], by simp -implicitDefEqProofs only [push_cast, sevalprocAttr, eq_self, e4], es_yes ?_ (hX.ext (by repeat (first | exact Ext.refl _ | refine Ext.tick ?_ | refine Ext.push ?_ (by omega) _ | refine Ext.put ?_ (by omega) _))), hS.ext (by repeat (first | exact Ext.refl _ | refine Ext.tick ?_ | refine Ext.push ?_ (by omega) _ | refine Ext.put ?_ (by omega) _))⟩
      (try clear hf); (try clear e0 e1 e2 e3 e4 e10 e11 e12)
      unfold pair1
      (try simp only [decide_eq_true_eq, decide_eq_false_iff_not, Bool.not_eq_true] at *)
      first | (simp [*]; done) | (simp_all; done)
  rintro ⟨env, h⟩ ⟨out, e0, e1, e2, e3, e4, hX, hS⟩
  simp only at e0 e1 e2 e3 e4 hX hS
  have e10 : True := trivial; have e11 : True := trivial; have e12 : True := trivial
  refine awp_cut (M99 h0 (Fe, Fs) l t (re, rs) (de, ds) out0 i j dist meet (es ++ pair1 l[i] l[j] i j dist ++ pair2 t l[i] l[j] i j dist)) ?_ ?_
  · refine yI fun hF => ?_
    have hb := hX.fin
    have hd := hX.ds
    have hFe : Fe ≤ h.ep := hX.eF
    have hde : de ≤ h.ep := hX.ed
    repeat' (first | ((try clear hf); with_reducible refine zM fun env K hE hK hf => ?_; have n : _ ∧ _ ∧ _ ∧ _ ∧ _ ∧ _ ∧ _ ∧ _ := ⟨hE 0, hE 1, hE 2, hE 3, hE 4, hE 10, hE 11, hE 12⟩; simp -implicitDefEqProofs only [push_cast, reduceIte, Nat.reduceEqDiff, e0, e1, e2, e3, e4, e10, e11, e12] at n; clear hE e0 e1 e2 e3 e4 e10 e11 e12; obtain ⟨e0, e1, e2, e3, e4, e10, e11, e12⟩ := n) | (with_reducible refine hK _ _ ?_; clear hK K) | (with_reducible first | refine zJ ?_ | refine zU ?_ | refine zB ?_ | refine zG ?_ | refine zE ?_ | refine zL ?_ | refine zT ?_ | refine zD ?_ | refine zH ?_ | refine zV ?_ | refine zF ?_ | refine zA (by decide) ?_ | refine zP ?_ | refine zO ?_ | refine zK ?_ | refine yB ?_ | refine yC ?_ | refine zW (by assumption) ?_ | refine zY (by assumption) ?_) | (refine zI rfl ?_) | (simp -implicitDefEqProofs only [push_cast, sevalprocAttr, eq_self, e0, e1, e2, e3, e4, e10, e11, e12, hb, hd, hai, haj, hri, hrj, hF.at, finC_0, finC_7, finC_14, finC_15, finC_16, yP, op_0, qR]) | (simp -implicitDefEqProofs (disch := omega) only [zR, zZ, zS, zQ, e0, e1, e2, e3, e4, e10, e11, e12, hb, hd, hai, haj, hri, hrj, hF.at, finC_0, finC_7, finC_14, finC_15, finC_16, yP, op_0, qR]) | (with_reducible refine yE ?_ ?_) | (refine zN rfl (fun bb => ?_) (fun bb => ?_) <;> simp only [bb]) | (with_reducible refine zX (fun bb => ?_) (fun bb => ?_)) | ((with_reducible refine And.intro ?_ ?_); omega) | (refine call_fin hX (by repeat (first | exact Ext.refl _ | refine Ext.tick ?_ | refine Ext.push ?_ (by omega) _ | refine Ext.put ?_ (by omega) _)) (fun o ho => f98 l t o ho i hi) rfl ?_) | (refine call_fin hX (by repeat (first | exact Ext.refl _ | refine Ext.tick ?_ | refine Ext.push ?_ (by omega) _ | refine Ext.put ?_ (by omega) _)) (fun o ho => f98 l t o ho j hj) rfl ?_) | (refine call_put (e := ⟨0, 0, if latS t l[i] - latS t l[j] + 1 > 0 then latS t l[i] - latS t l[j] + 1 else 0, 0, 2⟩) hX (by repeat (first | exact Ext.refl _ | refine Ext.tick ?_ | refine Ext.push ?_ (by omega) _ | refine Ext.put ?_ (by omega) _)) (by simp -implicitDefEqProofs only [push_cast, sevalprocAttr, eq_self]; rfl) (by first | omega | (dsimp only; omega)) (by first | (simp -implicitDefEqProofs only [push_cast, sevalprocAttr, eq_self]; done) | (simp -implicitDefEqProofs only [push_cast, sevalprocAttr, eq_self]; omega)) (by first | omega | (simp only [List.length_append, List.length_cons, List.length_nil]; omega)) ?_; intro h out hX hF hs; replace hS := FS.trans hS hs; have hb := hX.fin; have hd := hX.ds; have hFe : Fe ≤ h.ep := hX.eF; have hde : de ≤ h.ep := hX.ed) | fail)
    all_goals
      refine ⟨_, by simp -implicitDefEqProofs only [push_cast, sevalprocAttr, eq_self, e0], by simp -implicitDefEqProofs only [push_cast, sevalprocAttr, eq_self, e1], by simp -implicitDefEqProofs only [push_cast, sevalprocAttr, eq_self, e2], by simp -implicitDefEqProofs only [push_cast, sevalprocAttr, eq_self, e3], by simp -implicitDefEqProofs only [push_cast, sevalprocAttr, eq_self, e4], es_yes ?_ (hX.ext (by repeat (first | exact Ext.refl _ | refine Ext.tick ?_ | refine Ext.push ?_ (by omega) _ | refine Ext.put ?_ (by omega) _))), hS.ext (by repeat (first | exact Ext.refl _ | refine Ext.tick ?_ | refine Ext.push ?_ (by omega) _ | refine Ext.put ?_ (by omega) _))⟩
      (try clear hf); (try clear e0 e1 e2 e3 e4 e10 e11 e12)
      unfold pair2
      (try simp only [decide_eq_true_eq, decide_eq_false_iff_not, Bool.not_eq_true] at *)
      first | (simp [*]; done) | (simp_all; done)
  rintro ⟨env, h⟩ ⟨out, e0, e1, e2, e3, e4, hX, hS⟩
  simp only at e0 e1 e2 e3 e4 hX hS
  have e10 : True := trivial; have e11 : True := trivial; have e12 : True := trivial
  refine awp_cut (M99b h0 (Fe, Fs) l t (re, rs) (de, ds) out0 i j dist meet (stS l[i]) (stS l[j]) (es ++ pair1 l[i] l[j] i j dist ++ pair2 t l[i] l[j] i j dist)) ?_ ?_
  · have hb := hX.fin
    have hd := hX.ds
    repeat' (first | ((try clear hf); with_reducible refine zM fun env K hE hK hf => ?_; have n : _ ∧ _ ∧ _ ∧ _ ∧ _ ∧ _ ∧ _ ∧ _ := ⟨hE 0, hE 1, hE 2, hE 3, hE 4, hE 10, hE 11, hE 12⟩; simp -implicitDefEqProofs only [push_cast, reduceIte, Nat.reduceEqDiff, e0, e1, e2, e3, e4, e10, e11, e12] at n; clear hE e0 e1 e2 e3 e4 e10 e11 e12; obtain ⟨e0, e1, e2, e3, e4, e10, e11, e12⟩ := n) | (with_reducible refine hK _ _ ?_; clear hK K) | (with_reducible first | refine zJ ?_ | refine zU ?_ | refine zB ?_ | refine zG ?_ | refine zE ?_ | refine zL ?_ | refine zT ?_ | refine zD ?_ | refine zH ?_ | refine zV ?_ | refine zF ?_ | refine zA (by decide) ?_ | refine zP ?_ | refine zO ?_ | refine zK ?_ | refine yB ?_ | refine yC ?_ | refine zW (by assumption) ?_ | refine zY (by assumption) ?_) | (refine zI rfl ?_) | (simp -implicitDefEqProofs only [push_cast, sevalprocAttr, eq_self, e0, e1, e2, e3, e4, e10, e11, e12, hb, hd, hai, haj, hri, hrj, finC_0, finC_7, finC_14, finC_15, finC_16, yP, op_0, qR]) | (simp -implicitDefEqProofs (disch := omega) only [zR, zZ, zS, zQ, e0, e1, e2, e3, e4, e10, e11, e12, hb, hd, hai, haj, hri, hrj, finC_0, finC_7, finC_14, finC_15, finC_16, yP, op_0, qR]) | (with_reducible refine yE ?_ ?_) | (refine zN rfl (fun bb => ?_) (fun bb => ?_) <;> simp only [bb]) | (with_reducible refine zX (fun bb => ?_) (fun bb => ?_)) | ((with_reducible refine And.intro ?_ ?_); omega) | fail)
    exact ⟨_, by simp -implicitDefEqProofs only [push_cast, sevalprocAttr, eq_self, e0], by simp -implicitDefEqProofs only [push_cast, sevalprocAttr, eq_self, e1], by simp -implicitDefEqProofs only [push_cast, sevalprocAttr, eq_self, e2], by simp -implicitDefEqProofs only [push_cast, sevalprocAttr, eq_self, e3], by simp -implicitDefEqProofs only [push_cast, sevalprocAttr, eq_self, e4], by simp -implicitDefEqProofs only [push_cast, sevalprocAttr, eq_self]; rfl, by simp -implicitDefEqProofs only [push_cast, sevalprocAttr, eq_self]; rfl, hX.ext (by repeat (first | exact Ext.refl _ | refine Ext.tick ?_ | refine Ext.push ?_ (by omega) _ | refine Ext.put ?_ (by omega) _)), hS.ext (by repeat (first | exact Ext.refl _ | refine Ext.tick ?_ | refine Ext.push ?_ (by omega) _ | refine Ext.put ?_ (by omega) _))⟩
  rintro ⟨env, h⟩ ⟨out, e0, e1, e2, e3, e4, e10, e11, hX, hS⟩
  simp only at e0 e1 e2 e3 e4 e10 e11 hX hS
  have e12 : True := trivial
  refine awp_cut (M99 h0 (Fe, Fs) l t (re, rs) (de, ds) out0 i j dist meet (es ++ pair1 l[i] l[j] i j dist ++ pair2 t l[i] l[j] i j dist ++ pair3 t l[i] l[j] i j dist meet)) ?_ ?_
  · refine yI fun hF => ?_
    have hb := hX.fin
    have hd := hX.ds
    have hFe : Fe ≤ h.ep := hX.eF
    have hde : de ≤ h.ep := hX.ed
    repeat' (first | ((try clear hf); with_reducible refine zM fun env K hE hK hf => ?_; have n : _ ∧ _ ∧ _ ∧ _ ∧ _ ∧ _ ∧ _ ∧ _ := ⟨hE 0, hE 1, hE 2, hE 3, hE 4, hE 10, hE 11, hE 12⟩; simp -implicitDefEqProofs only [push_cast, reduceIte, Nat.reduceEqDiff, e0, e1, e2, e3, e4, e10, e11, e12] at n; clear hE e0 e1 e2 e3 e4 e10 e11 e12; obtain ⟨e0, e1, e2, e3, e4, e10, e11, e12⟩ := n) | (with_reducible refine hK _ _ ?_; clear hK K) | (with_reducible first | refine zJ ?_ | refine zU ?_ | refine zB ?_ | refine zG ?_ | refine zE ?_ | refine zL ?_ | refine zT ?_ | refine zD ?_ | refine zH ?_ | refine zV ?_ | refine zF ?_ | refine zA (by decide) ?_ | refine zP ?_ | refine zO ?_ | refine zK ?_ | refine yB ?_ | refine yC ?_ | refine zW (by assumption) ?_ | refine zY (by assumption) ?_) | (refine zI rfl ?_) | (simp -implicitDefEqProofs only [push_cast, sevalprocAttr, eq_self, e0, e1, e2, e3, e4, e10, e11, e12, hb, hd, hai, haj, hri, hrj, hF.at, finC_0, finC_7, finC_14, finC_15, finC_16, yP, op_0, qR]) | (simp -implicitDefEqProofs (disch := omega) only [zR, zZ, zS, zQ, e0, e1, e2, e3, e4, e10, e11, e12, hb, hd, hai, haj, hri, hrj, hF.at, finC_0, finC_7, finC_14, finC_15, finC_16, yP, op_0, qR]) | (with_reducible refine yE ?_ ?_) | (refine zN rfl (fun bb => ?_) (fun bb => ?_) <;> simp only [bb]) | (with_reducible refine zX (fun bb => ?_) (fun bb => ?_)) | ((with_reducible refine And.intro ?_ ?_); omega) | (refine call_put (e := ⟨0, 0, 1, 0, 3⟩) hX (by repeat (first | exact Ext.refl _ | refine Ext.tick ?_ | refine Ext.push ?_ (by omega) _ | refine Ext.put ?_ (by omega) _)) (by simp -implicitDefEqProofs only [push_cast, sevalprocAttr, eq_self]; rfl) (by first | omega | (dsimp only; omega)) (by first | (simp -implicitDefEqProofs only [push_cast, sevalprocAttr, eq_self]; done) | (simp -implicitDefEqProofs only [push_cast, sevalprocAttr, eq_self]; omega)) (by first | omega | (simp only [List.length_append, List.length_cons, List.length_nil]; omega)) ?_; intro h out hX hF hs; replace hS := FS.trans hS hs; have hb := hX.fin; have hd := hX.ds; have hFe : Fe ≤ h.ep := hX.eF; have hde : de ≤ h.ep := hX.ed) | (refine call_put (e := ⟨0, 0, t.l 2, 0, 3⟩) hX (by repeat (first | exact Ext.refl _ | refine Ext.tick ?_ | refine Ext.push ?_ (by omega) _ | refine Ext.put ?_ (by omega) _)) (by simp -implicitDefEqProofs only [push_cast, sevalprocAttr, eq_self]; rfl) (by first | omega | (dsimp only; omega)) (by first | (simp -implicitDefEqProofs only [push_cast, sevalprocAttr, eq_self]; done) | (simp -implicitDefEqProofs only [push_cast, sevalprocAttr, eq_self]; omega)) (by first | omega | (simp only [List.length_append, List.length_cons, List.length_nil]; omega)) ?_; intro h out hX hF hs; replace hS := FS.trans hS hs; have hb := hX.fin; have hd := hX.ds; have hFe : Fe ≤ h.ep := hX.eF; have hde : de ≤ h.ep := hX.ed) | (refine call_put (e := ⟨0, 0, 0, 0, 3⟩) hX (by repeat (first | exact Ext.refl _ | refine Ext.tick ?_ | refine Ext.push ?_ (by omega) _ | refine Ext.put ?_ (by omega) _)) (by simp -implicitDefEqProofs only [push_cast, sevalprocAttr, eq_self]; rfl) (by first | omega | (dsimp only; omega)) (by first | (simp -implicitDefEqProofs only [push_cast, sevalprocAttr, eq_self]; done) | (simp -implicitDefEqProofs only [push_cast, sevalprocAttr, eq_self]; omega)) (by first | omega | (simp only [List.length_append, List.length_cons, List.length_nil]; omega)) ?_; intro h out hX hF hs; replace hS := FS.trans hS hs; have hb := hX.fin; have hd := hX.ds; have hFe : Fe ≤ h.ep := hX.eF; have hde : de ≤ h.ep := hX.ed) | fail)
    all_goals
      refine ⟨_, by simp -implicitDefEqProofs only [push_cast, sevalprocAttr, eq_self, e0], by simp -implicitDefEqProofs only [push_cast, sevalprocAttr, eq_self, e1], by simp -implicitDefEqProofs only [push_cast, sevalprocAttr, eq_self, e2], by simp -implicitDefEqProofs only [push_cast, sevalprocAttr, eq_self, e3], by simp -implicitDefEqProofs only [push_cast, sevalprocAttr, eq_self, e4], es_yes ?_ (hX.ext (by repeat (first | exact Ext.refl _ | refine Ext.tick ?_ | refine Ext.push ?_ (by omega) _ | refine Ext.put ?_ (by omega) _))), hS.ext (by repeat (first | exact Ext.refl _ | refine Ext.tick ?_ | refine Ext.push ?_ (by omega) _ | refine Ext.put ?_ (by omega) _))⟩
      (try clear hf); (try clear e0 e1 e2 e3 e4 e10 e11 e12)
      unfold pair3
      (try simp only [decide_eq_true_eq, decide_eq_false_iff_not, Bool.not_eq_true] at *)
      first | (simp [*]; done) | (simp_all; done)
  rintro ⟨env, h⟩ ⟨out, e0, e1, e2, e3, e4, hX, hS⟩
  simp only at e0 e1 e2 e3 e4 hX hS
  have e10 : True := trivial; have e11 : True := trivial; have e12 : True := trivial
  refine yI fun hF => ?_
  have hb := hX.fin
  have hd := hX.ds
  have hFe : Fe ≤ h.ep := hX.eF
  have hde : de ≤ h.ep := hX.ed
  repeat' (first | ((try clear hf); with_reducible refine zM fun env K hE hK hf => ?_; have n : _ ∧ _ ∧ _ ∧ _ ∧ _ ∧ _ ∧ _ ∧ _ := ⟨hE 0, hE 1, hE 2, hE 3, hE 4, hE 10, hE 11, hE 12⟩; simp -implicitDefEqProofs only [push_cast, reduceIte, Nat.reduceEqDiff, e0, e1, e2, e3, e4, e10, e11, e12] at n; clear hE e0 e1 e2 e3 e4 e10 e11 e12; obtain ⟨e0, e1, e2, e3, e4, e10, e11, e12⟩ := n) | (with_reducible refine hK _ _ ?_; clear hK K) | (with_reducible first | refine zJ ?_ | refine zU ?_ | refine zB ?_ | refine zG ?_ | refine zE ?_ | refine zL ?_ | refine zT ?_ | refine zD ?_ | refine zH ?_ | refine zV ?_ | refine zF ?_ | refine zA (by decide) ?_ | refine zP ?_ | refine zO ?_ | refine zK ?_ | refine yB ?_ | refine yC ?_ | refine zW (by assumption) ?_ | refine zY (by assumption) ?_) | (refine zI rfl ?_) | (simp -implicitDefEqProofs only [push_cast, sevalprocAttr, eq_self, e0, e1, e2, e3, e4, e10, e11, e12, hb, hd, hai, haj, hri, hrj, hF.at, finC_0, finC_7, finC_14, finC_15, finC_16, yP, op_0, qR]) | (simp -implicitDefEqProofs (disch := omega) only [zR, zZ, zS, zQ, e0, e1, e2, e3, e4, e10, e11, e12, hb, hd, hai, haj, hri, hrj, hF.at, finC_0, finC_7, finC_14, finC_15, finC_16, yP, op_0, qR]) | (with_reducible refine yE ?_ ?_) | (refine zN rfl (fun bb => ?_) (fun bb => ?_) <;> simp only [bb]) | (with_reducible refine zX (fun bb => ?_) (fun bb => ?_)) | ((with_reducible refine And.intro ?_ ?_); omega) | (refine yD (f118 _) ?_) | (refine call_put (e := ⟨0, 0, 1, 0, 4⟩) hX (by repeat (first | exact Ext.refl _ | refine Ext.tick ?_ | refine Ext.push ?_ (by omega) _ | refine Ext.put ?_ (by omega) _)) (by simp -implicitDefEqProofs only [push_cast, sevalprocAttr, eq_self]; rfl) (by first | omega | (dsimp only; omega)) (by first | (simp -implicitDefEqProofs only [push_cast, sevalprocAttr, eq_self]; done) | (simp -implicitDefEqProofs only [push_cast, sevalprocAttr, eq_self]; omega)) (by first | omega | (simp only [List.length_append, List.length_cons, List.length_nil]; omega)) ?_; intro h out hX hF hs; replace hS := FS.trans hS hs; have hb := hX.fin; have hd := hX.ds; have hFe : Fe ≤ h.ep := hX.eF; have hde : de ≤ h.ep := hX.ed) | fail)
  all_goals
    refine ⟨_, es_yes ?_ (hX.ext (by repeat (first | exact Ext.refl _ | refine Ext.tick ?_ | refine Ext.push ?_ (by omega) _ | refine Ext.put ?_ (by omega) _))), hS.ext (by repeat (first | exact Ext.refl _ | refine Ext.tick ?_ | refine Ext.push ?_ (by omega) _ | refine Ext.put ?_ (by omega) _))⟩
    (try clear hf); (try clear e0 e1 e2 e3 e4 e10 e11 e12)
    unfold pair4
    (try simp only [decide_eq_true_eq, decide_eq_false_iff_not, Bool.not_eq_true] at *)
    simp [*]
end Go.Proofs.Hx
