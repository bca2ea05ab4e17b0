import Derived.Test.YtcdibfkebojefaaCodeA
import Derived.Test.YtcdibfkebojefaaG2
set_option linter.unusedVariables false
set_option linter.unusedSimpArgs false
namespace Go.Proofs.Hx
open Go Go.Proofs
attribute [local irreducible] awpOps awp opK goV goM callG endOps awpOp runOp HV HVF HC
theorem f76 (x lo hi : Int) : HV Try.prog 76 [.lit (.int .i64 x), .lit (.int .i64 lo), .lit (.int .i64 hi)] (.lit (.bool (decide (lo ≤ x) && decide (x ≤ hi)))) := by
  refine HV_of_awp mixed cf76 (by simp) rfl ?_ rfl
  unfold ac76 re76
  refine awp_env_i fun env hE => ?_; have e0 := hE 0; have e1 := hE 1; have e2 := hE 2; have e6 := hE 6; simp -implicitDefEqProofs only [push_cast] at e0 e1 e2 e6; clear hE
  repeat' (first | ((try clear hf); with_reducible refine awp_ops_g fun env K hE hK hf => ?_; have n0 := hE 0; have n1 := hE 1; have n2 := hE 2; have n6 := hE 6; simp -implicitDefEqProofs only [push_cast, reduceIte, Nat.reduceEqDiff, e0, e1, e2, e6] at n0 n1 n2 n6; clear hE e0 e1 e2 e6; have e0 := n0; have e1 := n1; have e2 := n2; have e6 := n6; clear n0 n1 n2 n6) | (with_reducible refine hK _ _ ?_; clear hK K) | (with_reducible first | refine awp_seq_i ?_ | refine seqK_n_i ?_ | refine awp_block_i ?_ | refine awp_skip_i ?_ | refine blockK_n_i ?_ | refine awp_ret_i ?_ | refine seqK_r_i ?_ | refine blockK_r_i ?_ | refine awp_exit_i ?_ | refine seqK_e_i ?_ | refine blockK_e_i ?_ | refine blockK_ne_i (by decide) ?_ | refine PostF_n_i ?_ | refine PostF_r_i ?_ | refine sep_nil_i ?_ | refine condP_t ?_ | refine condP_f ?_ | refine condP_ta (by assumption) ?_ | refine condP_fa (by assumption) ?_) | (refine awp_cond_e rfl ?_) | (simp -implicitDefEqProofs only [push_cast, eq_self, reduceIte, Nat.reduceEqDiff, reduceCtorEq, Nat.reduceAdd, Nat.reduceMul, Nat.reduceSub, Nat.reduceLeDiff, Int.reduceToNat, Int.reduceLE, Int.reduceLT, Int.reduceAdd, Int.reduceSub, Int.reduceMul, Int.reduceNeg, e0, e1, e2, e6]) | (simp -implicitDefEqProofs (disch := omega) only [push_epn, put_epn, kill_epn, wrap64', e0, e1, e2, e6]) | (with_reducible refine sep_i ?_ ?_) | (refine awpOps_gd rfl (fun bb => ?_) (fun bb => ?_) <;> simp only [bb]) | (with_reducible refine condP_in (fun bb => ?_) (fun bb => ?_)) | ((with_reducible refine And.intro ?_ ?_); omega) | fail)
  all_goals simp [bb]
abbrev i64 (n : Int) : AV := .lit (.int .i64 n)
structure Tab where
  u : Nat → Int
  l : Nat → Int
  b : Nat → Int
  d : Int
def tabC (t : Tab) : List AV := [i64 (t.u 0), i64 (t.u 1), i64 (t.u 2), i64 (t.u 3), i64 (t.l 0), i64 (t.l 1), i64 (t.l 2), i64 (t.l 3), i64 (t.b 0), i64 (t.b 1), i64 (t.b 2), i64 (t.b 3), i64 t.d]
def okC (t : Tab) (c : Nat) : Prop := 0 ≤ t.u c ∧ t.u c ≤ 8 ∧ 1 ≤ t.l c ∧ t.l c ≤ 8 ∧ 1 ≤ t.b c ∧ t.b c ≤ 4
instance (t : Tab) (c : Nat) : Decidable (okC t c) := by unfold okC; infer_instance
def tabOK (t : Tab) : Prop := (∀ c < 4, okC t c) ∧ 0 ≤ t.d ∧ t.d ≤ 4
instance (t : Tab) : Decidable (tabOK t) := by unfold tabOK; infer_instance
def tabE (t : Tab) : Int := if tabOK t then 0 else 20
theorem tab_u (t : Tab) {c : Nat} (hc : c < 4) : (tabC t)[c]? = some (i64 (t.u c)) := by
  match c, hc with
  | 0, _ | 1, _ | 2, _ | 3, _ => rfl
theorem tab_l (t : Tab) {c : Nat} (hc : c < 4) : (tabC t)[4 + c]? = some (i64 (t.l c)) := by
  match c, hc with
  | 0, _ | 1, _ | 2, _ | 3, _ => rfl
theorem tab_b (t : Tab) {c : Nat} (hc : c < 4) : (tabC t)[8 + c]? = some (i64 (t.b c)) := by
  match c, hc with
  | 0, _ | 1, _ | 2, _ | 3, _ => rfl
theorem tab_d (t : Tab) : (tabC t)[12]? = some (i64 t.d) := rfl
theorem tab_len (t : Tab) : (tabC t).length = 13 := rfl
theorem tab_take (t : Tab) : (tabC t).take 13 = tabC t := rfl
theorem tab_one (t : Tab) : (tabC t).all one = true := rfl
theorem tab_imms (t : Tab) : imms (tabC t) = true := rfl
attribute [push_cast] tab_len tab_take tab_one tab_imms
theorem tabE_bad {t : Tab} (h : ¬ tabOK t) : tabE t = 20 := by simp [tabE, h]
theorem tabE_ok {t : Tab} (h : tabOK t) : tabE t = 0 := by simp [tabE, h]

def I42 (t : Tab) (n : Nat) (σ : St) : Prop := ∃ c : Nat, c ≤ 4 ∧ n = 4 - c ∧ σ.env 5 = i64 c ∧ σ.env 1 = .ptr (2, 1) 0 ∧ σ.env 3 = .fn 76 [] ∧ σ.h.hp (2, 1) = some ⟨true, tabC t⟩ ∧ ∀ j < c, okC t j
theorem f42 (t : Tab) : HV Try.prog 42 [.agg (tabC t)] (i64 (tabE t)) := by
  refine HV_of_awp mixed cf42 (by simp) rfl ?_ rfl
  unfold ac42 re42
  refine awp_env_i fun env hE => ?_; have e0 := hE 0; have e1 := hE 1; have e2 := hE 2; have e3 := hE 3; have e4 := hE 4; have e5 := hE 5; have e6 := hE 6; simp -implicitDefEqProofs only [push_cast] at e0 e1 e2 e3 e4 e5 e6; clear hE
  repeat' (first | ((try clear hf); with_reducible refine awp_ops_g fun env K hE hK hf => ?_; have n0 := hE 0; have n1 := hE 1; have n2 := hE 2; have n3 := hE 3; have n4 := hE 4; have n5 := hE 5; have n6 := hE 6; simp -implicitDefEqProofs only [push_cast, reduceIte, Nat.reduceEqDiff, e0, e1, e2, e3, e4, e5, e6] at n0 n1 n2 n3 n4 n5 n6; clear hE e0 e1 e2 e3 e4 e5 e6; have e0 := n0; have e1 := n1; have e2 := n2; have e3 := n3; have e4 := n4; have e5 := n5; have e6 := n6; clear n0 n1 n2 n3 n4 n5 n6) | (with_reducible refine hK _ _ ?_; clear hK K) | (with_reducible first | refine awp_seq_i ?_ | refine seqK_n_i ?_ | refine awp_block_i ?_ | refine awp_skip_i ?_ | refine blockK_n_i ?_ | refine awp_ret_i ?_ | refine seqK_r_i ?_ | refine blockK_r_i ?_ | refine awp_exit_i ?_ | refine seqK_e_i ?_ | refine blockK_e_i ?_ | refine blockK_ne_i (by decide) ?_ | refine PostF_n_i ?_ | refine PostF_r_i ?_ | refine sep_nil_i ?_ | refine condP_t ?_ | refine condP_f ?_ | refine condP_ta (by assumption) ?_ | refine condP_fa (by assumption) ?_) | (refine awp_cond_e rfl ?_) | (simp -implicitDefEqProofs only [push_cast, eq_self, reduceIte, Nat.reduceEqDiff, reduceCtorEq, Nat.reduceAdd, Nat.reduceMul, Nat.reduceSub, Nat.reduceLeDiff, Int.reduceToNat, Int.reduceLE, Int.reduceLT, Int.reduceAdd, Int.reduceSub, Int.reduceMul, Int.reduceNeg, e0, e1, e2, e3, e4, e5, e6]) | (simp -implicitDefEqProofs (disch := omega) only [push_epn, put_epn, kill_epn, wrap64', e0, e1, e2, e3, e4, e5, e6]) | (with_reducible refine sep_i ?_ ?_) | (refine awpOps_gd rfl (fun bb => ?_) (fun bb => ?_) <;> simp only [bb]) | (with_reducible refine condP_in (fun bb => ?_) (fun bb => ?_)) | ((with_reducible refine And.intro ?_ ?_); omega) | fail)
  refine awp_loop (I42 t) 4 ⟨0, by omega, rfl, by simp -implicitDefEqProofs only [push_cast, eq_self, reduceIte, Nat.reduceEqDiff, reduceCtorEq, Nat.reduceAdd, Nat.reduceMul, Nat.reduceSub, Nat.reduceLeDiff, Int.reduceToNat, Int.reduceLE, Int.reduceLT, Int.reduceAdd, Int.reduceSub, Int.reduceMul, Int.reduceNeg], by simp -implicitDefEqProofs only [push_cast, eq_self, reduceIte, Nat.reduceEqDiff, reduceCtorEq, Nat.reduceAdd, Nat.reduceMul, Nat.reduceSub, Nat.reduceLeDiff, Int.reduceToNat, Int.reduceLE, Int.reduceLT, Int.reduceAdd, Int.reduceSub, Int.reduceMul, Int.reduceNeg, e1], by simp -implicitDefEqProofs only [push_cast, eq_self, reduceIte, Nat.reduceEqDiff, reduceCtorEq, Nat.reduceAdd, Nat.reduceMul, Nat.reduceSub, Nat.reduceLeDiff, Int.reduceToNat, Int.reduceLE, Int.reduceLT, Int.reduceAdd, Int.reduceSub, Int.reduceMul, Int.reduceNeg, e3], by simp -implicitDefEqProofs only [push_cast, eq_self, reduceIte, Nat.reduceEqDiff, reduceCtorEq, Nat.reduceAdd, Nat.reduceMul, Nat.reduceSub, Nat.reduceLeDiff, Int.reduceToNat, Int.reduceLE, Int.reduceLT, Int.reduceAdd, Int.reduceSub, Int.reduceMul, Int.reduceNeg], by omega⟩ ?_
  rintro n ⟨env, h⟩ ⟨c, hc4, rfl, e5, e1, e3, hb, hall⟩
  simp only at e5 e1 e3 hb
  have e0 : True := trivial; have e2 : True := trivial; have e4 : True := trivial; have e6 : True := trivial
  unfold l42_0
  by_cases hc : c < 4
  · have hx := tab_u t hc
    have hy := tab_l t hc
    have hz := tab_b t hc
    have hlt : decide ((c : Int) < 4) = true := by simp; omega
    repeat' (first | ((try clear hf); with_reducible refine awp_ops_g fun env K hE hK hf => ?_; have n0 := hE 0; have n1 := hE 1; have n2 := hE 2; have n3 := hE 3; have n4 := hE 4; have n5 := hE 5; have n6 := hE 6; simp -implicitDefEqProofs only [push_cast, reduceIte, Nat.reduceEqDiff, e0, e1, e2, e3, e4, e5, e6] at n0 n1 n2 n3 n4 n5 n6; clear hE e0 e1 e2 e3 e4 e5 e6; have e0 := n0; have e1 := n1; have e2 := n2; have e3 := n3; have e4 := n4; have e5 := n5; have e6 := n6; clear n0 n1 n2 n3 n4 n5 n6) | (with_reducible refine hK _ _ ?_; clear hK K) | (with_reducible first | refine awp_seq_i ?_ | refine seqK_n_i ?_ | refine awp_block_i ?_ | refine awp_skip_i ?_ | refine blockK_n_i ?_ | refine awp_ret_i ?_ | refine seqK_r_i ?_ | refine blockK_r_i ?_ | refine awp_exit_i ?_ | refine seqK_e_i ?_ | refine blockK_e_i ?_ | refine blockK_ne_i (by decide) ?_ | refine PostF_n_i ?_ | refine PostF_r_i ?_ | refine sep_nil_i ?_ | refine condP_t ?_ | refine condP_f ?_ | refine condP_ta (by assumption) ?_ | refine condP_fa (by assumption) ?_) | (refine awp_cond_e rfl ?_) | (simp -implicitDefEqProofs only [push_cast, eq_self, reduceIte, Nat.reduceEqDiff, reduceCtorEq, Nat.reduceAdd, Nat.reduceMul, Nat.reduceSub, Nat.reduceLeDiff, Int.reduceToNat, Int.reduceLE, Int.reduceLT, Int.reduceAdd, Int.reduceSub, Int.reduceMul, Int.reduceNeg, e0, e1, e2, e3, e4, e5, e6, hlt, hb, hx, hy, hz]) | (simp -implicitDefEqProofs (disch := omega) only [push_epn, put_epn, kill_epn, wrap64', e0, e1, e2, e3, e4, e5, e6, hlt, hb, hx, hy, hz]) | (with_reducible refine sep_i ?_ ?_) | (refine awpOps_gd rfl (fun bb => ?_) (fun bb => ?_) <;> simp only [bb]) | (with_reducible refine condP_in (fun bb => ?_) (fun bb => ?_)) | ((with_reducible refine And.intro ?_ ?_); omega) | (refine call_imm (f76 _ _ _) ?_) | fail)
    all_goals first
      | (rw [tabE_bad]; intro h; have := h.1 c hc; simp [okC] at *; omega)
      | skip
    refine ⟨4 - (c + 1), by omega, c + 1, by omega, rfl, ?_, ?_, ?_, ?_, ?_⟩
    · simp -implicitDefEqProofs only [push_cast, eq_self, reduceIte, Nat.reduceEqDiff, reduceCtorEq, Nat.reduceAdd, Nat.reduceMul, Nat.reduceSub, Nat.reduceLeDiff, Int.reduceToNat, Int.reduceLE, Int.reduceLT, Int.reduceAdd, Int.reduceSub, Int.reduceMul, Int.reduceNeg]
    · simp -implicitDefEqProofs only [push_cast, eq_self, reduceIte, Nat.reduceEqDiff, reduceCtorEq, Nat.reduceAdd, Nat.reduceMul, Nat.reduceSub, Nat.reduceLeDiff, Int.reduceToNat, Int.reduceLE, Int.reduceLT, Int.reduceAdd, Int.reduceSub, Int.reduceMul, Int.reduceNeg, e1]
    · simp -implicitDefEqProofs only [push_cast, eq_self, reduceIte, Nat.reduceEqDiff, reduceCtorEq, Nat.reduceAdd, Nat.reduceMul, Nat.reduceSub, Nat.reduceLeDiff, Int.reduceToNat, Int.reduceLE, Int.reduceLT, Int.reduceAdd, Int.reduceSub, Int.reduceMul, Int.reduceNeg, e3]
    · simp -implicitDefEqProofs only [push_cast, eq_self, reduceIte, Nat.reduceEqDiff, reduceCtorEq, Nat.reduceAdd, Nat.reduceMul, Nat.reduceSub, Nat.reduceLeDiff, Int.reduceToNat, Int.reduceLE, Int.reduceLT, Int.reduceAdd, Int.reduceSub, Int.reduceMul, Int.reduceNeg, hb]
    · intro j hj
      by_cases e : j < c
      · exact hall j e
      · obtain rfl : j = c := by omega
        simp [okC] at *; omega
  · have hlt : decide ((c : Int) < 4) = false := by simp; omega
    repeat' (first | ((try clear hf); with_reducible refine awp_ops_g fun env K hE hK hf => ?_; have n0 := hE 0; have n1 := hE 1; have n2 := hE 2; have n3 := hE 3; have n4 := hE 4; have n5 := hE 5; have n6 := hE 6; simp -implicitDefEqProofs only [push_cast, reduceIte, Nat.reduceEqDiff, e0, e1, e2, e3, e4, e5, e6] at n0 n1 n2 n3 n4 n5 n6; clear hE e0 e1 e2 e3 e4 e5 e6; have e0 := n0; have e1 := n1; have e2 := n2; have e3 := n3; have e4 := n4; have e5 := n5; have e6 := n6; clear n0 n1 n2 n3 n4 n5 n6) | (with_reducible refine hK _ _ ?_; clear hK K) | (with_reducible first | refine awp_seq_i ?_ | refine seqK_n_i ?_ | refine awp_block_i ?_ | refine awp_skip_i ?_ | refine blockK_n_i ?_ | refine awp_ret_i ?_ | refine seqK_r_i ?_ | refine blockK_r_i ?_ | refine awp_exit_i ?_ | refine seqK_e_i ?_ | refine blockK_e_i ?_ | refine blockK_ne_i (by decide) ?_ | refine PostF_n_i ?_ | refine PostF_r_i ?_ | refine sep_nil_i ?_ | refine condP_t ?_ | refine condP_f ?_ | refine condP_ta (by assumption) ?_ | refine condP_fa (by assumption) ?_) | (refine awp_cond_e rfl ?_) | (simp -implicitDefEqProofs only [push_cast, eq_self, reduceIte, Nat.reduceEqDiff, reduceCtorEq, Nat.reduceAdd, Nat.reduceMul, Nat.reduceSub, Nat.reduceLeDiff, Int.reduceToNat, Int.reduceLE, Int.reduceLT, Int.reduceAdd, Int.reduceSub, Int.reduceMul, Int.reduceNeg, e0, e1, e2, e3, e4, e5, e6, hlt, hb, tab_d]) | (simp -implicitDefEqProofs (disch := omega) only [push_epn, put_epn, kill_epn, wrap64', e0, e1, e2, e3, e4, e5, e6, hlt, hb, tab_d]) | (with_reducible refine sep_i ?_ ?_) | (refine awpOps_gd rfl (fun bb => ?_) (fun bb => ?_) <;> simp only [bb]) | (with_reducible refine condP_in (fun bb => ?_) (fun bb => ?_)) | ((with_reducible refine And.intro ?_ ?_); omega) | (refine call_imm (f76 _ _ _) ?_) | fail)
    · rw [tabE_bad]; intro h; have := h.2; simp at *; omega
    · rw [tabE_ok]; exact ⟨fun j hj => hall j (by omega), by simp at *; omega⟩
end Go.Proofs.Hx

set_option linter.unusedVariables false
set_option linter.unusedSimpArgs false
namespace Go.Proofs.Hx
open Go Go.Proofs
attribute [local irreducible] awpOps awp opK goV goM callG endOps awpOp runOp HV HVF HC
structure Shp where
  nm : ByteArray
  cl : Int
  d : Bool
  a : Bool
  b : Bool
  n : Bool
  im : Bool
  is : Bool
def shpA (s : Shp) : List AV := [.lit (.string s.nm), .lit (.int .i8 s.cl), .lit (.bool s.d), .lit (.bool s.a), .lit (.bool s.b), .lit (.bool s.n), .lit (.bool s.im), .lit (.bool s.is)]
def noShp : Shp := ⟨⟨#[]⟩, 0, false, false, false, false, false, false⟩
def shpT : Nat → Shp
  | 0 => ⟨⟨#[110, 111, 112]⟩, (-1), false, false, false, false, false, true⟩
  | 1 => ⟨⟨#[99, 111, 110, 115, 116]⟩, 0, true, false, false, false, true, true⟩
  | 2 => ⟨⟨#[97, 100, 100]⟩, 0, true, true, true, false, false, true⟩
  | 3 => ⟨⟨#[115, 117, 98]⟩, 0, true, true, true, false, false, true⟩
  | 4 => ⟨⟨#[97, 110, 100]⟩, 0, true, true, true, false, false, true⟩
  | 5 => ⟨⟨#[111, 114]⟩, 0, true, true, true, false, false, true⟩
  | 6 => ⟨⟨#[120, 111, 114]⟩, 0, true, true, true, false, false, true⟩
  | 7 => ⟨⟨#[115, 104, 108]⟩, 0, true, true, true, false, false, true⟩
  | 8 => ⟨⟨#[115, 104, 114]⟩, 0, true, true, true, false, false, true⟩
  | 9 => ⟨⟨#[108, 101, 115, 115]⟩, 0, true, true, true, false, false, true⟩
  | 10 => ⟨⟨#[101, 113, 117, 97, 108]⟩, 0, true, true, true, false, false, true⟩
  | 11 => ⟨⟨#[109, 111, 118, 101]⟩, 0, true, true, false, false, false, true⟩
  | 12 => ⟨⟨#[116, 105, 109, 101, 115]⟩, 1, true, true, true, false, false, true⟩
  | 13 => ⟨⟨#[100, 105, 118, 105, 100, 101]⟩, 1, true, true, true, false, false, true⟩
  | 14 => ⟨⟨#[114, 101, 115, 116]⟩, 1, true, true, true, false, false, true⟩
  | 15 => ⟨⟨#[108, 111, 97, 100]⟩, 2, true, true, false, false, true, true⟩
  | 16 => ⟨⟨#[115, 116, 111, 114, 101]⟩, 2, false, true, true, false, true, true⟩
  | 17 => ⟨⟨#[112, 114, 105, 110, 116]⟩, 2, false, true, false, false, false, true⟩
  | 18 => ⟨⟨#[106, 117, 109, 112]⟩, 3, false, false, false, false, true, true⟩
  | 19 => ⟨⟨#[98, 114, 97, 110, 99, 104]⟩, 3, false, true, false, false, true, true⟩
  | 20 => ⟨⟨#[104, 97, 108, 116]⟩, 3, false, true, false, false, false, true⟩
  | 21 => ⟨⟨#[99, 111, 117, 110, 116]⟩, 3, false, true, false, false, true, true⟩
  | 22 => ⟨⟨#[115, 104, 111, 114, 116]⟩, 3, false, true, false, true, true, true⟩
  | 23 => ⟨⟨#[97, 103, 97, 105, 110]⟩, 3, false, false, false, false, true, true⟩
  | _ => noShp
def shapesC : List AV := (List.range 24).flatMap fun i => shpA (shpT i)


def tblShapes : Tbl := [(105, 39, ac105, re105), (121, 8, ac121, re121)]
theorem f105 : HV Try.prog 105 [] (.agg shapesC) :=
  HV_of_run mixed (T := tblShapes) (by simp only [TblOk, tblShapes, List.forall_mem_cons, List.not_mem_nil, false_imp_iff, implies_true, and_true]; exact ⟨cf105, cf121⟩) 1000 rfl (by kernel_rfl) (by kernel_rfl)
def ofS (n : Int) : Shp := if n < 0 ∨ 24 ≤ n then noShp else shpT n.toNat
theorem ofS_bad {n : Int} (h : n < 0 ∨ 24 ≤ n) : ofS n = noShp := by simp [ofS, h]
theorem ofS_ok {n : Int} (h : ¬ (n < 0 ∨ 24 ≤ n)) : ofS n = shpT n.toNat := by simp [ofS, h]
theorem sh_0 : partV true (0 * 8) 8 shapesC = some (.agg (shpA (shpT 0))) := by kernel_rfl
theorem sh_1 : partV true (1 * 8) 8 shapesC = some (.agg (shpA (shpT 1))) := by kernel_rfl
theorem sh_2 : partV true (2 * 8) 8 shapesC = some (.agg (shpA (shpT 2))) := by kernel_rfl
theorem sh_3 : partV true (3 * 8) 8 shapesC = some (.agg (shpA (shpT 3))) := by kernel_rfl
theorem sh_4 : partV true (4 * 8) 8 shapesC = some (.agg (shpA (shpT 4))) := by kernel_rfl
theorem sh_5 : partV true (5 * 8) 8 shapesC = some (.agg (shpA (shpT 5))) := by kernel_rfl
theorem sh_6 : partV true (6 * 8) 8 shapesC = some (.agg (shpA (shpT 6))) := by kernel_rfl
theorem sh_7 : partV true (7 * 8) 8 shapesC = some (.agg (shpA (shpT 7))) := by kernel_rfl
theorem sh_8 : partV true (8 * 8) 8 shapesC = some (.agg (shpA (shpT 8))) := by kernel_rfl
theorem sh_9 : partV true (9 * 8) 8 shapesC = some (.agg (shpA (shpT 9))) := by kernel_rfl
theorem sh_10 : partV true (10 * 8) 8 shapesC = some (.agg (shpA (shpT 10))) := by kernel_rfl
theorem sh_11 : partV true (11 * 8) 8 shapesC = some (.agg (shpA (shpT 11))) := by kernel_rfl
theorem sh_12 : partV true (12 * 8) 8 shapesC = some (.agg (shpA (shpT 12))) := by kernel_rfl
theorem sh_13 : partV true (13 * 8) 8 shapesC = some (.agg (shpA (shpT 13))) := by kernel_rfl
theorem sh_14 : partV true (14 * 8) 8 shapesC = some (.agg (shpA (shpT 14))) := by kernel_rfl
theorem sh_15 : partV true (15 * 8) 8 shapesC = some (.agg (shpA (shpT 15))) := by kernel_rfl
theorem sh_16 : partV true (16 * 8) 8 shapesC = some (.agg (shpA (shpT 16))) := by kernel_rfl
theorem sh_17 : partV true (17 * 8) 8 shapesC = some (.agg (shpA (shpT 17))) := by kernel_rfl
theorem sh_18 : partV true (18 * 8) 8 shapesC = some (.agg (shpA (shpT 18))) := by kernel_rfl
theorem sh_19 : partV true (19 * 8) 8 shapesC = some (.agg (shpA (shpT 19))) := by kernel_rfl
theorem sh_20 : partV true (20 * 8) 8 shapesC = some (.agg (shpA (shpT 20))) := by kernel_rfl
theorem sh_21 : partV true (21 * 8) 8 shapesC = some (.agg (shpA (shpT 21))) := by kernel_rfl
theorem sh_22 : partV true (22 * 8) 8 shapesC = some (.agg (shpA (shpT 22))) := by kernel_rfl
theorem sh_23 : partV true (23 * 8) 8 shapesC = some (.agg (shpA (shpT 23))) := by kernel_rfl
theorem shapes_at {i : Nat} (h : i < 24) : partV true (i * 8) 8 shapesC = some (.agg (shpA (shpT i))) := by
  match i, h with
  | 0, _ => exact sh_0
  | 1, _ => exact sh_1
  | 2, _ => exact sh_2
  | 3, _ => exact sh_3
  | 4, _ => exact sh_4
  | 5, _ => exact sh_5
  | 6, _ => exact sh_6
  | 7, _ => exact sh_7
  | 8, _ => exact sh_8
  | 9, _ => exact sh_9
  | 10, _ => exact sh_10
  | 11, _ => exact sh_11
  | 12, _ => exact sh_12
  | 13, _ => exact sh_13
  | 14, _ => exact sh_14
  | 15, _ => exact sh_15
  | 16, _ => exact sh_16
  | 17, _ => exact sh_17
  | 18, _ => exact sh_18
  | 19, _ => exact sh_19
  | 20, _ => exact sh_20
  | 21, _ => exact sh_21
  | 22, _ => exact sh_22
  | 23, _ => exact sh_23
  | n + 24, h => omega
theorem shp_len (s : Shp) : (shpA s).length = 8 := by cases s; simp [shpA]
theorem shp_one (s : Shp) : (shpA s).all one = true := by cases s; simp [shpA, one, scalarV]
theorem shp_imms (s : Shp) : imms (shpA s) = true := by cases s; simp [shpA, imm, imms]
theorem shp_imm (s : Shp) : imm (.agg (shpA s)) = true := by cases s; simp [shpA, imm, imms]


theorem f75 (n : Int) : HV Try.prog 75 [.lit (.int .i8 n)] (.tup [.agg (shpA (ofS n)), .lit (.bool (ofS n).is)]) := by
  refine HV_of_awp mixed cf75 (by simp) rfl ?_ (by simp [imm, imms, shp_imms])
  unfold ac75 re75
  refine awp_env_i fun env hE => ?_; have e0 := hE 0; have e2 := hE 2; have e3 := hE 3; have e4 := hE 4; simp -implicitDefEqProofs only [push_cast] at e0 e2 e3 e4; clear hE
  by_cases hn : n < 0 ∨ 24 ≤ n
  · rw [ofS_bad hn]
    repeat' (first | ((try clear hf); with_reducible refine awp_ops_g fun env K hE hK hf => ?_; have n0 := hE 0; have n2 := hE 2; have n3 := hE 3; have n4 := hE 4; simp -implicitDefEqProofs only [push_cast, reduceIte, Nat.reduceEqDiff, e0, e2, e3, e4] at n0 n2 n3 n4; clear hE e0 e2 e3 e4; have e0 := n0; have e2 := n2; have e3 := n3; have e4 := n4; clear n0 n2 n3 n4) | (with_reducible refine hK _ _ ?_; clear hK K) | (with_reducible first | refine awp_seq_i ?_ | refine seqK_n_i ?_ | refine awp_block_i ?_ | refine awp_skip_i ?_ | refine blockK_n_i ?_ | refine awp_ret_i ?_ | refine seqK_r_i ?_ | refine blockK_r_i ?_ | refine awp_exit_i ?_ | refine seqK_e_i ?_ | refine blockK_e_i ?_ | refine blockK_ne_i (by decide) ?_ | refine PostF_n_i ?_ | refine PostF_r_i ?_ | refine sep_nil_i ?_ | refine condP_t ?_ | refine condP_f ?_ | refine condP_ta (by assumption) ?_ | refine condP_fa (by assumption) ?_) | (refine awp_cond_e rfl ?_) | (simp -implicitDefEqProofs only [push_cast, eq_self, reduceIte, Nat.reduceEqDiff, reduceCtorEq, Nat.reduceAdd, Nat.reduceMul, Nat.reduceSub, Nat.reduceLeDiff, Int.reduceToNat, Int.reduceLE, Int.reduceLT, Int.reduceAdd, Int.reduceSub, Int.reduceMul, Int.reduceNeg, e0, e2, e3, e4]) | (simp -implicitDefEqProofs (disch := omega) only [push_epn, put_epn, kill_epn, wrap64', e0, e2, e3, e4]) | (with_reducible refine sep_i ?_ ?_) | (refine awpOps_gd rfl (fun bb => ?_) (fun bb => ?_) <;> simp only [bb]) | (with_reducible refine condP_in (fun bb => ?_) (fun bb => ?_)) | ((with_reducible refine And.intro ?_ ?_); omega) | fail)
    all_goals first | rfl | (exfalso; simp at *; omega) | skip
  · obtain ⟨i, rfl⟩ : ∃ i : Nat, n = i := ⟨n.toNat, by omega⟩
    have hi : i < 24 := by omega
    have hx : ofS (i : Int) = shpT i := by
      have := ofS_ok (n := i) (by omega)
      simpa using this
    rw [hx]
    have hs := shapes_at hi
    repeat' (first | ((try clear hf); with_reducible refine awp_ops_g fun env K hE hK hf => ?_; have n0 := hE 0; have n2 := hE 2; have n3 := hE 3; have n4 := hE 4; simp -implicitDefEqProofs only [push_cast, reduceIte, Nat.reduceEqDiff, e0, e2, e3, e4] at n0 n2 n3 n4; clear hE e0 e2 e3 e4; have e0 := n0; have e2 := n2; have e3 := n3; have e4 := n4; clear n0 n2 n3 n4) | (with_reducible refine hK _ _ ?_; clear hK K) | (with_reducible first | refine awp_seq_i ?_ | refine seqK_n_i ?_ | refine awp_block_i ?_ | refine awp_skip_i ?_ | refine blockK_n_i ?_ | refine awp_ret_i ?_ | refine seqK_r_i ?_ | refine blockK_r_i ?_ | refine awp_exit_i ?_ | refine seqK_e_i ?_ | refine blockK_e_i ?_ | refine blockK_ne_i (by decide) ?_ | refine PostF_n_i ?_ | refine PostF_r_i ?_ | refine sep_nil_i ?_ | refine condP_t ?_ | refine condP_f ?_ | refine condP_ta (by assumption) ?_ | refine condP_fa (by assumption) ?_) | (refine awp_cond_e rfl ?_) | (simp -implicitDefEqProofs only [push_cast, eq_self, reduceIte, Nat.reduceEqDiff, reduceCtorEq, Nat.reduceAdd, Nat.reduceMul, Nat.reduceSub, Nat.reduceLeDiff, Int.reduceToNat, Int.reduceLE, Int.reduceLT, Int.reduceAdd, Int.reduceSub, Int.reduceMul, Int.reduceNeg, e0, e2, e3, e4, hs, shpA]) | (simp -implicitDefEqProofs (disch := omega) only [push_epn, put_epn, kill_epn, wrap64', e0, e2, e3, e4, hs, shpA]) | (with_reducible refine sep_i ?_ ?_) | (refine awpOps_gd rfl (fun bb => ?_) (fun bb => ?_) <;> simp only [bb]) | (with_reducible refine condP_in (fun bb => ?_) (fun bb => ?_)) | ((with_reducible refine And.intro ?_ ?_); omega) | (refine call_imm f105 ?_) | fail)
    all_goals first | rfl | (exfalso; simp at *; omega) | skip
/-- A kind's class: the number, and whether there is one. -/
def clsS (n : Int) : Int × Bool := if (ofS n).is = true ∧ 0 ≤ (ofS n).cl then ((ofS n).cl, true) else (0, false)
theorem shp_cl (s : Shp) : (shpA s)[1]? = some (.lit (.int .i8 s.cl)) := by cases s; simp [shpA]
theorem shpT_cl (i : Nat) : IntKind.wrap .i64 (shpT i).cl = (shpT i).cl := by
  unfold shpT
  split <;> rfl
theorem ofS_cl (n : Int) : IntKind.wrap .i64 (ofS n).cl = (ofS n).cl := by
  unfold ofS
  split
  · rfl
  · exact shpT_cl _

theorem f41 (n : Int) : HV Try.prog 41 [.lit (.int .i8 n)] (.tup [.lit (.int .i64 (clsS n).1), .lit (.bool (clsS n).2)]) := by
  refine HV_of_awp mixed cf41 (by simp) rfl ?_ (by simp [imm, imms])
  unfold ac41 re41
  refine awp_env_i fun env hE => ?_; have e0 := hE 0; have e2 := hE 2; have e3 := hE 3; have e4 := hE 4; have e5 := hE 5; simp -implicitDefEqProofs only [push_cast] at e0 e2 e3 e4 e5; clear hE
  have hw := ofS_cl n
  repeat' (first | ((try clear hf); with_reducible refine awp_ops_g fun env K hE hK hf => ?_; have n0 := hE 0; have n2 := hE 2; have n3 := hE 3; have n4 := hE 4; have n5 := hE 5; simp -implicitDefEqProofs only [push_cast, reduceIte, Nat.reduceEqDiff, e0, e2, e3, e4, e5] at n0 n2 n3 n4 n5; clear hE e0 e2 e3 e4 e5; have e0 := n0; have e2 := n2; have e3 := n3; have e4 := n4; have e5 := n5; clear n0 n2 n3 n4 n5) | (with_reducible refine hK _ _ ?_; clear hK K) | (with_reducible first | refine awp_seq_i ?_ | refine seqK_n_i ?_ | refine awp_block_i ?_ | refine awp_skip_i ?_ | refine blockK_n_i ?_ | refine awp_ret_i ?_ | refine seqK_r_i ?_ | refine blockK_r_i ?_ | refine awp_exit_i ?_ | refine seqK_e_i ?_ | refine blockK_e_i ?_ | refine blockK_ne_i (by decide) ?_ | refine PostF_n_i ?_ | refine PostF_r_i ?_ | refine sep_nil_i ?_ | refine condP_t ?_ | refine condP_f ?_ | refine condP_ta (by assumption) ?_ | refine condP_fa (by assumption) ?_) | (refine awp_cond_e rfl ?_) | (simp -implicitDefEqProofs only [push_cast, eq_self, reduceIte, Nat.reduceEqDiff, reduceCtorEq, Nat.reduceAdd, Nat.reduceMul, Nat.reduceSub, Nat.reduceLeDiff, Int.reduceToNat, Int.reduceLE, Int.reduceLT, Int.reduceAdd, Int.reduceSub, Int.reduceMul, Int.reduceNeg, e0, e2, e3, e4, e5, hw, shpA]) | (simp -implicitDefEqProofs (disch := omega) only [push_epn, put_epn, kill_epn, wrap64', e0, e2, e3, e4, e5, hw, shpA]) | (with_reducible refine sep_i ?_ ?_) | (refine awpOps_gd rfl (fun bb => ?_) (fun bb => ?_) <;> simp only [bb]) | (with_reducible refine condP_in (fun bb => ?_) (fun bb => ?_)) | ((with_reducible refine And.intro ?_ ?_); omega) | (refine call_imm (f75 n) ?_) | fail)
  all_goals (have hx : clsS n = clsS n := rfl; conv at hx => rhs; unfold clsS)
  all_goals rw [hx]; simp at *; first | (simp [*]; done) | (rw [if_neg (by simp [*])]; simp) | skip
def sgn32 (u : Int) : Int := (IntKind.wrap .i64 (IntKind.wrap .u64 (u * 2 ^ 32))).fdiv (2 ^ 32)
theorem bin_shl32 (u : Int) : binV .shl (.lit (.int .u64 u)) (.lit (.int .u8 32)) = some (.lit (.int .u64 (IntKind.wrap .u64 (u * 2 ^ 32)))) := rfl
theorem bin_shr32 (u : Int) : binV .shr (.lit (.int .i64 u)) (.lit (.int .u8 32)) = some (.lit (.int .i64 (u.fdiv (2 ^ 32)))) := rfl

theorem f123 (u : Int) : HV Try.prog 123 [.lit (.int .u64 u), .lit (.int .i64 32)] (.lit (.int .i64 (sgn32 u))) := by
  refine HV_of_awp mixed cf123 (by simp) rfl ?_ rfl
  unfold ac123 re123
  refine awp_env_i fun env hE => ?_; have e0 := hE 0; have e1 := hE 1; have e4 := hE 4; have e5 := hE 5; simp -implicitDefEqProofs only [push_cast] at e0 e1 e4 e5; clear hE
  have k1 : IntKind.wrap .i64 (64 - 32) = 32 := rfl
  have k2 : IntKind.wrap .u8 32 = 32 := rfl
  have k3 : maxV [AV.lit (.int .i64 32), AV.lit (.int .i64 1)] = some (.lit (.int .i64 32)) := rfl
  have k4 : minV [AV.lit (.int .i64 32), AV.lit (.int .i64 64)] = some (.lit (.int .i64 32)) := rfl
  repeat' (first | ((try clear hf); with_reducible refine awp_ops_g fun env K hE hK hf => ?_; have n0 := hE 0; have n1 := hE 1; have n4 := hE 4; have n5 := hE 5; simp -implicitDefEqProofs only [push_cast, reduceIte, Nat.reduceEqDiff, e0, e1, e4, e5] at n0 n1 n4 n5; clear hE e0 e1 e4 e5; have e0 := n0; have e1 := n1; have e4 := n4; have e5 := n5; clear n0 n1 n4 n5) | (with_reducible refine hK _ _ ?_; clear hK K) | (with_reducible first | refine awp_seq_i ?_ | refine seqK_n_i ?_ | refine awp_block_i ?_ | refine awp_skip_i ?_ | refine blockK_n_i ?_ | refine awp_ret_i ?_ | refine seqK_r_i ?_ | refine blockK_r_i ?_ | refine awp_exit_i ?_ | refine seqK_e_i ?_ | refine blockK_e_i ?_ | refine blockK_ne_i (by decide) ?_ | refine PostF_n_i ?_ | refine PostF_r_i ?_ | refine sep_nil_i ?_ | refine condP_t ?_ | refine condP_f ?_ | refine condP_ta (by assumption) ?_ | refine condP_fa (by assumption) ?_) | (refine awp_cond_e rfl ?_) | (simp -implicitDefEqProofs only [push_cast, eq_self, reduceIte, Nat.reduceEqDiff, reduceCtorEq, Nat.reduceAdd, Nat.reduceMul, Nat.reduceSub, Nat.reduceLeDiff, Int.reduceToNat, Int.reduceLE, Int.reduceLT, Int.reduceAdd, Int.reduceSub, Int.reduceMul, Int.reduceNeg, e0, e1, e4, e5, k1, k2, k3, k4, bin_shl32, bin_shr32]) | (simp -implicitDefEqProofs (disch := omega) only [push_epn, put_epn, kill_epn, wrap64', e0, e1, e4, e5, k1, k2, k3, k4, bin_shl32, bin_shr32]) | (with_reducible refine sep_i ?_ ?_) | (refine awpOps_gd rfl (fun bb => ?_) (fun bb => ?_) <;> simp only [bb]) | (with_reducible refine condP_in (fun bb => ?_) (fun bb => ?_)) | ((with_reducible refine And.intro ?_ ?_); omega) | fail)
  rfl
theorem sgn32_eq (x : Int) (h1 : -9223372036854775808 ≤ x) (h2 : x ≤ 9223372036854775807) : decide (sgn32 (IntKind.wrap .u64 x) = x) = decide (-2147483648 ≤ x ∧ x ≤ 2147483647) := by
  unfold sgn32
  simp only [IntKind.wrap, IntKind.bits, IntKind.signed, Bool.true_and, Bool.false_and, decide_eq_true_eq, ge_iff_le, Bool.false_eq_true, if_false]
  rw [Int.fdiv_eq_ediv_of_nonneg _ (by decide)]
  apply decide_eq_decide.2
  split <;> omega

theorem f110 (x : Int) (h1 : -9223372036854775808 ≤ x) (h2 : x ≤ 9223372036854775807) : HV Try.prog 110 [.lit (.int .i64 x), .lit (.int .i64 32)] (.lit (.bool (decide (-2147483648 ≤ x ∧ x ≤ 2147483647)))) := by
  refine HV_of_awp mixed cf110 (by simp) rfl ?_ rfl
  unfold ac110 re110
  refine awp_env_i fun env hE => ?_; have e0 := hE 0; have e1 := hE 1; have e4 := hE 4; simp -implicitDefEqProofs only [push_cast] at e0 e1 e4; clear hE
  repeat' (first | ((try clear hf); with_reducible refine awp_ops_g fun env K hE hK hf => ?_; have n0 := hE 0; have n1 := hE 1; have n4 := hE 4; simp -implicitDefEqProofs only [push_cast, reduceIte, Nat.reduceEqDiff, e0, e1, e4] at n0 n1 n4; clear hE e0 e1 e4; have e0 := n0; have e1 := n1; have e4 := n4; clear n0 n1 n4) | (with_reducible refine hK _ _ ?_; clear hK K) | (with_reducible first | refine awp_seq_i ?_ | refine seqK_n_i ?_ | refine awp_block_i ?_ | refine awp_skip_i ?_ | refine blockK_n_i ?_ | refine awp_ret_i ?_ | refine seqK_r_i ?_ | refine blockK_r_i ?_ | refine awp_exit_i ?_ | refine seqK_e_i ?_ | refine blockK_e_i ?_ | refine blockK_ne_i (by decide) ?_ | refine PostF_n_i ?_ | refine PostF_r_i ?_ | refine sep_nil_i ?_ | refine condP_t ?_ | refine condP_f ?_ | refine condP_ta (by assumption) ?_ | refine condP_fa (by assumption) ?_) | (refine awp_cond_e rfl ?_) | (simp -implicitDefEqProofs only [push_cast, eq_self, reduceIte, Nat.reduceEqDiff, reduceCtorEq, Nat.reduceAdd, Nat.reduceMul, Nat.reduceSub, Nat.reduceLeDiff, Int.reduceToNat, Int.reduceLE, Int.reduceLT, Int.reduceAdd, Int.reduceSub, Int.reduceMul, Int.reduceNeg, e0, e1, e4, sgn32_eq x h1 h2]) | (simp -implicitDefEqProofs (disch := omega) only [push_epn, put_epn, kill_epn, wrap64', e0, e1, e4, sgn32_eq x h1 h2]) | (with_reducible refine sep_i ?_ ?_) | (refine awpOps_gd rfl (fun bb => ?_) (fun bb => ?_) <;> simp only [bb]) | (with_reducible refine condP_in (fun bb => ?_) (fun bb => ?_)) | ((with_reducible refine And.intro ?_ ?_); omega) | (refine call_imm (f123 _) ?_) | fail)
structure Opn where
  k : Int
  d : Int
  a : Int
  b : Int
  im : Int
def opC (o : Opn) : List AV := [.lit (.int .i8 o.k), .lit (.int .u8 o.d), .lit (.int .u8 o.a), .lit (.int .u8 o.b), .lit (.int .i64 o.im)]
/-- An operation that is one. -/
def chkP (o : Opn) : Prop := (ofS o.k).is = true ∧ o.d ≤ 31 ∧ o.a ≤ 31 ∧ o.b ≤ 31 ∧ (-2147483648 ≤ o.im ∧ o.im ≤ 2147483647) ∧ ((ofS o.k).d = true ∨ o.d = 0) ∧ ((ofS o.k).a = true ∨ o.a = 0) ∧ ((ofS o.k).b = true ∨ (ofS o.k).n = true ∨ o.b = 0) ∧ ((ofS o.k).im = true ∨ o.im = 0)
instance (o : Opn) : Decidable (chkP o) := by unfold chkP; infer_instance
def chkE (o : Opn) : Int := if chkP o then 0 else 30
theorem chkE_bad {o : Opn} (h : ¬ chkP o) : chkE o = 30 := by simp [chkE, h]
theorem chkE_ok {o : Opn} (h : chkP o) : chkE o = 0 := by simp [chkE, h]
theorem op_0 (o : Opn) : (opC o)[0]? = some (.lit (.int .i8 o.k)) := rfl
theorem op_1 (o : Opn) : (opC o)[1]? = some (.lit (.int .u8 o.d)) := rfl
theorem op_2 (o : Opn) : (opC o)[2]? = some (.lit (.int .u8 o.a)) := rfl
theorem op_3 (o : Opn) : (opC o)[3]? = some (.lit (.int .u8 o.b)) := rfl
theorem op_4 (o : Opn) : (opC o)[4]? = some (.lit (.int .i64 o.im)) := rfl

set_option maxHeartbeats 4000000 in
theorem f87 (o : Opn) (h1' : -9223372036854775808 ≤ o.im) (h2' : o.im ≤ 9223372036854775807) : HV Try.prog 87 [.agg (opC o)] (.lit (.int .i64 (chkE o))) := by
  refine HV_of_awp mixed cf87 (by simp) rfl ?_ rfl
  unfold ac87 re87
  refine awp_env_i fun env hE => ?_; have e0 := hE 0; have e1 := hE 1; have e2 := hE 2; have e3 := hE 3; have e4 := hE 4; have e11 := hE 11; have e27 := hE 27; simp -implicitDefEqProofs only [push_cast] at e0 e1 e2 e3 e4 e11 e27; clear hE
  repeat' (first | ((try clear hf); with_reducible refine awp_ops_g fun env K hE hK hf => ?_; have n0 := hE 0; have n1 := hE 1; have n2 := hE 2; have n3 := hE 3; have n4 := hE 4; have n11 := hE 11; have n27 := hE 27; simp -implicitDefEqProofs only [push_cast, reduceIte, Nat.reduceEqDiff, e0, e1, e2, e3, e4, e11, e27] at n0 n1 n2 n3 n4 n11 n27; clear hE e0 e1 e2 e3 e4 e11 e27; have e0 := n0; have e1 := n1; have e2 := n2; have e3 := n3; have e4 := n4; have e11 := n11; have e27 := n27; clear n0 n1 n2 n3 n4 n11 n27) | (with_reducible refine hK _ _ ?_; clear hK K) | (with_reducible first | refine awp_seq_i ?_ | refine seqK_n_i ?_ | refine awp_block_i ?_ | refine awp_skip_i ?_ | refine blockK_n_i ?_ | refine awp_ret_i ?_ | refine seqK_r_i ?_ | refine blockK_r_i ?_ | refine awp_exit_i ?_ | refine seqK_e_i ?_ | refine blockK_e_i ?_ | refine blockK_ne_i (by decide) ?_ | refine PostF_n_i ?_ | refine PostF_r_i ?_ | refine sep_nil_i ?_ | refine condP_t ?_ | refine condP_f ?_ | refine condP_ta (by assumption) ?_ | refine condP_fa (by assumption) ?_) | (refine awp_cond_e rfl ?_) | (simp -implicitDefEqProofs only [push_cast, eq_self, reduceIte, Nat.reduceEqDiff, reduceCtorEq, Nat.reduceAdd, Nat.reduceMul, Nat.reduceSub, Nat.reduceLeDiff, Int.reduceToNat, Int.reduceLE, Int.reduceLT, Int.reduceAdd, Int.reduceSub, Int.reduceMul, Int.reduceNeg, e0, e1, e2, e3, e4, e11, e27, shpA, opC]) | (simp -implicitDefEqProofs (disch := omega) only [push_epn, put_epn, kill_epn, wrap64', e0, e1, e2, e3, e4, e11, e27, shpA, opC]) | (with_reducible refine sep_i ?_ ?_) | (refine awpOps_gd rfl (fun bb => ?_) (fun bb => ?_) <;> simp only [bb]) | (with_reducible refine condP_in (fun bb => ?_) (fun bb => ?_)) | ((with_reducible refine And.intro ?_ ?_); omega) | (refine call_imm (f75 o.k) ?_) | (refine call_imm (f110 o.im h1' h2') ?_) | fail)
  all_goals ((try clear hf); (try clear e0 e1 e2 e3 e4 e11 e27); simp only [chkE, chkP]; simp at *; simp [*]; try omega)
end Go.Proofs.Hx

set_option linter.unusedVariables false
set_option linter.unusedSimpArgs false
namespace Go.Proofs.Hx
open Go Go.Proofs
attribute [local irreducible] awpOps awp opK goV goM callG endOps awpOp runOp HV HVF HC
abbrev u8 (n : Int) : AV := .lit (.int .u8 n)
abbrev bl (b : Bool) : AV := .lit (.bool b)
def Opn.ok (o : Opn) : Prop := -9223372036854775808 ≤ o.im ∧ o.im ≤ 9223372036854775807 ∧ 0 ≤ o.d ∧ o.d ≤ 255 ∧ 0 ≤ o.a ∧ o.a ≤ 255 ∧ 0 ≤ o.b ∧ o.b ≤ 255 ∧ -128 ≤ o.k ∧ o.k ≤ 127
theorem f87' (o : Opn) (h : o.ok) : HV Try.prog 87 [.agg (opC o)] (i64 (chkE o)) := f87 o h.1 h.2.1
theorem chkE_cases (o : Opn) : chkE o = 0 ∨ chkE o = 30 := by unfold chkE; split <;> simp
/-- The register that an operation writes, and whether there is one. -/
def wrS (o : Opn) : Int × Bool := if (ofS o.k).d = true ∧ chkE o = 0 then (o.d, true) else (0, false)
theorem f52 (o : Opn) (h : o.ok) : HV Try.prog 52 [.agg (opC o)] (.tup [u8 (wrS o).1, bl (wrS o).2]) := by
  refine HV_of_awp mixed cf52 (by simp) rfl ?_ (by simp [imm, imms])
  unfold ac52 re52
  refine awp_env_i fun env hE => ?_; have e0 := hE 0; have e1 := hE 1; have e2 := hE 2; have e3 := hE 3; have e4 := hE 4; simp -implicitDefEqProofs only [push_cast] at e0 e1 e2 e3 e4; clear hE
  have hc := f87' o h
  unfold opC at hc
  repeat' (first | ((try clear hf); with_reducible refine awp_ops_g fun env K hE hK hf => ?_; have n0 := hE 0; have n1 := hE 1; have n2 := hE 2; have n3 := hE 3; have n4 := hE 4; simp -implicitDefEqProofs only [push_cast, reduceIte, Nat.reduceEqDiff, e0, e1, e2, e3, e4] at n0 n1 n2 n3 n4; clear hE e0 e1 e2 e3 e4; have e0 := n0; have e1 := n1; have e2 := n2; have e3 := n3; have e4 := n4; clear n0 n1 n2 n3 n4) | (with_reducible refine hK _ _ ?_; clear hK K) | (with_reducible first | refine awp_seq_i ?_ | refine seqK_n_i ?_ | refine awp_block_i ?_ | refine awp_skip_i ?_ | refine blockK_n_i ?_ | refine awp_ret_i ?_ | refine seqK_r_i ?_ | refine blockK_r_i ?_ | refine awp_exit_i ?_ | refine seqK_e_i ?_ | refine blockK_e_i ?_ | refine blockK_ne_i (by decide) ?_ | refine PostF_n_i ?_ | refine PostF_r_i ?_ | refine sep_nil_i ?_ | refine condP_t ?_ | refine condP_f ?_ | refine condP_ta (by assumption) ?_ | refine condP_fa (by assumption) ?_) | (refine awp_cond_e rfl ?_) | (simp -implicitDefEqProofs only [push_cast, eq_self, reduceIte, Nat.reduceEqDiff, reduceCtorEq, Nat.reduceAdd, Nat.reduceMul, Nat.reduceSub, Nat.reduceLeDiff, Int.reduceToNat, Int.reduceLE, Int.reduceLT, Int.reduceAdd, Int.reduceSub, Int.reduceMul, Int.reduceNeg, e0, e1, e2, e3, e4, shpA, opC]) | (simp -implicitDefEqProofs (disch := omega) only [push_epn, put_epn, kill_epn, wrap64', e0, e1, e2, e3, e4, shpA, opC]) | (with_reducible refine sep_i ?_ ?_) | (refine awpOps_gd rfl (fun bb => ?_) (fun bb => ?_) <;> simp only [bb]) | (with_reducible refine condP_in (fun bb => ?_) (fun bb => ?_)) | ((with_reducible refine And.intro ?_ ?_); omega) | (refine call_imm (f75 o.k) ?_) | (refine call_imm hc ?_) | fail)
  all_goals ((try clear hf); (try clear e0 e1 e2 e3 e4); clear hc; simp only [wrS]; simp at *; simp [*])
/-- The registers that an operation reads. -/
def rdS (o : Opn) : List Int :=
  if chkE o ≠ 0 then [] else if (ofS o.k).a = true ∧ (ofS o.k).b = true ∧ o.a ≠ o.b then [o.a, o.b] else if (ofS o.k).a = true then [o.a] else if (ofS o.k).b = true then [o.b] else []
def regsC (l : List Int) : List (List AV) := l.map fun r => [u8 r]
theorem f54 (o : Opn) (h : o.ok) : HVF Try.prog 54 [.agg (opC o)] (.row (regsC (rdS o))) := by
  refine HVF_of_awp mixed cf54 (by simp) rfl ?_ (by simp [imm]; exact immss_of_get fun i x hx => by simp [regsC] at hx; obtain ⟨a, _, rfl⟩ := hx; rfl)
  unfold ac54 re54
  refine awp_env_i fun env hE => ?_; have e0 := hE 0; have e1 := hE 1; have e2 := hE 2; have e3 := hE 3; have e5 := hE 5; simp -implicitDefEqProofs only [push_cast] at e0 e1 e2 e3 e5; clear hE
  have hc := f87' o h
  unfold opC at hc
  repeat' (first | ((try clear hf); with_reducible refine awp_ops_g fun env K hE hK hf => ?_; have n0 := hE 0; have n1 := hE 1; have n2 := hE 2; have n3 := hE 3; have n5 := hE 5; simp -implicitDefEqProofs only [push_cast, reduceIte, Nat.reduceEqDiff, e0, e1, e2, e3, e5] at n0 n1 n2 n3 n5; clear hE e0 e1 e2 e3 e5; have e0 := n0; have e1 := n1; have e2 := n2; have e3 := n3; have e5 := n5; clear n0 n1 n2 n3 n5) | (with_reducible refine hK _ _ ?_; clear hK K) | (with_reducible first | refine awp_seq_i ?_ | refine seqK_n_i ?_ | refine awp_block_i ?_ | refine awp_skip_i ?_ | refine blockK_n_i ?_ | refine awp_ret_i ?_ | refine seqK_r_i ?_ | refine blockK_r_i ?_ | refine awp_exit_i ?_ | refine seqK_e_i ?_ | refine blockK_e_i ?_ | refine blockK_ne_i (by decide) ?_ | refine PostF_n_i ?_ | refine PostF_r_i ?_ | refine sep_nil_i ?_ | refine condP_t ?_ | refine condP_f ?_ | refine condP_ta (by assumption) ?_ | refine condP_fa (by assumption) ?_) | (refine awp_cond_e rfl ?_) | (simp -implicitDefEqProofs only [push_cast, eq_self, reduceIte, Nat.reduceEqDiff, reduceCtorEq, Nat.reduceAdd, Nat.reduceMul, Nat.reduceSub, Nat.reduceLeDiff, Int.reduceToNat, Int.reduceLE, Int.reduceLT, Int.reduceAdd, Int.reduceSub, Int.reduceMul, Int.reduceNeg, e0, e1, e2, e3, e5, shpA, opC]) | (simp -implicitDefEqProofs (disch := omega) only [push_epn, put_epn, kill_epn, wrap64', e0, e1, e2, e3, e5, shpA, opC]) | (with_reducible refine sep_i ?_ ?_) | (refine awpOps_gd rfl (fun bb => ?_) (fun bb => ?_) <;> simp only [bb]) | (with_reducible refine condP_in (fun bb => ?_) (fun bb => ?_)) | ((with_reducible refine And.intro ?_ ?_); omega) | (refine call_imm (f75 o.k) ?_) | (refine call_imm hc ?_) | fail)
  all_goals ((try clear hf); (try clear e0 e1 e2 e3 e5); clear hc; simp only [rdS, regsC]; simp at *; simp [*])
def memS (o : Opn) : Bool := (decide (o.k = 15) || decide (o.k = 16)) && decide (chkE o = 0)
theorem f124 (o : Opn) (h : o.ok) : HV Try.prog 124 [.agg (opC o)] (bl (memS o)) := by
  refine HV_of_awp mixed cf124 (by simp) rfl ?_ rfl
  unfold ac124 re124
  refine awp_env_i fun env hE => ?_; have e0 := hE 0; have e1 := hE 1; have e2 := hE 2; simp -implicitDefEqProofs only [push_cast] at e0 e1 e2; clear hE
  have hc := f87' o h
  unfold opC at hc
  repeat' (first | ((try clear hf); with_reducible refine awp_ops_g fun env K hE hK hf => ?_; have n0 := hE 0; have n1 := hE 1; have n2 := hE 2; simp -implicitDefEqProofs only [push_cast, reduceIte, Nat.reduceEqDiff, e0, e1, e2] at n0 n1 n2; clear hE e0 e1 e2; have e0 := n0; have e1 := n1; have e2 := n2; clear n0 n1 n2) | (with_reducible refine hK _ _ ?_; clear hK K) | (with_reducible first | refine awp_seq_i ?_ | refine seqK_n_i ?_ | refine awp_block_i ?_ | refine awp_skip_i ?_ | refine blockK_n_i ?_ | refine awp_ret_i ?_ | refine seqK_r_i ?_ | refine blockK_r_i ?_ | refine awp_exit_i ?_ | refine seqK_e_i ?_ | refine blockK_e_i ?_ | refine blockK_ne_i (by decide) ?_ | refine PostF_n_i ?_ | refine PostF_r_i ?_ | refine sep_nil_i ?_ | refine condP_t ?_ | refine condP_f ?_ | refine condP_ta (by assumption) ?_ | refine condP_fa (by assumption) ?_) | (refine awp_cond_e rfl ?_) | (simp -implicitDefEqProofs only [push_cast, eq_self, reduceIte, Nat.reduceEqDiff, reduceCtorEq, Nat.reduceAdd, Nat.reduceMul, Nat.reduceSub, Nat.reduceLeDiff, Int.reduceToNat, Int.reduceLE, Int.reduceLT, Int.reduceAdd, Int.reduceSub, Int.reduceMul, Int.reduceNeg, e0, e1, e2, opC]) | (simp -implicitDefEqProofs (disch := omega) only [push_epn, put_epn, kill_epn, wrap64', e0, e1, e2, opC]) | (with_reducible refine sep_i ?_ ?_) | (refine awpOps_gd rfl (fun bb => ?_) (fun bb => ?_) <;> simp only [bb]) | (with_reducible refine condP_in (fun bb => ?_) (fun bb => ?_)) | ((with_reducible refine And.intro ?_ ?_); omega) | (refine call_imm hc ?_) | fail)
  all_goals ((try clear hf); (try clear e0 e1 e2); clear hc; simp only [memS]; simp at *; simp [*])
def effS (o : Opn) : Bool := decide (o.k = 17) || decide (o.k = 13) || decide (o.k = 14)
theorem f118 (o : Opn) : HV Try.prog 118 [.agg (opC o)] (bl (effS o)) := by
  refine HV_of_awp mixed cf118 (by simp) rfl ?_ rfl
  unfold ac118 re118
  refine awp_env_i fun env hE => ?_; have e0 := hE 0; have e1 := hE 1; have e2 := hE 2; simp -implicitDefEqProofs only [push_cast] at e0 e1 e2; clear hE
  repeat' (first | ((try clear hf); with_reducible refine awp_ops_g fun env K hE hK hf => ?_; have n0 := hE 0; have n1 := hE 1; have n2 := hE 2; simp -implicitDefEqProofs only [push_cast, reduceIte, Nat.reduceEqDiff, e0, e1, e2] at n0 n1 n2; clear hE e0 e1 e2; have e0 := n0; have e1 := n1; have e2 := n2; clear n0 n1 n2) | (with_reducible refine hK _ _ ?_; clear hK K) | (with_reducible first | refine awp_seq_i ?_ | refine seqK_n_i ?_ | refine awp_block_i ?_ | refine awp_skip_i ?_ | refine blockK_n_i ?_ | refine awp_ret_i ?_ | refine seqK_r_i ?_ | refine blockK_r_i ?_ | refine awp_exit_i ?_ | refine seqK_e_i ?_ | refine blockK_e_i ?_ | refine blockK_ne_i (by decide) ?_ | refine PostF_n_i ?_ | refine PostF_r_i ?_ | refine sep_nil_i ?_ | refine condP_t ?_ | refine condP_f ?_ | refine condP_ta (by assumption) ?_ | refine condP_fa (by assumption) ?_) | (refine awp_cond_e rfl ?_) | (simp -implicitDefEqProofs only [push_cast, eq_self, reduceIte, Nat.reduceEqDiff, reduceCtorEq, Nat.reduceAdd, Nat.reduceMul, Nat.reduceSub, Nat.reduceLeDiff, Int.reduceToNat, Int.reduceLE, Int.reduceLT, Int.reduceAdd, Int.reduceSub, Int.reduceMul, Int.reduceNeg, e0, e1, e2, opC]) | (simp -implicitDefEqProofs (disch := omega) only [push_epn, put_epn, kill_epn, wrap64', e0, e1, e2, opC]) | (with_reducible refine sep_i ?_ ?_) | (refine awpOps_gd rfl (fun bb => ?_) (fun bb => ?_) <;> simp only [bb]) | (with_reducible refine condP_in (fun bb => ?_) (fun bb => ?_)) | ((with_reducible refine And.intro ?_ ?_); omega) | fail)
  all_goals ((try clear hf); (try clear e0 e1 e2); simp only [effS]; simp at *; simp [*])
end Go.Proofs.Hx

set_option linter.unusedVariables false
set_option linter.unusedSimpArgs false
namespace Go.Proofs.Hx
open Go Go.Proofs
attribute [local irreducible] awpOps awp opK goV goM callG endOps awpOp runOp HV HVF HC
/-- An operation that may stand in a list. -/
def opOK (o : Opn) : Prop := 1 ≤ o.k ∧ o.k ≤ 17 ∧ chkE o = 0
instance (o : Opn) : Decidable (opOK o) := by unfold opOK; infer_instance
def errR (l : List Opn) (t : Tab) : Int := if tabE t ≠ 0 then tabE t else if 1024 < l.length then 3 else if ∀ o ∈ l, opOK o then 0 else 30
theorem opC_len (o : Opn) : (opC o).length = 5 := rfl
theorem opC_take (o : Opn) : (opC o).take 5 = opC o := rfl
theorem opC_one (o : Opn) : (opC o).all one = true := rfl
theorem opC_imms (o : Opn) : imms (opC o) = true := rfl
attribute [push_cast] opC_len opC_take opC_one opC_imms
theorem row_at {l : List Opn} {k : Nat} (hk : k < l.length) (kd : IntKind) : idxAddrV none 5 (.row (l.map opC)) (.lit (.int kd (k : Int))) = some (.ip (opC l[k])) := idxAddr_row opC 5 opC_len l kd hk
theorem tabE_cases (t : Tab) : tabE t = 0 ∨ tabE t = 20 := by unfold tabE; split <;> simp
theorem errR_bad {l : List Opn} {t : Tab} {k : Nat} (h1 : tabE t = 0) (h2 : l.length ≤ 1024) (hk : k < l.length) (hb : ¬ opOK l[k]) : errR l t = 30 := by
  simp only [errR, h1]
  rw [if_neg (by simp), if_neg (by omega), if_neg fun h => hb (h _ (List.getElem_mem hk))]
def I64 (l : List Opn) (t : Tab) (n : Nat) (σ : St) : Prop := ∃ k : Nat, k ≤ l.length ∧ n = l.length - k ∧ σ.env 16 = .row (l.map opC) ∧ σ.env 17 = i64 l.length ∧ σ.env 18 = i64 k ∧ ∀ (j : Nat) (hj : j < k) (h : j < l.length), opOK l[j]
theorem f64 (l : List Opn) (t : Tab) (hl : ∀ o ∈ l, o.ok) : HV Try.prog 64 [.row (l.map opC), .agg (tabC t)] (i64 (errR l t)) := by
  refine HV_of_awp mixed cf64 (by simp) (by simp [imms, imm]; exact ⟨immss_of_get fun i x hx => by simp at hx; obtain ⟨o, _, rfl⟩ := hx; rfl, rfl⟩) ?_ rfl
  unfold ac64 re64
  refine awp_env_i fun env hE => ?_; have e0 := hE 0; have e1 := hE 1; have e3 := hE 3; have e4 := hE 4; have e5 := hE 5; have e7 := hE 7; have e16 := hE 16; have e17 := hE 17; have e18 := hE 18; have e19 := hE 19; simp -implicitDefEqProofs only [push_cast] at e0 e1 e3 e4 e5 e7 e16 e17 e18 e19; clear hE
  repeat' (first | ((try clear hf); with_reducible refine awp_ops_g fun env K hE hK hf => ?_; have n0 := hE 0; have n1 := hE 1; have n3 := hE 3; have n4 := hE 4; have n5 := hE 5; have n7 := hE 7; have n16 := hE 16; have n17 := hE 17; have n18 := hE 18; have n19 := hE 19; simp -implicitDefEqProofs only [push_cast, reduceIte, Nat.reduceEqDiff, e0, e1, e3, e4, e5, e7, e16, e17, e18, e19] at n0 n1 n3 n4 n5 n7 n16 n17 n18 n19; clear hE e0 e1 e3 e4 e5 e7 e16 e17 e18 e19; have e0 := n0; have e1 := n1; have e3 := n3; have e4 := n4; have e5 := n5; have e7 := n7; have e16 := n16; have e17 := n17; have e18 := n18; have e19 := n19; clear n0 n1 n3 n4 n5 n7 n16 n17 n18 n19) | (with_reducible refine hK _ _ ?_; clear hK K) | (with_reducible first | refine awp_seq_i ?_ | refine seqK_n_i ?_ | refine awp_block_i ?_ | refine awp_skip_i ?_ | refine blockK_n_i ?_ | refine awp_ret_i ?_ | refine seqK_r_i ?_ | refine blockK_r_i ?_ | refine awp_exit_i ?_ | refine seqK_e_i ?_ | refine blockK_e_i ?_ | refine blockK_ne_i (by decide) ?_ | refine PostF_n_i ?_ | refine PostF_r_i ?_ | refine sep_nil_i ?_ | refine condP_t ?_ | refine condP_f ?_ | refine condP_ta (by assumption) ?_ | refine condP_fa (by assumption) ?_) | (refine awp_cond_e rfl ?_) | (simp -implicitDefEqProofs only [push_cast, eq_self, reduceIte, Nat.reduceEqDiff, reduceCtorEq, Nat.reduceAdd, Nat.reduceMul, Nat.reduceSub, Nat.reduceLeDiff, Int.reduceToNat, Int.reduceLE, Int.reduceLT, Int.reduceAdd, Int.reduceSub, Int.reduceMul, Int.reduceNeg, e0, e1, e3, e4, e5, e7, e16, e17, e18, e19, lenV_row]) | (simp -implicitDefEqProofs (disch := omega) only [push_epn, put_epn, kill_epn, wrap64', e0, e1, e3, e4, e5, e7, e16, e17, e18, e19, lenV_row]) | (with_reducible refine sep_i ?_ ?_) | (refine awpOps_gd rfl (fun bb => ?_) (fun bb => ?_) <;> simp only [bb]) | (with_reducible refine condP_in (fun bb => ?_) (fun bb => ?_)) | ((with_reducible refine And.intro ?_ ?_); omega) | (refine call_imm (f42 t) ?_) | fail)
  · (try clear hf); (try clear e0 e1 e3 e4 e5 e7 e16 e17 e18 e19); simp [errR]; simp at *; simp [*]
  · (try clear hf); (try clear e0 e1 e3 e4 e5 e7 e16 e17 e18 e19); simp [errR]; simp at *; simp [*]; omega
  have h1 : tabE t = 0 := by have := ‹(decide ¬tabE t = 0) = false›; simpa using this
  have h2 : l.length ≤ 1024 := by have := ‹decide (1024 < (l.length : Int)) = false›; simp at this; omega
  refine awp_loop (I64 l t) l.length ⟨0, by omega, by omega, by simp -implicitDefEqProofs only [push_cast, eq_self, reduceIte, Nat.reduceEqDiff, reduceCtorEq, Nat.reduceAdd, Nat.reduceMul, Nat.reduceSub, Nat.reduceLeDiff, Int.reduceToNat, Int.reduceLE, Int.reduceLT, Int.reduceAdd, Int.reduceSub, Int.reduceMul, Int.reduceNeg, e16], by simp -implicitDefEqProofs only [push_cast, eq_self, reduceIte, Nat.reduceEqDiff, reduceCtorEq, Nat.reduceAdd, Nat.reduceMul, Nat.reduceSub, Nat.reduceLeDiff, Int.reduceToNat, Int.reduceLE, Int.reduceLT, Int.reduceAdd, Int.reduceSub, Int.reduceMul, Int.reduceNeg, e17], by simp -implicitDefEqProofs only [push_cast, eq_self, reduceIte, Nat.reduceEqDiff, reduceCtorEq, Nat.reduceAdd, Nat.reduceMul, Nat.reduceSub, Nat.reduceLeDiff, Int.reduceToNat, Int.reduceLE, Int.reduceLT, Int.reduceAdd, Int.reduceSub, Int.reduceMul, Int.reduceNeg], by omega⟩ ?_
  rintro n ⟨env, h⟩ ⟨k, hk, rfl, e16, e17, e18, hall⟩
  simp only at e16 e17 e18
  have e0 : True := trivial; have e1 : True := trivial; have e3 : True := trivial; have e4 : True := trivial; have e5 : True := trivial; have e7 : True := trivial; have e19 : True := trivial
  unfold l64_0
  refine awp_fresh_i fun hF => ?_
  by_cases hlt : k < l.length
  · have hd : decide ((k : Int) < (l.length : Int)) = true := by simp; omega
    have hr := row_at hlt .i64
    have ho := hl _ (List.getElem_mem hlt)
    repeat' (first | ((try clear hf); with_reducible refine awp_ops_g fun env K hE hK hf => ?_; have n0 := hE 0; have n1 := hE 1; have n3 := hE 3; have n4 := hE 4; have n5 := hE 5; have n7 := hE 7; have n16 := hE 16; have n17 := hE 17; have n18 := hE 18; have n19 := hE 19; simp -implicitDefEqProofs only [push_cast, reduceIte, Nat.reduceEqDiff, e0, e1, e3, e4, e5, e7, e16, e17, e18, e19] at n0 n1 n3 n4 n5 n7 n16 n17 n18 n19; clear hE e0 e1 e3 e4 e5 e7 e16 e17 e18 e19; have e0 := n0; have e1 := n1; have e3 := n3; have e4 := n4; have e5 := n5; have e7 := n7; have e16 := n16; have e17 := n17; have e18 := n18; have e19 := n19; clear n0 n1 n3 n4 n5 n7 n16 n17 n18 n19) | (with_reducible refine hK _ _ ?_; clear hK K) | (with_reducible first | refine awp_seq_i ?_ | refine seqK_n_i ?_ | refine awp_block_i ?_ | refine awp_skip_i ?_ | refine blockK_n_i ?_ | refine awp_ret_i ?_ | refine seqK_r_i ?_ | refine blockK_r_i ?_ | refine awp_exit_i ?_ | refine seqK_e_i ?_ | refine blockK_e_i ?_ | refine blockK_ne_i (by decide) ?_ | refine PostF_n_i ?_ | refine PostF_r_i ?_ | refine sep_nil_i ?_ | refine condP_t ?_ | refine condP_f ?_ | refine condP_ta (by assumption) ?_ | refine condP_fa (by assumption) ?_) | (refine awp_cond_e rfl ?_) | (simp -implicitDefEqProofs only [push_cast, eq_self, reduceIte, Nat.reduceEqDiff, reduceCtorEq, Nat.reduceAdd, Nat.reduceMul, Nat.reduceSub, Nat.reduceLeDiff, Int.reduceToNat, Int.reduceLE, Int.reduceLT, Int.reduceAdd, Int.reduceSub, Int.reduceMul, Int.reduceNeg, e0, e1, e3, e4, e5, e7, e16, e17, e18, e19, hd, hr, hF.at, op_0]) | (simp -implicitDefEqProofs (disch := omega) only [push_epn, put_epn, kill_epn, wrap64', e0, e1, e3, e4, e5, e7, e16, e17, e18, e19, hd, hr, hF.at, op_0]) | (with_reducible refine sep_i ?_ ?_) | (refine awpOps_gd rfl (fun bb => ?_) (fun bb => ?_) <;> simp only [bb]) | (with_reducible refine condP_in (fun bb => ?_) (fun bb => ?_)) | ((with_reducible refine And.intro ?_ ?_); omega) | (refine call_imm (f87' _ ho) ?_) | fail)
    all_goals first
      | (rw [errR_bad h1 h2 hlt (fun h => by (try clear hf); (try clear e0 e1 e3 e4 e5 e7 e16 e17 e18 e19); unfold opOK at h; simp only [decide_eq_true_eq, decide_eq_false_iff_not, Decidable.not_not] at *; omega)]; done)
      | skip
    refine ⟨l.length - (k + 1), by omega, k + 1, by omega, rfl, by simp -implicitDefEqProofs only [push_cast, eq_self, reduceIte, Nat.reduceEqDiff, reduceCtorEq, Nat.reduceAdd, Nat.reduceMul, Nat.reduceSub, Nat.reduceLeDiff, Int.reduceToNat, Int.reduceLE, Int.reduceLT, Int.reduceAdd, Int.reduceSub, Int.reduceMul, Int.reduceNeg, e16], by simp -implicitDefEqProofs only [push_cast, eq_self, reduceIte, Nat.reduceEqDiff, reduceCtorEq, Nat.reduceAdd, Nat.reduceMul, Nat.reduceSub, Nat.reduceLeDiff, Int.reduceToNat, Int.reduceLE, Int.reduceLT, Int.reduceAdd, Int.reduceSub, Int.reduceMul, Int.reduceNeg, e17], by simp -implicitDefEqProofs only [push_cast, eq_self, reduceIte, Nat.reduceEqDiff, reduceCtorEq, Nat.reduceAdd, Nat.reduceMul, Nat.reduceSub, Nat.reduceLeDiff, Int.reduceToNat, Int.reduceLE, Int.reduceLT, Int.reduceAdd, Int.reduceSub, Int.reduceMul, Int.reduceNeg], fun j hj h => ?_⟩
    by_cases e : j < k
    · exact hall j e h
    · obtain rfl : j = k := by omega
      (try clear hf); (try clear e0 e1 e3 e4 e5 e7 e16 e17 e18 e19)
      unfold opOK
      simp only [decide_eq_true_eq, decide_eq_false_iff_not, Decidable.not_not] at *
      exact ⟨by omega, by omega, by assumption⟩
  · have hd : decide ((k : Int) < (l.length : Int)) = false := by simp; omega
    repeat' (first | ((try clear hf); with_reducible refine awp_ops_g fun env K hE hK hf => ?_; have n0 := hE 0; have n1 := hE 1; have n3 := hE 3; have n4 := hE 4; have n5 := hE 5; have n7 := hE 7; have n16 := hE 16; have n17 := hE 17; have n18 := hE 18; have n19 := hE 19; simp -implicitDefEqProofs only [push_cast, reduceIte, Nat.reduceEqDiff, e0, e1, e3, e4, e5, e7, e16, e17, e18, e19] at n0 n1 n3 n4 n5 n7 n16 n17 n18 n19; clear hE e0 e1 e3 e4 e5 e7 e16 e17 e18 e19; have e0 := n0; have e1 := n1; have e3 := n3; have e4 := n4; have e5 := n5; have e7 := n7; have e16 := n16; have e17 := n17; have e18 := n18; have e19 := n19; clear n0 n1 n3 n4 n5 n7 n16 n17 n18 n19) | (with_reducible refine hK _ _ ?_; clear hK K) | (with_reducible first | refine awp_seq_i ?_ | refine seqK_n_i ?_ | refine awp_block_i ?_ | refine awp_skip_i ?_ | refine blockK_n_i ?_ | refine awp_ret_i ?_ | refine seqK_r_i ?_ | refine blockK_r_i ?_ | refine awp_exit_i ?_ | refine seqK_e_i ?_ | refine blockK_e_i ?_ | refine blockK_ne_i (by decide) ?_ | refine PostF_n_i ?_ | refine PostF_r_i ?_ | refine sep_nil_i ?_ | refine condP_t ?_ | refine condP_f ?_ | refine condP_ta (by assumption) ?_ | refine condP_fa (by assumption) ?_) | (refine awp_cond_e rfl ?_) | (simp -implicitDefEqProofs only [push_cast, eq_self, reduceIte, Nat.reduceEqDiff, reduceCtorEq, Nat.reduceAdd, Nat.reduceMul, Nat.reduceSub, Nat.reduceLeDiff, Int.reduceToNat, Int.reduceLE, Int.reduceLT, Int.reduceAdd, Int.reduceSub, Int.reduceMul, Int.reduceNeg, e0, e1, e3, e4, e5, e7, e16, e17, e18, e19, hd]) | (simp -implicitDefEqProofs (disch := omega) only [push_epn, put_epn, kill_epn, wrap64', e0, e1, e3, e4, e5, e7, e16, e17, e18, e19, hd]) | (with_reducible refine sep_i ?_ ?_) | (refine awpOps_gd rfl (fun bb => ?_) (fun bb => ?_) <;> simp only [bb]) | (with_reducible refine condP_in (fun bb => ?_) (fun bb => ?_)) | ((with_reducible refine And.intro ?_ ?_); omega) | fail)
    have hk' : k = l.length := by omega
    have : ∀ o ∈ l, opOK o := by
      intro o ho
      obtain ⟨j, hj, rfl⟩ := List.getElem_of_mem ho
      exact hall j (by omega) hj
    (try clear hf); (try clear e0 e1 e3 e4 e5 e7 e16 e17 e18 e19)
    simp only [errR, h1]
    rw [if_neg (by simp), if_neg (by omega), if_pos this]
end Go.Proofs.Hx

set_option linter.unusedVariables false
set_option linter.unusedSimpArgs false
namespace Go.Proofs.Hx
open Go Go.Proofs
attribute [local irreducible] awpOps awp opK goV goM callG endOps awpOp runOp HV HVF HC
def clsN (o : Opn) : Nat := (clsS o.k).1.toNat
theorem clsN_eq (o : Opn) : (clsS o.k).1 = (clsN o : Int) := by
  have : 0 ≤ (clsS o.k).1 := by unfold clsS; split <;> simp_all
  unfold clsN; omega
theorem shpT_cl3 (i : Nat) : (shpT i).cl ≤ 3 := by unfold shpT; split <;> decide
theorem clsN_lt (o : Opn) : clsN o < 4 := by
  have : (clsS o.k).1 ≤ 3 := by
    unfold clsS
    split
    · unfold ofS
      split
      · decide
      · exact shpT_cl3 _
    · decide
  unfold clsN; omega
def cntC (l : List Opn) (c : Nat) : Nat := (if c = 3 then 1 else 0) + (l.filter fun o => clsN o == c).length
theorem cntC_take {l : List Opn} {k : Nat} (hk : k < l.length) (c : Nat) : cntC (l.take (k + 1)) c = cntC (l.take k) c + (if c = clsN l[k] then 1 else 0) := by
  rw [List.take_succ_eq_append_getElem hk]
  simp only [cntC, List.filter_append, List.length_append, List.filter_cons, List.filter_nil]
  by_cases h : clsN l[k] = c
  · simp [h]; omega
  · have : ¬ c = clsN l[k] := fun e => h e.symm
    simp [h, this]
theorem cntC_le (l : List Opn) (c : Nat) : cntC l c ≤ l.length + 1 := by
  have := List.length_filter_le (fun o => clsN o == c) l
  unfold cntC; split <;> omega
def nC (n : Nat → Int) : List AV := [i64 (n 0), i64 (n 1), i64 (n 2), i64 (n 3)]
theorem nC_len (n : Nat → Int) : (nC n).length = 4 := rfl
theorem nC_take (n : Nat → Int) : (nC n).take 4 = nC n := rfl
theorem nC_one (n : Nat → Int) : (nC n).all one = true := rfl
theorem nC_imms (n : Nat → Int) : imms (nC n) = true := rfl
theorem nC_drop (n : Nat → Int) : (nC n).drop 4 = [] := rfl
attribute [push_cast] nC_len nC_take nC_one nC_imms nC_drop
theorem nC_at (n : Nat → Int) {c : Nat} (hc : c < 4) : (nC n)[c]? = some (i64 (n c)) := by
  match c, hc with
  | 0, _ | 1, _ | 2, _ | 3, _ => rfl
theorem nC_put (n : Nat → Int) {c : Nat} (hc : c < 4) (v : Int) : (nC n).take c ++ [i64 v] ++ (nC n).drop (c + 1) = nC fun d => if d = c then v else n d := by
  match c, hc with
  | 0, _ | 1, _ | 2, _ | 3, _ => rfl
theorem nC_congr {n m : Nat → Int} (h : ∀ c < 4, n c = m c) : nC n = nC m := by simp [nC, h]
def noU (l : List Opn) (t : Tab) : Prop := ∃ c < 4, 0 < cntC l c ∧ t.u c = 0
instance (l : List Opn) (t : Tab) : Decidable (noU l t) := by unfold noU; infer_instance
def preB (l : List Opn) (t : Tab) : Int := if tabE t ≠ 0 then tabE t else if 64 < l.length then 3 else errR l t
def errB (l : List Opn) (t : Tab) : Int := if preB l t ≠ 0 then preB l t else if noU l t then 21 else 0
def cntB (l : List Opn) (t : Tab) (c : Nat) : Int := if preB l t ≠ 0 then 0 else cntC l c
theorem rows_imms (l : List Opn) : immss (l.map opC) = true := immss_of_get fun i x hx => by simp at hx; obtain ⟨o, _, rfl⟩ := hx; rfl
def I57a (l : List Opn) (t : Tab) (n : Nat) (σ : St) : Prop := ∃ k : Nat, k ≤ l.length ∧ n = l.length - k ∧ σ.env 3 = .ptr (2, 3) 0 ∧ σ.env 4 = .ptr (2, 4) 0 ∧ σ.env 32 = .row (l.map opC) ∧ σ.env 33 = i64 l.length ∧ σ.env 34 = i64 k ∧
  σ.h.hp (2, 3) = some ⟨true, tabC t⟩ ∧ σ.h.hp (2, 4) = some ⟨true, nC fun c => cntC (l.take k) c⟩
def I57b (l : List Opn) (t : Tab) (n : Nat) (σ : St) : Prop := ∃ c : Nat, c ≤ 4 ∧ n = 4 - c ∧ σ.env 3 = .ptr (2, 3) 0 ∧ σ.env 4 = .ptr (2, 4) 0 ∧ σ.env 50 = .agg (nC fun c => cntC l c) ∧ σ.env 51 = i64 c ∧
  σ.h.hp (2, 3) = some ⟨true, tabC t⟩ ∧ σ.h.hp (2, 4) = some ⟨true, nC fun c => cntC l c⟩ ∧ ∀ j < c, ¬ (0 < cntC l j ∧ t.u j = 0)
theorem f57 (l : List Opn) (t : Tab) (hl : ∀ o ∈ l, o.ok) : HV Try.prog 57 [.row (l.map opC), .agg (tabC t)] (.tup [.agg (nC (cntB l t)), i64 (errB l t)]) := by
  refine HV_of_awp mixed cf57 (by simp) (by simp [imms, imm, rows_imms, tab_imms]) ?_ (by simp [imm, imms, nC_imms])
  unfold ac57 re57
  refine awp_env_i fun env hE => ?_; have e0 := hE 0; have e1 := hE 1; have e3 := hE 3; have e4 := hE 4; have e5 := hE 5; have e6 := hE 6; have e7 := hE 7; have e9 := hE 9; have e10 := hE 10; have e12 := hE 12; have e13 := hE 13; have e32 := hE 32; have e33 := hE 33; have e34 := hE 34; have e35 := hE 35; have e50 := hE 50; have e51 := hE 51; have e52 := hE 52; simp -implicitDefEqProofs only [push_cast] at e0 e1 e3 e4 e5 e6 e7 e9 e10 e12 e13 e32 e33 e34 e35 e50 e51 e52; clear hE
  repeat' (first | ((try clear hf); with_reducible refine awp_ops_g fun env K hE hK hf => ?_; have n0 := hE 0; have n1 := hE 1; have n3 := hE 3; have n4 := hE 4; have n5 := hE 5; have n6 := hE 6; have n7 := hE 7; have n9 := hE 9; have n10 := hE 10; have n12 := hE 12; have n13 := hE 13; have n32 := hE 32; have n33 := hE 33; have n34 := hE 34; have n35 := hE 35; have n50 := hE 50; have n51 := hE 51; have n52 := hE 52; simp -implicitDefEqProofs only [push_cast, reduceIte, Nat.reduceEqDiff, e0, e1, e3, e4, e5, e6, e7, e9, e10, e12, e13, e32, e33, e34, e35, e50, e51, e52] at n0 n1 n3 n4 n5 n6 n7 n9 n10 n12 n13 n32 n33 n34 n35 n50 n51 n52; clear hE e0 e1 e3 e4 e5 e6 e7 e9 e10 e12 e13 e32 e33 e34 e35 e50 e51 e52; have e0 := n0; have e1 := n1; have e3 := n3; have e4 := n4; have e5 := n5; have e6 := n6; have e7 := n7; have e9 := n9; have e10 := n10; have e12 := n12; have e13 := n13; have e32 := n32; have e33 := n33; have e34 := n34; have e35 := n35; have e50 := n50; have e51 := n51; have e52 := n52; clear n0 n1 n3 n4 n5 n6 n7 n9 n10 n12 n13 n32 n33 n34 n35 n50 n51 n52) | (with_reducible refine hK _ _ ?_; clear hK K) | (with_reducible first | refine awp_seq_i ?_ | refine seqK_n_i ?_ | refine awp_block_i ?_ | refine awp_skip_i ?_ | refine blockK_n_i ?_ | refine awp_ret_i ?_ | refine seqK_r_i ?_ | refine blockK_r_i ?_ | refine awp_exit_i ?_ | refine seqK_e_i ?_ | refine blockK_e_i ?_ | refine blockK_ne_i (by decide) ?_ | refine PostF_n_i ?_ | refine PostF_r_i ?_ | refine sep_nil_i ?_ | refine condP_t ?_ | refine condP_f ?_ | refine condP_ta (by assumption) ?_ | refine condP_fa (by assumption) ?_) | (refine awp_cond_e rfl ?_) | (simp -implicitDefEqProofs only [push_cast, eq_self, reduceIte, Nat.reduceEqDiff, reduceCtorEq, Nat.reduceAdd, Nat.reduceMul, Nat.reduceSub, Nat.reduceLeDiff, Int.reduceToNat, Int.reduceLE, Int.reduceLT, Int.reduceAdd, Int.reduceSub, Int.reduceMul, Int.reduceNeg, e0, e1, e3, e4, e5, e6, e7, e9, e10, e12, e13, e32, e33, e34, e35, e50, e51, e52, lenV_row]) | (simp -implicitDefEqProofs (disch := omega) only [push_epn, put_epn, kill_epn, wrap64', e0, e1, e3, e4, e5, e6, e7, e9, e10, e12, e13, e32, e33, e34, e35, e50, e51, e52, lenV_row]) | (with_reducible refine sep_i ?_ ?_) | (refine awpOps_gd rfl (fun bb => ?_) (fun bb => ?_) <;> simp only [bb]) | (with_reducible refine condP_in (fun bb => ?_) (fun bb => ?_)) | ((with_reducible refine And.intro ?_ ?_); omega) | (refine call_imm (f42 t) ?_) | (refine call_imm (f64 l t hl) ?_) | fail)
  · have g1 : tabE t ≠ 0 := by have := ‹(decide ¬tabE t = 0) = true›; simpa using this
    have g2 : preB l t = tabE t := by simp [preB, g1]
    (try clear hf); (try clear e0 e1 e3 e4 e5 e6 e7 e9 e10 e12 e13 e32 e33 e34 e35 e50 e51 e52); simp [errB, cntB, g2, g1, nC]
  · have g1 : tabE t = 0 := by have := ‹(decide ¬tabE t = 0) = false›; simpa using this
    have g0 : 64 < l.length := by have := ‹decide (64 < (l.length : Int)) = true›; simp at this; omega
    have g2 : preB l t = 3 := by simp [preB, g1, g0]
    (try clear hf); (try clear e0 e1 e3 e4 e5 e6 e7 e9 e10 e12 e13 e32 e33 e34 e35 e50 e51 e52); simp [errB, cntB, g2, nC]
  · have g1 : tabE t = 0 := by have := ‹(decide ¬tabE t = 0) = false›; simpa using this
    have g0 : ¬ 64 < l.length := by have := ‹decide (64 < (l.length : Int)) = false›; simp at this; omega
    have g3 : errR l t ≠ 0 := by have := ‹(decide ¬errR l t = 0) = true›; simpa using this
    have g2 : preB l t = errR l t := by simp [preB, g1, g0]
    (try clear hf); (try clear e0 e1 e3 e4 e5 e6 e7 e9 e10 e12 e13 e32 e33 e34 e35 e50 e51 e52); simp [errB, cntB, g2, nC, g3]
  have g1 : tabE t = 0 := by have := ‹(decide ¬tabE t = 0) = false›; simpa using this
  have g0 : ¬ 64 < l.length := by have := ‹decide (64 < (l.length : Int)) = false›; simp at this; omega
  have g3 : errR l t = 0 := by have := ‹(decide ¬errR l t = 0) = false›; simpa using this
  have g2 : preB l t = 0 := by simp [preB, g1, g0, g3]
  refine awp_loop (I57a l t) l.length ⟨0, by omega, by omega, by simp -implicitDefEqProofs only [push_cast, eq_self, reduceIte, Nat.reduceEqDiff, reduceCtorEq, Nat.reduceAdd, Nat.reduceMul, Nat.reduceSub, Nat.reduceLeDiff, Int.reduceToNat, Int.reduceLE, Int.reduceLT, Int.reduceAdd, Int.reduceSub, Int.reduceMul, Int.reduceNeg, e3], by simp -implicitDefEqProofs only [push_cast, eq_self, reduceIte, Nat.reduceEqDiff, reduceCtorEq, Nat.reduceAdd, Nat.reduceMul, Nat.reduceSub, Nat.reduceLeDiff, Int.reduceToNat, Int.reduceLE, Int.reduceLT, Int.reduceAdd, Int.reduceSub, Int.reduceMul, Int.reduceNeg, e4], by simp -implicitDefEqProofs only [push_cast, eq_self, reduceIte, Nat.reduceEqDiff, reduceCtorEq, Nat.reduceAdd, Nat.reduceMul, Nat.reduceSub, Nat.reduceLeDiff, Int.reduceToNat, Int.reduceLE, Int.reduceLT, Int.reduceAdd, Int.reduceSub, Int.reduceMul, Int.reduceNeg, e32], by simp -implicitDefEqProofs only [push_cast, eq_self, reduceIte, Nat.reduceEqDiff, reduceCtorEq, Nat.reduceAdd, Nat.reduceMul, Nat.reduceSub, Nat.reduceLeDiff, Int.reduceToNat, Int.reduceLE, Int.reduceLT, Int.reduceAdd, Int.reduceSub, Int.reduceMul, Int.reduceNeg, e33], by simp -implicitDefEqProofs only [push_cast, eq_self, reduceIte, Nat.reduceEqDiff, reduceCtorEq, Nat.reduceAdd, Nat.reduceMul, Nat.reduceSub, Nat.reduceLeDiff, Int.reduceToNat, Int.reduceLE, Int.reduceLT, Int.reduceAdd, Int.reduceSub, Int.reduceMul, Int.reduceNeg], by simp -implicitDefEqProofs only [push_cast, eq_self, reduceIte, Nat.reduceEqDiff, reduceCtorEq, Nat.reduceAdd, Nat.reduceMul, Nat.reduceSub, Nat.reduceLeDiff, Int.reduceToNat, Int.reduceLE, Int.reduceLT, Int.reduceAdd, Int.reduceSub, Int.reduceMul, Int.reduceNeg], by simp -implicitDefEqProofs only [push_cast, eq_self, reduceIte, Nat.reduceEqDiff, reduceCtorEq, Nat.reduceAdd, Nat.reduceMul, Nat.reduceSub, Nat.reduceLeDiff, Int.reduceToNat, Int.reduceLE, Int.reduceLT, Int.reduceAdd, Int.reduceSub, Int.reduceMul, Int.reduceNeg]; rfl⟩ ?_
  rintro n ⟨env, h⟩ ⟨k, hk, rfl, e3, e4, e32, e33, e34, hb3, hb4⟩
  simp only at e3 e4 e32 e33 e34 hb3 hb4
  have e0 : True := trivial; have e1 : True := trivial; have e5 : True := trivial; have e6 : True := trivial; have e7 : True := trivial; have e9 : True := trivial; have e10 : True := trivial; have e12 : True := trivial; have e13 : True := trivial; have e35 : True := trivial; have e50 : True := trivial; have e51 : True := trivial; have e52 : True := trivial
  unfold l57_0
  refine awp_fresh_i fun hF => ?_
  by_cases hlt : k < l.length
  · have hd : decide ((k : Int) < (l.length : Int)) = true := by simp; omega
    have hr := row_at hlt .i64
    have hc := clsN_eq l[k]
    have hc4 := clsN_lt l[k]
    have hn := nC_at (fun c => (cntC (l.take k) c : Int)) hc4
    have hle := cntC_le (l.take k) (clsN l[k])
    rw [List.length_take] at hle
    repeat' (first | ((try clear hf); with_reducible refine awp_ops_g fun env K hE hK hf => ?_; have n0 := hE 0; have n1 := hE 1; have n3 := hE 3; have n4 := hE 4; have n5 := hE 5; have n6 := hE 6; have n7 := hE 7; have n9 := hE 9; have n10 := hE 10; have n12 := hE 12; have n13 := hE 13; have n32 := hE 32; have n33 := hE 33; have n34 := hE 34; have n35 := hE 35; have n50 := hE 50; have n51 := hE 51; have n52 := hE 52; simp -implicitDefEqProofs only [push_cast, reduceIte, Nat.reduceEqDiff, e0, e1, e3, e4, e5, e6, e7, e9, e10, e12, e13, e32, e33, e34, e35, e50, e51, e52] at n0 n1 n3 n4 n5 n6 n7 n9 n10 n12 n13 n32 n33 n34 n35 n50 n51 n52; clear hE e0 e1 e3 e4 e5 e6 e7 e9 e10 e12 e13 e32 e33 e34 e35 e50 e51 e52; have e0 := n0; have e1 := n1; have e3 := n3; have e4 := n4; have e5 := n5; have e6 := n6; have e7 := n7; have e9 := n9; have e10 := n10; have e12 := n12; have e13 := n13; have e32 := n32; have e33 := n33; have e34 := n34; have e35 := n35; have e50 := n50; have e51 := n51; have e52 := n52; clear n0 n1 n3 n4 n5 n6 n7 n9 n10 n12 n13 n32 n33 n34 n35 n50 n51 n52) | (with_reducible refine hK _ _ ?_; clear hK K) | (with_reducible first | refine awp_seq_i ?_ | refine seqK_n_i ?_ | refine awp_block_i ?_ | refine awp_skip_i ?_ | refine blockK_n_i ?_ | refine awp_ret_i ?_ | refine seqK_r_i ?_ | refine blockK_r_i ?_ | refine awp_exit_i ?_ | refine seqK_e_i ?_ | refine blockK_e_i ?_ | refine blockK_ne_i (by decide) ?_ | refine PostF_n_i ?_ | refine PostF_r_i ?_ | refine sep_nil_i ?_ | refine condP_t ?_ | refine condP_f ?_ | refine condP_ta (by assumption) ?_ | refine condP_fa (by assumption) ?_) | (refine awp_cond_e rfl ?_) | (simp -implicitDefEqProofs only [push_cast, eq_self, reduceIte, Nat.reduceEqDiff, reduceCtorEq, Nat.reduceAdd, Nat.reduceMul, Nat.reduceSub, Nat.reduceLeDiff, Int.reduceToNat, Int.reduceLE, Int.reduceLT, Int.reduceAdd, Int.reduceSub, Int.reduceMul, Int.reduceNeg, e0, e1, e3, e4, e5, e6, e7, e9, e10, e12, e13, e32, e33, e34, e35, e50, e51, e52, hd, hr, hF.at, op_0, hc, hb3, hb4, hn]) | (simp -implicitDefEqProofs (disch := omega) only [push_epn, put_epn, kill_epn, wrap64', e0, e1, e3, e4, e5, e6, e7, e9, e10, e12, e13, e32, e33, e34, e35, e50, e51, e52, hd, hr, hF.at, op_0, hc, hb3, hb4, hn]) | (with_reducible refine sep_i ?_ ?_) | (refine awpOps_gd rfl (fun bb => ?_) (fun bb => ?_) <;> simp only [bb]) | (with_reducible refine condP_in (fun bb => ?_) (fun bb => ?_)) | ((with_reducible refine And.intro ?_ ?_); omega) | (refine call_imm (f41 _) ?_) | fail)
    have hp := (nC_put (fun c => (cntC (l.take k) c : Int)) hc4 ((cntC (l.take k) (clsN l[k]) : Int) + 1)).trans (nC_congr (m := fun c => (cntC (l.take (k + 1)) c : Int)) fun c _ => by
      simp only [cntC_take hlt]; split <;> simp [*])
    refine ⟨l.length - (k + 1), by omega, k + 1, by omega, rfl, by simp -implicitDefEqProofs only [push_cast, eq_self, reduceIte, Nat.reduceEqDiff, reduceCtorEq, Nat.reduceAdd, Nat.reduceMul, Nat.reduceSub, Nat.reduceLeDiff, Int.reduceToNat, Int.reduceLE, Int.reduceLT, Int.reduceAdd, Int.reduceSub, Int.reduceMul, Int.reduceNeg, e3], by simp -implicitDefEqProofs only [push_cast, eq_self, reduceIte, Nat.reduceEqDiff, reduceCtorEq, Nat.reduceAdd, Nat.reduceMul, Nat.reduceSub, Nat.reduceLeDiff, Int.reduceToNat, Int.reduceLE, Int.reduceLT, Int.reduceAdd, Int.reduceSub, Int.reduceMul, Int.reduceNeg, e4], by simp -implicitDefEqProofs only [push_cast, eq_self, reduceIte, Nat.reduceEqDiff, reduceCtorEq, Nat.reduceAdd, Nat.reduceMul, Nat.reduceSub, Nat.reduceLeDiff, Int.reduceToNat, Int.reduceLE, Int.reduceLT, Int.reduceAdd, Int.reduceSub, Int.reduceMul, Int.reduceNeg, e32], by simp -implicitDefEqProofs only [push_cast, eq_self, reduceIte, Nat.reduceEqDiff, reduceCtorEq, Nat.reduceAdd, Nat.reduceMul, Nat.reduceSub, Nat.reduceLeDiff, Int.reduceToNat, Int.reduceLE, Int.reduceLT, Int.reduceAdd, Int.reduceSub, Int.reduceMul, Int.reduceNeg, e33], by simp -implicitDefEqProofs only [push_cast, eq_self, reduceIte, Nat.reduceEqDiff, reduceCtorEq, Nat.reduceAdd, Nat.reduceMul, Nat.reduceSub, Nat.reduceLeDiff, Int.reduceToNat, Int.reduceLE, Int.reduceLT, Int.reduceAdd, Int.reduceSub, Int.reduceMul, Int.reduceNeg], by simp -implicitDefEqProofs only [push_cast, eq_self, reduceIte, Nat.reduceEqDiff, reduceCtorEq, Nat.reduceAdd, Nat.reduceMul, Nat.reduceSub, Nat.reduceLeDiff, Int.reduceToNat, Int.reduceLE, Int.reduceLT, Int.reduceAdd, Int.reduceSub, Int.reduceMul, Int.reduceNeg, hb3], by simp -implicitDefEqProofs only [push_cast, eq_self, reduceIte, Nat.reduceEqDiff, reduceCtorEq, Nat.reduceAdd, Nat.reduceMul, Nat.reduceSub, Nat.reduceLeDiff, Int.reduceToNat, Int.reduceLE, Int.reduceLT, Int.reduceAdd, Int.reduceSub, Int.reduceMul, Int.reduceNeg, hp]⟩
  · have hd : decide ((k : Int) < (l.length : Int)) = false := by simp; omega
    obtain rfl : k = l.length := by omega
    rw [List.take_length] at hb4
    repeat' (first | ((try clear hf); with_reducible refine awp_ops_g fun env K hE hK hf => ?_; have n0 := hE 0; have n1 := hE 1; have n3 := hE 3; have n4 := hE 4; have n5 := hE 5; have n6 := hE 6; have n7 := hE 7; have n9 := hE 9; have n10 := hE 10; have n12 := hE 12; have n13 := hE 13; have n32 := hE 32; have n33 := hE 33; have n34 := hE 34; have n35 := hE 35; have n50 := hE 50; have n51 := hE 51; have n52 := hE 52; simp -implicitDefEqProofs only [push_cast, reduceIte, Nat.reduceEqDiff, e0, e1, e3, e4, e5, e6, e7, e9, e10, e12, e13, e32, e33, e34, e35, e50, e51, e52] at n0 n1 n3 n4 n5 n6 n7 n9 n10 n12 n13 n32 n33 n34 n35 n50 n51 n52; clear hE e0 e1 e3 e4 e5 e6 e7 e9 e10 e12 e13 e32 e33 e34 e35 e50 e51 e52; have e0 := n0; have e1 := n1; have e3 := n3; have e4 := n4; have e5 := n5; have e6 := n6; have e7 := n7; have e9 := n9; have e10 := n10; have e12 := n12; have e13 := n13; have e32 := n32; have e33 := n33; have e34 := n34; have e35 := n35; have e50 := n50; have e51 := n51; have e52 := n52; clear n0 n1 n3 n4 n5 n6 n7 n9 n10 n12 n13 n32 n33 n34 n35 n50 n51 n52) | (with_reducible refine hK _ _ ?_; clear hK K) | (with_reducible first | refine awp_seq_i ?_ | refine seqK_n_i ?_ | refine awp_block_i ?_ | refine awp_skip_i ?_ | refine blockK_n_i ?_ | refine awp_ret_i ?_ | refine seqK_r_i ?_ | refine blockK_r_i ?_ | refine awp_exit_i ?_ | refine seqK_e_i ?_ | refine blockK_e_i ?_ | refine blockK_ne_i (by decide) ?_ | refine PostF_n_i ?_ | refine PostF_r_i ?_ | refine sep_nil_i ?_ | refine condP_t ?_ | refine condP_f ?_ | refine condP_ta (by assumption) ?_ | refine condP_fa (by assumption) ?_) | (refine awp_cond_e rfl ?_) | (simp -implicitDefEqProofs only [push_cast, eq_self, reduceIte, Nat.reduceEqDiff, reduceCtorEq, Nat.reduceAdd, Nat.reduceMul, Nat.reduceSub, Nat.reduceLeDiff, Int.reduceToNat, Int.reduceLE, Int.reduceLT, Int.reduceAdd, Int.reduceSub, Int.reduceMul, Int.reduceNeg, e0, e1, e3, e4, e5, e6, e7, e9, e10, e12, e13, e32, e33, e34, e35, e50, e51, e52, hd, hb3, hb4]) | (simp -implicitDefEqProofs (disch := omega) only [push_epn, put_epn, kill_epn, wrap64', e0, e1, e3, e4, e5, e6, e7, e9, e10, e12, e13, e32, e33, e34, e35, e50, e51, e52, hd, hb3, hb4]) | (with_reducible refine sep_i ?_ ?_) | (refine awpOps_gd rfl (fun bb => ?_) (fun bb => ?_) <;> simp only [bb]) | (with_reducible refine condP_in (fun bb => ?_) (fun bb => ?_)) | ((with_reducible refine And.intro ?_ ?_); omega) | fail)
    refine awp_loop (I57b l t) 4 ⟨0, by omega, by omega, by simp -implicitDefEqProofs only [push_cast, eq_self, reduceIte, Nat.reduceEqDiff, reduceCtorEq, Nat.reduceAdd, Nat.reduceMul, Nat.reduceSub, Nat.reduceLeDiff, Int.reduceToNat, Int.reduceLE, Int.reduceLT, Int.reduceAdd, Int.reduceSub, Int.reduceMul, Int.reduceNeg, e3], by simp -implicitDefEqProofs only [push_cast, eq_self, reduceIte, Nat.reduceEqDiff, reduceCtorEq, Nat.reduceAdd, Nat.reduceMul, Nat.reduceSub, Nat.reduceLeDiff, Int.reduceToNat, Int.reduceLE, Int.reduceLT, Int.reduceAdd, Int.reduceSub, Int.reduceMul, Int.reduceNeg, e4], by simp -implicitDefEqProofs only [push_cast, eq_self, reduceIte, Nat.reduceEqDiff, reduceCtorEq, Nat.reduceAdd, Nat.reduceMul, Nat.reduceSub, Nat.reduceLeDiff, Int.reduceToNat, Int.reduceLE, Int.reduceLT, Int.reduceAdd, Int.reduceSub, Int.reduceMul, Int.reduceNeg], by simp -implicitDefEqProofs only [push_cast, eq_self, reduceIte, Nat.reduceEqDiff, reduceCtorEq, Nat.reduceAdd, Nat.reduceMul, Nat.reduceSub, Nat.reduceLeDiff, Int.reduceToNat, Int.reduceLE, Int.reduceLT, Int.reduceAdd, Int.reduceSub, Int.reduceMul, Int.reduceNeg], by simp -implicitDefEqProofs only [push_cast, eq_self, reduceIte, Nat.reduceEqDiff, reduceCtorEq, Nat.reduceAdd, Nat.reduceMul, Nat.reduceSub, Nat.reduceLeDiff, Int.reduceToNat, Int.reduceLE, Int.reduceLT, Int.reduceAdd, Int.reduceSub, Int.reduceMul, Int.reduceNeg, hb3], by simp -implicitDefEqProofs only [push_cast, eq_self, reduceIte, Nat.reduceEqDiff, reduceCtorEq, Nat.reduceAdd, Nat.reduceMul, Nat.reduceSub, Nat.reduceLeDiff, Int.reduceToNat, Int.reduceLE, Int.reduceLT, Int.reduceAdd, Int.reduceSub, Int.reduceMul, Int.reduceNeg, hb4], by omega⟩ ?_
    clear hb3 hb4 hF
    rintro n ⟨env, h⟩ ⟨c, hc4, rfl, e3, e4, e50, e51, hb3, hb4, hall⟩
    simp only at e3 e4 e50 e51 hb3 hb4
    have e0 : True := trivial; have e1 : True := trivial; have e5 : True := trivial; have e6 : True := trivial; have e7 : True := trivial; have e9 : True := trivial; have e10 : True := trivial; have e12 : True := trivial; have e13 : True := trivial; have e32 : True := trivial; have e33 : True := trivial; have e34 : True := trivial; have e35 : True := trivial; have e52 : True := trivial
    unfold l57_1
    refine awp_fresh_i fun hF => ?_
    by_cases hc : c < 4
    · have hd2 : decide ((c : Int) < 4) = true := by simp; omega
      have hn := nC_at (fun c => (cntC l c : Int)) hc
      have hx := tab_u t hc
      repeat' (first | ((try clear hf); with_reducible refine awp_ops_g fun env K hE hK hf => ?_; have n0 := hE 0; have n1 := hE 1; have n3 := hE 3; have n4 := hE 4; have n5 := hE 5; have n6 := hE 6; have n7 := hE 7; have n9 := hE 9; have n10 := hE 10; have n12 := hE 12; have n13 := hE 13; have n32 := hE 32; have n33 := hE 33; have n34 := hE 34; have n35 := hE 35; have n50 := hE 50; have n51 := hE 51; have n52 := hE 52; simp -implicitDefEqProofs only [push_cast, reduceIte, Nat.reduceEqDiff, e0, e1, e3, e4, e5, e6, e7, e9, e10, e12, e13, e32, e33, e34, e35, e50, e51, e52] at n0 n1 n3 n4 n5 n6 n7 n9 n10 n12 n13 n32 n33 n34 n35 n50 n51 n52; clear hE e0 e1 e3 e4 e5 e6 e7 e9 e10 e12 e13 e32 e33 e34 e35 e50 e51 e52; have e0 := n0; have e1 := n1; have e3 := n3; have e4 := n4; have e5 := n5; have e6 := n6; have e7 := n7; have e9 := n9; have e10 := n10; have e12 := n12; have e13 := n13; have e32 := n32; have e33 := n33; have e34 := n34; have e35 := n35; have e50 := n50; have e51 := n51; have e52 := n52; clear n0 n1 n3 n4 n5 n6 n7 n9 n10 n12 n13 n32 n33 n34 n35 n50 n51 n52) | (with_reducible refine hK _ _ ?_; clear hK K) | (with_reducible first | refine awp_seq_i ?_ | refine seqK_n_i ?_ | refine awp_block_i ?_ | refine awp_skip_i ?_ | refine blockK_n_i ?_ | refine awp_ret_i ?_ | refine seqK_r_i ?_ | refine blockK_r_i ?_ | refine awp_exit_i ?_ | refine seqK_e_i ?_ | refine blockK_e_i ?_ | refine blockK_ne_i (by decide) ?_ | refine PostF_n_i ?_ | refine PostF_r_i ?_ | refine sep_nil_i ?_ | refine condP_t ?_ | refine condP_f ?_ | refine condP_ta (by assumption) ?_ | refine condP_fa (by assumption) ?_) | (refine awp_cond_e rfl ?_) | (simp -implicitDefEqProofs only [push_cast, eq_self, reduceIte, Nat.reduceEqDiff, reduceCtorEq, Nat.reduceAdd, Nat.reduceMul, Nat.reduceSub, Nat.reduceLeDiff, Int.reduceToNat, Int.reduceLE, Int.reduceLT, Int.reduceAdd, Int.reduceSub, Int.reduceMul, Int.reduceNeg, e0, e1, e3, e4, e5, e6, e7, e9, e10, e12, e13, e32, e33, e34, e35, e50, e51, e52, hd2, hb3, hb4, hn, hx]) | (simp -implicitDefEqProofs (disch := omega) only [push_epn, put_epn, kill_epn, wrap64', e0, e1, e3, e4, e5, e6, e7, e9, e10, e12, e13, e32, e33, e34, e35, e50, e51, e52, hd2, hb3, hb4, hn, hx]) | (with_reducible refine sep_i ?_ ?_) | (refine awpOps_gd rfl (fun bb => ?_) (fun bb => ?_) <;> simp only [bb]) | (with_reducible refine condP_in (fun bb => ?_) (fun bb => ?_)) | ((with_reducible refine And.intro ?_ ?_); omega) | fail)
      · have hno : noU l t := ⟨c, hc, by (try clear hf); (try clear e0 e1 e3 e4 e5 e6 e7 e9 e10 e12 e13 e32 e33 e34 e35 e50 e51 e52); simp only [decide_eq_true_eq, Int.natCast_pos] at *; assumption, by (try clear hf); (try clear e0 e1 e3 e4 e5 e6 e7 e9 e10 e12 e13 e32 e33 e34 e35 e50 e51 e52); simp only [decide_eq_true_eq] at *; assumption⟩
        have ha : nC (cntB l t) = nC fun c => (cntC l c : Int) := nC_congr fun c _ => by simp [cntB, g2]
        have hb : errB l t = 21 := by simp [errB, g2, hno]
        rw [ha, hb]
      all_goals
        refine ⟨4 - (c + 1), by omega, c + 1, by omega, rfl, by simp -implicitDefEqProofs only [push_cast, eq_self, reduceIte, Nat.reduceEqDiff, reduceCtorEq, Nat.reduceAdd, Nat.reduceMul, Nat.reduceSub, Nat.reduceLeDiff, Int.reduceToNat, Int.reduceLE, Int.reduceLT, Int.reduceAdd, Int.reduceSub, Int.reduceMul, Int.reduceNeg, e3], by simp -implicitDefEqProofs only [push_cast, eq_self, reduceIte, Nat.reduceEqDiff, reduceCtorEq, Nat.reduceAdd, Nat.reduceMul, Nat.reduceSub, Nat.reduceLeDiff, Int.reduceToNat, Int.reduceLE, Int.reduceLT, Int.reduceAdd, Int.reduceSub, Int.reduceMul, Int.reduceNeg, e4], by simp -implicitDefEqProofs only [push_cast, eq_self, reduceIte, Nat.reduceEqDiff, reduceCtorEq, Nat.reduceAdd, Nat.reduceMul, Nat.reduceSub, Nat.reduceLeDiff, Int.reduceToNat, Int.reduceLE, Int.reduceLT, Int.reduceAdd, Int.reduceSub, Int.reduceMul, Int.reduceNeg, e50], by simp -implicitDefEqProofs only [push_cast, eq_self, reduceIte, Nat.reduceEqDiff, reduceCtorEq, Nat.reduceAdd, Nat.reduceMul, Nat.reduceSub, Nat.reduceLeDiff, Int.reduceToNat, Int.reduceLE, Int.reduceLT, Int.reduceAdd, Int.reduceSub, Int.reduceMul, Int.reduceNeg], by simp -implicitDefEqProofs only [push_cast, eq_self, reduceIte, Nat.reduceEqDiff, reduceCtorEq, Nat.reduceAdd, Nat.reduceMul, Nat.reduceSub, Nat.reduceLeDiff, Int.reduceToNat, Int.reduceLE, Int.reduceLT, Int.reduceAdd, Int.reduceSub, Int.reduceMul, Int.reduceNeg, hb3], by simp -implicitDefEqProofs only [push_cast, eq_self, reduceIte, Nat.reduceEqDiff, reduceCtorEq, Nat.reduceAdd, Nat.reduceMul, Nat.reduceSub, Nat.reduceLeDiff, Int.reduceToNat, Int.reduceLE, Int.reduceLT, Int.reduceAdd, Int.reduceSub, Int.reduceMul, Int.reduceNeg, hb4], fun j hj => ?_⟩
        by_cases e : j < c
        · exact hall j e
        · obtain rfl : j = c := by omega
          (try clear hf); (try clear e0 e1 e3 e4 e5 e6 e7 e9 e10 e12 e13 e32 e33 e34 e35 e50 e51 e52)
          simp only [decide_eq_true_eq, decide_eq_false_iff_not] at *
          omega
    · have hd2 : decide ((c : Int) < 4) = false := by simp; omega
      repeat' (first | ((try clear hf); with_reducible refine awp_ops_g fun env K hE hK hf => ?_; have n0 := hE 0; have n1 := hE 1; have n3 := hE 3; have n4 := hE 4; have n5 := hE 5; have n6 := hE 6; have n7 := hE 7; have n9 := hE 9; have n10 := hE 10; have n12 := hE 12; have n13 := hE 13; have n32 := hE 32; have n33 := hE 33; have n34 := hE 34; have n35 := hE 35; have n50 := hE 50; have n51 := hE 51; have n52 := hE 52; simp -implicitDefEqProofs only [push_cast, reduceIte, Nat.reduceEqDiff, e0, e1, e3, e4, e5, e6, e7, e9, e10, e12, e13, e32, e33, e34, e35, e50, e51, e52] at n0 n1 n3 n4 n5 n6 n7 n9 n10 n12 n13 n32 n33 n34 n35 n50 n51 n52; clear hE e0 e1 e3 e4 e5 e6 e7 e9 e10 e12 e13 e32 e33 e34 e35 e50 e51 e52; have e0 := n0; have e1 := n1; have e3 := n3; have e4 := n4; have e5 := n5; have e6 := n6; have e7 := n7; have e9 := n9; have e10 := n10; have e12 := n12; have e13 := n13; have e32 := n32; have e33 := n33; have e34 := n34; have e35 := n35; have e50 := n50; have e51 := n51; have e52 := n52; clear n0 n1 n3 n4 n5 n6 n7 n9 n10 n12 n13 n32 n33 n34 n35 n50 n51 n52) | (with_reducible refine hK _ _ ?_; clear hK K) | (with_reducible first | refine awp_seq_i ?_ | refine seqK_n_i ?_ | refine awp_block_i ?_ | refine awp_skip_i ?_ | refine blockK_n_i ?_ | refine awp_ret_i ?_ | refine seqK_r_i ?_ | refine blockK_r_i ?_ | refine awp_exit_i ?_ | refine seqK_e_i ?_ | refine blockK_e_i ?_ | refine blockK_ne_i (by decide) ?_ | refine PostF_n_i ?_ | refine PostF_r_i ?_ | refine sep_nil_i ?_ | refine condP_t ?_ | refine condP_f ?_ | refine condP_ta (by assumption) ?_ | refine condP_fa (by assumption) ?_) | (refine awp_cond_e rfl ?_) | (simp -implicitDefEqProofs only [push_cast, eq_self, reduceIte, Nat.reduceEqDiff, reduceCtorEq, Nat.reduceAdd, Nat.reduceMul, Nat.reduceSub, Nat.reduceLeDiff, Int.reduceToNat, Int.reduceLE, Int.reduceLT, Int.reduceAdd, Int.reduceSub, Int.reduceMul, Int.reduceNeg, e0, e1, e3, e4, e5, e6, e7, e9, e10, e12, e13, e32, e33, e34, e35, e50, e51, e52, hd2, hb3, hb4]) | (simp -implicitDefEqProofs (disch := omega) only [push_epn, put_epn, kill_epn, wrap64', e0, e1, e3, e4, e5, e6, e7, e9, e10, e12, e13, e32, e33, e34, e35, e50, e51, e52, hd2, hb3, hb4]) | (with_reducible refine sep_i ?_ ?_) | (refine awpOps_gd rfl (fun bb => ?_) (fun bb => ?_) <;> simp only [bb]) | (with_reducible refine condP_in (fun bb => ?_) (fun bb => ?_)) | ((with_reducible refine And.intro ?_ ?_); omega) | fail)
      have hno : ¬ noU l t := fun ⟨j, h4, hj⟩ => hall j (by omega) hj
      have ha : nC (cntB l t) = nC fun c => (cntC l c : Int) := nC_congr fun c _ => by simp [cntB, g2]
      have hb : errB l t = 0 := by simp [errB, g2, hno]
      rw [ha, hb]
theorem errB_ok {l : List Opn} {t : Tab} (h : errB l t = 0) : preB l t = 0 ∧ ¬ noU l t := by
  unfold errB at h
  split at h
  · exact absurd h (by assumption)
  · rename_i h1
    split at h
    · cases h
    · exact ⟨by simpa using h1, by assumption⟩
theorem tabE_zero {t : Tab} (h : tabE t = 0) : tabOK t := by
  unfold tabE at h
  split at h
  · assumption
  · cases h
theorem preB_ok {l : List Opn} {t : Tab} (h : preB l t = 0) : tabOK t ∧ l.length ≤ 64 := by
  unfold preB at h
  split at h
  · exact absurd h (by assumption)
  · rename_i h1
    split at h
    · cases h
    · exact ⟨tabE_zero (by simpa using h1), by omega⟩
theorem maxV_two (k k' : IntKind) (a b : Int) : maxV [.lit (.int k a), .lit (.int k' b)] = some (.lit (.int k (if b > a then b else a))) := rfl
/-- How many cycles the units need. -/
def needU (t : Tab) (k : Nat) (c : Nat) : Int := ((k : Int) * t.b c + t.u c - 1).tdiv (t.u c)
def mostU (l : List Opn) (t : Tab) : Nat → Int
  | 0 => 0
  | c + 1 => if 0 < cntC l c then (if needU t (cntC l c) c > mostU l t c then needU t (cntC l c) c else mostU l t c) else mostU l t c
def unitsS (l : List Opn) (t : Tab) : Int × Int := if errB l t ≠ 0 then (0, errB l t) else (mostU l t 4, 0)
def I20 (l : List Opn) (t : Tab) (n : Nat) (σ : St) : Prop := ∃ c : Nat, c ≤ 4 ∧ n = 4 - c ∧ σ.env 3 = .ptr (2, 3) 0 ∧ σ.env 8 = i64 (mostU l t c) ∧ σ.env 20 = .agg (nC fun c => cntC l c) ∧ σ.env 21 = i64 c ∧ σ.h.hp (2, 3) = some ⟨true, tabC t⟩
theorem f20 (l : List Opn) (t : Tab) (hl : ∀ o ∈ l, o.ok) : HV Try.prog 20 [.row (l.map opC), .agg (tabC t)] (.tup [i64 (unitsS l t).1, i64 (unitsS l t).2]) := by
  refine HV_of_awp mixed cf20 (by simp) (by simp [imms, imm, rows_imms, tab_imms]) ?_ (by simp [imm, imms])
  unfold ac20 re20
  refine awp_env_i fun env hE => ?_; have e0 := hE 0; have e1 := hE 1; have e3 := hE 3; have e4 := hE 4; have e5 := hE 5; have e6 := hE 6; have e7 := hE 7; have e8 := hE 8; have e9 := hE 9; have e10 := hE 10; have e20 := hE 20; have e21 := hE 21; have e22 := hE 22; simp -implicitDefEqProofs only [push_cast] at e0 e1 e3 e4 e5 e6 e7 e8 e9 e10 e20 e21 e22; clear hE
  repeat' (first | ((try clear hf); with_reducible refine awp_ops_g fun env K hE hK hf => ?_; have n0 := hE 0; have n1 := hE 1; have n3 := hE 3; have n4 := hE 4; have n5 := hE 5; have n6 := hE 6; have n7 := hE 7; have n8 := hE 8; have n9 := hE 9; have n10 := hE 10; have n20 := hE 20; have n21 := hE 21; have n22 := hE 22; simp -implicitDefEqProofs only [push_cast, reduceIte, Nat.reduceEqDiff, e0, e1, e3, e4, e5, e6, e7, e8, e9, e10, e20, e21, e22] at n0 n1 n3 n4 n5 n6 n7 n8 n9 n10 n20 n21 n22; clear hE e0 e1 e3 e4 e5 e6 e7 e8 e9 e10 e20 e21 e22; have e0 := n0; have e1 := n1; have e3 := n3; have e4 := n4; have e5 := n5; have e6 := n6; have e7 := n7; have e8 := n8; have e9 := n9; have e10 := n10; have e20 := n20; have e21 := n21; have e22 := n22; clear n0 n1 n3 n4 n5 n6 n7 n8 n9 n10 n20 n21 n22) | (with_reducible refine hK _ _ ?_; clear hK K) | (with_reducible first | refine awp_seq_i ?_ | refine seqK_n_i ?_ | refine awp_block_i ?_ | refine awp_skip_i ?_ | refine blockK_n_i ?_ | refine awp_ret_i ?_ | refine seqK_r_i ?_ | refine blockK_r_i ?_ | refine awp_exit_i ?_ | refine seqK_e_i ?_ | refine blockK_e_i ?_ | refine blockK_ne_i (by decide) ?_ | refine PostF_n_i ?_ | refine PostF_r_i ?_ | refine sep_nil_i ?_ | refine condP_t ?_ | refine condP_f ?_ | refine condP_ta (by assumption) ?_ | refine condP_fa (by assumption) ?_) | (refine awp_cond_e rfl ?_) | (simp -implicitDefEqProofs only [push_cast, eq_self, reduceIte, Nat.reduceEqDiff, reduceCtorEq, Nat.reduceAdd, Nat.reduceMul, Nat.reduceSub, Nat.reduceLeDiff, Int.reduceToNat, Int.reduceLE, Int.reduceLT, Int.reduceAdd, Int.reduceSub, Int.reduceMul, Int.reduceNeg, e0, e1, e3, e4, e5, e6, e7, e8, e9, e10, e20, e21, e22]) | (simp -implicitDefEqProofs (disch := omega) only [push_epn, put_epn, kill_epn, wrap64', e0, e1, e3, e4, e5, e6, e7, e8, e9, e10, e20, e21, e22]) | (with_reducible refine sep_i ?_ ?_) | (refine awpOps_gd rfl (fun bb => ?_) (fun bb => ?_) <;> simp only [bb]) | (with_reducible refine condP_in (fun bb => ?_) (fun bb => ?_)) | ((with_reducible refine And.intro ?_ ?_); omega) | (refine call_imm (f57 l t hl) ?_) | fail)
  · have g : errB l t ≠ 0 := by have := ‹(decide ¬errB l t = 0) = true›; simpa using this
    (try clear hf); (try clear e0 e1 e3 e4 e5 e6 e7 e8 e9 e10 e20 e21 e22); simp [unitsS, g]
  have g : errB l t = 0 := by have := ‹(decide ¬errB l t = 0) = false›; simpa using this
  obtain ⟨g2, g4⟩ := errB_ok g
  obtain ⟨g1, g0⟩ := preB_ok g2
  have ha : nC (cntB l t) = nC fun c => (cntC l c : Int) := nC_congr fun c _ => by simp [cntB, g2]
  rw [ha]
  refine awp_loop (I20 l t) 4 ⟨0, by omega, by omega, by simp -implicitDefEqProofs only [push_cast, eq_self, reduceIte, Nat.reduceEqDiff, reduceCtorEq, Nat.reduceAdd, Nat.reduceMul, Nat.reduceSub, Nat.reduceLeDiff, Int.reduceToNat, Int.reduceLE, Int.reduceLT, Int.reduceAdd, Int.reduceSub, Int.reduceMul, Int.reduceNeg, e3], by simp -implicitDefEqProofs only [push_cast, eq_self, reduceIte, Nat.reduceEqDiff, reduceCtorEq, Nat.reduceAdd, Nat.reduceMul, Nat.reduceSub, Nat.reduceLeDiff, Int.reduceToNat, Int.reduceLE, Int.reduceLT, Int.reduceAdd, Int.reduceSub, Int.reduceMul, Int.reduceNeg, e8]; rfl, by simp -implicitDefEqProofs only [push_cast, eq_self, reduceIte, Nat.reduceEqDiff, reduceCtorEq, Nat.reduceAdd, Nat.reduceMul, Nat.reduceSub, Nat.reduceLeDiff, Int.reduceToNat, Int.reduceLE, Int.reduceLT, Int.reduceAdd, Int.reduceSub, Int.reduceMul, Int.reduceNeg], by simp -implicitDefEqProofs only [push_cast, eq_self, reduceIte, Nat.reduceEqDiff, reduceCtorEq, Nat.reduceAdd, Nat.reduceMul, Nat.reduceSub, Nat.reduceLeDiff, Int.reduceToNat, Int.reduceLE, Int.reduceLT, Int.reduceAdd, Int.reduceSub, Int.reduceMul, Int.reduceNeg], by simp -implicitDefEqProofs only [push_cast, eq_self, reduceIte, Nat.reduceEqDiff, reduceCtorEq, Nat.reduceAdd, Nat.reduceMul, Nat.reduceSub, Nat.reduceLeDiff, Int.reduceToNat, Int.reduceLE, Int.reduceLT, Int.reduceAdd, Int.reduceSub, Int.reduceMul, Int.reduceNeg]⟩ ?_
  rintro n ⟨env, h⟩ ⟨c, hc4, rfl, e3, e8, e20, e21, hb3⟩
  simp only at e3 e8 e20 e21 hb3
  have e0 : True := trivial; have e1 : True := trivial; have e4 : True := trivial; have e5 : True := trivial; have e6 : True := trivial; have e7 : True := trivial; have e9 : True := trivial; have e10 : True := trivial; have e22 : True := trivial
  unfold l20_0
  refine awp_fresh_i fun hF => ?_
  by_cases hc : c < 4
  · have hd2 : decide ((c : Int) < 4) = true := by simp; omega
    have hn := nC_at (fun c => (cntC l c : Int)) hc
    have hx := tab_u t hc
    have hy := tab_b t hc
    by_cases hz : 0 < cntC l c
    · have hz2 : decide (0 < (cntC l c : Int)) = true := by simp; omega
      obtain ⟨t1, t2, _, _, t5, t6⟩ := g1.1 c hc
      have hu : 0 < t.u c := by
        rcases Int.lt_or_eq_of_le t1 with h | h
        · exact h
        · exact absurd ⟨c, hc, hz, h.symm⟩ g4
      have hle := cntC_le l c
      obtain ⟨m1, m2⟩ : 0 ≤ (cntC l c : Int) * t.b c ∧ (cntC l c : Int) * t.b c ≤ 65 * 4 :=
        ⟨Int.mul_nonneg (by omega) (by omega), Int.mul_le_mul (by omega) (by omega) (by omega) (by omega)⟩
      have hq : IntKind.wrap .i64 (((cntC l c : Int) * t.b c + t.u c - 1).tdiv (t.u c)) = needU t (cntC l c) c := by
        unfold needU
        rw [Int.tdiv_eq_ediv_of_nonneg (by omega)]
        have k1 : 0 ≤ ((cntC l c : Int) * t.b c + t.u c - 1) / t.u c := Int.ediv_nonneg (by omega) (by omega)
        have k2 : ((cntC l c : Int) * t.b c + t.u c - 1) / t.u c ≤ (cntC l c : Int) * t.b c + t.u c - 1 := Int.ediv_le_self _ (by omega)
        exact wrap64 (by omega) (by omega)
      repeat' (first | ((try clear hf); with_reducible refine awp_ops_g fun env K hE hK hf => ?_; have n0 := hE 0; have n1 := hE 1; have n3 := hE 3; have n4 := hE 4; have n5 := hE 5; have n6 := hE 6; have n7 := hE 7; have n8 := hE 8; have n9 := hE 9; have n10 := hE 10; have n20 := hE 20; have n21 := hE 21; have n22 := hE 22; simp -implicitDefEqProofs only [push_cast, reduceIte, Nat.reduceEqDiff, e0, e1, e3, e4, e5, e6, e7, e8, e9, e10, e20, e21, e22] at n0 n1 n3 n4 n5 n6 n7 n8 n9 n10 n20 n21 n22; clear hE e0 e1 e3 e4 e5 e6 e7 e8 e9 e10 e20 e21 e22; have e0 := n0; have e1 := n1; have e3 := n3; have e4 := n4; have e5 := n5; have e6 := n6; have e7 := n7; have e8 := n8; have e9 := n9; have e10 := n10; have e20 := n20; have e21 := n21; have e22 := n22; clear n0 n1 n3 n4 n5 n6 n7 n8 n9 n10 n20 n21 n22) | (with_reducible refine hK _ _ ?_; clear hK K) | (with_reducible first | refine awp_seq_i ?_ | refine seqK_n_i ?_ | refine awp_block_i ?_ | refine awp_skip_i ?_ | refine blockK_n_i ?_ | refine awp_ret_i ?_ | refine seqK_r_i ?_ | refine blockK_r_i ?_ | refine awp_exit_i ?_ | refine seqK_e_i ?_ | refine blockK_e_i ?_ | refine blockK_ne_i (by decide) ?_ | refine PostF_n_i ?_ | refine PostF_r_i ?_ | refine sep_nil_i ?_ | refine condP_t ?_ | refine condP_f ?_ | refine condP_ta (by assumption) ?_ | refine condP_fa (by assumption) ?_) | (refine awp_cond_e rfl ?_) | (simp -implicitDefEqProofs only [push_cast, eq_self, reduceIte, Nat.reduceEqDiff, reduceCtorEq, Nat.reduceAdd, Nat.reduceMul, Nat.reduceSub, Nat.reduceLeDiff, Int.reduceToNat, Int.reduceLE, Int.reduceLT, Int.reduceAdd, Int.reduceSub, Int.reduceMul, Int.reduceNeg, e0, e1, e3, e4, e5, e6, e7, e8, e9, e10, e20, e21, e22, hd2, hb3, hn, hx, hy, hz2, hq, maxV_two]) | (simp -implicitDefEqProofs (disch := omega) only [push_epn, put_epn, kill_epn, wrap64', e0, e1, e3, e4, e5, e6, e7, e8, e9, e10, e20, e21, e22, hd2, hb3, hn, hx, hy, hz2, hq, maxV_two]) | (with_reducible refine sep_i ?_ ?_) | (refine awpOps_gd rfl (fun bb => ?_) (fun bb => ?_) <;> simp only [bb]) | (with_reducible refine condP_in (fun bb => ?_) (fun bb => ?_)) | ((with_reducible refine And.intro ?_ ?_); omega) | fail)
      refine ⟨4 - (c + 1), by omega, c + 1, by omega, rfl, by simp -implicitDefEqProofs only [push_cast, eq_self, reduceIte, Nat.reduceEqDiff, reduceCtorEq, Nat.reduceAdd, Nat.reduceMul, Nat.reduceSub, Nat.reduceLeDiff, Int.reduceToNat, Int.reduceLE, Int.reduceLT, Int.reduceAdd, Int.reduceSub, Int.reduceMul, Int.reduceNeg, e3], ?_, by simp -implicitDefEqProofs only [push_cast, eq_self, reduceIte, Nat.reduceEqDiff, reduceCtorEq, Nat.reduceAdd, Nat.reduceMul, Nat.reduceSub, Nat.reduceLeDiff, Int.reduceToNat, Int.reduceLE, Int.reduceLT, Int.reduceAdd, Int.reduceSub, Int.reduceMul, Int.reduceNeg, e20], by simp -implicitDefEqProofs only [push_cast, eq_self, reduceIte, Nat.reduceEqDiff, reduceCtorEq, Nat.reduceAdd, Nat.reduceMul, Nat.reduceSub, Nat.reduceLeDiff, Int.reduceToNat, Int.reduceLE, Int.reduceLT, Int.reduceAdd, Int.reduceSub, Int.reduceMul, Int.reduceNeg], by simp -implicitDefEqProofs only [push_cast, eq_self, reduceIte, Nat.reduceEqDiff, reduceCtorEq, Nat.reduceAdd, Nat.reduceMul, Nat.reduceSub, Nat.reduceLeDiff, Int.reduceToNat, Int.reduceLE, Int.reduceLT, Int.reduceAdd, Int.reduceSub, Int.reduceMul, Int.reduceNeg, hb3]⟩
      simp -implicitDefEqProofs only [push_cast, eq_self, reduceIte, Nat.reduceEqDiff, reduceCtorEq, Nat.reduceAdd, Nat.reduceMul, Nat.reduceSub, Nat.reduceLeDiff, Int.reduceToNat, Int.reduceLE, Int.reduceLT, Int.reduceAdd, Int.reduceSub, Int.reduceMul, Int.reduceNeg, e8]
      simp only [mostU, if_pos hz]
    · have hz2 : decide (0 < (cntC l c : Int)) = false := by simp; omega
      repeat' (first | ((try clear hf); with_reducible refine awp_ops_g fun env K hE hK hf => ?_; have n0 := hE 0; have n1 := hE 1; have n3 := hE 3; have n4 := hE 4; have n5 := hE 5; have n6 := hE 6; have n7 := hE 7; have n8 := hE 8; have n9 := hE 9; have n10 := hE 10; have n20 := hE 20; have n21 := hE 21; have n22 := hE 22; simp -implicitDefEqProofs only [push_cast, reduceIte, Nat.reduceEqDiff, e0, e1, e3, e4, e5, e6, e7, e8, e9, e10, e20, e21, e22] at n0 n1 n3 n4 n5 n6 n7 n8 n9 n10 n20 n21 n22; clear hE e0 e1 e3 e4 e5 e6 e7 e8 e9 e10 e20 e21 e22; have e0 := n0; have e1 := n1; have e3 := n3; have e4 := n4; have e5 := n5; have e6 := n6; have e7 := n7; have e8 := n8; have e9 := n9; have e10 := n10; have e20 := n20; have e21 := n21; have e22 := n22; clear n0 n1 n3 n4 n5 n6 n7 n8 n9 n10 n20 n21 n22) | (with_reducible refine hK _ _ ?_; clear hK K) | (with_reducible first | refine awp_seq_i ?_ | refine seqK_n_i ?_ | refine awp_block_i ?_ | refine awp_skip_i ?_ | refine blockK_n_i ?_ | refine awp_ret_i ?_ | refine seqK_r_i ?_ | refine blockK_r_i ?_ | refine awp_exit_i ?_ | refine seqK_e_i ?_ | refine blockK_e_i ?_ | refine blockK_ne_i (by decide) ?_ | refine PostF_n_i ?_ | refine PostF_r_i ?_ | refine sep_nil_i ?_ | refine condP_t ?_ | refine condP_f ?_ | refine condP_ta (by assumption) ?_ | refine condP_fa (by assumption) ?_) | (refine awp_cond_e rfl ?_) | (simp -implicitDefEqProofs only [push_cast, eq_self, reduceIte, Nat.reduceEqDiff, reduceCtorEq, Nat.reduceAdd, Nat.reduceMul, Nat.reduceSub, Nat.reduceLeDiff, Int.reduceToNat, Int.reduceLE, Int.reduceLT, Int.reduceAdd, Int.reduceSub, Int.reduceMul, Int.reduceNeg, e0, e1, e3, e4, e5, e6, e7, e8, e9, e10, e20, e21, e22, hd2, hb3, hn, hx, hy, hz2]) | (simp -implicitDefEqProofs (disch := omega) only [push_epn, put_epn, kill_epn, wrap64', e0, e1, e3, e4, e5, e6, e7, e8, e9, e10, e20, e21, e22, hd2, hb3, hn, hx, hy, hz2]) | (with_reducible refine sep_i ?_ ?_) | (refine awpOps_gd rfl (fun bb => ?_) (fun bb => ?_) <;> simp only [bb]) | (with_reducible refine condP_in (fun bb => ?_) (fun bb => ?_)) | ((with_reducible refine And.intro ?_ ?_); omega) | fail)
      refine ⟨4 - (c + 1), by omega, c + 1, by omega, rfl, by simp -implicitDefEqProofs only [push_cast, eq_self, reduceIte, Nat.reduceEqDiff, reduceCtorEq, Nat.reduceAdd, Nat.reduceMul, Nat.reduceSub, Nat.reduceLeDiff, Int.reduceToNat, Int.reduceLE, Int.reduceLT, Int.reduceAdd, Int.reduceSub, Int.reduceMul, Int.reduceNeg, e3], ?_, by simp -implicitDefEqProofs only [push_cast, eq_self, reduceIte, Nat.reduceEqDiff, reduceCtorEq, Nat.reduceAdd, Nat.reduceMul, Nat.reduceSub, Nat.reduceLeDiff, Int.reduceToNat, Int.reduceLE, Int.reduceLT, Int.reduceAdd, Int.reduceSub, Int.reduceMul, Int.reduceNeg, e20], by simp -implicitDefEqProofs only [push_cast, eq_self, reduceIte, Nat.reduceEqDiff, reduceCtorEq, Nat.reduceAdd, Nat.reduceMul, Nat.reduceSub, Nat.reduceLeDiff, Int.reduceToNat, Int.reduceLE, Int.reduceLT, Int.reduceAdd, Int.reduceSub, Int.reduceMul, Int.reduceNeg], by simp -implicitDefEqProofs only [push_cast, eq_self, reduceIte, Nat.reduceEqDiff, reduceCtorEq, Nat.reduceAdd, Nat.reduceMul, Nat.reduceSub, Nat.reduceLeDiff, Int.reduceToNat, Int.reduceLE, Int.reduceLT, Int.reduceAdd, Int.reduceSub, Int.reduceMul, Int.reduceNeg, hb3]⟩
      simp -implicitDefEqProofs only [push_cast, eq_self, reduceIte, Nat.reduceEqDiff, reduceCtorEq, Nat.reduceAdd, Nat.reduceMul, Nat.reduceSub, Nat.reduceLeDiff, Int.reduceToNat, Int.reduceLE, Int.reduceLT, Int.reduceAdd, Int.reduceSub, Int.reduceMul, Int.reduceNeg, e8]
      simp only [mostU, if_neg hz]
  · have hd2 : decide ((c : Int) < 4) = false := by simp; omega
    repeat' (first | ((try clear hf); with_reducible refine awp_ops_g fun env K hE hK hf => ?_; have n0 := hE 0; have n1 := hE 1; have n3 := hE 3; have n4 := hE 4; have n5 := hE 5; have n6 := hE 6; have n7 := hE 7; have n8 := hE 8; have n9 := hE 9; have n10 := hE 10; have n20 := hE 20; have n21 := hE 21; have n22 := hE 22; simp -implicitDefEqProofs only [push_cast, reduceIte, Nat.reduceEqDiff, e0, e1, e3, e4, e5, e6, e7, e8, e9, e10, e20, e21, e22] at n0 n1 n3 n4 n5 n6 n7 n8 n9 n10 n20 n21 n22; clear hE e0 e1 e3 e4 e5 e6 e7 e8 e9 e10 e20 e21 e22; have e0 := n0; have e1 := n1; have e3 := n3; have e4 := n4; have e5 := n5; have e6 := n6; have e7 := n7; have e8 := n8; have e9 := n9; have e10 := n10; have e20 := n20; have e21 := n21; have e22 := n22; clear n0 n1 n3 n4 n5 n6 n7 n8 n9 n10 n20 n21 n22) | (with_reducible refine hK _ _ ?_; clear hK K) | (with_reducible first | refine awp_seq_i ?_ | refine seqK_n_i ?_ | refine awp_block_i ?_ | refine awp_skip_i ?_ | refine blockK_n_i ?_ | refine awp_ret_i ?_ | refine seqK_r_i ?_ | refine blockK_r_i ?_ | refine awp_exit_i ?_ | refine seqK_e_i ?_ | refine blockK_e_i ?_ | refine blockK_ne_i (by decide) ?_ | refine PostF_n_i ?_ | refine PostF_r_i ?_ | refine sep_nil_i ?_ | refine condP_t ?_ | refine condP_f ?_ | refine condP_ta (by assumption) ?_ | refine condP_fa (by assumption) ?_) | (refine awp_cond_e rfl ?_) | (simp -implicitDefEqProofs only [push_cast, eq_self, reduceIte, Nat.reduceEqDiff, reduceCtorEq, Nat.reduceAdd, Nat.reduceMul, Nat.reduceSub, Nat.reduceLeDiff, Int.reduceToNat, Int.reduceLE, Int.reduceLT, Int.reduceAdd, Int.reduceSub, Int.reduceMul, Int.reduceNeg, e0, e1, e3, e4, e5, e6, e7, e8, e9, e10, e20, e21, e22, hd2, hb3]) | (simp -implicitDefEqProofs (disch := omega) only [push_epn, put_epn, kill_epn, wrap64', e0, e1, e3, e4, e5, e6, e7, e8, e9, e10, e20, e21, e22, hd2, hb3]) | (with_reducible refine sep_i ?_ ?_) | (refine awpOps_gd rfl (fun bb => ?_) (fun bb => ?_) <;> simp only [bb]) | (with_reducible refine condP_in (fun bb => ?_) (fun bb => ?_)) | ((with_reducible refine And.intro ?_ ?_); omega) | fail)
    obtain rfl : c = 4 := by omega
    (try clear hf); (try clear e0 e1 e3 e4 e5 e6 e7 e8 e9 e10 e20 e21 e22); simp [unitsS, g]
end Go.Proofs.Hx

set_option linter.unusedVariables false
set_option linter.unusedSimpArgs false
namespace Go.Proofs.Hx
open Go Go.Proofs
attribute [local irreducible] awpOps awp opK goV goM callG endOps awpOp runOp HV HVF HC
theorem lend_ptrF (h : Hp) (id : Id) (off : Nat) : lend fuelL h (.ptr id off) = (h.hp id).bind fun blk => (mapO (lend 7 h) (blk.cells.drop off)).map .ip := by
  show lend (7 + 1) h (.ptr id off) = _
  have : ∀ d, lend (d + 1) h (.ptr id off) = (h.hp id).bind fun blk => (mapO (lend d h) (blk.cells.drop off)).map .ip := fun d => by
    simp only [lend, imm, Bool.false_eq_true, if_false]
    cases h.hp id <;> rfl
  exact this 7
theorem lend_opsrow (n : Nat) (h : Hp) (l : List Opn) : lend n h (.row (l.map opC)) = some (.row (l.map opC)) := lend_imm (by simp only [imm]; exact rows_imms l)
theorem nilV_ip (cs : List AV) : nilV (.ip cs) = some (.ip cs) := rfl
theorem nilV_ptr (id : Id) (off : Nat) : nilV (.ptr id off) = some (.ptr id off) := rfl
attribute [push_cast] nilV_ip nilV_ptr
def writtenS (s : List Opn) (r : Int) : Bool := s.any fun o => (wrS o).2 && decide ((wrS o).1 = r)
def I125 (r : Int) (s : List Opn) (n : Nat) (σ : St) : Prop := ∃ k : Nat, k ≤ s.length ∧ n = s.length - k ∧ σ.env 0 = u8 r ∧ σ.env 8 = .row (s.map opC) ∧ σ.env 9 = i64 s.length ∧ σ.env 10 = i64 k ∧
  ∀ (j : Nat) (hj : j < k) (h : j < s.length), ((wrS s[j]).2 && decide ((wrS s[j]).1 = r)) = false
theorem f125 (r : Int) (s : List Opn) (hs : ∀ o ∈ s, o.ok) (hn : s.length ≤ 1000000) : HV Try.prog 125 [u8 r, .ip [.row (s.map opC)]] (bl (writtenS s r)) := by
  refine HV_of_awp mixed cf125 (by simp) (by simp [imms, imm, rows_imms]) ?_ rfl
  unfold ac125 re125
  refine awp_env_i fun env hE => ?_; have e0 := hE 0; have e1 := hE 1; have e3 := hE 3; have e5 := hE 5; have e6 := hE 6; have e7 := hE 7; have e8 := hE 8; have e9 := hE 9; have e10 := hE 10; have e11 := hE 11; simp -implicitDefEqProofs only [push_cast] at e0 e1 e3 e5 e6 e7 e8 e9 e10 e11; clear hE
  repeat' (first | ((try clear hf); with_reducible refine awp_ops_g fun env K hE hK hf => ?_; have n0 := hE 0; have n1 := hE 1; have n3 := hE 3; have n5 := hE 5; have n6 := hE 6; have n7 := hE 7; have n8 := hE 8; have n9 := hE 9; have n10 := hE 10; have n11 := hE 11; simp -implicitDefEqProofs only [push_cast, reduceIte, Nat.reduceEqDiff, e0, e1, e3, e5, e6, e7, e8, e9, e10, e11] at n0 n1 n3 n5 n6 n7 n8 n9 n10 n11; clear hE e0 e1 e3 e5 e6 e7 e8 e9 e10 e11; have e0 := n0; have e1 := n1; have e3 := n3; have e5 := n5; have e6 := n6; have e7 := n7; have e8 := n8; have e9 := n9; have e10 := n10; have e11 := n11; clear n0 n1 n3 n5 n6 n7 n8 n9 n10 n11) | (with_reducible refine hK _ _ ?_; clear hK K) | (with_reducible first | refine awp_seq_i ?_ | refine seqK_n_i ?_ | refine awp_block_i ?_ | refine awp_skip_i ?_ | refine blockK_n_i ?_ | refine awp_ret_i ?_ | refine seqK_r_i ?_ | refine blockK_r_i ?_ | refine awp_exit_i ?_ | refine seqK_e_i ?_ | refine blockK_e_i ?_ | refine blockK_ne_i (by decide) ?_ | refine PostF_n_i ?_ | refine PostF_r_i ?_ | refine sep_nil_i ?_ | refine condP_t ?_ | refine condP_f ?_ | refine condP_ta (by assumption) ?_ | refine condP_fa (by assumption) ?_) | (refine awp_cond_e rfl ?_) | (simp -implicitDefEqProofs only [push_cast, eq_self, reduceIte, Nat.reduceEqDiff, reduceCtorEq, Nat.reduceAdd, Nat.reduceMul, Nat.reduceSub, Nat.reduceLeDiff, Int.reduceToNat, Int.reduceLE, Int.reduceLT, Int.reduceAdd, Int.reduceSub, Int.reduceMul, Int.reduceNeg, e0, e1, e3, e5, e6, e7, e8, e9, e10, e11, lenV_row]) | (simp -implicitDefEqProofs (disch := omega) only [push_epn, put_epn, kill_epn, wrap64', e0, e1, e3, e5, e6, e7, e8, e9, e10, e11, lenV_row]) | (with_reducible refine sep_i ?_ ?_) | (refine awpOps_gd rfl (fun bb => ?_) (fun bb => ?_) <;> simp only [bb]) | (with_reducible refine condP_in (fun bb => ?_) (fun bb => ?_)) | ((with_reducible refine And.intro ?_ ?_); omega) | fail)
  refine awp_loop (I125 r s) s.length ⟨0, by omega, by omega, by simp -implicitDefEqProofs only [push_cast, eq_self, reduceIte, Nat.reduceEqDiff, reduceCtorEq, Nat.reduceAdd, Nat.reduceMul, Nat.reduceSub, Nat.reduceLeDiff, Int.reduceToNat, Int.reduceLE, Int.reduceLT, Int.reduceAdd, Int.reduceSub, Int.reduceMul, Int.reduceNeg, e0], by simp -implicitDefEqProofs only [push_cast, eq_self, reduceIte, Nat.reduceEqDiff, reduceCtorEq, Nat.reduceAdd, Nat.reduceMul, Nat.reduceSub, Nat.reduceLeDiff, Int.reduceToNat, Int.reduceLE, Int.reduceLT, Int.reduceAdd, Int.reduceSub, Int.reduceMul, Int.reduceNeg], by simp -implicitDefEqProofs only [push_cast, eq_self, reduceIte, Nat.reduceEqDiff, reduceCtorEq, Nat.reduceAdd, Nat.reduceMul, Nat.reduceSub, Nat.reduceLeDiff, Int.reduceToNat, Int.reduceLE, Int.reduceLT, Int.reduceAdd, Int.reduceSub, Int.reduceMul, Int.reduceNeg], by simp -implicitDefEqProofs only [push_cast, eq_self, reduceIte, Nat.reduceEqDiff, reduceCtorEq, Nat.reduceAdd, Nat.reduceMul, Nat.reduceSub, Nat.reduceLeDiff, Int.reduceToNat, Int.reduceLE, Int.reduceLT, Int.reduceAdd, Int.reduceSub, Int.reduceMul, Int.reduceNeg], by omega⟩ ?_
  rintro n ⟨env, h⟩ ⟨k, hk, rfl, e0, e8, e9, e10, hall⟩
  simp only at e0 e8 e9 e10
  have e1 : True := trivial; have e3 : True := trivial; have e5 : True := trivial; have e6 : True := trivial; have e7 : True := trivial; have e11 : True := trivial
  unfold l125_0
  refine awp_fresh_i fun hF => ?_
  by_cases hlt : k < s.length
  · have hd : decide ((k : Int) < (s.length : Int)) = true := by simp; omega
    have hr := row_at hlt .i64
    have ho := hs _ (List.getElem_mem hlt)
    repeat' (first | ((try clear hf); with_reducible refine awp_ops_g fun env K hE hK hf => ?_; have n0 := hE 0; have n1 := hE 1; have n3 := hE 3; have n5 := hE 5; have n6 := hE 6; have n7 := hE 7; have n8 := hE 8; have n9 := hE 9; have n10 := hE 10; have n11 := hE 11; simp -implicitDefEqProofs only [push_cast, reduceIte, Nat.reduceEqDiff, e0, e1, e3, e5, e6, e7, e8, e9, e10, e11] at n0 n1 n3 n5 n6 n7 n8 n9 n10 n11; clear hE e0 e1 e3 e5 e6 e7 e8 e9 e10 e11; have e0 := n0; have e1 := n1; have e3 := n3; have e5 := n5; have e6 := n6; have e7 := n7; have e8 := n8; have e9 := n9; have e10 := n10; have e11 := n11; clear n0 n1 n3 n5 n6 n7 n8 n9 n10 n11) | (with_reducible refine hK _ _ ?_; clear hK K) | (with_reducible first | refine awp_seq_i ?_ | refine seqK_n_i ?_ | refine awp_block_i ?_ | refine awp_skip_i ?_ | refine blockK_n_i ?_ | refine awp_ret_i ?_ | refine seqK_r_i ?_ | refine blockK_r_i ?_ | refine awp_exit_i ?_ | refine seqK_e_i ?_ | refine blockK_e_i ?_ | refine blockK_ne_i (by decide) ?_ | refine PostF_n_i ?_ | refine PostF_r_i ?_ | refine sep_nil_i ?_ | refine condP_t ?_ | refine condP_f ?_ | refine condP_ta (by assumption) ?_ | refine condP_fa (by assumption) ?_) | (refine awp_cond_e rfl ?_) | (simp -implicitDefEqProofs only [push_cast, eq_self, reduceIte, Nat.reduceEqDiff, reduceCtorEq, Nat.reduceAdd, Nat.reduceMul, Nat.reduceSub, Nat.reduceLeDiff, Int.reduceToNat, Int.reduceLE, Int.reduceLT, Int.reduceAdd, Int.reduceSub, Int.reduceMul, Int.reduceNeg, e0, e1, e3, e5, e6, e7, e8, e9, e10, e11, hd, hr, hF.at]) | (simp -implicitDefEqProofs (disch := omega) only [push_epn, put_epn, kill_epn, wrap64', e0, e1, e3, e5, e6, e7, e8, e9, e10, e11, hd, hr, hF.at]) | (with_reducible refine sep_i ?_ ?_) | (refine awpOps_gd rfl (fun bb => ?_) (fun bb => ?_) <;> simp only [bb]) | (with_reducible refine condP_in (fun bb => ?_) (fun bb => ?_)) | ((with_reducible refine And.intro ?_ ?_); omega) | (refine call_imm (f52 _ ho) ?_) | fail)
    · have : writtenS s r = true := by
        unfold writtenS
        rw [List.any_eq_true]
        exact ⟨_, List.getElem_mem hlt, by (try clear hf); (try clear e0 e1 e3 e5 e6 e7 e8 e9 e10 e11); simp only [Bool.and_eq_true]; exact ⟨by assumption, by assumption⟩⟩
      rw [this]
    all_goals
      refine ⟨s.length - (k + 1), by omega, k + 1, by omega, rfl, by simp -implicitDefEqProofs only [push_cast, eq_self, reduceIte, Nat.reduceEqDiff, reduceCtorEq, Nat.reduceAdd, Nat.reduceMul, Nat.reduceSub, Nat.reduceLeDiff, Int.reduceToNat, Int.reduceLE, Int.reduceLT, Int.reduceAdd, Int.reduceSub, Int.reduceMul, Int.reduceNeg, e0], by simp -implicitDefEqProofs only [push_cast, eq_self, reduceIte, Nat.reduceEqDiff, reduceCtorEq, Nat.reduceAdd, Nat.reduceMul, Nat.reduceSub, Nat.reduceLeDiff, Int.reduceToNat, Int.reduceLE, Int.reduceLT, Int.reduceAdd, Int.reduceSub, Int.reduceMul, Int.reduceNeg, e8], by simp -implicitDefEqProofs only [push_cast, eq_self, reduceIte, Nat.reduceEqDiff, reduceCtorEq, Nat.reduceAdd, Nat.reduceMul, Nat.reduceSub, Nat.reduceLeDiff, Int.reduceToNat, Int.reduceLE, Int.reduceLT, Int.reduceAdd, Int.reduceSub, Int.reduceMul, Int.reduceNeg, e9], by simp -implicitDefEqProofs only [push_cast, eq_self, reduceIte, Nat.reduceEqDiff, reduceCtorEq, Nat.reduceAdd, Nat.reduceMul, Nat.reduceSub, Nat.reduceLeDiff, Int.reduceToNat, Int.reduceLE, Int.reduceLT, Int.reduceAdd, Int.reduceSub, Int.reduceMul, Int.reduceNeg], fun j hj h => ?_⟩
      by_cases e : j < k
      · exact hall j e h
      · obtain rfl : j = k := by omega
        simp only [Bool.and_eq_false_iff]
        first | (exact .inr (by assumption)) | exact .inl (by assumption)
  · have hd : decide ((k : Int) < (s.length : Int)) = false := by simp; omega
    repeat' (first | ((try clear hf); with_reducible refine awp_ops_g fun env K hE hK hf => ?_; have n0 := hE 0; have n1 := hE 1; have n3 := hE 3; have n5 := hE 5; have n6 := hE 6; have n7 := hE 7; have n8 := hE 8; have n9 := hE 9; have n10 := hE 10; have n11 := hE 11; simp -implicitDefEqProofs only [push_cast, reduceIte, Nat.reduceEqDiff, e0, e1, e3, e5, e6, e7, e8, e9, e10, e11] at n0 n1 n3 n5 n6 n7 n8 n9 n10 n11; clear hE e0 e1 e3 e5 e6 e7 e8 e9 e10 e11; have e0 := n0; have e1 := n1; have e3 := n3; have e5 := n5; have e6 := n6; have e7 := n7; have e8 := n8; have e9 := n9; have e10 := n10; have e11 := n11; clear n0 n1 n3 n5 n6 n7 n8 n9 n10 n11) | (with_reducible refine hK _ _ ?_; clear hK K) | (with_reducible first | refine awp_seq_i ?_ | refine seqK_n_i ?_ | refine awp_block_i ?_ | refine awp_skip_i ?_ | refine blockK_n_i ?_ | refine awp_ret_i ?_ | refine seqK_r_i ?_ | refine blockK_r_i ?_ | refine awp_exit_i ?_ | refine seqK_e_i ?_ | refine blockK_e_i ?_ | refine blockK_ne_i (by decide) ?_ | refine PostF_n_i ?_ | refine PostF_r_i ?_ | refine sep_nil_i ?_ | refine condP_t ?_ | refine condP_f ?_ | refine condP_ta (by assumption) ?_ | refine condP_fa (by assumption) ?_) | (refine awp_cond_e rfl ?_) | (simp -implicitDefEqProofs only [push_cast, eq_self, reduceIte, Nat.reduceEqDiff, reduceCtorEq, Nat.reduceAdd, Nat.reduceMul, Nat.reduceSub, Nat.reduceLeDiff, Int.reduceToNat, Int.reduceLE, Int.reduceLT, Int.reduceAdd, Int.reduceSub, Int.reduceMul, Int.reduceNeg, e0, e1, e3, e5, e6, e7, e8, e9, e10, e11, hd]) | (simp -implicitDefEqProofs (disch := omega) only [push_epn, put_epn, kill_epn, wrap64', e0, e1, e3, e5, e6, e7, e8, e9, e10, e11, hd]) | (with_reducible refine sep_i ?_ ?_) | (refine awpOps_gd rfl (fun bb => ?_) (fun bb => ?_) <;> simp only [bb]) | (with_reducible refine condP_in (fun bb => ?_) (fun bb => ?_)) | ((with_reducible refine And.intro ?_ ?_); omega) | fail)
    have : writtenS s r = false := by
      unfold writtenS
      rw [List.any_eq_false]
      intro o ho
      obtain ⟨j, hj, rfl⟩ := List.getElem_of_mem ho
      rw [hall j (by omega) hj]; simp
    rw [this]
def meetS (a b : Opn) (s : List Opn) : Bool :=
  memS a && memS b && !(decide (a.k = 15) && decide (b.k = 15)) && (decide (a.a ≠ b.a) || decide (IntKind.wrap .u8 a.im = IntKind.wrap .u8 b.im) || writtenS s a.a)
theorem f119 (l s : List Opn) (i j : Nat) (hi : i < l.length) (hj : j < l.length) (hl : ∀ o ∈ l, o.ok) (hs : ∀ o ∈ s, o.ok) (hn : s.length ≤ 1000000) :
    HV Try.prog 119 [.row (l.map opC), i64 i, i64 j, .row (s.map opC)] (bl (meetS l[i] l[j] s)) := by
  refine HV_of_awp mixed cf119 (by simp) (by simp [imms, imm, rows_imms]) ?_ rfl
  unfold ac119 re119
  refine awp_env_i fun env hE => ?_; have e0 := hE 0; have e1 := hE 1; have e2 := hE 2; have e3 := hE 3; have e7 := hE 7; have e8 := hE 8; have e9 := hE 9; have e10 := hE 10; have e11 := hE 11; simp -implicitDefEqProofs only [push_cast] at e0 e1 e2 e3 e7 e8 e9 e10 e11; clear hE
  have hr := row_at hi .i64
  have hq := row_at hj .i64
  have ho := hl _ (List.getElem_mem hi)
  have hp := hl _ (List.getElem_mem hj)
  generalize l[i] = a at *
  generalize l[j] = b at *
  have hc := f125 a.a s hs hn
  repeat' (first | ((try clear hf); with_reducible refine awp_ops_g fun env K hE hK hf => ?_; have n0 := hE 0; have n1 := hE 1; have n2 := hE 2; have n3 := hE 3; have n7 := hE 7; have n8 := hE 8; have n9 := hE 9; have n10 := hE 10; have n11 := hE 11; simp -implicitDefEqProofs only [push_cast, reduceIte, Nat.reduceEqDiff, e0, e1, e2, e3, e7, e8, e9, e10, e11] at n0 n1 n2 n3 n7 n8 n9 n10 n11; clear hE e0 e1 e2 e3 e7 e8 e9 e10 e11; have e0 := n0; have e1 := n1; have e2 := n2; have e3 := n3; have e7 := n7; have e8 := n8; have e9 := n9; have e10 := n10; have e11 := n11; clear n0 n1 n2 n3 n7 n8 n9 n10 n11) | (with_reducible refine hK _ _ ?_; clear hK K) | (with_reducible first | refine awp_seq_i ?_ | refine seqK_n_i ?_ | refine awp_block_i ?_ | refine awp_skip_i ?_ | refine blockK_n_i ?_ | refine awp_ret_i ?_ | refine seqK_r_i ?_ | refine blockK_r_i ?_ | refine awp_exit_i ?_ | refine seqK_e_i ?_ | refine blockK_e_i ?_ | refine blockK_ne_i (by decide) ?_ | refine PostF_n_i ?_ | refine PostF_r_i ?_ | refine sep_nil_i ?_ | refine condP_t ?_ | refine condP_f ?_ | refine condP_ta (by assumption) ?_ | refine condP_fa (by assumption) ?_) | (refine awp_cond_e rfl ?_) | (simp -implicitDefEqProofs only [push_cast, eq_self, reduceIte, Nat.reduceEqDiff, reduceCtorEq, Nat.reduceAdd, Nat.reduceMul, Nat.reduceSub, Nat.reduceLeDiff, Int.reduceToNat, Int.reduceLE, Int.reduceLT, Int.reduceAdd, Int.reduceSub, Int.reduceMul, Int.reduceNeg, e0, e1, e2, e3, e7, e8, e9, e10, e11, hr, hq, op_0, op_2, op_4]) | (simp -implicitDefEqProofs (disch := omega) only [push_epn, put_epn, kill_epn, wrap64', e0, e1, e2, e3, e7, e8, e9, e10, e11, hr, hq, op_0, op_2, op_4]) | (with_reducible refine sep_i ?_ ?_) | (refine awpOps_gd rfl (fun bb => ?_) (fun bb => ?_) <;> simp only [bb]) | (with_reducible refine condP_in (fun bb => ?_) (fun bb => ?_)) | ((with_reducible refine And.intro ?_ ?_); omega) | (refine call_imm (f124 a ho) ?_) | (refine call_imm (f124 b hp) ?_) | (refine call_lend (by simp -implicitDefEqProofs only [push_cast, eq_self, reduceIte, Nat.reduceEqDiff, reduceCtorEq, Nat.reduceAdd, Nat.reduceMul, Nat.reduceSub, Nat.reduceLeDiff, Int.reduceToNat, Int.reduceLE, Int.reduceLT, Int.reduceAdd, Int.reduceSub, Int.reduceMul, Int.reduceNeg, lend_ptrF, lend_opsrow]) hc rfl ?_) | fail)
  all_goals ((try clear hf); (try clear e0 e1 e2 e3 e7 e8 e9 e10 e11); clear hc hr hq ho hp hs hl; simp only [meetS]; simp at *; simp [*])
def meetL (l : List Opn) (i j : Nat) (hi : i < l.length) (hj : j < l.length) : Bool := meetS l[i] l[j] ((l.drop i).take (j - i))
theorem f100 (l : List Opn) (i j : Nat) (hij : i < j) (hj : j < l.length) (hl : ∀ o ∈ l, o.ok) (hn : l.length ≤ 1000000) :
    HV Try.prog 100 [.row (l.map opC), i64 i, i64 j] (bl (meetL l i j (by omega) hj)) := by
  refine HV_of_awp mixed cf100 (by simp) (by simp [imms, imm, rows_imms]) ?_ rfl
  unfold ac100 re100
  refine awp_env_i fun env hE => ?_; have e0 := hE 0; have e1 := hE 1; have e2 := hE 2; have e6 := hE 6; simp -implicitDefEqProofs only [push_cast] at e0 e1 e2 e6; clear hE
  have hd1 : decide (0 ≤ (i : Int)) = true := by simp
  have hd2 : decide ((i : Int) < (j : Int)) = true := by simp; omega
  have hd3 : decide ((j : Int) < (l.length : Int)) = true := by simp; omega
  have hsl : sliceV none 5 (.row (l.map opC)) (some (i64 i)) (some (i64 j)) none = some (.row (((l.drop i).take (j - i)).map opC)) := by
    rw [slice_row_eq opC 5 l opC_len]
    simp [bound]; omega
  have hc := f119 l ((l.drop i).take (j - i)) i j (by omega) hj hl (fun o ho => hl o (List.mem_of_mem_drop (List.mem_of_mem_take ho))) (by simp; omega)
  repeat' (first | ((try clear hf); with_reducible refine awp_ops_g fun env K hE hK hf => ?_; have n0 := hE 0; have n1 := hE 1; have n2 := hE 2; have n6 := hE 6; simp -implicitDefEqProofs only [push_cast, reduceIte, Nat.reduceEqDiff, e0, e1, e2, e6] at n0 n1 n2 n6; clear hE e0 e1 e2 e6; have e0 := n0; have e1 := n1; have e2 := n2; have e6 := n6; clear n0 n1 n2 n6) | (with_reducible refine hK _ _ ?_; clear hK K) | (with_reducible first | refine awp_seq_i ?_ | refine seqK_n_i ?_ | refine awp_block_i ?_ | refine awp_skip_i ?_ | refine blockK_n_i ?_ | refine awp_ret_i ?_ | refine seqK_r_i ?_ | refine blockK_r_i ?_ | refine awp_exit_i ?_ | refine seqK_e_i ?_ | refine blockK_e_i ?_ | refine blockK_ne_i (by decide) ?_ | refine PostF_n_i ?_ | refine PostF_r_i ?_ | refine sep_nil_i ?_ | refine condP_t ?_ | refine condP_f ?_ | refine condP_ta (by assumption) ?_ | refine condP_fa (by assumption) ?_) | (refine awp_cond_e rfl ?_) | (simp -implicitDefEqProofs only [push_cast, eq_self, reduceIte, Nat.reduceEqDiff, reduceCtorEq, Nat.reduceAdd, Nat.reduceMul, Nat.reduceSub, Nat.reduceLeDiff, Int.reduceToNat, Int.reduceLE, Int.reduceLT, Int.reduceAdd, Int.reduceSub, Int.reduceMul, Int.reduceNeg, e0, e1, e2, e6, lenV_row, hd1, hd2, hd3, hsl]) | (simp -implicitDefEqProofs (disch := omega) only [push_epn, put_epn, kill_epn, wrap64', e0, e1, e2, e6, lenV_row, hd1, hd2, hd3, hsl]) | (with_reducible refine sep_i ?_ ?_) | (refine awpOps_gd rfl (fun bb => ?_) (fun bb => ?_) <;> simp only [bb]) | (with_reducible refine condP_in (fun bb => ?_) (fun bb => ?_)) | ((with_reducible refine And.intro ?_ ?_); omega) | (refine call_imm hc ?_) | fail)
  rfl
/-! The finder: it is lent where it is only read. -/
def regRow (o : Opn) : List AV := [.row (regsC (rdS o))]
theorem regsC_imms (l : List Int) : immss (regsC l) = true := immss_of_get fun i x hx => by simp [regsC] at hx; obtain ⟨a, _, rfl⟩ := hx; rfl
theorem regRow_imms (o : Opn) : imms (regRow o) = true := by simp [regRow, imms, imm, regsC_imms]
theorem regRows_imms (l : List Opn) : immss (l.map regRow) = true := immss_of_get fun i x hx => by simp at hx; obtain ⟨a, _, rfl⟩ := hx; exact regRow_imms a
def dRow (o : Opn) : List AV := [i64 (if (wrS o).2 then (wrS o).1 else -1)]
theorem dRows_imms (l : List Opn) : immss (l.map dRow) = true := immss_of_get fun i x hx => by simp at hx; obtain ⟨a, _, rfl⟩ := hx; rfl
/-- The finder's cells, lent; 'out': the edges so far, whatever they are. -/
def finA (l : List Opn) (t : Tab) (out : AV) : List AV := .row (l.map opC) :: (tabC t ++ [.row (l.map regRow), .row (l.map dRow), out])
theorem finA_imms {l : List Opn} {t : Tab} {out : AV} (ho : imm out = true) : imms (finA l t out) = true := by
  simp only [finA, imms, imm, rows_imms, Bool.true_and]
  exact imms_app (tab_imms t) (by simp [imms, imm, regRows_imms, dRows_imms, ho])
theorem finA_0 (l : List Opn) (t : Tab) (out : AV) : (finA l t out)[0]? = some (.row (l.map opC)) := rfl
theorem finA_14 (l : List Opn) (t : Tab) (out : AV) : (finA l t out)[14]? = some (.row (l.map regRow)) := rfl
theorem finA_15 (l : List Opn) (t : Tab) (out : AV) : (finA l t out)[15]? = some (.row (l.map dRow)) := rfl
theorem finA_lat (l : List Opn) (t : Tab) (out : AV) {c : Nat} (hc : c < 4) : (finA l t out)[5 + c]? = some (i64 (t.l c)) := by
  match c, hc with
  | 0, _ | 1, _ | 2, _ | 3, _ => rfl
def latS (t : Tab) (o : Opn) : Int := t.l (clsN o)
theorem f98 (l : List Opn) (t : Tab) (out : AV) (ho : imm out = true) (i : Nat) (hi : i < l.length) : HV Try.prog 98 [.ip (finA l t out), i64 i] (i64 (latS t l[i])) := by
  refine HV_of_awp mixed cf98 (by simp) (by simp [imms, imm, finA_imms ho]) ?_ rfl
  unfold ac98 re98
  refine awp_env_i fun env hE => ?_; have e0 := hE 0; have e1 := hE 1; have e4 := hE 4; have e5 := hE 5; simp -implicitDefEqProofs only [push_cast] at e0 e1 e4 e5; clear hE
  have hr := row_at hi .i64
  have hc := clsN_eq l[i]
  have hc4 := clsN_lt l[i]
  have hq : (finA l t out)[1 + (4 + (clsN l[i] + 0))]? = some (i64 (t.l (clsN l[i]))) := by
    have := finA_lat l t out hc4
    rwa [show 5 + clsN l[i] = 1 + (4 + (clsN l[i] + 0)) from by omega] at this
  repeat' (first | ((try clear hf); with_reducible refine awp_ops_g fun env K hE hK hf => ?_; have n0 := hE 0; have n1 := hE 1; have n4 := hE 4; have n5 := hE 5; simp -implicitDefEqProofs only [push_cast, reduceIte, Nat.reduceEqDiff, e0, e1, e4, e5] at n0 n1 n4 n5; clear hE e0 e1 e4 e5; have e0 := n0; have e1 := n1; have e4 := n4; have e5 := n5; clear n0 n1 n4 n5) | (with_reducible refine hK _ _ ?_; clear hK K) | (with_reducible first | refine awp_seq_i ?_ | refine seqK_n_i ?_ | refine awp_block_i ?_ | refine awp_skip_i ?_ | refine blockK_n_i ?_ | refine awp_ret_i ?_ | refine seqK_r_i ?_ | refine blockK_r_i ?_ | refine awp_exit_i ?_ | refine seqK_e_i ?_ | refine blockK_e_i ?_ | refine blockK_ne_i (by decide) ?_ | refine PostF_n_i ?_ | refine PostF_r_i ?_ | refine sep_nil_i ?_ | refine condP_t ?_ | refine condP_f ?_ | refine condP_ta (by assumption) ?_ | refine condP_fa (by assumption) ?_) | (refine awp_cond_e rfl ?_) | (simp -implicitDefEqProofs only [push_cast, eq_self, reduceIte, Nat.reduceEqDiff, reduceCtorEq, Nat.reduceAdd, Nat.reduceMul, Nat.reduceSub, Nat.reduceLeDiff, Int.reduceToNat, Int.reduceLE, Int.reduceLT, Int.reduceAdd, Int.reduceSub, Int.reduceMul, Int.reduceNeg, e0, e1, e4, e5, hr, hc, hq, finA_0, op_0, idxAddr_ip, List.getElem?_drop]) | (simp -implicitDefEqProofs (disch := omega) only [push_epn, put_epn, kill_epn, wrap64', e0, e1, e4, e5, hr, hc, hq, finA_0, op_0, idxAddr_ip, List.getElem?_drop]) | (with_reducible refine sep_i ?_ ?_) | (refine awpOps_gd rfl (fun bb => ?_) (fun bb => ?_) <;> simp only [bb]) | (with_reducible refine condP_in (fun bb => ?_) (fun bb => ?_)) | ((with_reducible refine And.intro ?_ ?_); omega) | (refine call_imm (f41 _) ?_) | fail)
  rfl
/-- Does an operation read a register? -/
def seesS (o : Opn) (r : Int) : Bool := (rdS o).any fun x => decide (x = r)
theorem regRow_at {l : List Opn} {k : Nat} (hk : k < l.length) (kd : IntKind) : idxAddrV none 1 (.row (l.map regRow)) (.lit (.int kd (k : Int))) = some (.ip (regRow l[k])) := idxAddr_row regRow 1 (fun _ => rfl) l kd hk
theorem regs_at {l : List Int} {k : Nat} (hk : k < l.length) (kd : IntKind) : idxAddrV none 1 (.row (regsC l)) (.lit (.int kd (k : Int))) = some (.ip [u8 l[k]]) := idxAddr_row (fun r => [u8 r]) 1 (fun _ => rfl) l kd hk
theorem lenV_regs (l : List Int) : lenV (.row (regsC l)) = some (i64 l.length) := lenV_row _ l
theorem rdS_len (o : Opn) : (rdS o).length ≤ 2 := by
  unfold rdS
  split
  · simp
  · split
    · simp
    · split
      · simp
      · split <;> simp
theorem chkE_regs {o : Opn} (h : chkE o = 0) : o.d ≤ 31 ∧ o.a ≤ 31 ∧ o.b ≤ 31 := by
  unfold chkE at h
  split at h
  · rename_i hc; unfold chkP at hc; omega
  · cases h
theorem rdS_mem {o : Opn} (ho : o.ok) {x : Int} (hx : x ∈ rdS o) : 0 ≤ x ∧ x ≤ 31 := by
  unfold Opn.ok at ho
  unfold rdS at hx
  split at hx
  · simp at hx
  · rename_i hc
    have := chkE_regs (o := o) (by simpa using hc)
    split at hx
    · simp at hx; rcases hx with rfl | rfl <;> omega
    · split at hx
      · simp at hx; omega
      · split at hx
        · simp at hx; omega
        · simp at hx
def I117 (o : Opn) (r : Int) (n : Nat) (σ : St) : Prop := ∃ k : Nat, k ≤ (rdS o).length ∧ n = (rdS o).length - k ∧ σ.env 2 = i64 r ∧ σ.env 15 = .row (regsC (rdS o)) ∧ σ.env 16 = i64 (rdS o).length ∧ σ.env 17 = i64 k ∧
  ∀ (j : Nat) (hj : j < k) (h : j < (rdS o).length), (rdS o)[j] ≠ r
theorem f117 (l : List Opn) (t : Tab) (out : AV) (ho : imm out = true) (i : Nat) (hi : i < l.length) (hl : ∀ o ∈ l, o.ok) (r : Int) : HV Try.prog 117 [.ip (finA l t out), i64 i, i64 r] (bl (seesS l[i] r)) := by
  refine HV_of_awp mixed cf117 (by simp) (by simp [imms, imm, finA_imms ho]) ?_ rfl
  unfold ac117 re117
  refine awp_env_i fun env hE => ?_; have e0 := hE 0; have e1 := hE 1; have e2 := hE 2; have e6 := hE 6; have e8 := hE 8; have e15 := hE 15; have e16 := hE 16; have e17 := hE 17; have e18 := hE 18; simp -implicitDefEqProofs only [push_cast] at e0 e1 e2 e6 e8 e15 e16 e17 e18; clear hE
  have hr := regRow_at hi .i64
  have hq : (finA l t out)[14 + 0]? = some (.row (l.map regRow)) := rfl
  have hw : (regRow l[i])[0]? = some (.row (regsC (rdS l[i]))) := rfl
  have hok := hl _ (List.getElem_mem hi)
  generalize l[i] = o at *
  repeat' (first | ((try clear hf); with_reducible refine awp_ops_g fun env K hE hK hf => ?_; have n0 := hE 0; have n1 := hE 1; have n2 := hE 2; have n6 := hE 6; have n8 := hE 8; have n15 := hE 15; have n16 := hE 16; have n17 := hE 17; have n18 := hE 18; simp -implicitDefEqProofs only [push_cast, reduceIte, Nat.reduceEqDiff, e0, e1, e2, e6, e8, e15, e16, e17, e18] at n0 n1 n2 n6 n8 n15 n16 n17 n18; clear hE e0 e1 e2 e6 e8 e15 e16 e17 e18; have e0 := n0; have e1 := n1; have e2 := n2; have e6 := n6; have e8 := n8; have e15 := n15; have e16 := n16; have e17 := n17; have e18 := n18; clear n0 n1 n2 n6 n8 n15 n16 n17 n18) | (with_reducible refine hK _ _ ?_; clear hK K) | (with_reducible first | refine awp_seq_i ?_ | refine seqK_n_i ?_ | refine awp_block_i ?_ | refine awp_skip_i ?_ | refine blockK_n_i ?_ | refine awp_ret_i ?_ | refine seqK_r_i ?_ | refine blockK_r_i ?_ | refine awp_exit_i ?_ | refine seqK_e_i ?_ | refine blockK_e_i ?_ | refine blockK_ne_i (by decide) ?_ | refine PostF_n_i ?_ | refine PostF_r_i ?_ | refine sep_nil_i ?_ | refine condP_t ?_ | refine condP_f ?_ | refine condP_ta (by assumption) ?_ | refine condP_fa (by assumption) ?_) | (refine awp_cond_e rfl ?_) | (simp -implicitDefEqProofs only [push_cast, eq_self, reduceIte, Nat.reduceEqDiff, reduceCtorEq, Nat.reduceAdd, Nat.reduceMul, Nat.reduceSub, Nat.reduceLeDiff, Int.reduceToNat, Int.reduceLE, Int.reduceLT, Int.reduceAdd, Int.reduceSub, Int.reduceMul, Int.reduceNeg, e0, e1, e2, e6, e8, e15, e16, e17, e18, hr, hq, hw, lenV_regs, List.getElem?_drop]) | (simp -implicitDefEqProofs (disch := omega) only [push_epn, put_epn, kill_epn, wrap64', e0, e1, e2, e6, e8, e15, e16, e17, e18, hr, hq, hw, lenV_regs, List.getElem?_drop]) | (with_reducible refine sep_i ?_ ?_) | (refine awpOps_gd rfl (fun bb => ?_) (fun bb => ?_) <;> simp only [bb]) | (with_reducible refine condP_in (fun bb => ?_) (fun bb => ?_)) | ((with_reducible refine And.intro ?_ ?_); omega) | fail)
  refine awp_loop (I117 o r) (rdS o).length ⟨0, by omega, by omega, by simp -implicitDefEqProofs only [push_cast, eq_self, reduceIte, Nat.reduceEqDiff, reduceCtorEq, Nat.reduceAdd, Nat.reduceMul, Nat.reduceSub, Nat.reduceLeDiff, Int.reduceToNat, Int.reduceLE, Int.reduceLT, Int.reduceAdd, Int.reduceSub, Int.reduceMul, Int.reduceNeg, e2], by simp -implicitDefEqProofs only [push_cast, eq_self, reduceIte, Nat.reduceEqDiff, reduceCtorEq, Nat.reduceAdd, Nat.reduceMul, Nat.reduceSub, Nat.reduceLeDiff, Int.reduceToNat, Int.reduceLE, Int.reduceLT, Int.reduceAdd, Int.reduceSub, Int.reduceMul, Int.reduceNeg], by simp -implicitDefEqProofs only [push_cast, eq_self, reduceIte, Nat.reduceEqDiff, reduceCtorEq, Nat.reduceAdd, Nat.reduceMul, Nat.reduceSub, Nat.reduceLeDiff, Int.reduceToNat, Int.reduceLE, Int.reduceLT, Int.reduceAdd, Int.reduceSub, Int.reduceMul, Int.reduceNeg], by simp -implicitDefEqProofs only [push_cast, eq_self, reduceIte, Nat.reduceEqDiff, reduceCtorEq, Nat.reduceAdd, Nat.reduceMul, Nat.reduceSub, Nat.reduceLeDiff, Int.reduceToNat, Int.reduceLE, Int.reduceLT, Int.reduceAdd, Int.reduceSub, Int.reduceMul, Int.reduceNeg], by omega⟩ ?_
  rintro n ⟨env, h⟩ ⟨k, hk, rfl, e2, e15, e16, e17, hall⟩
  simp only at e2 e15 e16 e17
  have e0 : True := trivial; have e1 : True := trivial; have e6 : True := trivial; have e8 : True := trivial; have e18 : True := trivial
  unfold l117_0
  refine awp_fresh_i fun hF => ?_
  have hrl := rdS_len o
  by_cases hlt : k < (rdS o).length
  · have hd : decide ((k : Int) < ((rdS o).length : Int)) = true := by simp; omega
    have hr := regs_at hlt .i64
    have hm := rdS_mem hok (List.getElem_mem hlt)
    repeat' (first | ((try clear hf); with_reducible refine awp_ops_g fun env K hE hK hf => ?_; have n0 := hE 0; have n1 := hE 1; have n2 := hE 2; have n6 := hE 6; have n8 := hE 8; have n15 := hE 15; have n16 := hE 16; have n17 := hE 17; have n18 := hE 18; simp -implicitDefEqProofs only [push_cast, reduceIte, Nat.reduceEqDiff, e0, e1, e2, e6, e8, e15, e16, e17, e18] at n0 n1 n2 n6 n8 n15 n16 n17 n18; clear hE e0 e1 e2 e6 e8 e15 e16 e17 e18; have e0 := n0; have e1 := n1; have e2 := n2; have e6 := n6; have e8 := n8; have e15 := n15; have e16 := n16; have e17 := n17; have e18 := n18; clear n0 n1 n2 n6 n8 n15 n16 n17 n18) | (with_reducible refine hK _ _ ?_; clear hK K) | (with_reducible first | refine awp_seq_i ?_ | refine seqK_n_i ?_ | refine awp_block_i ?_ | refine awp_skip_i ?_ | refine blockK_n_i ?_ | refine awp_ret_i ?_ | refine seqK_r_i ?_ | refine blockK_r_i ?_ | refine awp_exit_i ?_ | refine seqK_e_i ?_ | refine blockK_e_i ?_ | refine blockK_ne_i (by decide) ?_ | refine PostF_n_i ?_ | refine PostF_r_i ?_ | refine sep_nil_i ?_ | refine condP_t ?_ | refine condP_f ?_ | refine condP_ta (by assumption) ?_ | refine condP_fa (by assumption) ?_) | (refine awp_cond_e rfl ?_) | (simp -implicitDefEqProofs only [push_cast, eq_self, reduceIte, Nat.reduceEqDiff, reduceCtorEq, Nat.reduceAdd, Nat.reduceMul, Nat.reduceSub, Nat.reduceLeDiff, Int.reduceToNat, Int.reduceLE, Int.reduceLT, Int.reduceAdd, Int.reduceSub, Int.reduceMul, Int.reduceNeg, e0, e1, e2, e6, e8, e15, e16, e17, e18, hd, hr, hF.at]) | (simp -implicitDefEqProofs (disch := omega) only [push_epn, put_epn, kill_epn, wrap64', e0, e1, e2, e6, e8, e15, e16, e17, e18, hd, hr, hF.at]) | (with_reducible refine sep_i ?_ ?_) | (refine awpOps_gd rfl (fun bb => ?_) (fun bb => ?_) <;> simp only [bb]) | (with_reducible refine condP_in (fun bb => ?_) (fun bb => ?_)) | ((with_reducible refine And.intro ?_ ?_); omega) | fail)
    · have : seesS o r = true := by
        unfold seesS
        rw [List.any_eq_true]
        exact ⟨_, List.getElem_mem hlt, by assumption⟩
      rw [this]
    · refine ⟨(rdS o).length - (k + 1), by omega, k + 1, by omega, rfl, by simp -implicitDefEqProofs only [push_cast, eq_self, reduceIte, Nat.reduceEqDiff, reduceCtorEq, Nat.reduceAdd, Nat.reduceMul, Nat.reduceSub, Nat.reduceLeDiff, Int.reduceToNat, Int.reduceLE, Int.reduceLT, Int.reduceAdd, Int.reduceSub, Int.reduceMul, Int.reduceNeg, e2], by simp -implicitDefEqProofs only [push_cast, eq_self, reduceIte, Nat.reduceEqDiff, reduceCtorEq, Nat.reduceAdd, Nat.reduceMul, Nat.reduceSub, Nat.reduceLeDiff, Int.reduceToNat, Int.reduceLE, Int.reduceLT, Int.reduceAdd, Int.reduceSub, Int.reduceMul, Int.reduceNeg, e15], by simp -implicitDefEqProofs only [push_cast, eq_self, reduceIte, Nat.reduceEqDiff, reduceCtorEq, Nat.reduceAdd, Nat.reduceMul, Nat.reduceSub, Nat.reduceLeDiff, Int.reduceToNat, Int.reduceLE, Int.reduceLT, Int.reduceAdd, Int.reduceSub, Int.reduceMul, Int.reduceNeg, e16], by simp -implicitDefEqProofs only [push_cast, eq_self, reduceIte, Nat.reduceEqDiff, reduceCtorEq, Nat.reduceAdd, Nat.reduceMul, Nat.reduceSub, Nat.reduceLeDiff, Int.reduceToNat, Int.reduceLE, Int.reduceLT, Int.reduceAdd, Int.reduceSub, Int.reduceMul, Int.reduceNeg], fun j hj h => ?_⟩
      by_cases e : j < k
      · exact hall j e h
      · obtain rfl : j = k := by omega
        have := ‹decide ((rdS o)[j] = r) = false›
        simpa using this
  · have hd : decide ((k : Int) < ((rdS o).length : Int)) = false := by simp; omega
    repeat' (first | ((try clear hf); with_reducible refine awp_ops_g fun env K hE hK hf => ?_; have n0 := hE 0; have n1 := hE 1; have n2 := hE 2; have n6 := hE 6; have n8 := hE 8; have n15 := hE 15; have n16 := hE 16; have n17 := hE 17; have n18 := hE 18; simp -implicitDefEqProofs only [push_cast, reduceIte, Nat.reduceEqDiff, e0, e1, e2, e6, e8, e15, e16, e17, e18] at n0 n1 n2 n6 n8 n15 n16 n17 n18; clear hE e0 e1 e2 e6 e8 e15 e16 e17 e18; have e0 := n0; have e1 := n1; have e2 := n2; have e6 := n6; have e8 := n8; have e15 := n15; have e16 := n16; have e17 := n17; have e18 := n18; clear n0 n1 n2 n6 n8 n15 n16 n17 n18) | (with_reducible refine hK _ _ ?_; clear hK K) | (with_reducible first | refine awp_seq_i ?_ | refine seqK_n_i ?_ | refine awp_block_i ?_ | refine awp_skip_i ?_ | refine blockK_n_i ?_ | refine awp_ret_i ?_ | refine seqK_r_i ?_ | refine blockK_r_i ?_ | refine awp_exit_i ?_ | refine seqK_e_i ?_ | refine blockK_e_i ?_ | refine blockK_ne_i (by decide) ?_ | refine PostF_n_i ?_ | refine PostF_r_i ?_ | refine sep_nil_i ?_ | refine condP_t ?_ | refine condP_f ?_ | refine condP_ta (by assumption) ?_ | refine condP_fa (by assumption) ?_) | (refine awp_cond_e rfl ?_) | (simp -implicitDefEqProofs only [push_cast, eq_self, reduceIte, Nat.reduceEqDiff, reduceCtorEq, Nat.reduceAdd, Nat.reduceMul, Nat.reduceSub, Nat.reduceLeDiff, Int.reduceToNat, Int.reduceLE, Int.reduceLT, Int.reduceAdd, Int.reduceSub, Int.reduceMul, Int.reduceNeg, e0, e1, e2, e6, e8, e15, e16, e17, e18, hd]) | (simp -implicitDefEqProofs (disch := omega) only [push_epn, put_epn, kill_epn, wrap64', e0, e1, e2, e6, e8, e15, e16, e17, e18, hd]) | (with_reducible refine sep_i ?_ ?_) | (refine awpOps_gd rfl (fun bb => ?_) (fun bb => ?_) <;> simp only [bb]) | (with_reducible refine condP_in (fun bb => ?_) (fun bb => ?_)) | ((with_reducible refine And.intro ?_ ?_); omega) | fail)
    have : seesS o r = false := by
      unfold seesS
      rw [List.any_eq_false]
      intro x hx
      obtain ⟨j, hj, rfl⟩ := List.getElem_of_mem hx
      simpa using hall j (by omega) hj
    rw [this]
/-- Who was the last to write: registers' cells. -/
def lastC (L : Nat → Int) : List AV := (List.range 32).map fun r => i64 (L r)
theorem lastC_imms (L : Nat → Int) : imms (lastC L) = true := imms_of_get fun i x hx => by simp [lastC] at hx; obtain ⟨_, _, rfl⟩ := hx; rfl
theorem lastC_at (L : Nat → Int) {r : Nat} (hr : r < 32) : (lastC L)[r]? = some (i64 (L r)) := by simp [lastC, hr]
/-- Does 'o' read what 'i' was the last to write? -/
def fromS (L : Nat → Int) (o : Opn) (i : Nat) : Bool := (rdS o).any fun x => decide (L x.toNat = (i : Int) + 1)
def I96 (L : Nat → Int) (o : Opn) (i : Nat) (n : Nat) (σ : St) : Prop := ∃ k : Nat, k ≤ (rdS o).length ∧ n = (rdS o).length - k ∧ σ.env 1 = i64 i ∧ σ.env 3 = .ip (lastC L) ∧ σ.env 17 = .row (regsC (rdS o)) ∧ σ.env 18 = i64 (rdS o).length ∧ σ.env 19 = i64 k ∧
  ∀ (j : Nat) (hj : j < k) (h : j < (rdS o).length), L ((rdS o)[j]).toNat ≠ (i : Int) + 1
theorem f96 (l : List Opn) (t : Tab) (out : AV) (ho : imm out = true) (L : Nat → Int) (i j : Nat) (hj : j < l.length) (hi : i ≤ 1000000) (hl : ∀ o ∈ l, o.ok) :
    HV Try.prog 96 [.ip (finA l t out), i64 i, i64 j, .ip (lastC L)] (bl (fromS L l[j] i)) := by
  refine HV_of_awp mixed cf96 (by simp) (by simp [imms, imm, finA_imms ho, lastC_imms]) ?_ rfl
  unfold ac96 re96
  refine awp_env_i fun env hE => ?_; have e0 := hE 0; have e1 := hE 1; have e2 := hE 2; have e3 := hE 3; have e8 := hE 8; have e10 := hE 10; have e17 := hE 17; have e18 := hE 18; have e19 := hE 19; have e20 := hE 20; simp -implicitDefEqProofs only [push_cast] at e0 e1 e2 e3 e8 e10 e17 e18 e19 e20; clear hE
  have hr := regRow_at hj .i64
  have hq : (finA l t out)[14 + 0]? = some (.row (l.map regRow)) := rfl
  have hw : (regRow l[j])[0]? = some (.row (regsC (rdS l[j]))) := rfl
  have hok := hl _ (List.getElem_mem hj)
  generalize l[j] = o at *
  repeat' (first | ((try clear hf); with_reducible refine awp_ops_g fun env K hE hK hf => ?_; have n0 := hE 0; have n1 := hE 1; have n2 := hE 2; have n3 := hE 3; have n8 := hE 8; have n10 := hE 10; have n17 := hE 17; have n18 := hE 18; have n19 := hE 19; have n20 := hE 20; simp -implicitDefEqProofs only [push_cast, reduceIte, Nat.reduceEqDiff, e0, e1, e2, e3, e8, e10, e17, e18, e19, e20] at n0 n1 n2 n3 n8 n10 n17 n18 n19 n20; clear hE e0 e1 e2 e3 e8 e10 e17 e18 e19 e20; have e0 := n0; have e1 := n1; have e2 := n2; have e3 := n3; have e8 := n8; have e10 := n10; have e17 := n17; have e18 := n18; have e19 := n19; have e20 := n20; clear n0 n1 n2 n3 n8 n10 n17 n18 n19 n20) | (with_reducible refine hK _ _ ?_; clear hK K) | (with_reducible first | refine awp_seq_i ?_ | refine seqK_n_i ?_ | refine awp_block_i ?_ | refine awp_skip_i ?_ | refine blockK_n_i ?_ | refine awp_ret_i ?_ | refine seqK_r_i ?_ | refine blockK_r_i ?_ | refine awp_exit_i ?_ | refine seqK_e_i ?_ | refine blockK_e_i ?_ | refine blockK_ne_i (by decide) ?_ | refine PostF_n_i ?_ | refine PostF_r_i ?_ | refine sep_nil_i ?_ | refine condP_t ?_ | refine condP_f ?_ | refine condP_ta (by assumption) ?_ | refine condP_fa (by assumption) ?_) | (refine awp_cond_e rfl ?_) | (simp -implicitDefEqProofs only [push_cast, eq_self, reduceIte, Nat.reduceEqDiff, reduceCtorEq, Nat.reduceAdd, Nat.reduceMul, Nat.reduceSub, Nat.reduceLeDiff, Int.reduceToNat, Int.reduceLE, Int.reduceLT, Int.reduceAdd, Int.reduceSub, Int.reduceMul, Int.reduceNeg, e0, e1, e2, e3, e8, e10, e17, e18, e19, e20, hr, hq, hw, lenV_regs, List.getElem?_drop]) | (simp -implicitDefEqProofs (disch := omega) only [push_epn, put_epn, kill_epn, wrap64', e0, e1, e2, e3, e8, e10, e17, e18, e19, e20, hr, hq, hw, lenV_regs, List.getElem?_drop]) | (with_reducible refine sep_i ?_ ?_) | (refine awpOps_gd rfl (fun bb => ?_) (fun bb => ?_) <;> simp only [bb]) | (with_reducible refine condP_in (fun bb => ?_) (fun bb => ?_)) | ((with_reducible refine And.intro ?_ ?_); omega) | fail)
  refine awp_loop (I96 L o i) (rdS o).length ⟨0, by omega, by omega, by simp -implicitDefEqProofs only [push_cast, eq_self, reduceIte, Nat.reduceEqDiff, reduceCtorEq, Nat.reduceAdd, Nat.reduceMul, Nat.reduceSub, Nat.reduceLeDiff, Int.reduceToNat, Int.reduceLE, Int.reduceLT, Int.reduceAdd, Int.reduceSub, Int.reduceMul, Int.reduceNeg, e1], by simp -implicitDefEqProofs only [push_cast, eq_self, reduceIte, Nat.reduceEqDiff, reduceCtorEq, Nat.reduceAdd, Nat.reduceMul, Nat.reduceSub, Nat.reduceLeDiff, Int.reduceToNat, Int.reduceLE, Int.reduceLT, Int.reduceAdd, Int.reduceSub, Int.reduceMul, Int.reduceNeg, e3], by simp -implicitDefEqProofs only [push_cast, eq_self, reduceIte, Nat.reduceEqDiff, reduceCtorEq, Nat.reduceAdd, Nat.reduceMul, Nat.reduceSub, Nat.reduceLeDiff, Int.reduceToNat, Int.reduceLE, Int.reduceLT, Int.reduceAdd, Int.reduceSub, Int.reduceMul, Int.reduceNeg], by simp -implicitDefEqProofs only [push_cast, eq_self, reduceIte, Nat.reduceEqDiff, reduceCtorEq, Nat.reduceAdd, Nat.reduceMul, Nat.reduceSub, Nat.reduceLeDiff, Int.reduceToNat, Int.reduceLE, Int.reduceLT, Int.reduceAdd, Int.reduceSub, Int.reduceMul, Int.reduceNeg], by simp -implicitDefEqProofs only [push_cast, eq_self, reduceIte, Nat.reduceEqDiff, reduceCtorEq, Nat.reduceAdd, Nat.reduceMul, Nat.reduceSub, Nat.reduceLeDiff, Int.reduceToNat, Int.reduceLE, Int.reduceLT, Int.reduceAdd, Int.reduceSub, Int.reduceMul, Int.reduceNeg], by omega⟩ ?_
  rintro n ⟨env, h⟩ ⟨k, hk, rfl, e1, e3, e17, e18, e19, hall⟩
  simp only at e1 e3 e17 e18 e19
  have e0 : True := trivial; have e2 : True := trivial; have e8 : True := trivial; have e10 : True := trivial; have e20 : True := trivial
  unfold l96_0
  refine awp_fresh_i fun hF => ?_
  have hrl := rdS_len o
  by_cases hlt : k < (rdS o).length
  · have hd : decide ((k : Int) < ((rdS o).length : Int)) = true := by simp; omega
    have hr := regs_at hlt .i64
    have hm := rdS_mem hok (List.getElem_mem hlt)
    have ht : (rdS o)[k].toNat < 32 := by omega
    have hx : (lastC L)[(rdS o)[k].toNat + 0]? = some (i64 (L (rdS o)[k].toNat)) := lastC_at L ht
    repeat' (first | ((try clear hf); with_reducible refine awp_ops_g fun env K hE hK hf => ?_; have n0 := hE 0; have n1 := hE 1; have n2 := hE 2; have n3 := hE 3; have n8 := hE 8; have n10 := hE 10; have n17 := hE 17; have n18 := hE 18; have n19 := hE 19; have n20 := hE 20; simp -implicitDefEqProofs only [push_cast, reduceIte, Nat.reduceEqDiff, e0, e1, e2, e3, e8, e10, e17, e18, e19, e20] at n0 n1 n2 n3 n8 n10 n17 n18 n19 n20; clear hE e0 e1 e2 e3 e8 e10 e17 e18 e19 e20; have e0 := n0; have e1 := n1; have e2 := n2; have e3 := n3; have e8 := n8; have e10 := n10; have e17 := n17; have e18 := n18; have e19 := n19; have e20 := n20; clear n0 n1 n2 n3 n8 n10 n17 n18 n19 n20) | (with_reducible refine hK _ _ ?_; clear hK K) | (with_reducible first | refine awp_seq_i ?_ | refine seqK_n_i ?_ | refine awp_block_i ?_ | refine awp_skip_i ?_ | refine blockK_n_i ?_ | refine awp_ret_i ?_ | refine seqK_r_i ?_ | refine blockK_r_i ?_ | refine awp_exit_i ?_ | refine seqK_e_i ?_ | refine blockK_e_i ?_ | refine blockK_ne_i (by decide) ?_ | refine PostF_n_i ?_ | refine PostF_r_i ?_ | refine sep_nil_i ?_ | refine condP_t ?_ | refine condP_f ?_ | refine condP_ta (by assumption) ?_ | refine condP_fa (by assumption) ?_) | (refine awp_cond_e rfl ?_) | (simp -implicitDefEqProofs only [push_cast, eq_self, reduceIte, Nat.reduceEqDiff, reduceCtorEq, Nat.reduceAdd, Nat.reduceMul, Nat.reduceSub, Nat.reduceLeDiff, Int.reduceToNat, Int.reduceLE, Int.reduceLT, Int.reduceAdd, Int.reduceSub, Int.reduceMul, Int.reduceNeg, e0, e1, e2, e3, e8, e10, e17, e18, e19, e20, hd, hr, hF.at, idxAddr_ip, List.getElem?_drop, hx]) | (simp -implicitDefEqProofs (disch := omega) only [push_epn, put_epn, kill_epn, wrap64', e0, e1, e2, e3, e8, e10, e17, e18, e19, e20, hd, hr, hF.at, idxAddr_ip, List.getElem?_drop, hx]) | (with_reducible refine sep_i ?_ ?_) | (refine awpOps_gd rfl (fun bb => ?_) (fun bb => ?_) <;> simp only [bb]) | (with_reducible refine condP_in (fun bb => ?_) (fun bb => ?_)) | ((with_reducible refine And.intro ?_ ?_); omega) | fail)
    · have : fromS L o i = true := by
        unfold fromS
        rw [List.any_eq_true]
        exact ⟨_, List.getElem_mem hlt, by assumption⟩
      rw [this]
    · refine ⟨(rdS o).length - (k + 1), by omega, k + 1, by omega, rfl, by simp -implicitDefEqProofs only [push_cast, eq_self, reduceIte, Nat.reduceEqDiff, reduceCtorEq, Nat.reduceAdd, Nat.reduceMul, Nat.reduceSub, Nat.reduceLeDiff, Int.reduceToNat, Int.reduceLE, Int.reduceLT, Int.reduceAdd, Int.reduceSub, Int.reduceMul, Int.reduceNeg, e1], by simp -implicitDefEqProofs only [push_cast, eq_self, reduceIte, Nat.reduceEqDiff, reduceCtorEq, Nat.reduceAdd, Nat.reduceMul, Nat.reduceSub, Nat.reduceLeDiff, Int.reduceToNat, Int.reduceLE, Int.reduceLT, Int.reduceAdd, Int.reduceSub, Int.reduceMul, Int.reduceNeg, e3], by simp -implicitDefEqProofs only [push_cast, eq_self, reduceIte, Nat.reduceEqDiff, reduceCtorEq, Nat.reduceAdd, Nat.reduceMul, Nat.reduceSub, Nat.reduceLeDiff, Int.reduceToNat, Int.reduceLE, Int.reduceLT, Int.reduceAdd, Int.reduceSub, Int.reduceMul, Int.reduceNeg, e17], by simp -implicitDefEqProofs only [push_cast, eq_self, reduceIte, Nat.reduceEqDiff, reduceCtorEq, Nat.reduceAdd, Nat.reduceMul, Nat.reduceSub, Nat.reduceLeDiff, Int.reduceToNat, Int.reduceLE, Int.reduceLT, Int.reduceAdd, Int.reduceSub, Int.reduceMul, Int.reduceNeg, e18], by simp -implicitDefEqProofs only [push_cast, eq_self, reduceIte, Nat.reduceEqDiff, reduceCtorEq, Nat.reduceAdd, Nat.reduceMul, Nat.reduceSub, Nat.reduceLeDiff, Int.reduceToNat, Int.reduceLE, Int.reduceLT, Int.reduceAdd, Int.reduceSub, Int.reduceMul, Int.reduceNeg], fun j hj h => ?_⟩
      by_cases e : j < k
      · exact hall j e h
      · obtain rfl : j = k := by omega
        have := ‹decide (L (rdS o)[j].toNat = (i : Int) + 1) = false›
        simpa using this
  · have hd : decide ((k : Int) < ((rdS o).length : Int)) = false := by simp; omega
    repeat' (first | ((try clear hf); with_reducible refine awp_ops_g fun env K hE hK hf => ?_; have n0 := hE 0; have n1 := hE 1; have n2 := hE 2; have n3 := hE 3; have n8 := hE 8; have n10 := hE 10; have n17 := hE 17; have n18 := hE 18; have n19 := hE 19; have n20 := hE 20; simp -implicitDefEqProofs only [push_cast, reduceIte, Nat.reduceEqDiff, e0, e1, e2, e3, e8, e10, e17, e18, e19, e20] at n0 n1 n2 n3 n8 n10 n17 n18 n19 n20; clear hE e0 e1 e2 e3 e8 e10 e17 e18 e19 e20; have e0 := n0; have e1 := n1; have e2 := n2; have e3 := n3; have e8 := n8; have e10 := n10; have e17 := n17; have e18 := n18; have e19 := n19; have e20 := n20; clear n0 n1 n2 n3 n8 n10 n17 n18 n19 n20) | (with_reducible refine hK _ _ ?_; clear hK K) | (with_reducible first | refine awp_seq_i ?_ | refine seqK_n_i ?_ | refine awp_block_i ?_ | refine awp_skip_i ?_ | refine blockK_n_i ?_ | refine awp_ret_i ?_ | refine seqK_r_i ?_ | refine blockK_r_i ?_ | refine awp_exit_i ?_ | refine seqK_e_i ?_ | refine blockK_e_i ?_ | refine blockK_ne_i (by decide) ?_ | refine PostF_n_i ?_ | refine PostF_r_i ?_ | refine sep_nil_i ?_ | refine condP_t ?_ | refine condP_f ?_ | refine condP_ta (by assumption) ?_ | refine condP_fa (by assumption) ?_) | (refine awp_cond_e rfl ?_) | (simp -implicitDefEqProofs only [push_cast, eq_self, reduceIte, Nat.reduceEqDiff, reduceCtorEq, Nat.reduceAdd, Nat.reduceMul, Nat.reduceSub, Nat.reduceLeDiff, Int.reduceToNat, Int.reduceLE, Int.reduceLT, Int.reduceAdd, Int.reduceSub, Int.reduceMul, Int.reduceNeg, e0, e1, e2, e3, e8, e10, e17, e18, e19, e20, hd]) | (simp -implicitDefEqProofs (disch := omega) only [push_epn, put_epn, kill_epn, wrap64', e0, e1, e2, e3, e8, e10, e17, e18, e19, e20, hd]) | (with_reducible refine sep_i ?_ ?_) | (refine awpOps_gd rfl (fun bb => ?_) (fun bb => ?_) <;> simp only [bb]) | (with_reducible refine condP_in (fun bb => ?_) (fun bb => ?_)) | ((with_reducible refine And.intro ?_ ?_); omega) | fail)
    have : fromS L o i = false := by
      unfold fromS
      rw [List.any_eq_false]
      intro x hx
      obtain ⟨j, hj, rfl⟩ := List.getElem_of_mem hx
      simpa using hall j (by omega) hj
    rw [this]
end Go.Proofs.Hx

set_option linter.unusedVariables false
set_option linter.unusedSimpArgs false
namespace Go.Proofs.Hx
open Go Go.Proofs
attribute [local irreducible] awpOps awp opK goV goM callG endOps awpOp runOp HV HVF HC
/-- A loop of one round. -/
theorem awp_once {P : Program} {c : ACode} {Q : AEx → St → Prop} {σ : St} (Post : St → Prop) (h1 : awp P c (seqK P Post Q) σ) (h2 : ∀ τ, Post τ → awp P c (seqK P (fun _ => False) Q) τ) : awp P (.loop c) Q σ := by
  refine awp_loop (fun n τ => (n = 1 ∧ τ = σ) ∨ (n = 0 ∧ Post τ)) 1 (.inl ⟨rfl, rfl⟩) fun n τ hτ => ?_
  rcases hτ with ⟨rfl, rfl⟩ | ⟨rfl, hp⟩
  · refine awp_mono c _ _ (fun e σ' hx => ?_) _ h1
    cases e with
    | normal => exact ⟨0, by omega, .inr ⟨rfl, hx⟩⟩
    | exit i => exact hx
    | ret => exact hx
  · refine awp_mono c _ _ (fun e σ' hx => ?_) _ (h2 τ hp)
    cases e with
    | normal => exact hx.elim
    | exit i => exact hx
    | ret => exact hx
structure Edg where
  f : Int
  t : Int
  l : Int
  d : Int
  w : Int
  deriving DecidableEq
def edC (e : Edg) : List AV := [i64 e.f, i64 e.t, i64 e.l, i64 e.d, .lit (.int .i8 e.w)]
theorem edC_len (e : Edg) : (edC e).length = 5 := rfl
theorem edC_take (e : Edg) : (edC e).take 5 = edC e := rfl
theorem edC_one (e : Edg) : (edC e).all one = true := rfl
theorem edC_imms (e : Edg) : imms (edC e) = true := rfl
attribute [push_cast] edC_len edC_take edC_one edC_imms
theorem eflat_len (l : List Edg) : (l.flatMap edC).length = l.length * 5 := by
  induction l with
  | nil => rfl
  | cons o l ih => rw [List.flatMap_cons, List.length_append, ih, edC_len, List.length_cons]; omega
/-- The edges so far, where they lie. -/
def OutR (h : Hp) (out : AV) (es : List Edg) : Prop := (out = .nil ∧ es = []) ∨ (∃ id, out = .sl id 0 es.length 5 ∧ h.hp id = some ⟨true, es.flatMap edC⟩ ∧ id.1 ≤ h.ep)
/-- What 'put' leaves. -/
def PutP (h : Hp) (F : Id) (cells : List AV) (out : AV) (es : List Edg) (h' : Hp) : Prop :=
  h.ep ≤ h'.ep ∧ (∀ x : Id, x.1 ≤ h.ep → x ≠ F → idOf out ≠ some x → h'.hp x = h.hp x) ∧ ∃ id : Id, h.ep < id.1 ∧ id.1 ≤ h'.ep ∧ h'.hp id = some ⟨true, es.flatMap edC⟩ ∧ h'.hp F = some ⟨true, cells.take 16 ++ [.sl id 0 es.length 5]⟩
theorem appV_sl_eq (h : Hp) (id t : Id) (sz bytes n off len sz' : Nat) (new : List AV) : appV h id sz bytes n new (.sl t off len sz') = (h.hp t).bind fun blk => if sz' = sz ∧ blk.wr = true ∧ new.all one = true ∧ (len + n + (len + n) / 4 + 512) * bytes ≤ 281474976710656 then
    some (.sl id 0 (len + n) sz, (h.kill t).push id ((blk.cells.drop off).take (len * sz) ++ new)) else none := by simp only [appV]
theorem one_sl (id : Id) (o n s : Nat) : one (.sl id o n s) = true := rfl
theorem one_row (x : List (List AV)) : one (.row x) = true := rfl
theorem one_nil : one .nil = true := rfl
theorem one_ptr (id : Id) (o : Nat) : one (.ptr id o) = true := rfl
theorem one_fn (f : Nat) (c : List AV) : one (.fn f c) = true := rfl
attribute [push_cast] one_sl one_row one_nil one_ptr one_fn
theorem PutP.tick {h : Hp} {F : Id} {cells : List AV} {out : AV} {es : List Edg} {h' : Hp} (hp : PutP h F cells out es h') : PutP h F cells out es h'.tick := by
  obtain ⟨h1, h2, id, h3, h4, h5, h6⟩ := hp
  exact ⟨by rw [tick_ep]; omega, h2, id, h3, by rw [tick_ep]; omega, h5, h6⟩
theorem f97 (h : Hp) (F S : Id) (cells : List AV) (out : AV) (es : List Edg) (e : Edg) (i j dist : Int) (hF : h.hp F = some ⟨true, cells⟩) (hlen : cells.length = 17) (hout : cells[16]? = some out)
    (hS : h.hp S = some ⟨true, edC e⟩) (hSF : S ≠ F) (hFe : F.1 ≤ h.ep) (hSe : S.1 ≤ h.ep) (ho : OutR h out es) (hne : ∀ id, idOf out = some id → id ≠ F ∧ id ≠ S) (hn : es.length ≤ 100000000) :
    HC Try.prog 97 [.ptr F 0, i64 i, i64 j, i64 dist, .sl S 0 1 5] h fun r h' => r = .tup [] ∧ PutP h F cells out (es ++ [⟨i, j, e.l, dist, e.w⟩]) h' := by
  refine HC_of_awp mixed cf97 (by simp) fun hf0 => ?_
  unfold ac97 re97
  refine awp_env_i fun env hE => ?_; have e0 := hE 0; have e1 := hE 1; have e2 := hE 2; have e3 := hE 3; have e4 := hE 4; have e11 := hE 11; have e12 := hE 12; have e13 := hE 13; have e14 := hE 14; have e15 := hE 15; simp -implicitDefEqProofs only [push_cast] at e0 e1 e2 e3 e4 e11 e12 e13 e14 e15; clear hE
  repeat' (first | ((try clear hf); with_reducible refine awp_ops_g fun env K hE hK hf => ?_; have n0 := hE 0; have n1 := hE 1; have n2 := hE 2; have n3 := hE 3; have n4 := hE 4; have n11 := hE 11; have n12 := hE 12; have n13 := hE 13; have n14 := hE 14; have n15 := hE 15; simp -implicitDefEqProofs only [push_cast, reduceIte, Nat.reduceEqDiff, e0, e1, e2, e3, e4, e11, e12, e13, e14, e15] at n0 n1 n2 n3 n4 n11 n12 n13 n14 n15; clear hE e0 e1 e2 e3 e4 e11 e12 e13 e14 e15; have e0 := n0; have e1 := n1; have e2 := n2; have e3 := n3; have e4 := n4; have e11 := n11; have e12 := n12; have e13 := n13; have e14 := n14; have e15 := n15; clear n0 n1 n2 n3 n4 n11 n12 n13 n14 n15) | (with_reducible refine hK _ _ ?_; clear hK K) | (with_reducible first | refine awp_seq_i ?_ | refine seqK_n_i ?_ | refine awp_block_i ?_ | refine awp_skip_i ?_ | refine blockK_n_i ?_ | refine awp_ret_i ?_ | refine seqK_r_i ?_ | refine blockK_r_i ?_ | refine awp_exit_i ?_ | refine seqK_e_i ?_ | refine blockK_e_i ?_ | refine blockK_ne_i (by decide) ?_ | refine PostF_n_i ?_ | refine PostF_r_i ?_ | refine sep_nil_i ?_ | refine condP_t ?_ | refine condP_f ?_ | refine condP_ta (by assumption) ?_ | refine condP_fa (by assumption) ?_) | (refine awp_cond_e rfl ?_) | (simp -implicitDefEqProofs only [push_cast, eq_self, reduceIte, Nat.reduceEqDiff, reduceCtorEq, Nat.reduceAdd, Nat.reduceMul, Nat.reduceSub, Nat.reduceLeDiff, Int.reduceToNat, Int.reduceLE, Int.reduceLT, Int.reduceAdd, Int.reduceSub, Int.reduceMul, Int.reduceNeg, e0, e1, e2, e3, e4, e11, e12, e13, e14, e15, lenV_sl]) | (simp -implicitDefEqProofs (disch := omega) only [push_epn, put_epn, kill_epn, wrap64', e0, e1, e2, e3, e4, e11, e12, e13, e14, e15, lenV_sl]) | (with_reducible refine sep_i ?_ ?_) | (refine awpOps_gd rfl (fun bb => ?_) (fun bb => ?_) <;> simp only [bb]) | (with_reducible refine condP_in (fun bb => ?_) (fun bb => ?_)) | ((with_reducible refine And.intro ?_ ?_); omega) | fail)
  obtain ⟨Fe, Fs⟩ := F
  obtain ⟨Se, Ss⟩ := S
  simp only at hFe hSe
  have hdr : cells.drop (16 + 1) = [] := List.drop_eq_nil_of_le (by omega)
  have hle : 16 < cells.length := by omega
  refine awp_once (fun τ => τ.env 14 = i64 1 ∧ τ.env 13 = i64 1 ∧ PutP h (Fe, Fs) cells out (es ++ [⟨i, j, e.l, dist, e.w⟩]) τ.h) ?_ ?_
  · unfold l97_0
    have hz : ((1 : Nat) : Int) = 1 := rfl
    rcases ho with ⟨rfl, rfl⟩ | ⟨⟨Oe, Os⟩, rfl, hO, hOe⟩
    · have hA : ∀ (h' : Hp) (id' : Id), appV h' id' 5 40 1 [i64 i, i64 j, i64 e.l, i64 dist, .lit (.int .i8 e.w)] .nil = some (.sl id' 0 1 5, h'.push id' [i64 i, i64 j, i64 e.l, i64 dist, .lit (.int .i8 e.w)]) := fun h' id' => appV_nil _ _ (by decide) (by decide)
      repeat' (first | ((try clear hf); with_reducible refine awp_ops_g fun env K hE hK hf => ?_; have n0 := hE 0; have n1 := hE 1; have n2 := hE 2; have n3 := hE 3; have n4 := hE 4; have n11 := hE 11; have n12 := hE 12; have n13 := hE 13; have n14 := hE 14; have n15 := hE 15; simp -implicitDefEqProofs only [push_cast, reduceIte, Nat.reduceEqDiff, e0, e1, e2, e3, e4, e11, e12, e13, e14, e15] at n0 n1 n2 n3 n4 n11 n12 n13 n14 n15; clear hE e0 e1 e2 e3 e4 e11 e12 e13 e14 e15; have e0 := n0; have e1 := n1; have e2 := n2; have e3 := n3; have e4 := n4; have e11 := n11; have e12 := n12; have e13 := n13; have e14 := n14; have e15 := n15; clear n0 n1 n2 n3 n4 n11 n12 n13 n14 n15) | (with_reducible refine hK _ _ ?_; clear hK K) | (with_reducible first | refine awp_seq_i ?_ | refine seqK_n_i ?_ | refine awp_block_i ?_ | refine awp_skip_i ?_ | refine blockK_n_i ?_ | refine awp_ret_i ?_ | refine seqK_r_i ?_ | refine blockK_r_i ?_ | refine awp_exit_i ?_ | refine seqK_e_i ?_ | refine blockK_e_i ?_ | refine blockK_ne_i (by decide) ?_ | refine PostF_n_i ?_ | refine PostF_r_i ?_ | refine sep_nil_i ?_ | refine condP_t ?_ | refine condP_f ?_ | refine condP_ta (by assumption) ?_ | refine condP_fa (by assumption) ?_) | (refine awp_cond_e rfl ?_) | (simp -implicitDefEqProofs only [push_cast, eq_self, reduceIte, Nat.reduceEqDiff, reduceCtorEq, Nat.reduceAdd, Nat.reduceMul, Nat.reduceSub, Nat.reduceLeDiff, Int.reduceToNat, Int.reduceLE, Int.reduceLT, Int.reduceAdd, Int.reduceSub, Int.reduceMul, Int.reduceNeg, e0, e1, e2, e3, e4, e11, e12, e13, e14, e15, hF, hS, hout, hf0.at, edC, hA, hdr, idxAddr_sl, List.append_nil]) | (simp -implicitDefEqProofs (disch := omega) only [push_epn, put_epn, kill_epn, wrap64', e0, e1, e2, e3, e4, e11, e12, e13, e14, e15, hF, hS, hout, hf0.at, edC, hA, hdr, idxAddr_sl, List.append_nil]) | (with_reducible refine sep_i ?_ ?_) | (refine awpOps_gd rfl (fun bb => ?_) (fun bb => ?_) <;> simp only [bb]) | (with_reducible refine condP_in (fun bb => ?_) (fun bb => ?_)) | ((with_reducible refine And.intro ?_ ?_); omega) | fail)
      refine ⟨by (first | (simp -implicitDefEqProofs only [push_cast, eq_self, reduceIte, Nat.reduceEqDiff, reduceCtorEq, Nat.reduceAdd, Nat.reduceMul, Nat.reduceSub, Nat.reduceLeDiff, Int.reduceToNat, Int.reduceLE, Int.reduceLT, Int.reduceAdd, Int.reduceSub, Int.reduceMul, Int.reduceNeg]; done) | (simp -implicitDefEqProofs only [push_cast, eq_self, reduceIte, Nat.reduceEqDiff, reduceCtorEq, Nat.reduceAdd, Nat.reduceMul, Nat.reduceSub, Nat.reduceLeDiff, Int.reduceToNat, Int.reduceLE, Int.reduceLT, Int.reduceAdd, Int.reduceSub, Int.reduceMul, Int.reduceNeg]; omega)), fun x hx hxF hxo => ?_, (h.ep + 1 + 1 + 1 + 1 + 1 + 1, 31), ?_, ?_, ?_, ?_⟩
      · obtain ⟨xe, xs⟩ := x
        simp only at hx
        simp -implicitDefEqProofs (disch := first | omega | assumption) only [tick_hp, push_epn, put_epn, put_ne]
      · show h.ep < h.ep + 1 + 1 + 1 + 1 + 1 + 1
        omega
      · show h.ep + 1 + 1 + 1 + 1 + 1 + 1 ≤ _
        first | (simp -implicitDefEqProofs only [push_cast, eq_self, reduceIte, Nat.reduceEqDiff, reduceCtorEq, Nat.reduceAdd, Nat.reduceMul, Nat.reduceSub, Nat.reduceLeDiff, Int.reduceToNat, Int.reduceLE, Int.reduceLT, Int.reduceAdd, Int.reduceSub, Int.reduceMul, Int.reduceNeg]; done) | (simp -implicitDefEqProofs only [push_cast, eq_self, reduceIte, Nat.reduceEqDiff, reduceCtorEq, Nat.reduceAdd, Nat.reduceMul, Nat.reduceSub, Nat.reduceLeDiff, Int.reduceToNat, Int.reduceLE, Int.reduceLT, Int.reduceAdd, Int.reduceSub, Int.reduceMul, Int.reduceNeg]; omega)
      · simp -implicitDefEqProofs only [push_cast, eq_self, reduceIte, Nat.reduceEqDiff, reduceCtorEq, Nat.reduceAdd, Nat.reduceMul, Nat.reduceSub, Nat.reduceLeDiff, Int.reduceToNat, Int.reduceLE, Int.reduceLT, Int.reduceAdd, Int.reduceSub, Int.reduceMul, Int.reduceNeg]
        simp -implicitDefEqProofs (disch := omega) only [push_epn, put_epn, kill_epn, wrap64']
        simp -implicitDefEqProofs only [push_cast, eq_self, reduceIte, Nat.reduceEqDiff, reduceCtorEq, Nat.reduceAdd, Nat.reduceMul, Nat.reduceSub, Nat.reduceLeDiff, Int.reduceToNat, Int.reduceLE, Int.reduceLT, Int.reduceAdd, Int.reduceSub, Int.reduceMul, Int.reduceNeg]
        all_goals first | rfl | (rw [hfl])
      · simp -implicitDefEqProofs only [push_cast, eq_self, reduceIte, Nat.reduceEqDiff, reduceCtorEq, Nat.reduceAdd, Nat.reduceMul, Nat.reduceSub, Nat.reduceLeDiff, Int.reduceToNat, Int.reduceLE, Int.reduceLT, Int.reduceAdd, Int.reduceSub, Int.reduceMul, Int.reduceNeg]
        all_goals first | rfl | (rw [List.length_append]; rfl)
    · have htk : (es.flatMap edC).take (es.length * 5) = es.flatMap edC := by rw [← eflat_len, List.take_length]
      have hfl : es.flatMap edC ++ [i64 i, i64 j, i64 e.l, i64 dist, .lit (.int .i8 e.w)] = (es ++ [(⟨i, j, e.l, dist, e.w⟩ : Edg)]).flatMap edC := by simp [edC]
      simp only at hOe
      have hOF := (hne _ rfl).1
      have hk1 : ∀ h' : Hp, (h'.kill (Oe, Os)).hp (Fe, Fs) = h'.hp (Fe, Fs) := fun h' => kill_ne _ _ _ (Ne.symm hOF)
      repeat' (first | ((try clear hf); with_reducible refine awp_ops_g fun env K hE hK hf => ?_; have n0 := hE 0; have n1 := hE 1; have n2 := hE 2; have n3 := hE 3; have n4 := hE 4; have n11 := hE 11; have n12 := hE 12; have n13 := hE 13; have n14 := hE 14; have n15 := hE 15; simp -implicitDefEqProofs only [push_cast, reduceIte, Nat.reduceEqDiff, e0, e1, e2, e3, e4, e11, e12, e13, e14, e15] at n0 n1 n2 n3 n4 n11 n12 n13 n14 n15; clear hE e0 e1 e2 e3 e4 e11 e12 e13 e14 e15; have e0 := n0; have e1 := n1; have e2 := n2; have e3 := n3; have e4 := n4; have e11 := n11; have e12 := n12; have e13 := n13; have e14 := n14; have e15 := n15; clear n0 n1 n2 n3 n4 n11 n12 n13 n14 n15) | (with_reducible refine hK _ _ ?_; clear hK K) | (with_reducible first | refine awp_seq_i ?_ | refine seqK_n_i ?_ | refine awp_block_i ?_ | refine awp_skip_i ?_ | refine blockK_n_i ?_ | refine awp_ret_i ?_ | refine seqK_r_i ?_ | refine blockK_r_i ?_ | refine awp_exit_i ?_ | refine seqK_e_i ?_ | refine blockK_e_i ?_ | refine blockK_ne_i (by decide) ?_ | refine PostF_n_i ?_ | refine PostF_r_i ?_ | refine sep_nil_i ?_ | refine condP_t ?_ | refine condP_f ?_ | refine condP_ta (by assumption) ?_ | refine condP_fa (by assumption) ?_) | (refine awp_cond_e rfl ?_) | (simp -implicitDefEqProofs only [push_cast, eq_self, reduceIte, Nat.reduceEqDiff, reduceCtorEq, Nat.reduceAdd, Nat.reduceMul, Nat.reduceSub, Nat.reduceLeDiff, Int.reduceToNat, Int.reduceLE, Int.reduceLT, Int.reduceAdd, Int.reduceSub, Int.reduceMul, Int.reduceNeg, e0, e1, e2, e3, e4, e11, e12, e13, e14, e15, hF, hS, hO, hout, hf0.at, edC, appV_sl_eq, htk, hk1, hdr, idxAddr_sl, List.append_nil]) | (simp -implicitDefEqProofs (disch := omega) only [push_epn, put_epn, kill_epn, wrap64', e0, e1, e2, e3, e4, e11, e12, e13, e14, e15, hF, hS, hO, hout, hf0.at, edC, appV_sl_eq, htk, hk1, hdr, idxAddr_sl, List.append_nil]) | (with_reducible refine sep_i ?_ ?_) | (refine awpOps_gd rfl (fun bb => ?_) (fun bb => ?_) <;> simp only [bb]) | (with_reducible refine condP_in (fun bb => ?_) (fun bb => ?_)) | ((with_reducible refine And.intro ?_ ?_); omega) | fail)
      refine ⟨by (first | (simp -implicitDefEqProofs only [push_cast, eq_self, reduceIte, Nat.reduceEqDiff, reduceCtorEq, Nat.reduceAdd, Nat.reduceMul, Nat.reduceSub, Nat.reduceLeDiff, Int.reduceToNat, Int.reduceLE, Int.reduceLT, Int.reduceAdd, Int.reduceSub, Int.reduceMul, Int.reduceNeg]; done) | (simp -implicitDefEqProofs only [push_cast, eq_self, reduceIte, Nat.reduceEqDiff, reduceCtorEq, Nat.reduceAdd, Nat.reduceMul, Nat.reduceSub, Nat.reduceLeDiff, Int.reduceToNat, Int.reduceLE, Int.reduceLT, Int.reduceAdd, Int.reduceSub, Int.reduceMul, Int.reduceNeg]; omega)), fun x hx hxF hxo => ?_, (h.ep + 1 + 1 + 1 + 1 + 1 + 1, 31), ?_, ?_, ?_, ?_⟩
      · obtain ⟨xe, xs⟩ := x
        simp only at hx
        have hxo' : (xe, xs) ≠ (Oe, Os) := fun e => hxo (by rw [e]; rfl)
        simp -implicitDefEqProofs (disch := first | omega | assumption) only [tick_hp, push_epn, put_epn, put_ne, kill_ne]
      · show h.ep < h.ep + 1 + 1 + 1 + 1 + 1 + 1
        omega
      · show h.ep + 1 + 1 + 1 + 1 + 1 + 1 ≤ _
        first | (simp -implicitDefEqProofs only [push_cast, eq_self, reduceIte, Nat.reduceEqDiff, reduceCtorEq, Nat.reduceAdd, Nat.reduceMul, Nat.reduceSub, Nat.reduceLeDiff, Int.reduceToNat, Int.reduceLE, Int.reduceLT, Int.reduceAdd, Int.reduceSub, Int.reduceMul, Int.reduceNeg]; done) | (simp -implicitDefEqProofs only [push_cast, eq_self, reduceIte, Nat.reduceEqDiff, reduceCtorEq, Nat.reduceAdd, Nat.reduceMul, Nat.reduceSub, Nat.reduceLeDiff, Int.reduceToNat, Int.reduceLE, Int.reduceLT, Int.reduceAdd, Int.reduceSub, Int.reduceMul, Int.reduceNeg]; omega)
      · simp -implicitDefEqProofs only [push_cast, eq_self, reduceIte, Nat.reduceEqDiff, reduceCtorEq, Nat.reduceAdd, Nat.reduceMul, Nat.reduceSub, Nat.reduceLeDiff, Int.reduceToNat, Int.reduceLE, Int.reduceLT, Int.reduceAdd, Int.reduceSub, Int.reduceMul, Int.reduceNeg]
        simp -implicitDefEqProofs (disch := omega) only [push_epn, put_epn, kill_epn, wrap64']
        simp -implicitDefEqProofs only [push_cast, eq_self, reduceIte, Nat.reduceEqDiff, reduceCtorEq, Nat.reduceAdd, Nat.reduceMul, Nat.reduceSub, Nat.reduceLeDiff, Int.reduceToNat, Int.reduceLE, Int.reduceLT, Int.reduceAdd, Int.reduceSub, Int.reduceMul, Int.reduceNeg]
        all_goals first | rfl | (rw [hfl])
      · simp -implicitDefEqProofs only [push_cast, eq_self, reduceIte, Nat.reduceEqDiff, reduceCtorEq, Nat.reduceAdd, Nat.reduceMul, Nat.reduceSub, Nat.reduceLeDiff, Int.reduceToNat, Int.reduceLE, Int.reduceLT, Int.reduceAdd, Int.reduceSub, Int.reduceMul, Int.reduceNeg]
        all_goals first | rfl | (rw [List.length_append]; rfl)
  · rintro ⟨env, h1⟩ ⟨e14, e13, hP⟩
    simp only at e14 e13 hP
    have e0 : True := trivial; have e1 : True := trivial; have e2 : True := trivial; have e3 : True := trivial; have e4 : True := trivial; have e11 : True := trivial; have e12 : True := trivial; have e15 : True := trivial
    unfold l97_0
    repeat' (first | ((try clear hf); with_reducible refine awp_ops_g fun env K hE hK hf => ?_; have n0 := hE 0; have n1 := hE 1; have n2 := hE 2; have n3 := hE 3; have n4 := hE 4; have n11 := hE 11; have n12 := hE 12; have n13 := hE 13; have n14 := hE 14; have n15 := hE 15; simp -implicitDefEqProofs only [push_cast, reduceIte, Nat.reduceEqDiff, e0, e1, e2, e3, e4, e11, e12, e13, e14, e15] at n0 n1 n2 n3 n4 n11 n12 n13 n14 n15; clear hE e0 e1 e2 e3 e4 e11 e12 e13 e14 e15; have e0 := n0; have e1 := n1; have e2 := n2; have e3 := n3; have e4 := n4; have e11 := n11; have e12 := n12; have e13 := n13; have e14 := n14; have e15 := n15; clear n0 n1 n2 n3 n4 n11 n12 n13 n14 n15) | (with_reducible refine hK _ _ ?_; clear hK K) | (with_reducible first | refine awp_seq_i ?_ | refine seqK_n_i ?_ | refine awp_block_i ?_ | refine awp_skip_i ?_ | refine blockK_n_i ?_ | refine awp_ret_i ?_ | refine seqK_r_i ?_ | refine blockK_r_i ?_ | refine awp_exit_i ?_ | refine seqK_e_i ?_ | refine blockK_e_i ?_ | refine blockK_ne_i (by decide) ?_ | refine PostF_n_i ?_ | refine PostF_r_i ?_ | refine sep_nil_i ?_ | refine condP_t ?_ | refine condP_f ?_ | refine condP_ta (by assumption) ?_ | refine condP_fa (by assumption) ?_) | (refine awp_cond_e rfl ?_) | (simp -implicitDefEqProofs only [push_cast, eq_self, reduceIte, Nat.reduceEqDiff, reduceCtorEq, Nat.reduceAdd, Nat.reduceMul, Nat.reduceSub, Nat.reduceLeDiff, Int.reduceToNat, Int.reduceLE, Int.reduceLT, Int.reduceAdd, Int.reduceSub, Int.reduceMul, Int.reduceNeg, e0, e1, e2, e3, e4, e11, e12, e13, e14, e15]) | (simp -implicitDefEqProofs (disch := omega) only [push_epn, put_epn, kill_epn, wrap64', e0, e1, e2, e3, e4, e11, e12, e13, e14, e15]) | (with_reducible refine sep_i ?_ ?_) | (refine awpOps_gd rfl (fun bb => ?_) (fun bb => ?_) <;> simp only [bb]) | (with_reducible refine condP_in (fun bb => ?_) (fun bb => ?_)) | ((with_reducible refine And.intro ?_ ?_); omega) | fail)
    exact hP.tick
end Go.Proofs.Hx
