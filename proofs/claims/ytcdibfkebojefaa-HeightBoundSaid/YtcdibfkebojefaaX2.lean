import Derived.Test.YtcdibfkebojefaaX1
import Derived.Test.YtcdibfkebojefaaEv
set_option linter.unusedVariables false
set_option linter.unusedSimpArgs false
namespace Go.Proofs.Hx
open Go Go.Proofs
attribute [local irreducible] awpOps awp opK goV goM callG endOps awpOp runOp HV HVF HC
structure Shp where
  nm : ByteArray
  cl : Int
  d : Bool
  a : Bool
  b : Bool
  n : Bool
  im : Bool
  is : Bool
def shpA (s : Shp) : List AV := [.lit (.string s.nm), .lit (.int .i8 s.cl), .lit (.bool s.d), .lit (.bool s.a), .lit (.bool s.b), .lit (.bool s.n), .lit (.bool s.im), .lit (.bool s.is)]
def noShp : Shp := ⟨⟨#[]⟩, 0, false, false, false, false, false, false⟩
def shpT : Nat → Shp
  | 0 => ⟨⟨#[110, 111, 112]⟩, (-1), false, false, false, false, false, true⟩
  | 1 => ⟨⟨#[99, 111, 110, 115, 116]⟩, 0, true, false, false, false, true, true⟩
  | 2 => ⟨⟨#[97, 100, 100]⟩, 0, true, true, true, false, false, true⟩
  | 3 => ⟨⟨#[115, 117, 98]⟩, 0, true, true, true, false, false, true⟩
  | 4 => ⟨⟨#[97, 110, 100]⟩, 0, true, true, true, false, false, true⟩
  | 5 => ⟨⟨#[111, 114]⟩, 0, true, true, true, false, false, true⟩
  | 6 => ⟨⟨#[120, 111, 114]⟩, 0, true, true, true, false, false, true⟩
  | 7 => ⟨⟨#[115, 104, 108]⟩, 0, true, true, true, false, false, true⟩
  | 8 => ⟨⟨#[115, 104, 114]⟩, 0, true, true, true, false, false, true⟩
  | 9 => ⟨⟨#[108, 101, 115, 115]⟩, 0, true, true, true, false, false, true⟩
  | 10 => ⟨⟨#[101, 113, 117, 97, 108]⟩, 0, true, true, true, false, false, true⟩
  | 11 => ⟨⟨#[109, 111, 118, 101]⟩, 0, true, true, false, false, false, true⟩
  | 12 => ⟨⟨#[116, 105, 109, 101, 115]⟩, 1, true, true, true, false, false, true⟩
  | 13 => ⟨⟨#[100, 105, 118, 105, 100, 101]⟩, 1, true, true, true, false, false, true⟩
  | 14 => ⟨⟨#[114, 101, 115, 116]⟩, 1, true, true, true, false, false, true⟩
  | 15 => ⟨⟨#[108, 111, 97, 100]⟩, 2, true, true, false, false, true, true⟩
  | 16 => ⟨⟨#[115, 116, 111, 114, 101]⟩, 2, false, true, true, false, true, true⟩
  | 17 => ⟨⟨#[112, 114, 105, 110, 116]⟩, 2, false, true, false, false, false, true⟩
  | 18 => ⟨⟨#[106, 117, 109, 112]⟩, 3, false, false, false, false, true, true⟩
  | 19 => ⟨⟨#[98, 114, 97, 110, 99, 104]⟩, 3, false, true, false, false, true, true⟩
  | 20 => ⟨⟨#[104, 97, 108, 116]⟩, 3, false, true, false, false, false, true⟩
  | 21 => ⟨⟨#[99, 111, 117, 110, 116]⟩, 3, false, true, false, false, true, true⟩
  | 22 => ⟨⟨#[115, 104, 111, 114, 116]⟩, 3, false, true, false, true, true, true⟩
  | 23 => ⟨⟨#[97, 103, 97, 105, 110]⟩, 3, false, false, false, false, true, true⟩
  | _ => noShp
def shapesC : List AV := (List.range 24).flatMap fun i => shpA (shpT i)


def tblShapes : Tbl := [(105, 39, ac105, re105), (121, 8, ac121, re121)]
theorem f105 : HV Try.prog 105 [] (.agg shapesC) :=
  HV_of_run mixed (T := tblShapes) (by simp only [TblOk, tblShapes, List.forall_mem_cons, List.not_mem_nil, false_imp_iff, implies_true, and_true]; exact ⟨cf105, cf121⟩) 1000 rfl (by kernel_rfl) (by kernel_rfl)
def ofS (n : Int) : Shp := if n < 0 ∨ 24 ≤ n then noShp else shpT n.toNat
theorem ofS_bad {n : Int} (h : n < 0 ∨ 24 ≤ n) : ofS n = noShp := by simp [ofS, h]
theorem ofS_ok {n : Int} (h : ¬ (n < 0 ∨ 24 ≤ n)) : ofS n = shpT n.toNat := by simp [ofS, h]
theorem sh_0 : partV true (0 * 8) 8 shapesC = some (.agg (shpA (shpT 0))) := by kernel_rfl
theorem sh_1 : partV true (1 * 8) 8 shapesC = some (.agg (shpA (shpT 1))) := by kernel_rfl
theorem sh_2 : partV true (2 * 8) 8 shapesC = some (.agg (shpA (shpT 2))) := by kernel_rfl
theorem sh_3 : partV true (3 * 8) 8 shapesC = some (.agg (shpA (shpT 3))) := by kernel_rfl
theorem sh_4 : partV true (4 * 8) 8 shapesC = some (.agg (shpA (shpT 4))) := by kernel_rfl
theorem sh_5 : partV true (5 * 8) 8 shapesC = some (.agg (shpA (shpT 5))) := by kernel_rfl
theorem sh_6 : partV true (6 * 8) 8 shapesC = some (.agg (shpA (shpT 6))) := by kernel_rfl
theorem sh_7 : partV true (7 * 8) 8 shapesC = some (.agg (shpA (shpT 7))) := by kernel_rfl
theorem sh_8 : partV true (8 * 8) 8 shapesC = some (.agg (shpA (shpT 8))) := by kernel_rfl
theorem sh_9 : partV true (9 * 8) 8 shapesC = some (.agg (shpA (shpT 9))) := by kernel_rfl
theorem sh_10 : partV true (10 * 8) 8 shapesC = some (.agg (shpA (shpT 10))) := by kernel_rfl
theorem sh_11 : partV true (11 * 8) 8 shapesC = some (.agg (shpA (shpT 11))) := by kernel_rfl
theorem sh_12 : partV true (12 * 8) 8 shapesC = some (.agg (shpA (shpT 12))) := by kernel_rfl
theorem sh_13 : partV true (13 * 8) 8 shapesC = some (.agg (shpA (shpT 13))) := by kernel_rfl
theorem sh_14 : partV true (14 * 8) 8 shapesC = some (.agg (shpA (shpT 14))) := by kernel_rfl
theorem sh_15 : partV true (15 * 8) 8 shapesC = some (.agg (shpA (shpT 15))) := by kernel_rfl
theorem sh_16 : partV true (16 * 8) 8 shapesC = some (.agg (shpA (shpT 16))) := by kernel_rfl
theorem sh_17 : partV true (17 * 8) 8 shapesC = some (.agg (shpA (shpT 17))) := by kernel_rfl
theorem sh_18 : partV true (18 * 8) 8 shapesC = some (.agg (shpA (shpT 18))) := by kernel_rfl
theorem sh_19 : partV true (19 * 8) 8 shapesC = some (.agg (shpA (shpT 19))) := by kernel_rfl
theorem sh_20 : partV true (20 * 8) 8 shapesC = some (.agg (shpA (shpT 20))) := by kernel_rfl
theorem sh_21 : partV true (21 * 8) 8 shapesC = some (.agg (shpA (shpT 21))) := by kernel_rfl
theorem sh_22 : partV true (22 * 8) 8 shapesC = some (.agg (shpA (shpT 22))) := by kernel_rfl
theorem sh_23 : partV true (23 * 8) 8 shapesC = some (.agg (shpA (shpT 23))) := by kernel_rfl
theorem shapes_at {i : Nat} (h : i < 24) : partV true (i * 8) 8 shapesC = some (.agg (shpA (shpT i))) := by
  match i, h with
  | 0, _ => exact sh_0
  | 1, _ => exact sh_1
  | 2, _ => exact sh_2
  | 3, _ => exact sh_3
  | 4, _ => exact sh_4
  | 5, _ => exact sh_5
  | 6, _ => exact sh_6
  | 7, _ => exact sh_7
  | 8, _ => exact sh_8
  | 9, _ => exact sh_9
  | 10, _ => exact sh_10
  | 11, _ => exact sh_11
  | 12, _ => exact sh_12
  | 13, _ => exact sh_13
  | 14, _ => exact sh_14
  | 15, _ => exact sh_15
  | 16, _ => exact sh_16
  | 17, _ => exact sh_17
  | 18, _ => exact sh_18
  | 19, _ => exact sh_19
  | 20, _ => exact sh_20
  | 21, _ => exact sh_21
  | 22, _ => exact sh_22
  | 23, _ => exact sh_23
  | n + 24, h => omega
theorem shp_len (s : Shp) : (shpA s).length = 8 := by cases s; simp [shpA]
theorem shp_one (s : Shp) : (shpA s).all one = true := by cases s; simp [shpA, one, scalarV]
theorem shp_imms (s : Shp) : imms (shpA s) = true := by cases s; simp [shpA, imm, imms]
theorem shp_imm (s : Shp) : imm (.agg (shpA s)) = true := by cases s; simp [shpA, imm, imms]


theorem f75 (n : Int) : HV Try.prog 75 [.lit (.int .i8 n)] (.tup [.agg (shpA (ofS n)), .lit (.bool (ofS n).is)]) := by
  refine HV_of_awp mixed cf75 (by simp) rfl ?_ (by simp [imm, imms, shp_imms])
  unfold ac75 re75
  refine awp_env_i fun env hE => ?_; have e0 := hE 0; have e2 := hE 2; have e3 := hE 3; have e4 := hE 4; have e10 := hE 10; simp -implicitDefEqProofs only [push_cast] at e0 e2 e3 e4 e10; clear hE
  by_cases hn : n < 0 ∨ 24 ≤ n
  · rw [ofS_bad hn]
    repeat' (first | ((try clear hf); with_reducible refine awp_ops_g fun env K hE hK hf => ?_; have n0 := hE 0; have n2 := hE 2; have n3 := hE 3; have n4 := hE 4; have n10 := hE 10; simp -implicitDefEqProofs only [push_cast, reduceIte, Nat.reduceEqDiff, e0, e2, e3, e4, e10] at n0 n2 n3 n4 n10; clear hE e0 e2 e3 e4 e10; have e0 := n0; have e2 := n2; have e3 := n3; have e4 := n4; have e10 := n10; clear n0 n2 n3 n4 n10) | (with_reducible refine hK _ _ ?_; clear hK K) | (with_reducible refine awp_seq_i ?_) | (with_reducible refine seqK_n_i ?_) | (with_reducible refine awp_block_i ?_) | (with_reducible refine awp_skip_i ?_) | (with_reducible refine blockK_n_i ?_) | (with_reducible refine awp_ret_i ?_) | (with_reducible refine seqK_r_i ?_) | (with_reducible refine blockK_r_i ?_) | (with_reducible refine awp_exit_i ?_) | (with_reducible refine seqK_e_i ?_) | (with_reducible refine blockK_e_i ?_) | (with_reducible refine blockK_ne_i (by decide) ?_) | (with_reducible refine PostF_n_i ?_) | (with_reducible refine PostF_r_i ?_) | (with_reducible refine sep_nil_i ?_) | (refine awp_cond_e rfl ?_; simp -implicitDefEqProofs only [push_cast, eq_self, reduceIte, Nat.reduceEqDiff, reduceCtorEq, Nat.reduceAdd, Nat.reduceMul, Nat.reduceSub, Nat.reduceLeDiff, Int.reduceToNat, Int.reduceLE, Int.reduceLT, Int.reduceAdd, Int.reduceSub, Int.reduceMul, Int.reduceNeg, e0, e2, e3, e4, e10]) | (refine awp_cond_e rfl ?_) | (with_reducible refine condP_t ?_) | (with_reducible refine condP_f ?_) | (with_reducible refine condP_ta (by assumption) ?_) | (with_reducible refine condP_fa (by assumption) ?_) | (simp -implicitDefEqProofs only [push_cast, eq_self, reduceIte, Nat.reduceEqDiff, reduceCtorEq, Nat.reduceAdd, Nat.reduceMul, Nat.reduceSub, Nat.reduceLeDiff, Int.reduceToNat, Int.reduceLE, Int.reduceLT, Int.reduceAdd, Int.reduceSub, Int.reduceMul, Int.reduceNeg, e0, e2, e3, e4, e10]) | (simp -implicitDefEqProofs (disch := omega) only [push_epn, put_epn, kill_epn, wrap64', e0, e2, e3, e4, e10]) | ((with_reducible refine sep_i ?_ ?_); (clear hK; first | (simp -implicitDefEqProofs only [push_cast, eq_self, reduceIte, Nat.reduceEqDiff, reduceCtorEq, Nat.reduceAdd, Nat.reduceMul, Nat.reduceSub, Nat.reduceLeDiff, Int.reduceToNat, Int.reduceLE, Int.reduceLT, Int.reduceAdd, Int.reduceSub, Int.reduceMul, Int.reduceNeg, e0, e2, e3, e4, e10]; done) | (simp -implicitDefEqProofs (disch := omega) only [push_epn, put_epn, kill_epn, wrap64', e0, e2, e3, e4, e10]; done))) | (refine awpOps_gd rfl (fun bb => ?_) (fun bb => ?_) <;> simp -implicitDefEqProofs only [push_cast, eq_self, reduceIte, Nat.reduceEqDiff, reduceCtorEq, Nat.reduceAdd, Nat.reduceMul, Nat.reduceSub, Nat.reduceLeDiff, Int.reduceToNat, Int.reduceLE, Int.reduceLT, Int.reduceAdd, Int.reduceSub, Int.reduceMul, Int.reduceNeg, bb, e0, e2, e3, e4, e10]) | (with_reducible refine condP_in (fun bb => ?_) (fun bb => ?_)) | ((with_reducible refine And.intro ?_ ?_); omega) | fail)
    all_goals first | rfl | (exfalso; simp at *; omega) | skip
  · obtain ⟨i, rfl⟩ : ∃ i : Nat, n = i := ⟨n.toNat, by omega⟩
    have hi : i < 24 := by omega
    have hx : ofS (i : Int) = shpT i := by
      have := ofS_ok (n := i) (by omega)
      simpa using this
    rw [hx]
    have hs := shapes_at hi
    repeat' (first | ((try clear hf); with_reducible refine awp_ops_g fun env K hE hK hf => ?_; have n0 := hE 0; have n2 := hE 2; have n3 := hE 3; have n4 := hE 4; have n10 := hE 10; simp -implicitDefEqProofs only [push_cast, reduceIte, Nat.reduceEqDiff, e0, e2, e3, e4, e10] at n0 n2 n3 n4 n10; clear hE e0 e2 e3 e4 e10; have e0 := n0; have e2 := n2; have e3 := n3; have e4 := n4; have e10 := n10; clear n0 n2 n3 n4 n10) | (with_reducible refine hK _ _ ?_; clear hK K) | (with_reducible refine awp_seq_i ?_) | (with_reducible refine seqK_n_i ?_) | (with_reducible refine awp_block_i ?_) | (with_reducible refine awp_skip_i ?_) | (with_reducible refine blockK_n_i ?_) | (with_reducible refine awp_ret_i ?_) | (with_reducible refine seqK_r_i ?_) | (with_reducible refine blockK_r_i ?_) | (with_reducible refine awp_exit_i ?_) | (with_reducible refine seqK_e_i ?_) | (with_reducible refine blockK_e_i ?_) | (with_reducible refine blockK_ne_i (by decide) ?_) | (with_reducible refine PostF_n_i ?_) | (with_reducible refine PostF_r_i ?_) | (with_reducible refine sep_nil_i ?_) | (refine awp_cond_e rfl ?_; simp -implicitDefEqProofs only [push_cast, eq_self, reduceIte, Nat.reduceEqDiff, reduceCtorEq, Nat.reduceAdd, Nat.reduceMul, Nat.reduceSub, Nat.reduceLeDiff, Int.reduceToNat, Int.reduceLE, Int.reduceLT, Int.reduceAdd, Int.reduceSub, Int.reduceMul, Int.reduceNeg, e0, e2, e3, e4, e10, hs, shpA]) | (refine awp_cond_e rfl ?_) | (with_reducible refine condP_t ?_) | (with_reducible refine condP_f ?_) | (with_reducible refine condP_ta (by assumption) ?_) | (with_reducible refine condP_fa (by assumption) ?_) | (simp -implicitDefEqProofs only [push_cast, eq_self, reduceIte, Nat.reduceEqDiff, reduceCtorEq, Nat.reduceAdd, Nat.reduceMul, Nat.reduceSub, Nat.reduceLeDiff, Int.reduceToNat, Int.reduceLE, Int.reduceLT, Int.reduceAdd, Int.reduceSub, Int.reduceMul, Int.reduceNeg, e0, e2, e3, e4, e10, hs, shpA]) | (simp -implicitDefEqProofs (disch := omega) only [push_epn, put_epn, kill_epn, wrap64', e0, e2, e3, e4, e10, hs, shpA]) | ((with_reducible refine sep_i ?_ ?_); (clear hK; first | (simp -implicitDefEqProofs only [push_cast, eq_self, reduceIte, Nat.reduceEqDiff, reduceCtorEq, Nat.reduceAdd, Nat.reduceMul, Nat.reduceSub, Nat.reduceLeDiff, Int.reduceToNat, Int.reduceLE, Int.reduceLT, Int.reduceAdd, Int.reduceSub, Int.reduceMul, Int.reduceNeg, e0, e2, e3, e4, e10, hs, shpA]; done) | (simp -implicitDefEqProofs (disch := omega) only [push_epn, put_epn, kill_epn, wrap64', e0, e2, e3, e4, e10, hs, shpA]; done))) | (refine awpOps_gd rfl (fun bb => ?_) (fun bb => ?_) <;> simp -implicitDefEqProofs only [push_cast, eq_self, reduceIte, Nat.reduceEqDiff, reduceCtorEq, Nat.reduceAdd, Nat.reduceMul, Nat.reduceSub, Nat.reduceLeDiff, Int.reduceToNat, Int.reduceLE, Int.reduceLT, Int.reduceAdd, Int.reduceSub, Int.reduceMul, Int.reduceNeg, bb, e0, e2, e3, e4, e10, hs, shpA]) | (with_reducible refine condP_in (fun bb => ?_) (fun bb => ?_)) | ((with_reducible refine And.intro ?_ ?_); omega) | (refine call_imm f105 ?_) | fail)
    all_goals first | rfl | (exfalso; simp at *; omega) | skip
/-- A kind's class: the number, and whether there is one. -/
def clsS (n : Int) : Int × Bool := if (ofS n).is = true ∧ 0 ≤ (ofS n).cl then ((ofS n).cl, true) else (0, false)
theorem shp_cl (s : Shp) : (shpA s)[1]? = some (.lit (.int .i8 s.cl)) := by cases s; simp [shpA]
theorem shpT_cl (i : Nat) : IntKind.wrap .i64 (shpT i).cl = (shpT i).cl := by
  unfold shpT
  split <;> rfl
theorem ofS_cl (n : Int) : IntKind.wrap .i64 (ofS n).cl = (ofS n).cl := by
  unfold ofS
  split
  · rfl
  · exact shpT_cl _

theorem f41 (n : Int) : HV Try.prog 41 [.lit (.int .i8 n)] (.tup [.lit (.int .i64 (clsS n).1), .lit (.bool (clsS n).2)]) := by
  refine HV_of_awp mixed cf41 (by simp) rfl ?_ (by simp [imm, imms])
  unfold ac41 re41
  refine awp_env_i fun env hE => ?_; have e0 := hE 0; have e2 := hE 2; have e3 := hE 3; have e4 := hE 4; have e5 := hE 5; have e17 := hE 17; simp -implicitDefEqProofs only [push_cast] at e0 e2 e3 e4 e5 e17; clear hE
  have hw := ofS_cl n
  repeat' (first | ((try clear hf); with_reducible refine awp_ops_g fun env K hE hK hf => ?_; have n0 := hE 0; have n2 := hE 2; have n3 := hE 3; have n4 := hE 4; have n5 := hE 5; have n17 := hE 17; simp -implicitDefEqProofs only [push_cast, reduceIte, Nat.reduceEqDiff, e0, e2, e3, e4, e5, e17] at n0 n2 n3 n4 n5 n17; clear hE e0 e2 e3 e4 e5 e17; have e0 := n0; have e2 := n2; have e3 := n3; have e4 := n4; have e5 := n5; have e17 := n17; clear n0 n2 n3 n4 n5 n17) | (with_reducible refine hK _ _ ?_; clear hK K) | (with_reducible refine awp_seq_i ?_) | (with_reducible refine seqK_n_i ?_) | (with_reducible refine awp_block_i ?_) | (with_reducible refine awp_skip_i ?_) | (with_reducible refine blockK_n_i ?_) | (with_reducible refine awp_ret_i ?_) | (with_reducible refine seqK_r_i ?_) | (with_reducible refine blockK_r_i ?_) | (with_reducible refine awp_exit_i ?_) | (with_reducible refine seqK_e_i ?_) | (with_reducible refine blockK_e_i ?_) | (with_reducible refine blockK_ne_i (by decide) ?_) | (with_reducible refine PostF_n_i ?_) | (with_reducible refine PostF_r_i ?_) | (with_reducible refine sep_nil_i ?_) | (refine awp_cond_e rfl ?_; simp -implicitDefEqProofs only [push_cast, eq_self, reduceIte, Nat.reduceEqDiff, reduceCtorEq, Nat.reduceAdd, Nat.reduceMul, Nat.reduceSub, Nat.reduceLeDiff, Int.reduceToNat, Int.reduceLE, Int.reduceLT, Int.reduceAdd, Int.reduceSub, Int.reduceMul, Int.reduceNeg, e0, e2, e3, e4, e5, e17, hw, shpA]) | (refine awp_cond_e rfl ?_) | (with_reducible refine condP_t ?_) | (with_reducible refine condP_f ?_) | (with_reducible refine condP_ta (by assumption) ?_) | (with_reducible refine condP_fa (by assumption) ?_) | (simp -implicitDefEqProofs only [push_cast, eq_self, reduceIte, Nat.reduceEqDiff, reduceCtorEq, Nat.reduceAdd, Nat.reduceMul, Nat.reduceSub, Nat.reduceLeDiff, Int.reduceToNat, Int.reduceLE, Int.reduceLT, Int.reduceAdd, Int.reduceSub, Int.reduceMul, Int.reduceNeg, e0, e2, e3, e4, e5, e17, hw, shpA]) | (simp -implicitDefEqProofs (disch := omega) only [push_epn, put_epn, kill_epn, wrap64', e0, e2, e3, e4, e5, e17, hw, shpA]) | ((with_reducible refine sep_i ?_ ?_); (clear hK; first | (simp -implicitDefEqProofs only [push_cast, eq_self, reduceIte, Nat.reduceEqDiff, reduceCtorEq, Nat.reduceAdd, Nat.reduceMul, Nat.reduceSub, Nat.reduceLeDiff, Int.reduceToNat, Int.reduceLE, Int.reduceLT, Int.reduceAdd, Int.reduceSub, Int.reduceMul, Int.reduceNeg, e0, e2, e3, e4, e5, e17, hw, shpA]; done) | (simp -implicitDefEqProofs (disch := omega) only [push_epn, put_epn, kill_epn, wrap64', e0, e2, e3, e4, e5, e17, hw, shpA]; done))) | (refine awpOps_gd rfl (fun bb => ?_) (fun bb => ?_) <;> simp -implicitDefEqProofs only [push_cast, eq_self, reduceIte, Nat.reduceEqDiff, reduceCtorEq, Nat.reduceAdd, Nat.reduceMul, Nat.reduceSub, Nat.reduceLeDiff, Int.reduceToNat, Int.reduceLE, Int.reduceLT, Int.reduceAdd, Int.reduceSub, Int.reduceMul, Int.reduceNeg, bb, e0, e2, e3, e4, e5, e17, hw, shpA]) | (with_reducible refine condP_in (fun bb => ?_) (fun bb => ?_)) | ((with_reducible refine And.intro ?_ ?_); omega) | (refine call_imm (f75 n) ?_) | fail)
  all_goals (have hx : clsS n = clsS n := rfl; conv at hx => rhs; unfold clsS)
  all_goals rw [hx]; simp at *; first | (simp [*]; done) | (rw [if_neg (by simp [*])]; simp) | skip
def sgn32 (u : Int) : Int := (IntKind.wrap .i64 (IntKind.wrap .u64 (u * 2 ^ 32))).fdiv (2 ^ 32)
theorem bin_shl32 (u : Int) : binV .shl (.lit (.int .u64 u)) (.lit (.int .u8 32)) = some (.lit (.int .u64 (IntKind.wrap .u64 (u * 2 ^ 32)))) := rfl
theorem bin_shr32 (u : Int) : binV .shr (.lit (.int .i64 u)) (.lit (.int .u8 32)) = some (.lit (.int .i64 (u.fdiv (2 ^ 32)))) := rfl

theorem f123 (u : Int) : HV Try.prog 123 [.lit (.int .u64 u), .lit (.int .i64 32)] (.lit (.int .i64 (sgn32 u))) := by
  refine HV_of_awp mixed cf123 (by simp) rfl ?_ rfl
  unfold ac123 re123
  refine awp_env_i fun env hE => ?_; have e0 := hE 0; have e1 := hE 1; have e4 := hE 4; have e5 := hE 5; simp -implicitDefEqProofs only [push_cast] at e0 e1 e4 e5; clear hE
  have k1 : IntKind.wrap .i64 (64 - 32) = 32 := rfl
  have k2 : IntKind.wrap .u8 32 = 32 := rfl
  have k3 : maxV [AV.lit (.int .i64 32), AV.lit (.int .i64 1)] = some (.lit (.int .i64 32)) := rfl
  have k4 : minV [AV.lit (.int .i64 32), AV.lit (.int .i64 64)] = some (.lit (.int .i64 32)) := rfl
  repeat' (first | ((try clear hf); with_reducible refine awp_ops_g fun env K hE hK hf => ?_; have n0 := hE 0; have n1 := hE 1; have n4 := hE 4; have n5 := hE 5; simp -implicitDefEqProofs only [push_cast, reduceIte, Nat.reduceEqDiff, e0, e1, e4, e5] at n0 n1 n4 n5; clear hE e0 e1 e4 e5; have e0 := n0; have e1 := n1; have e4 := n4; have e5 := n5; clear n0 n1 n4 n5) | (with_reducible refine hK _ _ ?_; clear hK K) | (with_reducible refine awp_seq_i ?_) | (with_reducible refine seqK_n_i ?_) | (with_reducible refine awp_block_i ?_) | (with_reducible refine awp_skip_i ?_) | (with_reducible refine blockK_n_i ?_) | (with_reducible refine awp_ret_i ?_) | (with_reducible refine seqK_r_i ?_) | (with_reducible refine blockK_r_i ?_) | (with_reducible refine awp_exit_i ?_) | (with_reducible refine seqK_e_i ?_) | (with_reducible refine blockK_e_i ?_) | (with_reducible refine blockK_ne_i (by decide) ?_) | (with_reducible refine PostF_n_i ?_) | (with_reducible refine PostF_r_i ?_) | (with_reducible refine sep_nil_i ?_) | (refine awp_cond_e rfl ?_; simp -implicitDefEqProofs only [push_cast, eq_self, reduceIte, Nat.reduceEqDiff, reduceCtorEq, Nat.reduceAdd, Nat.reduceMul, Nat.reduceSub, Nat.reduceLeDiff, Int.reduceToNat, Int.reduceLE, Int.reduceLT, Int.reduceAdd, Int.reduceSub, Int.reduceMul, Int.reduceNeg, e0, e1, e4, e5, k1, k2, k3, k4, bin_shl32, bin_shr32]) | (refine awp_cond_e rfl ?_) | (with_reducible refine condP_t ?_) | (with_reducible refine condP_f ?_) | (with_reducible refine condP_ta (by assumption) ?_) | (with_reducible refine condP_fa (by assumption) ?_) | (simp -implicitDefEqProofs only [push_cast, eq_self, reduceIte, Nat.reduceEqDiff, reduceCtorEq, Nat.reduceAdd, Nat.reduceMul, Nat.reduceSub, Nat.reduceLeDiff, Int.reduceToNat, Int.reduceLE, Int.reduceLT, Int.reduceAdd, Int.reduceSub, Int.reduceMul, Int.reduceNeg, e0, e1, e4, e5, k1, k2, k3, k4, bin_shl32, bin_shr32]) | (simp -implicitDefEqProofs (disch := omega) only [push_epn, put_epn, kill_epn, wrap64', e0, e1, e4, e5, k1, k2, k3, k4, bin_shl32, bin_shr32]) | ((with_reducible refine sep_i ?_ ?_); (clear hK; first | (simp -implicitDefEqProofs only [push_cast, eq_self, reduceIte, Nat.reduceEqDiff, reduceCtorEq, Nat.reduceAdd, Nat.reduceMul, Nat.reduceSub, Nat.reduceLeDiff, Int.reduceToNat, Int.reduceLE, Int.reduceLT, Int.reduceAdd, Int.reduceSub, Int.reduceMul, Int.reduceNeg, e0, e1, e4, e5, k1, k2, k3, k4, bin_shl32, bin_shr32]; done) | (simp -implicitDefEqProofs (disch := omega) only [push_epn, put_epn, kill_epn, wrap64', e0, e1, e4, e5, k1, k2, k3, k4, bin_shl32, bin_shr32]; done))) | (refine awpOps_gd rfl (fun bb => ?_) (fun bb => ?_) <;> simp -implicitDefEqProofs only [push_cast, eq_self, reduceIte, Nat.reduceEqDiff, reduceCtorEq, Nat.reduceAdd, Nat.reduceMul, Nat.reduceSub, Nat.reduceLeDiff, Int.reduceToNat, Int.reduceLE, Int.reduceLT, Int.reduceAdd, Int.reduceSub, Int.reduceMul, Int.reduceNeg, bb, e0, e1, e4, e5, k1, k2, k3, k4, bin_shl32, bin_shr32]) | (with_reducible refine condP_in (fun bb => ?_) (fun bb => ?_)) | ((with_reducible refine And.intro ?_ ?_); omega) | fail)
  rfl
theorem sgn32_eq (x : Int) (h1 : -9223372036854775808 ≤ x) (h2 : x ≤ 9223372036854775807) : decide (sgn32 (IntKind.wrap .u64 x) = x) = decide (-2147483648 ≤ x ∧ x ≤ 2147483647) := by
  unfold sgn32
  simp only [IntKind.wrap, IntKind.bits, IntKind.signed, Bool.true_and, Bool.false_and, decide_eq_true_eq, ge_iff_le, Bool.false_eq_true, if_false]
  rw [Int.fdiv_eq_ediv_of_nonneg _ (by decide)]
  apply decide_eq_decide.2
  split <;> omega

theorem f110 (x : Int) (h1 : -9223372036854775808 ≤ x) (h2 : x ≤ 9223372036854775807) : HV Try.prog 110 [.lit (.int .i64 x), .lit (.int .i64 32)] (.lit (.bool (decide (-2147483648 ≤ x ∧ x ≤ 2147483647)))) := by
  refine HV_of_awp mixed cf110 (by simp) rfl ?_ rfl
  unfold ac110 re110
  refine awp_env_i fun env hE => ?_; have e0 := hE 0; have e1 := hE 1; have e4 := hE 4; simp -implicitDefEqProofs only [push_cast] at e0 e1 e4; clear hE
  repeat' (first | ((try clear hf); with_reducible refine awp_ops_g fun env K hE hK hf => ?_; have n0 := hE 0; have n1 := hE 1; have n4 := hE 4; simp -implicitDefEqProofs only [push_cast, reduceIte, Nat.reduceEqDiff, e0, e1, e4] at n0 n1 n4; clear hE e0 e1 e4; have e0 := n0; have e1 := n1; have e4 := n4; clear n0 n1 n4) | (with_reducible refine hK _ _ ?_; clear hK K) | (with_reducible refine awp_seq_i ?_) | (with_reducible refine seqK_n_i ?_) | (with_reducible refine awp_block_i ?_) | (with_reducible refine awp_skip_i ?_) | (with_reducible refine blockK_n_i ?_) | (with_reducible refine awp_ret_i ?_) | (with_reducible refine seqK_r_i ?_) | (with_reducible refine blockK_r_i ?_) | (with_reducible refine awp_exit_i ?_) | (with_reducible refine seqK_e_i ?_) | (with_reducible refine blockK_e_i ?_) | (with_reducible refine blockK_ne_i (by decide) ?_) | (with_reducible refine PostF_n_i ?_) | (with_reducible refine PostF_r_i ?_) | (with_reducible refine sep_nil_i ?_) | (refine awp_cond_e rfl ?_; simp -implicitDefEqProofs only [push_cast, eq_self, reduceIte, Nat.reduceEqDiff, reduceCtorEq, Nat.reduceAdd, Nat.reduceMul, Nat.reduceSub, Nat.reduceLeDiff, Int.reduceToNat, Int.reduceLE, Int.reduceLT, Int.reduceAdd, Int.reduceSub, Int.reduceMul, Int.reduceNeg, e0, e1, e4, sgn32_eq x h1 h2]) | (refine awp_cond_e rfl ?_) | (with_reducible refine condP_t ?_) | (with_reducible refine condP_f ?_) | (with_reducible refine condP_ta (by assumption) ?_) | (with_reducible refine condP_fa (by assumption) ?_) | (simp -implicitDefEqProofs only [push_cast, eq_self, reduceIte, Nat.reduceEqDiff, reduceCtorEq, Nat.reduceAdd, Nat.reduceMul, Nat.reduceSub, Nat.reduceLeDiff, Int.reduceToNat, Int.reduceLE, Int.reduceLT, Int.reduceAdd, Int.reduceSub, Int.reduceMul, Int.reduceNeg, e0, e1, e4, sgn32_eq x h1 h2]) | (simp -implicitDefEqProofs (disch := omega) only [push_epn, put_epn, kill_epn, wrap64', e0, e1, e4, sgn32_eq x h1 h2]) | ((with_reducible refine sep_i ?_ ?_); (clear hK; first | (simp -implicitDefEqProofs only [push_cast, eq_self, reduceIte, Nat.reduceEqDiff, reduceCtorEq, Nat.reduceAdd, Nat.reduceMul, Nat.reduceSub, Nat.reduceLeDiff, Int.reduceToNat, Int.reduceLE, Int.reduceLT, Int.reduceAdd, Int.reduceSub, Int.reduceMul, Int.reduceNeg, e0, e1, e4, sgn32_eq x h1 h2]; done) | (simp -implicitDefEqProofs (disch := omega) only [push_epn, put_epn, kill_epn, wrap64', e0, e1, e4, sgn32_eq x h1 h2]; done))) | (refine awpOps_gd rfl (fun bb => ?_) (fun bb => ?_) <;> simp -implicitDefEqProofs only [push_cast, eq_self, reduceIte, Nat.reduceEqDiff, reduceCtorEq, Nat.reduceAdd, Nat.reduceMul, Nat.reduceSub, Nat.reduceLeDiff, Int.reduceToNat, Int.reduceLE, Int.reduceLT, Int.reduceAdd, Int.reduceSub, Int.reduceMul, Int.reduceNeg, bb, e0, e1, e4, sgn32_eq x h1 h2]) | (with_reducible refine condP_in (fun bb => ?_) (fun bb => ?_)) | ((with_reducible refine And.intro ?_ ?_); omega) | (refine call_imm (f123 _) ?_) | fail)
structure Opn where
  k : Int
  d : Int
  a : Int
  b : Int
  im : Int
def opC (o : Opn) : List AV := [.lit (.int .i8 o.k), .lit (.int .u8 o.d), .lit (.int .u8 o.a), .lit (.int .u8 o.b), .lit (.int .i64 o.im)]
/-- An operation that is one. -/
def chkP (o : Opn) : Prop := (ofS o.k).is = true ∧ o.d ≤ 31 ∧ o.a ≤ 31 ∧ o.b ≤ 31 ∧ (-2147483648 ≤ o.im ∧ o.im ≤ 2147483647) ∧ ((ofS o.k).d = true ∨ o.d = 0) ∧ ((ofS o.k).a = true ∨ o.a = 0) ∧ ((ofS o.k).b = true ∨ (ofS o.k).n = true ∨ o.b = 0) ∧ ((ofS o.k).im = true ∨ o.im = 0)
instance (o : Opn) : Decidable (chkP o) := by unfold chkP; infer_instance
def chkE (o : Opn) : Int := if chkP o then 0 else 30
theorem chkE_bad {o : Opn} (h : ¬ chkP o) : chkE o = 30 := by simp [chkE, h]
theorem chkE_ok {o : Opn} (h : chkP o) : chkE o = 0 := by simp [chkE, h]
theorem op_0 (o : Opn) : (opC o)[0]? = some (.lit (.int .i8 o.k)) := rfl
theorem op_1 (o : Opn) : (opC o)[1]? = some (.lit (.int .u8 o.d)) := rfl
theorem op_2 (o : Opn) : (opC o)[2]? = some (.lit (.int .u8 o.a)) := rfl
theorem op_3 (o : Opn) : (opC o)[3]? = some (.lit (.int .u8 o.b)) := rfl
theorem op_4 (o : Opn) : (opC o)[4]? = some (.lit (.int .i64 o.im)) := rfl

set_option maxHeartbeats 4000000 in
theorem f87 (o : Opn) (h1' : -9223372036854775808 ≤ o.im) (h2' : o.im ≤ 9223372036854775807) : HV Try.prog 87 [.agg (opC o)] (.lit (.int .i64 (chkE o))) := by
  refine HV_of_awp mixed cf87 (by simp) rfl ?_ rfl
  unfold ac87 re87
  refine awp_env_i fun env hE => ?_; have e0 := hE 0; have e1 := hE 1; have e2 := hE 2; have e3 := hE 3; have e4 := hE 4; have e11 := hE 11; have e27 := hE 27; simp -implicitDefEqProofs only [push_cast] at e0 e1 e2 e3 e4 e11 e27; clear hE
  repeat' (first | ((try clear hf); with_reducible refine awp_ops_g fun env K hE hK hf => ?_; have n0 := hE 0; have n1 := hE 1; have n2 := hE 2; have n3 := hE 3; have n4 := hE 4; have n11 := hE 11; have n27 := hE 27; simp -implicitDefEqProofs only [push_cast, reduceIte, Nat.reduceEqDiff, e0, e1, e2, e3, e4, e11, e27] at n0 n1 n2 n3 n4 n11 n27; clear hE e0 e1 e2 e3 e4 e11 e27; have e0 := n0; have e1 := n1; have e2 := n2; have e3 := n3; have e4 := n4; have e11 := n11; have e27 := n27; clear n0 n1 n2 n3 n4 n11 n27) | (with_reducible refine hK _ _ ?_; clear hK K) | (with_reducible refine awp_seq_i ?_) | (with_reducible refine seqK_n_i ?_) | (with_reducible refine awp_block_i ?_) | (with_reducible refine awp_skip_i ?_) | (with_reducible refine blockK_n_i ?_) | (with_reducible refine awp_ret_i ?_) | (with_reducible refine seqK_r_i ?_) | (with_reducible refine blockK_r_i ?_) | (with_reducible refine awp_exit_i ?_) | (with_reducible refine seqK_e_i ?_) | (with_reducible refine blockK_e_i ?_) | (with_reducible refine blockK_ne_i (by decide) ?_) | (with_reducible refine PostF_n_i ?_) | (with_reducible refine PostF_r_i ?_) | (with_reducible refine sep_nil_i ?_) | (refine awp_cond_e rfl ?_; simp -implicitDefEqProofs only [push_cast, eq_self, reduceIte, Nat.reduceEqDiff, reduceCtorEq, Nat.reduceAdd, Nat.reduceMul, Nat.reduceSub, Nat.reduceLeDiff, Int.reduceToNat, Int.reduceLE, Int.reduceLT, Int.reduceAdd, Int.reduceSub, Int.reduceMul, Int.reduceNeg, e0, e1, e2, e3, e4, e11, e27, shpA, opC]) | (refine awp_cond_e rfl ?_) | (with_reducible refine condP_t ?_) | (with_reducible refine condP_f ?_) | (with_reducible refine condP_ta (by assumption) ?_) | (with_reducible refine condP_fa (by assumption) ?_) | (simp -implicitDefEqProofs only [push_cast, eq_self, reduceIte, Nat.reduceEqDiff, reduceCtorEq, Nat.reduceAdd, Nat.reduceMul, Nat.reduceSub, Nat.reduceLeDiff, Int.reduceToNat, Int.reduceLE, Int.reduceLT, Int.reduceAdd, Int.reduceSub, Int.reduceMul, Int.reduceNeg, e0, e1, e2, e3, e4, e11, e27, shpA, opC]) | (simp -implicitDefEqProofs (disch := omega) only [push_epn, put_epn, kill_epn, wrap64', e0, e1, e2, e3, e4, e11, e27, shpA, opC]) | ((with_reducible refine sep_i ?_ ?_); (clear hK; first | (simp -implicitDefEqProofs only [push_cast, eq_self, reduceIte, Nat.reduceEqDiff, reduceCtorEq, Nat.reduceAdd, Nat.reduceMul, Nat.reduceSub, Nat.reduceLeDiff, Int.reduceToNat, Int.reduceLE, Int.reduceLT, Int.reduceAdd, Int.reduceSub, Int.reduceMul, Int.reduceNeg, e0, e1, e2, e3, e4, e11, e27, shpA, opC]; done) | (simp -implicitDefEqProofs (disch := omega) only [push_epn, put_epn, kill_epn, wrap64', e0, e1, e2, e3, e4, e11, e27, shpA, opC]; done))) | (refine awpOps_gd rfl (fun bb => ?_) (fun bb => ?_) <;> simp -implicitDefEqProofs only [push_cast, eq_self, reduceIte, Nat.reduceEqDiff, reduceCtorEq, Nat.reduceAdd, Nat.reduceMul, Nat.reduceSub, Nat.reduceLeDiff, Int.reduceToNat, Int.reduceLE, Int.reduceLT, Int.reduceAdd, Int.reduceSub, Int.reduceMul, Int.reduceNeg, bb, e0, e1, e2, e3, e4, e11, e27, shpA, opC]) | (with_reducible refine condP_in (fun bb => ?_) (fun bb => ?_)) | ((with_reducible refine And.intro ?_ ?_); omega) | (refine call_imm (f75 o.k) ?_) | (refine call_imm (f110 o.im h1' h2') ?_) | fail)
  all_goals ((try clear hf); (try clear e0 e1 e2 e3 e4 e11 e27); simp only [chkE, chkP]; simp at *; simp [*]; try omega)
end Go.Proofs.Hx
