import Derived.Test.YtcdibfkebojefaaX14
import Derived.Test.YtcdibfkebojefaaX4
set_option linter.unusedVariables false
set_option linter.unusedSimpArgs false
namespace Go.Proofs.Hx
open Go Go.Proofs
attribute [local irreducible] awpOps awp opK goV goM callG endOps awpOp runOp HV HVF HC
/-- The finder, made. -/
theorem FinW.finH {h0 h : Hp} {F : Id} {l : List Opn} {t : Tab} {a b : AV} (w : FinW h0 h F l t l.length a b) (hp : 0 < l.length) : ∃ rid did, FinH h F l t [] rid did .nil := by
  rcases w.st with ⟨h1, _, _⟩ | ⟨re, rs, de, ds, rfl, rfl, e1, e2, e3, e4, e5, e6, e7, e8, e9⟩
  · omega
  · rw [List.take_length] at e1 e2
    exact ⟨(re, rs), (de, ds), w.fin, e1, e2, .inl ⟨rfl, rfl⟩, w.eF, e3, e4, e5, e6, e7, fun id h => by simp [idOf] at h⟩
theorem call_nf {d : Option Nat} {K : St → Prop} {env : Nat → AV} {g : Hp} {l : List Opn} {t : Tab} (hl : ∀ o ∈ l, o.ok) (hn : l.length ≤ 1024)
    (k : ∀ h' F a b, FinW g h' F l t l.length a b → Fresh h' → K ⟨putA env d (.ptr F 0), h'.tick⟩) :
    callG Try.prog d K env g false (.fn 65 []) [.row (l.map opC), .agg (tabC t)] :=
  call_hc (HC.mono (f65 hl hn) fun r h' ⟨F, a, b, hr, w⟩ hf => by rw [hr]; exact k h' F a b w hf)
theorem call_once {d : Option Nat} {K : St → Prop} {env : Nat → AV} {g : Hp} {F : Id} {l : List Opn} {t : Tab} {rid did : Id} (hX : FinH g F l t [] rid did .nil) (hl : ∀ o ∈ l, o.ok) (ht : tabOK t) (hn : l.length ≤ 1024)
    (k : ∀ h' out', FinH h' F l t (onceE l t l.length) rid did out' → Fresh h' → FS g F .nil h' out' → K ⟨putA env d (.tup []), h'.tick⟩) :
    callG Try.prog d K env g false (.fn 66 []) [.ptr F 0] :=
  call_hc (HC.mono (f66 hX (fun x h => by simp [idOf] at h) hl ht hn) fun r h' ⟨hr, out', h1, h2⟩ hf => by rw [hr]; exact k h' out' h1 hf h2)
theorem Ext.tr {h g k : Hp} (a : Ext h g) (b : Ext g k) : Ext h k := ⟨Nat.le_trans a.1 b.1, fun x hx => (b.2 x (Nat.le_trans hx a.1)).trans (a.2 x hx)⟩
theorem Ext.le {h g : Hp} (a : Ext h g) : h.ep ≤ g.ep := a.1
set_option maxHeartbeats 1000000 in
theorem f40 {h0 : Hp} {l : List Opn} {t : Tab} (hl : ∀ o ∈ l, o.ok) (ht : tabOK t) (hn : l.length ≤ 1024) (hp : 0 < l.length) (hR : errR l t = 0) :
    HC Try.prog 40 [.row (l.map opC), .agg (tabC t)] h0 fun r h' => ∃ out, r = .tup [out, i64 0] ∧ OutR h' out (onceE l t l.length) ∧ Ext h0 h' := by
  refine HC_of_awp mixed cf40 (by simp) fun hF => ?_
  unfold ac40 re40
  refine awp_env_i fun env hE => ?_; have e0 := hE 0; have e1 := hE 1; have e3 := hE 3; have e4 := hE 4; have e5 := hE 5; have e6 := hE 6; have e7 := hE 7; have e12 := hE 12; simp -implicitDefEqProofs only [push_cast] at e0 e1 e3 e4 e5 e6 e7 e12; clear hE
  have hr := f64 l t hl
  rw [hR] at hr
  have hb := hR
  have h16 : ∀ l t a b o, (finC l t a b o)[16]? = some o := fun _ _ _ _ _ => rfl
  repeat' (first | ((try clear hf); with_reducible refine awp_ops_g fun env K hE hK hf => ?_; have n0 := hE 0; have n1 := hE 1; have n3 := hE 3; have n4 := hE 4; have n5 := hE 5; have n6 := hE 6; have n7 := hE 7; have n12 := hE 12; simp -implicitDefEqProofs only [push_cast, reduceIte, Nat.reduceEqDiff, e0, e1, e3, e4, e5, e6, e7, e12] at n0 n1 n3 n4 n5 n6 n7 n12; clear hE e0 e1 e3 e4 e5 e6 e7 e12; have e0 := n0; have e1 := n1; have e3 := n3; have e4 := n4; have e5 := n5; have e6 := n6; have e7 := n7; have e12 := n12; clear n0 n1 n3 n4 n5 n6 n7 n12) | (with_reducible refine hK _ _ ?_; clear hK K) | (with_reducible refine awp_seq_i ?_) | (with_reducible refine seqK_n_i ?_) | (with_reducible refine awp_block_i ?_) | (with_reducible refine awp_skip_i ?_) | (with_reducible refine blockK_n_i ?_) | (with_reducible refine awp_ret_i ?_) | (with_reducible refine seqK_r_i ?_) | (with_reducible refine blockK_r_i ?_) | (with_reducible refine awp_exit_i ?_) | (with_reducible refine seqK_e_i ?_) | (with_reducible refine blockK_e_i ?_) | (with_reducible refine blockK_ne_i (by decide) ?_) | (with_reducible refine PostF_n_i ?_) | (with_reducible refine PostF_r_i ?_) | (with_reducible refine sep_nil_i ?_) | (refine awp_cond_e rfl ?_; simp -implicitDefEqProofs only [push_cast, eq_self, reduceIte, Nat.reduceEqDiff, reduceCtorEq, Nat.reduceAdd, Nat.reduceMul, Nat.reduceSub, Nat.reduceLeDiff, Int.reduceToNat, Int.reduceLE, Int.reduceLT, Int.reduceAdd, Int.reduceSub, Int.reduceMul, Int.reduceNeg, e0, e1, e3, e4, e5, e6, e7, e12, hF.at, hb, h16]) | (refine awp_cond_e rfl ?_) | (with_reducible refine condP_t ?_) | (with_reducible refine condP_f ?_) | (with_reducible refine condP_ta (by assumption) ?_) | (with_reducible refine condP_fa (by assumption) ?_) | (simp -implicitDefEqProofs only [push_cast, eq_self, reduceIte, Nat.reduceEqDiff, reduceCtorEq, Nat.reduceAdd, Nat.reduceMul, Nat.reduceSub, Nat.reduceLeDiff, Int.reduceToNat, Int.reduceLE, Int.reduceLT, Int.reduceAdd, Int.reduceSub, Int.reduceMul, Int.reduceNeg, e0, e1, e3, e4, e5, e6, e7, e12, hF.at, hb, h16]) | (simp -implicitDefEqProofs (disch := omega) only [push_epn, put_epn, kill_epn, wrap64', e0, e1, e3, e4, e5, e6, e7, e12, hF.at, hb, h16]) | ((with_reducible refine sep_i ?_ ?_); (clear hK; first | (simp -implicitDefEqProofs only [push_cast, eq_self, reduceIte, Nat.reduceEqDiff, reduceCtorEq, Nat.reduceAdd, Nat.reduceMul, Nat.reduceSub, Nat.reduceLeDiff, Int.reduceToNat, Int.reduceLE, Int.reduceLT, Int.reduceAdd, Int.reduceSub, Int.reduceMul, Int.reduceNeg, e0, e1, e3, e4, e5, e6, e7, e12, hF.at, hb, h16]; done) | (simp -implicitDefEqProofs (disch := omega) only [push_epn, put_epn, kill_epn, wrap64', e0, e1, e3, e4, e5, e6, e7, e12, hF.at, hb, h16]; done))) | (refine awpOps_gd rfl (fun bb => ?_) (fun bb => ?_) <;> simp -implicitDefEqProofs only [push_cast, eq_self, reduceIte, Nat.reduceEqDiff, reduceCtorEq, Nat.reduceAdd, Nat.reduceMul, Nat.reduceSub, Nat.reduceLeDiff, Int.reduceToNat, Int.reduceLE, Int.reduceLT, Int.reduceAdd, Int.reduceSub, Int.reduceMul, Int.reduceNeg, bb, e0, e1, e3, e4, e5, e6, e7, e12, hF.at, hb, h16]) | (with_reducible refine condP_in (fun bb => ?_) (fun bb => ?_)) | ((with_reducible refine And.intro ?_ ?_); omega) | (refine call_imm hr ?_) | (refine call_nf hl hn ?_; intro h F a b w hF; have hx0 : Ext h0 h := Ext.tr (by repeat (first | exact Ext.refl _ | refine Ext.tick ?_ | refine Ext.push ?_ (by omega) _)) w.ex; have lF : h0.ep < F.1 := Nat.lt_of_le_of_lt (Ext.le (by repeat (first | exact Ext.refl _ | refine Ext.tick ?_ | refine Ext.push ?_ (by omega) _))) w.lF; obtain ⟨rid, did, hX⟩ := w.finH hp; have hb := hX.fin) | (refine call_once (hX.ext (by repeat (first | exact Ext.refl _ | refine Ext.tick ?_))) hl ht hn ?_; intro h out hX hF hS; have hb := hX.fin) | fail)
  refine ⟨out, rfl, (hX.ext (by repeat (first | exact Ext.refl _ | refine Ext.tick ?_))).outr, ?_⟩
  have hE : Ext h0 h := ⟨Nat.le_trans hx0.1 (Nat.le_trans (Nat.le_trans (Nat.le_succ _) (Nat.le_succ _)) hS.1), fun x hx => ((hS.2 x (Nat.le_trans hx (Nat.le_trans hx0.1 (Nat.le_trans (Nat.le_succ _) (Nat.le_succ _)))) (fun e => by rw [e] at hx; omega) (by simp [idOf])).1).trans (hx0.2 x hx)⟩
  repeat (first | exact hE | refine Ext.tick ?_)
end Go.Proofs.Hx
