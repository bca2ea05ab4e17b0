import Derived.Test.YtcdibfkebojefaaX6
import Derived.Test.YtcdibfkebojefaaW26
set_option linter.unusedVariables false
set_option linter.unusedSimpArgs false
namespace Go.Proofs.Hx
open Go Go.Proofs
attribute [local irreducible] awpOps awp opK goV goM callG endOps awpOp runOp HV HVF HC
theorem flat_len {l : List Opn} : (l.flatMap opC).length = l.length * 5 := by
  induction l with
  | nil => rfl
  | cons o l ih => rw [List.flatMap_cons, List.length_append, ih, opC_len, List.length_cons]; omega
theorem flat_imms {l : List Opn} : imms (l.flatMap opC) = true := by
  induction l with
  | nil => rfl
  | cons o l ih => simp only [List.flatMap_cons]; exact imms_app (opC_imms o) ih
theorem flat_one {l : List Opn} : (l.flatMap opC).all one = true := by
  induction l with
  | nil => rfl
  | cons o l ih => simp only [List.flatMap_cons, List.all_append, ih, opC_one, Bool.and_self]
theorem app_row (h : Hp) (l : List Opn) : appSrc h 5 (.row (l.map opC)) = some (l.length, l.flatMap opC) := by
  rw [appSrc_row _ fun x hx => by simp at hx; obtain ⟨o, _, rfl⟩ := hx; rfl]
  simp [List.flatMap_def]
theorem app_new (h : Hp) (id : Id) {l : List Opn} (h0 : l ≠ []) (h1 : l.length ≤ 10000) : appV h id 5 16 l.length (l.flatMap opC) .nil = some (.sl id 0 l.length 5, h.push id (l.flatMap opC)) :=
  appV_nil _ _ (by simpa using h0) (by omega)
theorem app_more (h : Hp) (id t : Id) {l : List Opn} (o : Opn) (h1 : l.length ≤ 10000) (hb : h.hp t = some ⟨true, l.flatMap opC⟩) :
    appV h id 5 16 1 (opC o) (.sl t 0 l.length 5) = some (.sl id 0 (l.length + 1) 5, (h.kill t).push id ((l ++ [o]).flatMap opC)) := by
  rw [appV_sl _ _ hb (opC_one o) (by omega), List.drop_zero, ← flat_len, List.take_length]
  simp
theorem app_one (h : Hp) (id : Id) (o : Opn) : appV h id 5 16 1 (opC o) .nil = some (.sl id 0 1 5, h.push id (opC o)) := appV_nil _ _ (by decide) (by decide)
theorem lend_ops (h : Hp) (id : Id) (l : List Opn) (hb : h.hp id = some ⟨true, l.flatMap opC⟩) : lend fuelL h (.sl id 0 l.length 5) = some (.row (l.map opC)) := by
  rw [lend_sl hb flat_imms (by rw [flat_len]; omega), List.drop_zero, ← flat_len, List.take_length, chunks_map opC 5 opC_len]
theorem flat1 (o : Opn) : [o].flatMap opC = opC o := by simp
theorem call_opsq {P : Program} {d : Option Nat} {K : St → Prop} {env : Nat → AV} {h : Hp} {g n : Nat} {id : Id} {l : List Opn} {t : Tab} {r : AV} (hb : h.hp id = some ⟨true, l.flatMap opC⟩) (hn : l.length = n)
    (hv : HV P g [.row (l.map opC), .agg (tabC t)] r) (hr : flat r = true) (k : K ⟨putA env d r, h⟩) : callG P d K env h true (.fn g []) [.sl id 0 n 5, .agg (tabC t)] := by
  subst hn
  refine call_lendq (args' := [.row (l.map opC), .agg (tabC t)]) ?_ hv hr k
  simp only [List.append_nil, mapO_cons, mapO_nil, lend_ops h id l hb, Option.bind_some, Option.map_some, lend_agg _ _ _ (tab_imms t)]
def law5P (class_ : Int) : Nat := ((class_.tmod 4 + 4).tmod 4).toNat
theorem law5P_lt (c : Int) : law5P c < 4 ∧ (c.tmod 4 + 4).tmod 4 = (law5P c : Int) := by
  have h1 := Int.lt_tmod_of_pos c (by decide : (0 : Int) < 4)
  have h2 := Int.tmod_lt_of_pos c (by decide : (0 : Int) < 4)
  have h3 : (c.tmod 4 + 4).tmod 4 = (c.tmod 4 + 4) % 4 := Int.tmod_eq_emod_of_nonneg (by omega)
  unfold law5P
  rw [h3]
  omega
end Go.Proofs.Hx
