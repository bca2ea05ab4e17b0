import Derived.Test.YtdpaimmheoconaaG10
import Derived.Test.YtdpaimmheoconaaW29
import Derived.Test.YtdpaimmheoconaaG7
import Derived.Test.YtdpaimmheoconaaG9
set_option linter.unusedVariables false
set_option linter.unusedSimpArgs false
namespace Go.Proofs.Hx
open Go Go.Proofs
attribute [local irreducible] yR awp opK goV goM qB yW qE yT HV HVF HC
theorem wT_imm : imm wT = true := rfl
theorem lend_wB {h : Hp} {id : Id} (hb : h.hp id = some ⟨true, wOp⟩) (e a : Int) : lend YW h (wB (.sl id 0 1 5) e a) = some (wB (.row [wOp]) e a) := by
 simp [YW, lend, wB, imm, imms, hb, mapO, YO, wOp, wI]
theorem lend_w1 {h : Hp} {id : Id} {n : Int} (hb : h.hp id = some ⟨true, [wI n]⟩) : lend YW h (.sl id 0 1 1) = some (.row [[wI n]]) := by
 simp [YW, lend, imm, imms, hb, mapO, YO, wI]
theorem call_w {d : Option Nat} {K : St → Prop} {env : Nat → AV} {h : Hp} {id1 id2 : Id} {e a n : Int} {r : AV} (h1 : h.hp id1 = some ⟨true, wOp⟩) (h2 : h.hp id2 = some ⟨true, [wI n]⟩) (hv : HV Try.prog 14 [wB (.row [wOp]) e a, wT, .row [[wI n]]] r) (hr : flat r = true) (k : K ⟨putA env d r, h.tick⟩) :
 qB Try.prog d K env h false (.fn 14 []) [wB (.sl id1 0 1 5) e a, wT, .sl id2 0 1 1] := by
 refine kI ?_ hv hr k
 rw [List.append_nil]
 simp only [mapO, lend_wB h1, lend_w1 h2, WT wT_imm]
theorem f12 : HV Try.prog 12 [] (bl true) := by
 refine qK qM cf12 (by simp) rfl ?_ rfl
 unfold ac12 re12
 refine yN fun env hE => ?_; have ee := cj13 hE 0 1 2 3 4 5 6 7 8 11 12 13 14; simp -implicitDefEqProofs only [push_cast] at ee; clear hE
 have hwI : ∀ n, wI n = .lit (.int .i64 n) := fun _ => rfl
 repeat' (first | ((try clear hf); with_reducible refine yD fun env K hE hK hf => ?_; have n := cj13 hE 0 1 2 3 4 5 6 7 8 11 12 13 14; simp -implicitDefEqProofs only [push_cast, reduceIte, Nat.reduceEqDiff, ee] at n; clear hE ee; have ee := n; clear n) | (with_reducible first | (refine hK _ _ ?_; clear hK K) | (refine Zi ?_; constructor) | refine yB (by decide) ?_ | refine yH (by assumption) ?_ | refine yJ (by assumption) ?_) | (refine yC rfl ?_) | (simp -implicitDefEqProofs only [push_cast, sevalprocAttr, eq_self, ee, hwI]) | (simp (disch := omega) only [yF, yK, yG, yL, hwI]) | ((first | refine yE rfl (fun bb => ?_) (fun bb => ?_) | with_reducible refine yI (fun bb => ?_) (fun bb => ?_)) <;> (first | have bp := oT bb | have bp := oF bb | skip) <;> try simp only [bb]) | ((with_reducible refine And.intro ?_ ?_); omega) | (refine call_w (id1 := (4, 20)) (id2 := (5, 25)) (by simp -implicitDefEqProofs only [push_cast, sevalprocAttr, eq_self]; rfl) (by simp -implicitDefEqProofs only [push_cast, sevalprocAttr, eq_self]; rfl) w29a rfl ?_) | (refine call_w (id1 := (4, 20)) (id2 := (8, 34)) (by simp -implicitDefEqProofs only [push_cast, sevalprocAttr, eq_self]; rfl) (by simp -implicitDefEqProofs only [push_cast, sevalprocAttr, eq_self]; rfl) w29b rfl ?_) | (refine call_w (id1 := (4, 20)) (id2 := (10, 42)) (by simp -implicitDefEqProofs only [push_cast, sevalprocAttr, eq_self]; rfl) (by simp -implicitDefEqProofs only [push_cast, sevalprocAttr, eq_self]; rfl) w29c rfl ?_) | (refine yO w29d ?_) | (with_reducible refine yM ?_ ?_))
theorem lend_is {h : Hp} {id : Id} {H : List Int} {n : Nat} (hb : h.hp id = some ⟨true, H.map iC⟩) (hn : H.length = n) : lend YW h (.sl id 0 n 1) = some (.row (H.map intC)) := by
 rw [← flat_intC] at hb
 have := uP 7 (f := intC) (sz := 1) (fun _ => rfl) (fun _ => rfl) hb (UC (fun _ => rfl) H)
 rw [hn] at this
 exact this
theorem block_imm (b : uG) : imm (.agg (YS b)) = true := by simp only [imm]; exact block_imms b
structure uB (l : List Opn) (t : Tab) (cs : List Int) : Prop where
 inv : ∃ y, InvG l t (YP l t l.length) cs y ∧ y ≤ 8 * l.length
 done : WA cs
theorem keep_of {l : List Opn} {t : Tab} {d : Nat → Int} {cs : List Int} {y : Int} (hR : errR l t = 0) (hlk : WP l t = false) (hord : OrdP (wH l t) l.length d) (hg : GoS l t (YP l t l.length) (ordL (wH l t)) cs y) (hd : WA cs) : uB l t cs := by
 obtain ⟨ht, hn, hop⟩ := wX hR
 rw [ordL_eq2 hord (heightS_len l t) (B := 8 * l.length) (by omega) (heightS_bnd hR)] at hg
 have hI := hg.inv (uN (l := l) ht l.length) ht hlk (fun x hx => (hord.mem x).1 hx) (fun i hi => (hord.mem i).2 (by omega))
 exact ⟨⟨y, hI, by have := hI.yb; have := cnt_le cs; have := hI.len; omega⟩, hd⟩
theorem uB.rng {l : List Opn} {t : Tab} {cs : List Int} (k : uB l t cs) : ∀ x ∈ cs, 0 ≤ x ∧ x ≤ 8 * l.length := by
 obtain ⟨y, hI, hy⟩ := k.inv
 intro x hx
 have := k.done x hx
 have := hI.rng x hx
 omega
theorem uB.len {l : List Opn} {t : Tab} {cs : List Int} (k : uB l t cs) : cs.length = l.length := by
 obtain ⟨y, hI, hy⟩ := k.inv
 exact hI.len
theorem uB.get {l : List Opn} {t : Tab} {cs : List Int} (k : uB l t cs) {i : Nat} (hi : i < l.length) : 0 ≤ cs.getD i 0 ∧ cs.getD i 0 ≤ 8 * l.length := by
 have := k.len
 exact k.rng _ (by rw [gD, List.getElem?_eq_getElem (by omega)]; exact List.getElem_mem _)
theorem uB.ed {l : List Opn} {t : Tab} {cs : List Int} (k : uB l t cs) (ht : YK t) : ∀ e ∈ YP l t l.length, cs.getD e.f.toNat 0 + e.l ≤ cs.getD e.t.toNat 0 := by
 obtain ⟨y, hI, hy⟩ := k.inv
 intro e he
 obtain ⟨x1, x2, x3, x4, x5⟩ := uN (l := l) ht l.length e he
 exact (hI.ed e he (k.get (by omega)).1).2
theorem uB.un {l : List Opn} {t : Tab} {cs : List Int} (k : uB l t cs) {c : Nat} (hc : c < 4) (y : Int) : useN l t cs l.length c y ≤ t.u c := by
 obtain ⟨y', hI, hy⟩ := k.inv
 rw [← useR_eq l t cs k.done _ _ _ (by rw [k.len]; omega)]
 exact hI.un c hc y
theorem uB.check {l : List Opn} {t : Tab} {cs : List Int} (k : uB l t cs) (hR : errR l t = 0) (hlk : WP l t = false) : checkP l t cs := by
 obtain ⟨ht, hn, hop⟩ := wX hR
 have hr : ∀ x ∈ cs, 0 ≤ x ∧ x ≤ 65536 := fun x hx => by have := k.rng x hx; omega
 exact ⟨hR, hlk, k.len, hr, fun i hi => ⟨(there_edges (uN (l := l) ht l.length) hr).2 (k.ed ht) i hi, room_use.2 (fun j hj q hq => k.un (wY _) _) i hi⟩⟩
theorem lend_cn {h : Hp} {id : Id} {cs : List Int} {n : Nat} (hb : h.hp id = some ⟨true, cs.map iC⟩) (hn : cs.length = n) : lend YW h (.sl id 0 n 1) = some (.row (cs.map intC)) := by
 rw [← hn]; exact lend_is hb rfl
theorem cycE_ok {l : List Opn} {t : Tab} (h : cycE l t = 0) : errR l t = 0 ∧ WP l t = false := by
 unfold cycE at h
 split at h
 · rename_i h1; exact absurd h h1
 · rename_i h1
   refine ⟨Classical.not_not.1 h1, ?_⟩
   split at h
   · cases h
   · rename_i h2; simpa using h2
end Go.Proofs.Hx
set_option linter.unusedVariables false
set_option linter.unusedSimpArgs false
namespace Go.Proofs.Hx
open Go Go.Proofs
theorem mem_toE {l : List Opn} {t : Tab} {e : Edg} {i j : Nat} (h : e ∈ ijE l t i j) : ∀ {m : Nat}, i < m → e ∈ toE l t j m
 | m + 1, hi => by
   rw [toE, List.mem_append]
   by_cases e' : i = m
   · subst e'; exact .inr h
   · exact .inl (mem_toE h (by omega))
theorem mem_onceE {l : List Opn} {t : Tab} {e : Edg} {i j : Nat} (h : e ∈ ijE l t i j) (hij : i < j) : ∀ {n : Nat}, j < n → e ∈ YP l t n
 | n + 1, hj => by
   rw [YP, List.mem_append]
   by_cases e' : j = n
   · subst e'; exact .inr (mem_toE h hij)
   · exact .inl (mem_onceE h hij (by omega))
theorem uB.waw {l : List Opn} {t : Tab} {cs : List Int} (k : uB l t cs) (ht : YK t) {i j : Nat} (hij : i < j) (hj : j < l.length) {a : Int} (ha : 0 ≤ a) (hi2 : (wrS (opAt l i)).2 = true) (hi1 : (wrS (opAt l i)).1 = a) (hj2 : (wrS (opAt l j)).2 = true) (hj1 : (wrS (opAt l j)).1 = a) : wQ l t cs i ≤ wQ l t cs j := by
 have hd : dS (opAt l i) = a := by unfold dS; rw [if_pos hi2]; exact hi1
 have hd' : dS (opAt l j) = a := by unfold dS; rw [if_pos hj2]; exact hj1
 have he : (⟨i, j, if latS t (opAt l i) - latS t (opAt l j) + 1 > 0 then latS t (opAt l i) - latS t (opAt l j) + 1 else 0, 0, 2⟩ : Edg) ∈ ijE l t i j := by
  unfold ijE pairE
  refine List.mem_append_right _ (List.mem_append_left _ (List.mem_append_left _ (List.mem_append_right _ ?_)))
  rw [if_pos ⟨by omega, by omega⟩]
  exact List.mem_singleton.2 rfl
 have := k.ed ht _ (mem_onceE he hij hj)
 simp only [Int.toNat_natCast] at this
 unfold wQ
 unfold latS at this
 split at this <;> omega
theorem whenD_ge {l : List Opn} {t : Tab} {cs : List Int} : ∀ {k i : Nat}, i < k → wQ l t cs i ≤ YC l t cs k ∧ cs.getD i 0 + t.b (clsN (opAt l i)) ≤ YC l t cs k
 | k + 1, i, hi => by
   simp only [YC]
   have h1 := mx_ge (mx (YC l t cs k) (wQ l t cs k)) (cs.getD k 0 + t.b (clsN (opAt l k)))
   have h2 := mx_ge (YC l t cs k) (wQ l t cs k)
   by_cases e : i = k
   · subst e; omega
   · have := whenD_ge (l := l) (t := t) (cs := cs) (k := k) (i := i) (by omega); omega
theorem whenL_ge {l : List Opn} {t : Tab} {cs : List Int} : ∀ {k i : Nat}, i < k → wQ l t cs i ≤ WC l t cs k
 | k + 1, i, hi => by
   simp only [WC]
   have h2 := mx_ge (WC l t cs k) (wQ l t cs k)
   by_cases e : i = k
   · subst e; omega
   · have := whenL_ge (l := l) (t := t) (cs := cs) (k := k) (i := i) (by omega); omega
theorem whenO_ge {l : List Opn} {t : Tab} {cs : List Int} (ks : uB l t cs) (ht : YK t) {a : Int} (ha : 0 ≤ a) : ∀ {k i : Nat}, k ≤ l.length → i < k → (wrS (opAt l i)).2 = true → (wrS (opAt l i)).1 = a → wQ l t cs i ≤ WB l t cs a k
 | k + 1, i, hk, hi, h2, h1 => by
   simp only [WB]
   by_cases e : i = k
   · subst e; rw [if_pos ⟨h2, h1⟩]; exact Int.le_refl _
   · split
     · rename_i h
       exact ks.waw ht (by omega) (by omega) ha h2 h1 h.1 h.2
     · exact whenO_ge ks ht ha (by omega) (by omega) h2 h1
theorem end_ok {b : uG} {t : Tab} {cs : List Int} (ks : uB b.l t cs) (hR : errR b.l t = 0) (hlk : WP b.l t = false) (ha : 0 ≤ b.a) (he : (endS b t cs).2.2 = 0) :
 (0 ≤ b.e ∧ b.e ≤ 3) ∧ (∀ i < b.l.length, (b.e = 2 → wQ b.l t cs i ≤ (endS b t cs).1) ∧ (b.e ≠ 2 → wQ b.l t cs i ≤ (endS b t cs).2.1 ∧ cs.getD i 0 + t.b (clsN (opAt b.l i)) ≤ (endS b t cs).2.1) ∧
  (b.e ≠ 0 → b.e ≠ 3 → (wrS (opAt b.l i)).2 = true → (wrS (opAt b.l i)).1 = b.a → wQ b.l t cs i ≤ (endS b t cs).1)) ∧
 (b.e = 3 → (endS b t cs).1 = -1) ∧ (b.e = 2 → qR t ≤ (endS b t cs).1 ∧ (endS b t cs).2.1 = (endS b t cs).1 + 1) ∧ (b.e ≠ 2 → b.e ≠ 3 → qR t ≤ (endS b t cs).1 ∧ (endS b t cs).2.1 = (endS b t cs).1 + 1 + t.d) := by
 obtain ⟨ht, hn, hop⟩ := wX hR
 have hck := ks.check hR hlk
 unfold endS at *
 rw [if_neg (fun h => h ht)] at *
 split at he
 · simp at he
 rename_i h1
 rw [if_neg h1] at *
 split at he
 · simp at he
 rename_i h2
 rw [if_neg h2] at *
 have hcn : ¬ ¬ checkP b.l t cs := fun h => h hck
 rw [if_neg hcn] at *
 have hD := fun i (h : i < b.l.length) => whenD_ge (l := b.l) (t := t) (cs := cs) h
 have hL := fun i (h : i < b.l.length) => whenL_ge (l := b.l) (t := t) (cs := cs) h
 have hO := fun i (h : i < b.l.length) => whenO_ge ks ht ha (Nat.le_refl _) h
 have hrng : 0 ≤ b.e ∧ b.e ≤ 3 := by omega
 refine ⟨hrng, ?_⟩
 by_cases e3 : b.e = 3
 · simp only [if_pos e3]
   refine ⟨fun i hi => ⟨by omega, fun _ => hD i hi, by omega⟩, fun _ => trivial, by omega, by omega⟩
 simp only [if_neg e3]
 by_cases e2 : b.e = 2
 · simp only [if_pos e2]
   have hm := mx_ge (qR t) (WC b.l t cs b.l.length)
   refine ⟨fun i hi => ⟨fun _ => by have := hL i hi; omega, by omega, fun _ _ _ _ => by have := hL i hi; omega⟩, by omega, fun _ => ⟨by omega, trivial⟩, by omega⟩
 simp only [if_neg e2]
 generalize hZ : (if b.e = 1 then mx (qR t) (WB b.l t cs b.a b.l.length) else qR t) = Z
 have hm := mx_ge (YC b.l t cs b.l.length) (Z + 1 + t.d)
 have hZl : qR t ≤ Z := by
  rw [← hZ]; split
  · exact (mx_ge _ _).1
  · exact Int.le_refl _
 refine ⟨fun i hi => ⟨by omega, fun _ => by have := hD i hi; omega, fun h0 _ h3 h4 => ?_⟩, by omega, by omega, fun _ _ => ⟨by omega, by omega⟩⟩
 have e1 : b.e = 1 := by omega
 have h5 := hO i hi h3 h4
 have h6 := mx_ge (qR t) (WB b.l t cs b.a b.l.length)
 rw [if_pos e1] at hZ
 omega
theorem end_bad {b : uG} {t : Tab} {cs : List Int} (ks : uB b.l t cs) (hR : errR b.l t = 0) (hlk : WP b.l t = false) (he : (endS b t cs).2.2 ≠ 0) : endS b t cs = (0, 0, 21) ∨ endS b t cs = (0, 0, 50) := by
 obtain ⟨ht, hn, hop⟩ := wX hR
 have hck := ks.check hR hlk
 unfold endS at *
 rw [if_neg (fun h => h ht)] at *
 split
 · exact .inl rfl
 rename_i h1
 rw [if_neg h1] at he
 split
 · exact .inr rfl
 rename_i h2
 rw [if_neg h2, if_neg (fun h => h hck)] at he
 exfalso
 apply he
 split
 · rfl
 · split <;> rfl
theorem end_bnd {b : uG} {t : Tab} {cs : List Int} (ht : YK t) (h : ∀ x ∈ cs, 0 ≤ x ∧ x ≤ 65536) : -1 ≤ (endS b t cs).1 ∧ (endS b t cs).1 ≤ 70000 ∧ 0 ≤ (endS b t cs).2.1 ∧ (endS b t cs).2.1 ≤ 70000 := by
 have hw := when_bnd (l := b.l) ht h b.a b.l.length
 have hb3 := ht.1 3 (by omega)
 unfold okC at hb3
 have hd := ht.2
 have hmb : ∀ x y : Int, mx x y = x ∨ mx x y = y := fun x y => by unfold mx; split; exact .inr rfl; exact .inl rfl
 have hmg : ∀ x y : Int, x ≤ mx x y ∧ y ≤ mx x y := mx_ge
 have hlb : 0 ≤ qR t ∧ qR t ≤ 4 := by unfold qR mx; split <;> omega
 have m1 := hmb (qR t) (WC b.l t cs b.l.length)
 have m2 := hmb (qR t) (WB b.l t cs b.a b.l.length)
 have m3 := hmb (YC b.l t cs b.l.length) (qR t + 1 + t.d)
 have m4 := hmb (YC b.l t cs b.l.length) (mx (qR t) (WB b.l t cs b.a b.l.length) + 1 + t.d)
 have g3 := hmg (YC b.l t cs b.l.length) (qR t + 1 + t.d)
 have g4 := hmg (YC b.l t cs b.l.length) (mx (qR t) (WB b.l t cs b.a b.l.length) + 1 + t.d)
 unfold endS
 split
 · simp
 split
 · simp
 split
 · simp
 split
 · simp
 split
 · simp only []; omega
 split
 · simp only []; omega
 simp only []
 split <;> omega
end Go.Proofs.Hx
set_option linter.unusedVariables false
set_option linter.unusedSimpArgs false
namespace Go.Proofs.Hx
open Go Go.Proofs
attribute [local irreducible] yR awp opK goV goM qB yW qE yT HV HVF HC
theorem call_end3 {d : Option Nat} {K : St → Prop} {env : Nat → AV} {h : Hp} {id : Id} {b : uG} {t : Tab} {cs : List Int} {n : Nat} {S : Int × Int × Int} (hb : h.hp id = some ⟨true, cs.map iC⟩) (hn : cs.length = n) (hl : ∀ o ∈ b.l, o.ok) (hcn : n ≤ 100000000000000) (hS : endS b t cs = S) (k : K ⟨putA env d (.tup [i64 S.1, i64 S.2.1, i64 S.2.2]), h.tick⟩) :
 qB Try.prog d K env h false (.fn 14 []) [.agg (YS b), .agg (tabC t), .sl id 0 n 1] := by
 subst hS
 refine kI ?_ (f14 b t cs hl (by omega) (CycA.row cs)) rfl k
 rw [List.append_nil]
 simp only [mapO, WT (block_imm b), WT (show imm (.agg (tabC t)) = true from rfl), lend_cn hb hn]
set_option maxHeartbeats 8000000 in
theorem f3 {b : uG} {t : Tab} (hl : ∀ o ∈ b.l, o.ok) (ha : 0 ≤ b.a) : HV Try.prog 3 [.agg (YS b), .agg (tabC t)] (bl true) := by
 refine qK qM cf3 (by simp) (by simp [imms, imm, uM, block_imms]) ?_ rfl
 unfold ac3 re3
 refine yN fun env hE => ?_; have ee := cj18 hE 0 1 2 3 4 5 6 7 8 9 10 11 12 14 15 16 17 177; simp -implicitDefEqProofs only [push_cast] at ee; clear hE
 have hB0 : (YS b)[0]? = some (.row (b.l.map opC)) := rfl
 have hB1 : ((YS b).drop 1)[0]? = some (.lit (.int .i8 b.e)) := rfl
 have hB1' : (YS b)[1]? = some (.lit (.int .i8 b.e)) := rfl
 have hB2 : (YS b)[2]? = some (u8 b.a) := rfl
 have hBl : (YS b).length = 6 := rfl
 have hBt : (YS b).take 6 = YS b := rfl
 by_cases h60 : 60 < b.l.length
 · have d1 : decide (60 < (b.l.length : Int)) = true := dT (by omega)
   repeat' (first | ((try clear hf); with_reducible refine yD fun env K hE hK hf => ?_; have n := cj18 hE 0 1 2 3 4 5 6 7 8 9 10 11 12 14 15 16 17 177; simp -implicitDefEqProofs only [push_cast, reduceIte, Nat.reduceEqDiff, ee] at n; clear hE ee; have ee := n; clear n) | (with_reducible first | (refine hK _ _ ?_; clear hK K) | (refine Zi ?_; constructor) | refine yB (by decide) ?_ | refine yH (by assumption) ?_ | refine yJ (by assumption) ?_) | (refine yC rfl ?_) | (simp -implicitDefEqProofs only [push_cast, sevalprocAttr, eq_self, ee, d1, hB0, qD]) | (simp (disch := omega) only [yF, yK, yG, yL, hB0]) | ((first | refine yE rfl (fun bb => ?_) (fun bb => ?_) | with_reducible refine yI (fun bb => ?_) (fun bb => ?_)) <;> (first | have bp := oT bb | have bp := oF bb | skip) <;> try simp only [bb]) | ((with_reducible refine And.intro ?_ ?_); omega) | (refine yO f12 ?_) | (with_reducible refine yM ?_ ?_))
 have d1 : decide (60 < (b.l.length : Int)) = false := dF (by omega)
 have q1 : ∀ x : Int, decide (x = x) = true := fun x => dT rfl
 have q0 : decide ((0 : Int) ≠ 0) = false := rfl
 have hbT := h60
 have hbB := h60
 have hbox : ∀ {h1 : Hp}, Ext (((emp.tick.tick.push (2, 2) (YS b)).push (2, 3) (tabC t)).tick.tick) h1 → h1.hp (2, 3) = some ⟨true, tabC t⟩ := fun hx => by
  rw [hx.2 _ (by simp only [qG, YV]; decide)]
  simp -implicitDefEqProofs only [push_cast, sevalprocAttr, eq_self]
 have hboxB : ∀ {h1 : Hp}, Ext (((emp.tick.tick.push (2, 2) (YS b)).push (2, 3) (tabC t)).tick.tick) h1 → h1.hp (2, 2) = some ⟨true, YS b⟩ := fun hx => by
  rw [hx.2 _ (by simp only [qG, YV]; decide)]
  simp -implicitDefEqProofs only [push_cast, sevalprocAttr, eq_self]
 by_cases hE : cycE b.l t = 0
 rotate_left
 · have dE : decide (cycE b.l t ≠ 0) = true := dT hE
   repeat' (first | ((try clear hf); with_reducible refine yD fun env K hE hK hf => ?_; have n := cj18 hE 0 1 2 3 4 5 6 7 8 9 10 11 12 14 15 16 17 177; simp -implicitDefEqProofs only [push_cast, reduceIte, Nat.reduceEqDiff, ee] at n; clear hE ee; have ee := n; clear n) | (with_reducible first | (refine hK _ _ ?_; clear hK K) | (refine Zi ?_; constructor) | refine yB (by decide) ?_ | refine yH (by assumption) ?_ | refine yJ (by assumption) ?_) | (refine yC rfl ?_) | (simp -implicitDefEqProofs only [push_cast, sevalprocAttr, eq_self, ee, d1, hB0, qD, lenV_nil, dE, q1]) | (simp (disch := omega) only [yF, yK, yG, yL, hB0]) | ((first | refine yE rfl (fun bb => ?_) (fun bb => ?_) | with_reducible refine yI (fun bb => ?_) (fun bb => ?_)) <;> (first | have bp := oT bb | have bp := oF bb | skip) <;> try simp only [bb]) | ((with_reducible refine And.intro ?_ ?_); omega) | (refine qH (HC.mono (f13 hl) ?_); rintro r h1 ⟨hx, _, hr⟩ hF; replace hr := (hr.resolve_right (fun h => hE h.1)).2; subst hr) | (refine yO f12 ?_) | (with_reducible refine yM ?_ ?_))
 obtain ⟨hR, hlk⟩ := cycE_ok hE
 obtain ⟨ht, hn, hop⟩ := wX hR
 generalize hS : endS b t (cycS b.l t) = S
 have q21 : decide ((21 : Int) ≠ 0) = true := rfl
 have q50 : decide ((50 : Int) ≠ 0) = true := rfl
 have q52 : decide ((50 : Int) = 21) = false := rfl
 by_cases hz0 : S.2.2 = 0
 rotate_left
 · repeat' (first | ((try clear hf); with_reducible refine yD fun env K hE hK hf => ?_; have n := cj18 hE 0 1 2 3 4 5 6 7 8 9 10 11 12 14 15 16 17 177; simp -implicitDefEqProofs only [push_cast, reduceIte, Nat.reduceEqDiff, ee] at n; clear hE ee; have ee := n; clear n) | (with_reducible first | (refine hK _ _ ?_; clear hK K) | (refine Zi ?_; constructor) | refine yB (by decide) ?_ | refine yH (by assumption) ?_ | refine yJ (by assumption) ?_) | (refine yC rfl ?_) | (simp -implicitDefEqProofs only [push_cast, sevalprocAttr, eq_self, ee, d1, hB0, hBl, hBt, qD, hbT, hbB, q0, wG, q21, q50, q52, q1]) | (simp (disch := omega) only [yF, yK, yG, yL, hB0, hBl, hBt, hbB]) | ((first | refine yE rfl (fun bb => ?_) (fun bb => ?_) | with_reducible refine yI (fun bb => ?_) (fun bb => ?_)) <;> (first | have bp := oT bb | have bp := oF bb | skip) <;> try simp only [bb]) | ((with_reducible refine And.intro ?_ ?_); omega) | (refine qH (HC.mono (f13 hl) ?_); rintro r h1 ⟨hx, hod, hr⟩ hF; obtain ⟨_, ⟨ie, is⟩, rfl, hb1, hn1, ⟨y, hg⟩, hdn, hi1, hi2⟩ := hr.resolve_left (fun h => h.1 hE); have hbT := hbox hx; have hbB := hboxB hx; obtain ⟨d, hord⟩ := hod hR; have hKp := keep_of hR hlk hord hg hdn; have hep1 := hx.1; simp only [qG, YV] at hep1; rcases end_bad hKp hR hlk (by rw [hS]; exact hz0) with hS2 | hS2 <;> rw [hS] at hS2 <;> subst hS2) | (refine call_end3 hb1 hn1 hl (by omega) hS ?_) | (refine yO f12 ?_) | (with_reducible refine yM ?_ ?_))
 obtain ⟨at', n', f'⟩ := S
 simp only at hz0
 subst hz0
 repeat' (first | ((try clear hf); with_reducible refine yD fun env K hE hK hf => ?_; have n := cj18 hE 0 1 2 3 4 5 6 7 8 9 10 11 12 14 15 16 17 177; simp -implicitDefEqProofs only [push_cast, reduceIte, Nat.reduceEqDiff, ee] at n; clear hE ee; have ee := n; clear n) | (with_reducible first | (refine hK _ _ ?_; clear hK K) | (refine Zi ?_; constructor) | refine yB (by decide) ?_ | refine yH (by assumption) ?_ | refine yJ (by assumption) ?_) | (refine yC rfl ?_) | (simp -implicitDefEqProofs only [push_cast, sevalprocAttr, eq_self, ee, d1, hB0, hBl, hBt, qD, hbT, hbB, q0, wG, hB1, hB1']) | (simp (disch := omega) only [yF, yK, yG, yL, hB0, hBl, hBt, hbB, hB1, hB1']) | ((first | refine yE rfl (fun bb => ?_) (fun bb => ?_) | with_reducible refine yI (fun bb => ?_) (fun bb => ?_)) <;> (first | have bp := oT bb | have bp := oF bb | skip) <;> try simp only [bb]) | ((with_reducible refine And.intro ?_ ?_); omega) | (refine qH (HC.mono (f13 hl) ?_); rintro r h1 ⟨hx, hod, hr⟩ hF; obtain ⟨_, ⟨ie, is⟩, rfl, hb1, hn1, ⟨y, hg⟩, hdn, hi1, hi2⟩ := hr.resolve_left (fun h => h.1 hE); have hbT := hbox hx; have hbB := hboxB hx; obtain ⟨d, hord⟩ := hod hR; have hKp := keep_of hR hlk hord hg hdn; have hep1 := hx.1; simp only [qG, YV] at hep1) | (refine call_end3 hb1 hn1 hl (by omega) hS ?_) | (with_reducible refine yM ?_ ?_))
 have hrr : ∀ x ∈ cycS b.l t, 0 ≤ x ∧ x ≤ 65536 := fun x hx => by have := hKp.rng x hx; omega
 have hbd := end_bnd (b := b) ht hrr
 obtain ⟨hrng, hops, h3, h2, h01⟩ := end_ok hKp hR hlk ha (by rw [hS])
 rw [hS] at hbd hops h3 h2 h01
 simp only at hbd hops h3 h2 h01
 have hget := fun i (hi : i < b.l.length) => hKp.get hi
 have hle1 : ie ≤ h1.ep := by simp only at hi2; omega
 have hle2 : 2 ≤ h1.ep := by omega
 clear hg hdn hi1 hi2 hKp hx hrr hS
 generalize cycS b.l t = cs at *
 have hlc : (cs.map iC).length = b.l.length := by simpa using hn1
 refine yN fun env hE => ?_; have n := cj18 hE 0 1 2 3 4 5 6 7 8 9 10 11 12 14 15 16 17 177; simp -implicitDefEqProofs only [push_cast, reduceIte, Nat.reduceEqDiff, ee] at n; clear hE ee; have ee := n; clear n; have E3_0 := ee; obtain ⟨e0, e1, e2, e3, e4, e5, e6, e7, e8, e9, e10, e11, e12, e14, e15, e16, e17, e177⟩ := ee
 refine qC (fun nn σ => ∃ (k : Nat), nn = b.l.length - k + 0 ∧ kp [0, 1, 2, 3, 5, 6, 7, 8, 9, 10] σ.env env ∧ σ.env 11 = i64 k ∧ (k ≤ b.l.length ∧ Ext h1 σ.h)) _ ⟨0, rfl, qP _ _, by refine e11.trans ?_; first | rfl | exact yP (by omega) | exact i64w (by omega), ?_⟩ ?_
 · exact ⟨by omega, (by repeat' (first | exact Ext.refl _ | assumption | omega | (with_reducible (refine Eg ?_; constructor))))⟩
 clear e0 e1 e2 e3 e4 e5 e6 e7 e8 e9 e10 e11 e12 e14 e15 e16 e17 e177; rintro nn ⟨env, h5⟩ ⟨k, rfl, q, e11, hI⟩; simp only at e11 hI; simp only [kp, and_true, E3_0] at q; have ee : _ ∧ _ := ⟨e11, q⟩; clear e11 q
 obtain ⟨hk, hx⟩ := hI
 unfold l3_0
 (first | refine yS fun hF => ?_ | refine yY fun hF => ?_ | refine yX fun hF => ?_)
 have hbT5 := (hx.2 (2, 3) hle2).trans hbT
 have hbB5 := (hx.2 (2, 2) hle2).trans hbB
 have hb5 := (hx.2 (ie, is) hle1).trans hb1
 have hT8 : (tabC t)[11]? = some (i64 (t.b 3)) := tab_b t (c := 3) (by omega)
 have hT12 := tab_d t
 by_cases hlt : k < b.l.length
 rotate_left
 · have hd : decide ((k : Int) < (b.l.length : Int)) = false := dF (by omega)
   have hb3 := ht.1 3 (by omega)
   unfold okC at hb3
   have hdd := ht.2
   have hmx : ∀ x y : Int, (if y > x then y else x) = mx x y := fun _ _ => rfl
   have hld : mx 0 (t.b 3 - 1 - t.d) = qR t := rfl
   have hw1 : IntKind.i64.wrap (t.b 3 - 1) = t.b 3 - 1 := qS (by omega) (by omega)
   have hw2 : IntKind.i64.wrap (t.b 3 - 1 - t.d) = t.b 3 - 1 - t.d := qS (by omega) (by omega)
   have hw3 : IntKind.i64.wrap (at' + 1) = at' + 1 := qS (by omega) (by omega)
   have hw4 : IntKind.i64.wrap (at' + 1 + t.d) = at' + 1 + t.d := qS (by omega) (by omega)
   by_cases e3 : b.e = 3
   · have d3 : decide (b.e = 3) = true := dT e3
     have d4 : decide (at' = -1) = true := dT (h3 e3)
     repeat' (first | ((try clear hf); with_reducible refine yD fun env K hE hK hf => ?_; have n := cj18 hE 0 1 2 3 4 5 6 7 8 9 10 11 12 14 15 16 17 177; simp -implicitDefEqProofs only [push_cast, reduceIte, Nat.reduceEqDiff, ee] at n; clear hE ee; have ee := n; clear n) | (with_reducible first | (refine hK _ _ ?_; clear hK K) | (refine Zi ?_; constructor) | refine yB (by decide) ?_ | refine yH (by assumption) ?_ | refine yJ (by assumption) ?_) | (refine yC rfl ?_) | (simp -implicitDefEqProofs only [push_cast, sevalprocAttr, eq_self, ee, hd, hF.at, qD, hbT5, hbB5, hB0, hB1, hB1', hT8, hT12, hmx, hld, hw1, hw2, d3, d4]) | (simp (disch := omega) only [yF, yK, yG, yL, hF.at, hbB5, hB0, hB1, hB1', hT8, hT12, hmx, hld]) | ((first | refine yE rfl (fun bb => ?_) (fun bb => ?_) | with_reducible refine yI (fun bb => ?_) (fun bb => ?_)) <;> (first | have bp := oT bb | have bp := oF bb | skip) <;> try simp only [bb]) | ((with_reducible refine And.intro ?_ ?_); omega) | (refine yO f12 ?_) | (with_reducible refine yM ?_ ?_))
   have d3 : decide (b.e = 3) = false := dF e3
   by_cases e2 : b.e = 2
   · have d2 : decide (b.e = 2) = true := dT e2
     obtain ⟨g1, g2⟩ := h2 e2
     have d4 : decide (qR t ≤ at') = true := dT g1
     have d5 : decide (n' = at' + 1) = true := dT g2
     repeat' (first | ((try clear hf); with_reducible refine yD fun env K hE hK hf => ?_; have n := cj18 hE 0 1 2 3 4 5 6 7 8 9 10 11 12 14 15 16 17 177; simp -implicitDefEqProofs only [push_cast, reduceIte, Nat.reduceEqDiff, ee] at n; clear hE ee; have ee := n; clear n) | (with_reducible first | (refine hK _ _ ?_; clear hK K) | (refine Zi ?_; constructor) | refine yB (by decide) ?_ | refine yH (by assumption) ?_ | refine yJ (by assumption) ?_) | (refine yC rfl ?_) | (simp -implicitDefEqProofs only [push_cast, sevalprocAttr, eq_self, ee, hd, hF.at, qD, hbT5, hbB5, hB0, hB1, hB1', hT8, hT12, yZ, hmx, hld, hw1, hw2, hw3, d2, d3, d4, d5]) | (simp (disch := omega) only [yF, yK, yG, yL, hF.at, hbB5, hB0, hB1, hB1', hT8, hT12, yZ, hmx, hld]) | ((first | refine yE rfl (fun bb => ?_) (fun bb => ?_) | with_reducible refine yI (fun bb => ?_) (fun bb => ?_)) <;> (first | have bp := oT bb | have bp := oF bb | skip) <;> try simp only [bb]) | ((with_reducible refine And.intro ?_ ?_); omega) | (refine yO f12 ?_) | (with_reducible refine yM ?_ ?_))
   have d2 : decide (b.e = 2) = false := dF e2
   obtain ⟨g1, g2⟩ := h01 e2 e3
   have d4 : decide (qR t ≤ at') = true := dT g1
   have d5 : decide (n' = at' + 1 + t.d) = true := dT g2
   repeat' (first | ((try clear hf); with_reducible refine yD fun env K hE hK hf => ?_; have n := cj18 hE 0 1 2 3 4 5 6 7 8 9 10 11 12 14 15 16 17 177; simp -implicitDefEqProofs only [push_cast, reduceIte, Nat.reduceEqDiff, ee] at n; clear hE ee; have ee := n; clear n) | (with_reducible first | (refine hK _ _ ?_; clear hK K) | (refine Zi ?_; constructor) | refine yB (by decide) ?_ | refine yH (by assumption) ?_ | refine yJ (by assumption) ?_) | (refine yC rfl ?_) | (simp -implicitDefEqProofs only [push_cast, sevalprocAttr, eq_self, ee, hd, hF.at, qD, hbT5, hbB5, hB0, hB1, hB1', hT8, hT12, yZ, hmx, hld, hw1, hw2, hw3, hw4, d2, d3, d4, d5]) | (simp (disch := omega) only [yF, yK, yG, yL, hF.at, hbB5, hB0, hB1, hB1', hT8, hT12, yZ, hmx, hld]) | ((first | refine yE rfl (fun bb => ?_) (fun bb => ?_) | with_reducible refine yI (fun bb => ?_) (fun bb => ?_)) <;> (first | have bp := oT bb | have bp := oF bb | skip) <;> try simp only [bb]) | ((with_reducible refine And.intro ?_ ?_); omega) | (refine yO f12 ?_) | (with_reducible refine yM ?_ ?_))
 have hd : decide ((k : Int) < (b.l.length : Int)) = true := dT (by omega)
 have hro := wL hlt .i64
 have hcl := clsN_eq b.l[k]
 have hcc := wY b.l[k]
 have hok := hl b.l[k] (List.getElem_mem hlt)
 have hop := uI hlt
 have hvr := hget k hlt
 have r1 : (cs.map iC)[k]? = some (i64 (cs.getD k 0)) := by simp [iC, gD, show k < cs.length by omega]
 obtain ⟨g1, g2, g3⟩ := hops k hlt
 unfold wQ at g1 g2 g3
 rw [← hop] at g1 g2 g3
 generalize b.l[k] = o at *
 generalize cs.getD k 0 = v at *
 have hq4 := tab_l t hcc
 have hq8 := tab_b t hcc
 have hbu := ht.1 _ hcc
 unfold okC at hbu
 have hmx : ∀ x y : Int, (if y > x then y else x) = mx x y := fun _ _ => rfl
 have hmb : mx (t.l (clsN o)) (t.b (clsN o)) = t.l (clsN o) ∨ mx (t.l (clsN o)) (t.b (clsN o)) = t.b (clsN o) := by unfold mx; split; exact .inr rfl; exact .inl rfl
 have hw1 : IntKind.i64.wrap (v + mx (t.l (clsN o)) (t.b (clsN o))) = v + mx (t.l (clsN o)) (t.b (clsN o)) := qS (by omega) (by omega)
 have hw2 : IntKind.i64.wrap (v + t.l (clsN o)) = v + t.l (clsN o) := qS (by omega) (by omega)
 by_cases e3 : b.e = 3
 · have d2 : decide (b.e = 2) = false := dF (by omega)
   have d2' : decide (¬ b.e = 2) = true := dT (by omega)
   have d0' : decide (¬ b.e = 0) = true := dT (by omega)
   have d3' : decide (¬ b.e = 3) = false := dF (fun h => h e3)
   have d5 : decide (n' < v + mx (t.l (clsN o)) (t.b (clsN o))) = false := dF (by have := g2 (by omega); omega)
   repeat' (first | ((try clear hf); with_reducible refine yD fun env K hE hK hf => ?_; have n := cj18 hE 0 1 2 3 4 5 6 7 8 9 10 11 12 14 15 16 17 177; simp -implicitDefEqProofs only [push_cast, reduceIte, Nat.reduceEqDiff, ee] at n; clear hE ee; have ee := n; clear n) | (with_reducible first | (refine hK _ _ ?_; clear hK K) | (refine Zi ?_; constructor) | refine yB (by decide) ?_ | refine yH (by assumption) ?_ | refine yJ (by assumption) ?_) | (refine yC rfl ?_) | (simp -implicitDefEqProofs only [push_cast, sevalprocAttr, eq_self, ee, hd, hF.at, qD, wG, hn1, hbT5, hbB5, hb5, hB0, hB1, hB1', hB2, hro, op_0, hcl, r1, hq4, hq8, yZ, hmx, hw1, hw2, d0', d2, d2', d3', d5]) | (simp (disch := omega) only [yF, yK, yG, yL, hF.at, hn1, hbB5, hB0, hB1, hB1', hB2, r1, yZ, hmx, d0', d2', d3']) | ((first | refine yE rfl (fun bb => ?_) (fun bb => ?_) | with_reducible refine yI (fun bb => ?_) (fun bb => ?_)) <;> (first | have bp := oT bb | have bp := oF bb | skip) <;> try simp only [bb]) | ((with_reducible refine And.intro ?_ ?_); omega) | (refine yO (f15 _) ?_) | (refine yO (f16 _ hok) ?_) | (with_reducible refine yM ?_ ?_))
   refine ⟨_, ?_, k + 1, rfl, by simp -implicitDefEqProofs only [kp, push_cast, reduceIte, Nat.reduceEqDiff, ee, E3_0, and_self], by first | rfl | exact yP (by omega) | exact i64w (by omega), ?_⟩
   · omega
   · exact ⟨by omega, (by repeat' (first | exact Ext.refl _ | assumption | omega | (with_reducible (refine Eg ?_; constructor))))⟩
 by_cases e0 : b.e = 0
 · have d2 : decide (b.e = 2) = false := dF (by omega)
   have d2' : decide (¬ b.e = 2) = true := dT (by omega)
   have d0' : decide (¬ b.e = 0) = false := dF (fun h => h e0)
   have d5 : decide (n' < v + mx (t.l (clsN o)) (t.b (clsN o))) = false := dF (by have := g2 (by omega); omega)
   repeat' (first | ((try clear hf); with_reducible refine yD fun env K hE hK hf => ?_; have n := cj18 hE 0 1 2 3 4 5 6 7 8 9 10 11 12 14 15 16 17 177; simp -implicitDefEqProofs only [push_cast, reduceIte, Nat.reduceEqDiff, ee] at n; clear hE ee; have ee := n; clear n) | (with_reducible first | (refine hK _ _ ?_; clear hK K) | (refine Zi ?_; constructor) | refine yB (by decide) ?_ | refine yH (by assumption) ?_ | refine yJ (by assumption) ?_) | (refine yC rfl ?_) | (simp -implicitDefEqProofs only [push_cast, sevalprocAttr, eq_self, ee, hd, hF.at, qD, wG, hn1, hbT5, hbB5, hb5, hB0, hB1, hB1', hB2, hro, op_0, hcl, r1, hq4, hq8, yZ, hmx, hw1, hw2, d0', d2, d2', d5]) | (simp (disch := omega) only [yF, yK, yG, yL, hF.at, hn1, hbB5, hB0, hB1, hB1', hB2, r1, yZ, hmx, d0', d2']) | ((first | refine yE rfl (fun bb => ?_) (fun bb => ?_) | with_reducible refine yI (fun bb => ?_) (fun bb => ?_)) <;> (first | have bp := oT bb | have bp := oF bb | skip) <;> try simp only [bb]) | ((with_reducible refine And.intro ?_ ?_); omega) | (refine yO (f15 _) ?_) | (refine yO (f16 _ hok) ?_) | (with_reducible refine yM ?_ ?_))
   refine ⟨_, ?_, k + 1, rfl, by simp -implicitDefEqProofs only [kp, push_cast, reduceIte, Nat.reduceEqDiff, ee, E3_0, and_self], by first | rfl | exact yP (by omega) | exact i64w (by omega), ?_⟩
   · omega
   · exact ⟨by omega, (by repeat' (first | exact Ext.refl _ | assumption | omega | (with_reducible (refine Eg ?_; constructor))))⟩
 have d0' : decide (¬ b.e = 0) = true := dT e0
 have d3' : decide (¬ b.e = 3) = true := dT e3
 have main : ∀ (p : Bool), (wrS o).2 = p → True := fun _ _ => trivial
 by_cases e2 : b.e = 2
 · have d2 : decide (b.e = 2) = true := dT e2
   have d2' : decide (¬ b.e = 2) = false := dF (fun h => h e2)
   have d5 : decide (at' < v + t.l (clsN o)) = false := dF (by have := g1 e2; omega)
   by_cases hw : (wrS o).2 = true
   · repeat' (first | ((try clear hf); with_reducible refine yD fun env K hE hK hf => ?_; have n := cj18 hE 0 1 2 3 4 5 6 7 8 9 10 11 12 14 15 16 17 177; simp -implicitDefEqProofs only [push_cast, reduceIte, Nat.reduceEqDiff, ee] at n; clear hE ee; have ee := n; clear n) | (with_reducible first | (refine hK _ _ ?_; clear hK K) | (refine Zi ?_; constructor) | refine yB (by decide) ?_ | refine yH (by assumption) ?_ | refine yJ (by assumption) ?_) | (refine yC rfl ?_) | (simp -implicitDefEqProofs only [push_cast, sevalprocAttr, eq_self, ee, hd, hF.at, qD, wG, hn1, hbT5, hbB5, hb5, hB0, hB1, hB1', hB2, hro, op_0, hcl, r1, hq4, hq8, yZ, hmx, hw1, hw2, d0', d2, d2', d3', d5, hw]) | (simp (disch := omega) only [yF, yK, yG, yL, hF.at, hn1, hbB5, hB0, hB1, hB1', hB2, r1, yZ, hmx, d0', d2', d3']) | ((first | refine yE rfl (fun bb => ?_) (fun bb => ?_) | with_reducible refine yI (fun bb => ?_) (fun bb => ?_)) <;> (first | have bp := oT bb | have bp := oF bb | skip) <;> try simp only [bb]) | ((with_reducible refine And.intro ?_ ?_); omega) | (refine yO (f15 _) ?_) | (refine yO (f16 _ hok) ?_) | (with_reducible refine yM ?_ ?_))
     all_goals
      refine ⟨_, ?_, k + 1, rfl, by simp -implicitDefEqProofs only [kp, push_cast, reduceIte, Nat.reduceEqDiff, ee, E3_0, and_self], by first | rfl | exact yP (by omega) | exact i64w (by omega), ?_⟩
      · omega
      · exact ⟨by omega, (by repeat' (first | exact Ext.refl _ | assumption | omega | (with_reducible (refine Eg ?_; constructor))))⟩
   · have hw : (wrS o).2 = false := by simpa using hw
     repeat' (first | ((try clear hf); with_reducible refine yD fun env K hE hK hf => ?_; have n := cj18 hE 0 1 2 3 4 5 6 7 8 9 10 11 12 14 15 16 17 177; simp -implicitDefEqProofs only [push_cast, reduceIte, Nat.reduceEqDiff, ee] at n; clear hE ee; have ee := n; clear n) | (with_reducible first | (refine hK _ _ ?_; clear hK K) | (refine Zi ?_; constructor) | refine yB (by decide) ?_ | refine yH (by assumption) ?_ | refine yJ (by assumption) ?_) | (refine yC rfl ?_) | (simp -implicitDefEqProofs only [push_cast, sevalprocAttr, eq_self, ee, hd, hF.at, qD, wG, hn1, hbT5, hbB5, hb5, hB0, hB1, hB1', hB2, hro, op_0, hcl, r1, hq4, hq8, yZ, hmx, hw1, hw2, d0', d2, d2', d3', d5, hw]) | (simp (disch := omega) only [yF, yK, yG, yL, hF.at, hn1, hbB5, hB0, hB1, hB1', hB2, r1, yZ, hmx, d0', d2', d3']) | ((first | refine yE rfl (fun bb => ?_) (fun bb => ?_) | with_reducible refine yI (fun bb => ?_) (fun bb => ?_)) <;> (first | have bp := oT bb | have bp := oF bb | skip) <;> try simp only [bb]) | ((with_reducible refine And.intro ?_ ?_); omega) | (refine yO (f15 _) ?_) | (refine yO (f16 _ hok) ?_) | (with_reducible refine yM ?_ ?_))
     refine ⟨_, ?_, k + 1, rfl, by simp -implicitDefEqProofs only [kp, push_cast, reduceIte, Nat.reduceEqDiff, ee, E3_0, and_self], by first | rfl | exact yP (by omega) | exact i64w (by omega), ?_⟩
     · omega
     · exact ⟨by omega, (by repeat' (first | exact Ext.refl _ | assumption | omega | (with_reducible (refine Eg ?_; constructor))))⟩
 have d2 : decide (b.e = 2) = false := dF e2
 have d2' : decide (¬ b.e = 2) = true := dT e2
 have d5 : decide (n' < v + mx (t.l (clsN o)) (t.b (clsN o))) = false := dF (by have := g2 (by omega); omega)
 by_cases hw : (wrS o).2 = true
 rotate_left
 · have hw : (wrS o).2 = false := by simpa using hw
   repeat' (first | ((try clear hf); with_reducible refine yD fun env K hE hK hf => ?_; have n := cj18 hE 0 1 2 3 4 5 6 7 8 9 10 11 12 14 15 16 17 177; simp -implicitDefEqProofs only [push_cast, reduceIte, Nat.reduceEqDiff, ee] at n; clear hE ee; have ee := n; clear n) | (with_reducible first | (refine hK _ _ ?_; clear hK K) | (refine Zi ?_; constructor) | refine yB (by decide) ?_ | refine yH (by assumption) ?_ | refine yJ (by assumption) ?_) | (refine yC rfl ?_) | (simp -implicitDefEqProofs only [push_cast, sevalprocAttr, eq_self, ee, hd, hF.at, qD, wG, hn1, hbT5, hbB5, hb5, hB0, hB1, hB1', hB2, hro, op_0, hcl, r1, hq4, hq8, yZ, hmx, hw1, hw2, d0', d2, d2', d3', d5, hw]) | (simp (disch := omega) only [yF, yK, yG, yL, hF.at, hn1, hbB5, hB0, hB1, hB1', hB2, r1, yZ, hmx, d0', d2', d3']) | ((first | refine yE rfl (fun bb => ?_) (fun bb => ?_) | with_reducible refine yI (fun bb => ?_) (fun bb => ?_)) <;> (first | have bp := oT bb | have bp := oF bb | skip) <;> try simp only [bb]) | ((with_reducible refine And.intro ?_ ?_); omega) | (refine yO (f15 _) ?_) | (refine yO (f16 _ hok) ?_) | (with_reducible refine yM ?_ ?_))
   refine ⟨_, ?_, k + 1, rfl, by simp -implicitDefEqProofs only [kp, push_cast, reduceIte, Nat.reduceEqDiff, ee, E3_0, and_self], by first | rfl | exact yP (by omega) | exact i64w (by omega), ?_⟩
   · omega
   · exact ⟨by omega, (by repeat' (first | exact Ext.refl _ | assumption | omega | (with_reducible (refine Eg ?_; constructor))))⟩
 by_cases hwa : (wrS o).1 = b.a
 rotate_left
 · have d6 : decide ((wrS o).1 = b.a) = false := dF hwa
   repeat' (first | ((try clear hf); with_reducible refine yD fun env K hE hK hf => ?_; have n := cj18 hE 0 1 2 3 4 5 6 7 8 9 10 11 12 14 15 16 17 177; simp -implicitDefEqProofs only [push_cast, reduceIte, Nat.reduceEqDiff, ee] at n; clear hE ee; have ee := n; clear n) | (with_reducible first | (refine hK _ _ ?_; clear hK K) | (refine Zi ?_; constructor) | refine yB (by decide) ?_ | refine yH (by assumption) ?_ | refine yJ (by assumption) ?_) | (refine yC rfl ?_) | (simp -implicitDefEqProofs only [push_cast, sevalprocAttr, eq_self, ee, hd, hF.at, qD, wG, hn1, hbT5, hbB5, hb5, hB0, hB1, hB1', hB2, hro, op_0, hcl, r1, hq4, hq8, yZ, hmx, hw1, hw2, d0', d2, d2', d3', d5, d6, hw]) | (simp (disch := omega) only [yF, yK, yG, yL, hF.at, hn1, hbB5, hB0, hB1, hB1', hB2, r1, yZ, hmx, d0', d2', d3']) | ((first | refine yE rfl (fun bb => ?_) (fun bb => ?_) | with_reducible refine yI (fun bb => ?_) (fun bb => ?_)) <;> (first | have bp := oT bb | have bp := oF bb | skip) <;> try simp only [bb]) | ((with_reducible refine And.intro ?_ ?_); omega) | (refine yO (f15 _) ?_) | (refine yO (f16 _ hok) ?_) | (with_reducible refine yM ?_ ?_))
   refine ⟨_, ?_, k + 1, rfl, by simp -implicitDefEqProofs only [kp, push_cast, reduceIte, Nat.reduceEqDiff, ee, E3_0, and_self], by first | rfl | exact yP (by omega) | exact i64w (by omega), ?_⟩
   · omega
   · exact ⟨by omega, (by repeat' (first | exact Ext.refl _ | assumption | omega | (with_reducible (refine Eg ?_; constructor))))⟩
 have d6 : decide ((wrS o).1 = b.a) = true := dT hwa
 have d7 : decide (at' < v + t.l (clsN o)) = false := dF (by have := g3 e0 e3 hw hwa; omega)
 repeat' (first | ((try clear hf); with_reducible refine yD fun env K hE hK hf => ?_; have n := cj18 hE 0 1 2 3 4 5 6 7 8 9 10 11 12 14 15 16 17 177; simp -implicitDefEqProofs only [push_cast, reduceIte, Nat.reduceEqDiff, ee] at n; clear hE ee; have ee := n; clear n) | (with_reducible first | (refine hK _ _ ?_; clear hK K) | (refine Zi ?_; constructor) | refine yB (by decide) ?_ | refine yH (by assumption) ?_ | refine yJ (by assumption) ?_) | (refine yC rfl ?_) | (simp -implicitDefEqProofs only [push_cast, sevalprocAttr, eq_self, ee, hd, hF.at, qD, wG, hn1, hbT5, hbB5, hb5, hB0, hB1, hB1', hB2, hro, op_0, hcl, r1, hq4, hq8, yZ, hmx, hw1, hw2, d0', d2, d2', d3', d5, d6, d7, hw]) | (simp (disch := omega) only [yF, yK, yG, yL, hF.at, hn1, hbB5, hB0, hB1, hB1', hB2, r1, yZ, hmx, d0', d2', d3']) | ((first | refine yE rfl (fun bb => ?_) (fun bb => ?_) | with_reducible refine yI (fun bb => ?_) (fun bb => ?_)) <;> (first | have bp := oT bb | have bp := oF bb | skip) <;> try simp only [bb]) | ((with_reducible refine And.intro ?_ ?_); omega) | (refine yO (f15 _) ?_) | (refine yO (f16 _ hok) ?_) | (with_reducible refine yM ?_ ?_))
 refine ⟨_, ?_, k + 1, rfl, by simp -implicitDefEqProofs only [kp, push_cast, reduceIte, Nat.reduceEqDiff, ee, E3_0, and_self], by first | rfl | exact yP (by omega) | exact i64w (by omega), ?_⟩
 · omega
 · exact ⟨by omega, (by repeat' (first | exact Ext.refl _ | assumption | omega | (with_reducible (refine Eg ?_; constructor))))⟩
end Go.Proofs.Hx
