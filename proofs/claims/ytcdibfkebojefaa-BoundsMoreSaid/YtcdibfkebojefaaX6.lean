import Derived.Test.YtcdibfkebojefaaX5
set_option linter.unusedVariables false
set_option linter.unusedSimpArgs false
namespace Go.Proofs.Hx
open Go Go.Proofs
/-! ### The plain law: one operation more, one unit more -/
def bump (t : Tab) (c : Nat) : Tab := ⟨fun d => if d = c then t.u c + 1 else t.u d, t.l, t.b, t.d⟩
theorem unitsS_ok {l : List Opn} {t : Tab} (h : (unitsS l t).2 = 0) : errB l t = 0 ∧ (unitsS l t).1 = mostU l t 4 := by
  unfold unitsS at h ⊢
  split at h
  · exact absurd h (by assumption)
  · rename_i g
    have g' : errB l t = 0 := by simpa using g
    exact ⟨g', by simp [g']⟩
theorem cntC_more (l : List Opn) (o : Opn) (c : Nat) : cntC l c ≤ cntC (l ++ [o]) c := by
  simp only [cntC, List.filter_append, List.length_append]; omega
theorem needU_div {t : Tab} {c : Nat} (hb : 0 ≤ t.b c) (hu : 0 < t.u c) (k : Nat) : needU t k c = ((k : Int) * t.b c + t.u c - 1) / t.u c := by
  unfold needU
  have : 0 ≤ (k : Int) * t.b c := Int.mul_nonneg (by omega) hb
  rw [Int.tdiv_eq_ediv_of_nonneg (by omega)]
theorem needU_mono {t : Tab} {c k k' : Nat} (hb : 0 ≤ t.b c) (hu : 0 < t.u c) (h : k ≤ k') : needU t k c ≤ needU t k' c := by
  rw [needU_div hb hu, needU_div hb hu]
  have : (k : Int) * t.b c ≤ (k' : Int) * t.b c := Int.mul_le_mul_of_nonneg_right (by omega) hb
  exact Int.ediv_le_ediv hu (by omega)
theorem units_pos {l : List Opn} {t : Tab} (h : errB l t = 0) {c : Nat} (hc : c < 4) (hk : 0 < cntC l c) : 0 ≤ t.b c ∧ 1 ≤ t.b c ∧ 0 < t.u c := by
  obtain ⟨g2, g4⟩ := errB_ok h
  obtain ⟨g1, g0⟩ := preB_ok g2
  obtain ⟨t1, t2, _, _, t5, t6⟩ := g1.1 c hc
  refine ⟨by omega, t5, ?_⟩
  rcases Int.lt_or_eq_of_le t1 with h | h
  · exact h
  · exact absurd ⟨c, hc, hk, h.symm⟩ g4
theorem mostU_le {l l' : List Opn} {t t' : Tab} (hk : ∀ c < 4, 0 < cntC l c → 0 < cntC l' c ∧ needU t (cntC l c) c ≤ needU t' (cntC l' c) c) : ∀ n ≤ 4, mostU l t n ≤ mostU l' t' n
  | 0, _ => by simp [mostU]
  | n + 1, h => by
    have ih := mostU_le hk n (by omega)
    simp only [mostU]
    by_cases h1 : 0 < cntC l n
    · obtain ⟨h2, h3⟩ := hk n (by omega) h1
      rw [if_pos h1, if_pos h2]
      split <;> split <;> omega
    · rw [if_neg h1]
      split
      · split <;> omega
      · exact ih
theorem more_op {l : List Opn} {t : Tab} {o : Opn} (h1 : (unitsS l t).2 = 0) (h2 : (unitsS (l ++ [o]) t).2 = 0) : (unitsS l t).1 ≤ (unitsS (l ++ [o]) t).1 := by
  obtain ⟨g1, e1⟩ := unitsS_ok h1
  obtain ⟨g2, e2⟩ := unitsS_ok h2
  rw [e1, e2]
  refine mostU_le (fun c hc hk => ?_) 4 (Nat.le_refl _)
  obtain ⟨b0, b1, b2⟩ := units_pos g1 hc hk
  have := cntC_more l o c
  exact ⟨by omega, needU_mono b0 b2 this⟩
theorem more_unit {l : List Opn} {t : Tab} {c : Nat} (h1 : (unitsS l t).2 = 0) (h2 : (unitsS l (bump t c)).2 = 0) : (unitsS l (bump t c)).1 ≤ (unitsS l t).1 := by
  obtain ⟨g1, e1⟩ := unitsS_ok h1
  obtain ⟨g2, e2⟩ := unitsS_ok h2
  rw [e1, e2]
  refine mostU_le (fun d hd hk => ⟨hk, ?_⟩) 4 (Nat.le_refl _)
  obtain ⟨b0, b1, b2⟩ := units_pos g1 hd hk
  obtain ⟨c0, c1, c2⟩ := units_pos g2 hd hk
  rw [needU_div b0 b2, needU_div c0 c2]
  by_cases e : d = c
  · subst e
    have hu : (bump t d).u d = t.u d + 1 := by simp [bump]
    have hb : (bump t d).b d = t.b d := rfl
    rw [hu, hb]
    have hx : 0 ≤ (cntC l d : Int) * t.b d := Int.mul_nonneg (by omega) b0
    generalize (cntC l d : Int) * t.b d = x at *
    generalize t.u d = u at *
    have q0 : 0 ≤ (x + u - 1) / u := Int.ediv_nonneg (by omega) (by omega)
    have q1 : x + u - 1 < ((x + u - 1) / u + 1) * u := Int.lt_ediv_add_one_mul_self _ b2
    generalize (x + u - 1) / u = q at *
    have : (x + (u + 1) - 1) / (u + 1) < q + 1 := by
      rw [Int.ediv_lt_iff_lt_mul (by omega)]
      have e1 : (q + 1) * u = q * u + u := by rw [Int.add_mul, Int.one_mul]
      have e2 : (q + 1) * (u + 1) = q * u + u + q + 1 := by rw [Int.mul_add, e1]; omega
      omega
    omega
  · have hu : (bump t c).u d = t.u d := by simp [bump, e]
    have hb : (bump t c).b d = t.b d := rfl
    rw [hu, hb]
    exact Int.le_refl _
theorem tab_put (t : Tab) {c : Nat} (hc : c < 4) : (tabC t).take c ++ [i64 (t.u c + 1)] ++ (tabC t).drop (c + 1) = tabC (bump t c) := by
  match c, hc with
  | 0, _ | 1, _ | 2, _ | 3, _ => rfl
end Go.Proofs.Hx
