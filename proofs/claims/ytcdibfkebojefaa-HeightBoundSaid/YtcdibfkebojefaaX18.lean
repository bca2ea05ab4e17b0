import Derived.Test.YtcdibfkebojefaaX17
set_option linter.unusedVariables false
set_option linter.unusedSimpArgs false
namespace Go.Proofs.Hx
open Go Go.Proofs
attribute [local irreducible] awpOps awp opK goV goM callG endOps awpOp runOp HV HVF HC
/-! ### How high -/
def mx (a b : Int) : Int := if b > a then b else a
def stepV1 (H : List Int) (a : Int) (x : Edg) : Int := mx a (x.l + H.getD x.t.toNat 0)
/-- The longest way from i, by what is behind. -/
def hOne (lat : Int) (E : List Edg) (H : List Int) : Int := E.foldl (stepV1 H) lat
def outE (E : List Edg) (i : Nat) : List Edg := E.filter fun e => decide (e.f = (i : Int))
def hM (l : List Opn) (t : Tab) (E : List Edg) : Nat → List Int
  | 0 => List.replicate l.length 0
  | m + 1 => (hM l t E m).set (l.length - 1 - m) (hOne (latS t (opAt l (l.length - 1 - m))) (outE E (l.length - 1 - m)) (hM l t E m))
def edOK (n : Nat) (e : Edg) : Prop := 0 ≤ e.f ∧ e.f < e.t ∧ e.t < n ∧ 0 ≤ e.l ∧ e.l ≤ 8
theorem onceE_ok {l : List Opn} {t : Tab} (ht : tabOK t) : ∀ j, ∀ e ∈ onceE l t j, edOK j e := by
  have key : ∀ (i j : Nat), i < j → ∀ e ∈ ijE l t i j, edOK (j + 1) e := by
    intro i j hij e he
    have h1 := latS_ok ht (opAt l i)
    have h2 := latS_ok ht (opAt l j)
    have h3 := ht.1 2 (by omega)
    unfold okC at h3
    unfold ijE at he
    rw [List.mem_append] at he
    rcases he with he | he
    · split at he
      · simp only [List.mem_singleton] at he; subst he
        unfold edOK; simp only; omega
      · simp at he
    · unfold pairE at he
      simp only [List.mem_append] at he
      rcases he with ((he | he) | he) | he <;> (split at he <;> (try (simp at he; done)))
      all_goals
        simp only [List.mem_singleton] at he; subst he
        unfold edOK; simp only
        refine ⟨by omega, by omega, by omega, ?_, ?_⟩ <;> (repeat' split) <;> omega
  have key2 : ∀ (j i : Nat), i ≤ j → ∀ e ∈ toE l t j i, edOK (j + 1) e := by
    intro j i
    induction i with
    | zero => intro _ e he; simp [toE] at he
    | succ i ih =>
      intro hi e he
      simp only [toE, List.mem_append] at he
      rcases he with he | he
      · exact ih (by omega) e he
      · exact key i j (by omega) e he
  intro j
  induction j with
  | zero => intro e he; simp [onceE] at he
  | succ j ih =>
    intro e he
    simp only [onceE, List.mem_append] at he
    rcases he with he | he
    · have := ih e he
      unfold edOK at this ⊢
      omega
    · exact key2 j j (Nat.le_refl _) e he
theorem hM_len (l : List Opn) (t : Tab) (E : List Edg) (m : Nat) : (hM l t E m).length = l.length := by
  induction m with
  | zero => simp [hM]
  | succ m ih => simp [hM, ih]
theorem hM_bnd {l : List Opn} {t : Tab} {E : List Edg} (ht : tabOK t) (hE : ∀ e ∈ E, edOK l.length e) (m : Nat) : ∀ k, 0 ≤ (hM l t E m).getD k 0 ∧ (hM l t E m).getD k 0 ≤ 8 * m := by
  induction m with
  | zero => intro k; simp [hM, List.getD_eq_getElem?_getD, List.getElem?_replicate]; split <;> simp
  | succ m ih =>
    have h1 := latS_ok ht (opAt l (l.length - 1 - m))
    have key : ∀ (L : List Edg) (a : Int), (∀ e ∈ L, edOK l.length e) → 0 ≤ a → a ≤ 8 * (m + 1 : Nat) → 0 ≤ L.foldl (stepV1 (hM l t E m)) a ∧ L.foldl (stepV1 (hM l t E m)) a ≤ 8 * (m + 1 : Nat) := by
      intro L
      induction L with
      | nil => intro a _ h0 h1; exact ⟨h0, h1⟩
      | cons x L ihL =>
        intro a hL h0 h1
        have hx := hL x (List.mem_cons_self ..)
        have := ih x.t.toNat
        unfold edOK at hx
        rw [List.foldl_cons]
        refine ihL _ (fun e he => hL e (List.mem_cons_of_mem _ he)) ?_ ?_ <;> (unfold stepV1 mx; split <;> omega)
    have h2 := key (outE E (l.length - 1 - m)) (latS t (opAt l (l.length - 1 - m))) (fun e he => hE e (List.mem_filter.1 he).1) (by omega) (by omega)
    intro k
    simp only [hM, List.getD_eq_getElem?_getD, List.getElem?_set, hM_len]
    split
    · split
      · simpa [hOne] using h2
      · simp; omega
    · have := ih k
      rw [List.getD_eq_getElem?_getD] at this
      omega
theorem outE_len (E : List Edg) (k i : Nat) : (outE (E.take k) i).length ≤ k := by
  have := List.length_filter_le (fun e : Edg => decide (e.f = (i : Int))) (E.take k)
  simp [outE] at this ⊢; omega
theorem outE_next (E : List Edg) (k i : Nat) (x : Edg) (hx : x.f = i) (h : E.take (k + 1) = E.take k ++ [x]) : outE (E.take (k + 1)) = fun j => if j = i then outE (E.take k) i ++ [x] else outE (E.take k) j := by
  funext j
  rw [h]
  simp only [outE, List.filter_append]
  by_cases hj : j = i
  · subst hj; simp [hx]
  · rw [if_neg hj]
    have : ¬ (i : Int) = (j : Int) := by omega
    simp [hx, this]
def heightS (l : List Opn) (t : Tab) : List Int := hM l t (onceE l t l.length) l.length
end Go.Proofs.Hx
