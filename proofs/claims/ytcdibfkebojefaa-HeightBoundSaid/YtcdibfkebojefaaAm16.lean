import Derived.Test.YtcdibfkebojefaaAm15
set_option linter.unusedVariables false
set_option linter.unusedSimpArgs false
namespace Go.Proofs.Hx

/-! ### Regions -/
def cOpers (P : Program) (q : Bool) (N : Nat) (ops : Array Oper) : List Oper → Option (List AOper)
  | [] => some []
  | o :: l => match cOper P q N ops o, cOpers P q N ops l with | some x, some xs => some (x :: xs) | _, _ => none
/-- The bits of those for whom 'o' waits, be it through others; 'M': the rows that are known. -/
def ancRow (n M : Nat) : List Edge → Nat
  | [] => 0
  | e :: r => (if Region.binds .any e && decide (e.on < n) then (1 <<< e.on) ||| ((M >>> (e.on * n)) % 2 ^ n) else 0) ||| ancRow n M r
def ancM (ops : Array Oper) (n : Nat) : Nat → Nat
  | 0 => 0
  | k + 1 => ancM ops n k ||| (match ops[k]? with | some o => ancRow n (ancM ops n k) o.after.toList <<< (k * n) | none => 0)
/-- Does 'j' wait for 'm', be it through others? -/
def depN (ops : Array Oper) (n j m : Nat) : Bool := decide (m < n) && (ancM ops n n).testBit (j * n + m)
/-- Nobody writes slot 's' behind 'i' and 'j', but those for whom one of them waits. -/
def stable (ops : Array Oper) (l : List AOper) (i j s : Nat) : Bool :=
  (List.range l.length).all fun m => m == i || m == j || m < i || (match l[m]? with | some x => x.dst != some s | none => true) || depN ops ops.size i m || depN ops ops.size j m
def pairChk (ops : Array Oper) (l : List AOper) (seps : List (Nat × Nat)) (i j : Nat) : Bool :=
  match l[i]?, l[j]? with
  | some x, some y => apartT x y && (match sepsOf x y with | some ps => ps.all fun p => seps.contains p && stable ops l i j p.1 && stable ops l i j p.2 | none => false)
  | _, _ => true
def freeA (ops : Array Oper) (l : List AOper) (seps : List (Nat × Nat)) (k : Nat) (listed : Array Bool) : Bool :=
  (List.range ops.size).all fun j => j == k || listed.getD j true || depN ops ops.size j k || pairChk ops l seps k j
def lexA (ops : Array Oper) (l : List AOper) (seps : List (Nat × Nat)) : Nat → Nat → Array Bool → Bool
  | 0, _, _ => true
  | n + 1, k, listed => (Region.ready .any ops listed).contains k && freeA ops l seps k listed && lexA ops l seps n (k + 1) (listed.setIfInBounds k true)
/-- Every operation that makes a block has a slot of its own. -/
def mkOk (l : List AOper) : Bool :=
  (List.range l.length).all fun i => match l[i]? with
    | some x => !makes x.op || (match x.dst with
      | some d => (List.range l.length).all fun j => j == i || (match l[j]? with | some y => !makes y.op || y.dst != some d | none => true)
      | none => false)
    | none => true

def awIdx (P : Program) (l : List AOper) (i : Nat) (K : St → Prop) (σ : St) : Prop :=
  match l[i]? with
  | none => K σ
  | some o => awpOp P o K σ
def awAny (P : Program) (ops : Array Oper) (l : List AOper) (K : St → Prop) : Nat → Array Bool → St → Prop
  | 0, _, σ => K σ
  | n + 1, listed, σ => (Region.ready .any ops listed = [] → K σ) ∧ ∀ i ∈ Region.ready .any ops listed, awIdx P l i (awAny P ops l K n (listed.setIfInBounds i true)) σ

def unl (listed : Array Bool) : Nat := listed.toList.count false

theorem unl_set {listed : Array Bool} {i : Nat} (h : listed.getD i true = false) : unl (listed.setIfInBounds i true) + 1 = unl listed := by
  have hlt : i < listed.size := by
    rcases Nat.lt_or_ge i listed.size with g | g
    · exact g
    · simp [Array.getElem?_eq_none g] at h
  have hv : listed.toList[i]'(by simpa using hlt) = false := by simpa [hlt] using h
  unfold unl
  rw [Array.toList_setIfInBounds, List.count_set (by simpa using hlt)]
  simp only [hv]
  have : 0 < listed.toList.count false := List.count_pos_iff.2 (hv ▸ List.getElem_mem _)
  have e1 : (false == false) = true := rfl
  have e2 : (true == false) = false := rfl
  simp only [e1, e2, if_true, Bool.false_eq_true, if_false, Nat.add_zero]
  omega
theorem unl_pos {listed : Array Bool} {i : Nat} (h : listed.getD i true = false) : 0 < unl listed := by have := unl_set h; omega
theorem unl_zero {listed : Array Bool} (h : unl listed = 0) (i : Nat) : listed.getD i true = true := by
  cases hh : listed.getD i true with
  | true => rfl
  | false => have := unl_pos hh; omega

section
variable {P : Program} {ops : Array Oper} {l : List AOper}

theorem awIdx_mono {i : Nat} {K K' : St → Prop} {σ : St} (hk : ∀ σ, K σ → K' σ) (h : awIdx P l i K σ) : awIdx P l i K' σ := by
  unfold awIdx at *
  split at h
  · exact hk _ h
  · exact awpOp_mono hk h
def closed (ops : Array Oper) (listed : Array Bool) : Prop :=
  ∀ k o, listed.getD k false = true → ops[k]? = some o → ∀ e ∈ o.after, Region.binds .any e = true → listed.getD e.on false = true
theorem closed_set {listed : Array Bool} {i : Nat} (h : closed ops listed) (hi : i ∈ Region.ready .any ops listed) : closed ops (listed.setIfInBounds i true) := by
  intro k o hk ho e he hb
  by_cases e' : i = k
  · subst e'
    obtain ⟨_, o', ho', hall⟩ := mem_ready.1 hi
    rw [ho] at ho'
    cases ho'
    exact getD_set_true (hall e he hb)
  · rw [getD_set_ne false e'] at hk
    exact getD_set_true (h k o hk ho e he hb)
/-- Where all for whom 'j' waits are listed, 'm' is. -/
def GoodA (ops : Array Oper) (j m : Nat) : Prop := ∀ listed : Array Bool, closed ops listed → (∀ o, ops[j]? = some o → ∀ e ∈ o.after, Region.binds .any e = true → listed.getD e.on false = true) → listed.getD m false = true
theorem ancRow_good {n M : Nat} (hM : ∀ x, M.testBit x = true → GoodA ops (x / n) (x % n)) {j : Nat} {o : Oper} (ho : ops[j]? = some o) : ∀ (l : List Edge), (∀ e ∈ l, e ∈ o.after) → ∀ y, (ancRow n M l).testBit y = true → y < n ∧ GoodA ops j y
  | [], _, y, h => by simp [ancRow] at h
  | e :: r, hl, y, h => by
    simp only [ancRow, Nat.testBit_or, Bool.or_eq_true] at h
    rcases h with h | h
    · split at h
      · rename_i hc
        simp only [Bool.and_eq_true, decide_eq_true_eq] at hc
        simp only [Nat.testBit_or, Bool.or_eq_true, Nat.testBit_shiftLeft, Nat.testBit_mod_two_pow, Nat.testBit_shiftRight, Bool.and_eq_true, decide_eq_true_eq] at h
        rcases h with h | h
        · have : y = e.on := by
            have h2 := h.2
            rw [Nat.testBit_one_eq_true_iff_self_eq_zero] at h2
            omega
          subst this
          exact ⟨hc.2, fun listed _ hx => hx o ho e (hl e (by simp)) hc.1⟩
        · refine ⟨h.1, fun listed hcl hx => ?_⟩
          have h1 := hM _ h.2
          have hn : 0 < n := by omega
          have e1 : (e.on * n + y) / n = e.on := by
            rw [Nat.mul_comm, Nat.mul_add_div hn, Nat.div_eq_of_lt h.1]; rfl
          have e2 : (e.on * n + y) % n = y := by
            rw [Nat.mul_comm, Nat.mul_add_mod, Nat.mod_eq_of_lt h.1]
          rw [e1, e2] at h1
          exact h1 listed hcl fun o' ho' e' he' hb' => hcl e.on o' (hx o ho e (hl e (by simp)) hc.1) ho' e' he' hb'
      · simp at h
    · exact ancRow_good hM ho r (fun e' he' => hl e' (by simp [he'])) y h
theorem ancM_good {n : Nat} : ∀ (k : Nat) x, (ancM ops n k).testBit x = true → GoodA ops (x / n) (x % n)
  | 0, x, h => by simp [ancM] at h
  | k + 1, x, h => by
    simp only [ancM, Nat.testBit_or, Bool.or_eq_true] at h
    rcases h with h | h
    · exact ancM_good k x h
    · split at h
      · rename_i o ho
        simp only [Nat.testBit_shiftLeft, Bool.and_eq_true, decide_eq_true_eq] at h
        obtain ⟨h1, h2⟩ := ancRow_good (ancM_good k) ho o.after.toList (fun e he => by simpa using he) _ h.2
        have hn : 0 < n := by omega
        have hx : x = n * k + (x - k * n) := by rw [Nat.mul_comm n k]; omega
        have e1 : x / n = k := by rw [hx, Nat.mul_add_div hn, Nat.div_eq_of_lt h1]; rfl
        have e2 : x % n = x - k * n := by rw [hx, Nat.mul_add_mod, Nat.mod_eq_of_lt h1, ← hx]
        rw [e1, e2]
        exact h2
      · simp at h
theorem dep_listed {listed : Array Bool} (hc : closed ops listed) (n j m : Nat) (hj : ∀ o, ops[j]? = some o → ∀ e ∈ o.after, Region.binds .any e = true → listed.getD e.on false = true) (h : depN ops n j m = true) : listed.getD m false = true := by
  simp only [depN, Bool.and_eq_true, decide_eq_true_eq] at h
  have h1 := ancM_good _ _ h.2
  have hn : 0 < n := by omega
  have e1 : (j * n + m) / n = j := by
    rw [Nat.mul_comm, Nat.mul_add_div hn, Nat.div_eq_of_lt h.1]; rfl
  have e2 : (j * n + m) % n = m := by
    rw [Nat.mul_comm, Nat.mul_add_mod, Nat.mod_eq_of_lt h.1]
  rw [e1, e2] at h1
  exact h1 listed hc hj
theorem listed_not {listed : Array Bool} {m : Nat} (h : listed.getD m false = true) : listed.getD m true = true := by
  rcases Nat.lt_or_ge m listed.size with g | g
  · simpa [g] using h
  · simp [Array.getElem?_eq_none g] at h

/-- The end of all that is left, and what it leaves of the frame. -/
theorem awAny_final {K : St → Prop} (h4 : ∀ (j : Nat) x, l[j]? = some x → cls x.op ≠ 4) : ∀ (n : Nat) (listed : Array Bool) (σ : St), awAny P ops l K n listed σ → ∃ σf, K σf ∧ ∀ s, (∀ (m : Nat) x, listed.getD m true = false → l[m]? = some x → x.dst ≠ some s) → σf.env s = σ.env s
  | 0, listed, σ, h => ⟨σ, h, fun _ _ => rfl⟩
  | n + 1, listed, σ, h => by
    cases hr : Region.ready .any ops listed with
    | nil => exact ⟨σ, h.1 hr, fun _ _ => rfl⟩
    | cons i rest =>
      have hi : i ∈ Region.ready .any ops listed := by rw [hr]; simp
      have h1 := h.2 i hi
      have hun := (mem_ready.1 hi).1
      have sub : ∀ m, (listed.setIfInBounds i true).getD m true = false → listed.getD m true = false := fun m hm => by
        by_cases e : i = m
        · subst e; exact hun
        · rwa [getD_set_ne true e] at hm
      unfold awIdx at h1
      cases hx : l[i]? with
      | none =>
        rw [hx] at h1
        obtain ⟨σf, hk, hag⟩ := awAny_final h4 n _ σ h1
        exact ⟨σf, hk, fun s hs => hag s fun m x hm hx => hs m x (sub m hm) hx⟩
      | some x =>
        rw [hx] at h1
        simp only at h1
        rw [Ef.awp (h4 i x hx)] at h1
        obtain ⟨r, h', _, h2⟩ := h1
        obtain ⟨σf, hk, hag⟩ := awAny_final h4 n _ _ h2
        refine ⟨σf, hk, fun s hs => ?_⟩
        rw [hag s fun m y hm hy => hs m y (sub m hm) hy]
        have hne := hs i x hun hx
        cases hd : x.dst with
        | none => simp [putA]
        | some d =>
          simp only [putA]
          exact upd_ne _ _ fun e => hne (by rw [hd, e])

theorem sepAll_mem : ∀ {seps : List (Nat × Nat)} {env : Nat → AV}, sepAll seps env → ∀ p ∈ seps, sepV (env p.1) (env p.2)
  | [], _, _, _, h => by cases h
  | (a, b) :: r, env, h, p, hp => by
    simp only [sepAll] at h
    cases hp with
    | head => exact h.1
    | tail _ hp => exact sepAll_mem h.2 p hp

/-- An operation that may come up now may be taken first. -/
theorem awAny_first {K : St → Prop} {seps : List (Nat × Nat)} (h4 : ∀ (j : Nat) x, l[j]? = some x → cls x.op ≠ 4) (hK : ∀ σ, K σ → sepAll seps σ.env) {i : Nat} : ∀ (n : Nat) (listed : Array Bool) (σ : St), closed ops listed → unl listed ≤ n + 1 →
    (∀ m, m < i → listed.getD m true = true) →
    (∀ j, j < ops.size → j ≠ i → listed.getD j true = false → depN ops ops.size j i = false → pairChk ops l seps i j = true) →
    i ∈ Region.ready .any ops listed → awIdx P l i (awAny P ops l K n (listed.setIfInBounds i true)) σ → awAny P ops l K (n + 1) listed σ
  | 0, listed, σ, hcl, hu, hlow, hfree, hr, H => by
    refine ⟨fun h => (by rw [h] at hr; cases hr), fun j hj => ?_⟩
    by_cases hji : j = i
    · subst hji; exact H
    · have h1 := (mem_ready.1 hr).1
      have h2 := (mem_ready.1 hj).1
      have h3 : (listed.setIfInBounds i true).getD j true = false := by rw [getD_set_ne true (Ne.symm hji)]; exact h2
      have := unl_set h1
      have := unl_pos h3
      omega
  | n + 1, listed, σ, hcl, hu, hlow, hfree, hr, H => by
    refine ⟨fun h => (by rw [h] at hr; cases hr), fun j hj => ?_⟩
    by_cases hji : j = i
    · subst hji; exact H
    · have hjr := ready_mono hj hji
      have H2 : awIdx P l i (awIdx P l j (awAny P ops l K n ((listed.setIfInBounds i true).setIfInBounds j true))) σ := awIdx_mono (fun σ' h => h.2 j hjr) H
      have h1 := (mem_ready.1 hr).1
      have h2 := (mem_ready.1 hj).1
      obtain ⟨_, oi, hoi, halli⟩ := mem_ready.1 hr
      obtain ⟨_, oj, hoj, hallj⟩ := mem_ready.1 hj
      have hdj : ∀ m, depN ops ops.size j m = true → listed.getD m true = true := fun m hm => listed_not (dep_listed hcl _ j m (fun o ho e he hb => by rw [hoj] at ho; cases ho; exact hallj e he hb) hm)
      have hdi : ∀ m, depN ops ops.size i m = true → listed.getD m true = true := fun m hm => listed_not (dep_listed hcl _ i m (fun o ho e he hb => by rw [hoi] at ho; cases ho; exact halli e he hb) hm)
      have hjlt : j < ops.size := (Array.getElem?_eq_some_iff.1 hoj).1
      have hnd : depN ops ops.size j i = false := by
        cases hw : depN ops ops.size j i with
        | false => rfl
        | true => have := hdj i hw; rw [h1] at this; cases this
      have H3 : awIdx P l j (awIdx P l i (awAny P ops l K n ((listed.setIfInBounds i true).setIfInBounds j true))) σ := by
        cases hx : l[i]? with
        | none => unfold awIdx at H2 ⊢; simp only [hx] at H2 ⊢; exact H2
        | some x =>
          cases hy : l[j]? with
          | none => unfold awIdx at H2 ⊢; simp only [hx, hy] at H2 ⊢; exact H2
          | some y =>
            have hp := hfree j hjlt hji h2 hnd
            unfold pairChk at hp
            simp only [hx, hy, Bool.and_eq_true] at hp
            obtain ⟨hap, hps⟩ := hp
            split at hps
            · rename_i ps hsep
              unfold awIdx at H2 ⊢
              simp only [hx, hy] at H2 ⊢
              rw [Ef.awp (h4 i x hx)] at H2
              obtain ⟨r1, h1', e1, H2⟩ := H2
              rw [Ef.awp (h4 j y hy)] at H2
              obtain ⟨r2, h2', e2, H2⟩ := H2
              obtain ⟨σf, hk, hag⟩ := awAny_final h4 _ _ _ H2
              have hs := hK σf hk
              have hst : ∀ s, stable ops l i j s = true → σf.env s = putA (putA σ.env x.dst r1) y.dst r2 s := fun s hst => by
                refine hag s fun m z hm hz => ?_
                unfold stable at hst
                have hml : m < l.length := (List.getElem?_eq_some_iff.1 hz).1
                have := List.all_eq_true.1 hst m (List.mem_range.2 hml)
                simp only [hz, Bool.or_eq_true, beq_iff_eq, decide_eq_true_eq, bne_iff_ne] at this
                have hmi : m ≠ i := fun e => by
                  subst e
                  by_cases e' : j = m
                  · exact hji e'
                  · rw [getD_set_ne true e'] at hm
                    have hlt : m < listed.size := by
                      rcases Nat.lt_or_ge m listed.size with g | g
                      · exact g
                      · simp [Array.getElem?_eq_none g] at h1
                    simp [hlt] at hm
                have hmj : m ≠ j := fun e => by
                  subst e
                  have hlt : m < listed.size := by
                    rcases Nat.lt_or_ge m listed.size with g | g
                    · exact g
                    · simp [Array.getElem?_eq_none g] at h2
                  simp [hlt] at hm
                have hm0 : listed.getD m true = false := by
                  rw [getD_set_ne true (Ne.symm hmj), getD_set_ne true (Ne.symm hmi)] at hm
                  exact hm
                rcases this with ((((h | h) | h) | h) | h) | h
                · exact absurd h hmi
                · exact absurd h hmj
                · have := hlow m h; rw [hm0] at this; cases this
                · exact h
                · have := hdi m h; rw [hm0] at this; cases this
                · have := hdj m h; rw [hm0] at this; cases this
              obtain ⟨hm, a1, a2, a3⟩ := comm hap hsep e1 e2 (fun p hp => by
                have hq := List.all_eq_true.1 hps p hp
                simp only [Bool.and_eq_true] at hq
                have := sepAll_mem hs p (by simpa using hq.1.1)
                rwa [hst p.1 hq.1.2, hst p.2 hq.2] at this)
              rw [Ef.awp (h4 j y hy)]
              refine ⟨r2, hm, a1, ?_⟩
              rw [Ef.awp (h4 i x hx)]
              refine ⟨r1, h2', a2, ?_⟩
              rw [← a3]
              exact H2
            · cases hps
      refine awIdx_mono (fun σ' h => ?_) H3
      refine awAny_first h4 hK n (listed.setIfInBounds j true) σ' (closed_set hcl hj) (by have := unl_set h2; omega) (fun m hm => ?_) (fun k hk hki hun hnw => ?_) (ready_mono hr (Ne.symm hji)) ?_
      · by_cases e : j = m
        · subst e
          have := hlow j hm
          rw [h2] at this
          cases this
        · rw [getD_set_ne true e]; exact hlow m hm
      · refine hfree k hk hki ?_ hnw
        by_cases hkj : j = k
        · subst hkj; exact h2
        · rw [getD_set_ne true hkj] at hun; exact hun
      · rw [Array.setIfInBounds_comm _ _ hji]
        exact h

theorem awAny_lex {K : St → Prop} {seps : List (Nat × Nat)} (h4 : ∀ (j : Nat) x, l[j]? = some x → cls x.op ≠ 4) (hK : ∀ σ, K σ → sepAll seps σ.env) : ∀ (n k : Nat) (l' : List AOper) (listed : Array Bool) (σ : St), closed ops listed → unl listed ≤ n → (∀ m, m < k → listed.getD m true = true) → l'.length = n → (∀ j, l'[j]? = l[k + j]?) → lexA ops l seps n k listed = true →
    awpOps P l' K σ → awAny P ops l K n listed σ
  | 0, k, l', listed, σ, hcl, hu, hlow, hn, hl, hB, h => by
    have : l' = [] := List.length_eq_zero_iff.1 hn
    subst this
    exact h
  | n + 1, k, [], listed, σ, hcl, hu, hlow, hn, hl, hB, h => by simp at hn
  | n + 1, k, o :: l', listed, σ, hcl, hu, hlow, hn, hl, hB, h => by
    simp only [lexA, Bool.and_eq_true] at hB
    obtain ⟨⟨hr, hfr⟩, hB⟩ := hB
    have hr : k ∈ Region.ready .any ops listed := by simpa using hr
    have hk : l[k]? = some o := by have := hl 0; simpa using this.symm
    have h0 := (mem_ready.1 hr).1
    refine awAny_first h4 hK n listed σ hcl hu hlow (fun j hj hji hun hnd => ?_) hr ?_
    · unfold freeA at hfr
      have := List.all_eq_true.1 hfr j (List.mem_range.2 hj)
      simp only [hnd, hun] at this
      simpa [hji] using this
    · unfold awIdx
      simp only [hk]
      simp only [awpOps] at h
      refine awpOp_mono (fun σ' hx => ?_) h
      refine awAny_lex h4 hK n (k + 1) l' _ σ' (closed_set hcl hr) (by have := unl_set h0; omega) (fun m hm => ?_) (by simpa using hn) (fun j => by have := hl (j + 1); simpa [Nat.add_assoc, Nat.add_comm 1 j] using this) hB hx
      by_cases e : k = m
      · subst e
        have hlt : k < listed.size := by
          rcases Nat.lt_or_ge k listed.size with g | g
          · exact g
          · simp [Array.getElem?_eq_none g] at h0
        simp [hlt]
      · rw [getD_set_ne true e]; exact hlow m (by omega)

/-- Compiled operations one by one. -/
theorem cOpers_get {q : Bool} {N : Nat} : ∀ {os : List Oper} {xs : List AOper}, cOpers P q N ops os = some xs → xs.length = os.length ∧ ∀ (j : Nat) o, os[j]? = some o → ∃ x, xs[j]? = some x ∧ cOper P q N ops o = some x
  | [], xs, h => by simp [cOpers] at h; subst h; simp
  | o :: os, xs, h => by
    simp only [cOpers] at h
    split at h
    · rename_i x ys h1 h2
      cases h
      obtain ⟨h3, h4⟩ := cOpers_get h2
      refine ⟨by simp [h3], fun j o' hj => ?_⟩
      cases j with
      | zero => simp at hj; subst hj; exact ⟨x, rfl, h1⟩
      | succ j => simp at hj ⊢; exact h4 j o' hj
    · cases h

/-- The slots of the blocks that the listed operations have made. -/
def Dl (l : List AOper) (done : Nat → Prop) (s : Nat) : Prop := ∃ (m : Nat) (x : AOper), done m ∧ l[m]? = some x ∧ makes x.op = true ∧ x.dst = some s
theorem mk_fresh (hm : mkOk l = true) {i : Nat} {x : AOper} (hx : l[i]? = some x) {done : Nat → Prop} (hd : ¬ done i) (hmk : makes x.op = true) : ∃ d, x.dst = some d ∧ ¬ Dl l done d := by
  unfold mkOk at hm
  have hil : i < l.length := (List.getElem?_eq_some_iff.1 hx).1
  have h1 := List.all_eq_true.1 hm i (List.mem_range.2 hil)
  simp only [hx, hmk, Bool.not_true, Bool.false_or] at h1
  split at h1
  · rename_i d hd'
    refine ⟨d, hd', fun ⟨m, y, hdm, hy, hmy, hyd⟩ => ?_⟩
    have hml : m < l.length := (List.getElem?_eq_some_iff.1 hy).1
    have h2 := List.all_eq_true.1 h1 m (List.mem_range.2 hml)
    simp only [hy, hmy, hyd, Bool.not_true, bne_self_eq_false, Bool.or_false, beq_iff_eq] at h2
    subst h2
    exact hd hdm
  · cases h1
theorem RS.weaken {N : Nat} {c0 : Cx} {D D' : Nat → Prop} {σ : St} {a : Act} {w : World} (h : RS N c0 D σ a w) (hd : ∀ s, D s → D' s) : RS N c0 D' σ a w := by
  obtain ⟨c, h1, h2, h3, h4, h5, h6, h7, h8, h9, h10, h11⟩ := h
  exact ⟨c, h1, h2, h3, h4, h5, h6, h7, h8, h9, h10, fun id hid => (h11 id hid).imp (fun h => h) fun h => ⟨h.1, hd _ h.2⟩⟩
theorem Dn_Dl {done : Nat → Prop} {i : Nat} {x : AOper} (hx : l[i]? = some x) : ∀ s, Dn (Dl l done) x s → Dl l (fun m => done m ∨ m = i) s := by
  rintro s (⟨m, y, h1, h2, h3, h4⟩ | ⟨h1, h2⟩)
  · exact ⟨m, y, .inl h1, h2, h3, h4⟩
  · exact ⟨i, x, .inr rfl, hx, h1, h2⟩

theorem ops_sound {N : Nat} {q : Bool} {c0 : Cx} {K : St → Prop} {Q : Exit → Act → World → Prop} (hmk : mkOk l = true) (hQ : ∀ σ a w, K σ → RS N c0 (fun _ => True) σ a w → Q .normal a w) :
    ∀ (l' : List AOper) (k : Nat) (σ : St) (a : Act) (w : World), (∀ j, l'[j]? = l[k + j]?) → (∀ (j : Nat) x, l'[j]? = some x → ∃ o, ops[k + j]? = some o ∧ cOper P q N ops o = some x) → awpOps P l' K σ → RS N c0 (Dl l (· < k)) σ a w → wpOps P ops Q (List.range' k l'.length) a w
  | [], k, σ, a, w, hj, hl, h, hR => by simpa [wpOps] using hQ σ a w h (hR.weaken fun _ _ => trivial)
  | x :: l', k, σ, a, w, hj, hl, h, hR => by
    simp only [List.length_cons, List.range'_succ, wpOps_cons]
    obtain ⟨o, ho, hc⟩ := hl 0 x rfl
    have hx : l[k]? = some x := by have := hj 0; simpa using this.symm
    simp only [awpOps] at h
    refine wpOp_mono (fun a' w' hy => ?_) (op_sound (by simpa using ho) hc (fun hm => mk_fresh (done := fun m => m < k) hmk hx (Nat.lt_irrefl k) hm) h hR Q)
    obtain ⟨σ', hk, hR'⟩ := hy
    refine ops_sound hmk hQ l' (k + 1) σ' a' w' (fun j => by have := hj (j + 1); simpa [Nat.add_assoc, Nat.add_comm 1 j] using this) (fun j y hy => by obtain ⟨o', h1, h2⟩ := hl (j + 1) y (by simpa using hy); exact ⟨o', by rw [show k + 1 + j = k + (j + 1) by omega]; exact h1, h2⟩) hk (hR'.weaken fun s hs => ?_)
    obtain ⟨m, y, h1, h2⟩ := Dn_Dl hx s hs
    exact ⟨m, y, by omega, h2⟩

theorem any_sound {N : Nat} {q : Bool} {c0 : Cx} {K : St → Prop} {Q : Exit → Act → World → Prop} (hmk : mkOk l = true) (hQ : ∀ σ a w, K σ → RS N c0 (fun _ => True) σ a w → Q .normal a w) (hl : ∀ (j : Nat) o, ops[j]? = some o → ∃ x, l[j]? = some x ∧ cOper P q N ops o = some x) :
    ∀ (n : Nat) (listed : Array Bool) (σ : St) (a : Act) (w : World), unl listed ≤ n → awAny P ops l K n listed σ → RS N c0 (Dl l fun m => listed.getD m true = true) σ a w → wpAny P .any ops Q n listed a w
  | 0, listed, σ, a, w, hu, h, hR => by
    refine ⟨?_, hQ σ a w h (hR.weaken fun _ _ => trivial)⟩
    rw [List.eq_nil_iff_forall_not_mem]
    intro i hi
    have := (mem_ready.1 hi).1
    rw [unl_zero (by omega) i] at this
    cases this
  | n + 1, listed, σ, a, w, hu, h, hR => by
    refine ⟨fun h0 => hQ σ a w (h.1 h0) (hR.weaken fun _ _ => trivial), fun i hi => ?_⟩
    have hi' := mem_ready.1 hi
    obtain ⟨o, ho, _⟩ := hi'.2
    obtain ⟨x, hx, hc⟩ := hl i o ho
    have h1 := h.2 i hi
    unfold awIdx at h1
    simp only [hx] at h1
    refine wpOp_mono (fun a' w' hy => ?_) (op_sound ho hc (fun hm => mk_fresh hmk hx (by rw [hi'.1]; simp) hm) h1 hR Q)
    obtain ⟨σ', hk, hR'⟩ := hy
    refine any_sound hmk hQ hl n _ σ' a' w' (by have := unl_set hi'.1; omega) hk (hR'.weaken fun s hs => ?_)
    obtain ⟨m, y, h2, h3⟩ := Dn_Dl hx s hs
    refine ⟨m, y, ?_, h3⟩
    rcases h2 with h2 | h2
    · by_cases e : i = m
      · subst e; rw [hi'.1] at h2; cases h2
      · rw [getD_set_ne true e]; exact h2
    · subst h2
      have hlt : m < listed.size := by
        rcases Nat.lt_or_ge m listed.size with g | g
        · exact g
        · have := hi'.1; simp [Array.getElem?_eq_none g] at this
      simp [hlt]
end

/-! ### Code -/
/-- All that must lie apart at a region's end. -/
def allSeps (ops : Array Oper) (l : List AOper) : List (Nat × Nat) :=
  ((List.range l.length).flatMap fun i => (List.range l.length).flatMap fun j => if i < j && !depN ops ops.size j i then (match l[i]?, l[j]? with | some x, some y => (sepsOf x y).getD [] | _, _ => []) else []).eraseDups
def cCode (P : Program) (N : Nat) : Code → Option ACode
  | .skip => some .skip
  | .region _ ops draw => match cOpers P draw N ops ops.toList with
    | some l => if mkOk l then (if draw then (if (l.all fun x => cls x.op != 4) && lexA ops l (allSeps ops l) ops.size 0 (Array.replicate ops.size false) then some (.ops l (allSeps ops l)) else none) else some (.ops l [])) else none
    | none => none
  | .seq a b => match cCode P N a, cCode P N b with | some x, some y => some (.seq x y) | _, _ => none
  | .cond c a b => match cOpd c, cCode P N a, cCode P N b with | some c, some x, some y => some (.cond c x y) | _, _, _ => none
  | .block id c => match cCode P N c with | some x => some (.block id x) | none => none
  | .loop c => match cCode P N c with | some x => some (.loop x) | none => none
  | .exit id => some (.exit id)
  | .ret => some .ret
  | _ => none

/-- A loop, by numbered invariants. -/
theorem wp_loop_rel {P : Program} {Q : Exit → Act → World → Prop} {c : Code} {a : Act} {w : World} (I : Nat → Act → World → Prop) (h₀ : ∃ n, I n a w)
    (round : ∀ n a w, I n a w → c.wp P (Exit.then (fun a' w' => ∃ m, m < n ∧ I m a' w') Q) a w) : (Code.loop c).wp P Q a w := by
  intro b k cs
  have key : ∀ n a w, I n a w → ∃ e a' w', Q e a' w' ∧ Arrives P (lone (b.at a (.code c :: .inLoop c :: k)) cs w) b k cs e a' w' := by
    intro n
    induction n using Nat.strongRecOn with
    | _ n ih =>
      intro a w hI
      obtain ⟨e, a₁, w₁, hq, harr⟩ := round n a w hI b (.inLoop c :: k) cs
      cases e with
      | normal =>
        obtain ⟨m, hlt, hI₁⟩ := hq
        obtain ⟨e₂, a₂, w₂, hq₂, harr₂⟩ := ih m hlt a₁ w₁ hI₁
        exact ⟨e₂, a₂, w₂, hq₂, .of_steps (Steps.trans harr (.one step_inLoop)) harr₂⟩
      | exit id => exact ⟨_, a₁, w₁, hq, .pass (x := .inLoop c) rfl (fun _ _ => .inl (by simp)) harr⟩
      | goto l => exact ⟨_, a₁, w₁, hq, .pass (x := .inLoop c) rfl (fun _ _ => .inl (by simp)) harr⟩
      | ret => exact ⟨_, a₁, w₁, hq, .pass (x := .inLoop c) rfl (fun _ _ => .inl (by simp)) harr⟩
      | panic ch => exact ⟨_, a₁, w₁, hq, .pass (x := .inLoop c) rfl (fun _ _ => .inl (by simp)) harr⟩
      | outgrown => exact ⟨_, a₁, w₁, hq, .pass (x := .inLoop c) rfl (fun _ _ => .inl (by simp)) harr⟩
  obtain ⟨n, hn⟩ := h₀
  obtain ⟨e, a', w', hq, harr⟩ := key n a w hn
  exact ⟨e, a', w', hq, .of_steps (.one step_loop) harr⟩

/-- What the abstract postcondition says of the real end. -/
def lift (N : Nat) (c0 : Cx) (Q : AEx → St → Prop) : Exit → Act → World → Prop := fun e a w => ∃ ae σ, e = ae.toExit ∧ Q ae σ ∧ RS N c0 (fun _ => True) σ a w

theorem drew_ctx {c : Cx} (hH : HRep c) : Le c ⟨{ c.w with drawn := c.w.drawn + 1 }, c.S, c.h, c.φ, c.al⟩ ∧ HRep ⟨{ c.w with drawn := c.w.drawn + 1 }, c.S, c.h, c.φ, c.al⟩ ∧ Fr c ⟨{ c.w with drawn := c.w.drawn + 1 }, c.S, c.h, c.φ, c.al⟩ := by
  have hle : Le c ⟨{ c.w with drawn := c.w.drawn + 1 }, c.S, c.h, c.φ, c.al⟩ := ⟨fun b h => ⟨h, rfl⟩, fun _ h => h, fun _ _ => rfl, fun id _ blk h => ⟨blk, h, rfl, fun arr el fr h => ⟨arr, h, rfl⟩⟩⟩
  refine ⟨hle, ⟨hH.slt, fun id blk h => ?_, fun id es h => ?_, hH.inj⟩, ⟨rfl, rfl, rfl, Nat.le_refl _, fun _ _ _ => rfl, fun _ h => .inl h, fun _ h => .inl h⟩⟩
  · obtain ⟨a1, a2, a3, a4, a5⟩ := hH.blk id blk h
    exact ⟨a1, a2, CRep.mono hle _ rfl _ _ a3, a4, a5⟩
  · obtain ⟨a1, a2, a3, ents, cl, a4, a5⟩ := hH.mp id es h
    exact ⟨a1, a2, a3, ents, cl, a4, ERep.mono hle _ _ a5⟩

theorem RS.drew {N : Nat} {c0 : Cx} {D : Nat → Prop} {σ : St} {a : Act} {w : World} (h : RS N c0 D σ a w) : RS N c0 D σ a { w with drawn := w.drawn + 1 } := by
  obtain ⟨c, rfl, hh, hH, hE, hN, hD, h0, f0, l0, hlt, hal⟩ := h
  obtain ⟨t1, t2, t3⟩ := drew_ctx hH
  exact ⟨⟨{ c.w with drawn := c.w.drawn + 1 }, c.S, c.h, c.φ, c.al⟩, rfl, hh, t2, fun i => VRep.mono t1 _ _ (hE i), hN, hD, h0.trans t1, f0.trans t3, ⟨l0.ep, l0.al⟩, hlt, hal⟩
/-- A region begins: a new epoch. -/
theorem RS.tick {N : Nat} {c0 : Cx} {D D' : Nat → Prop} {σ : St} {a : Act} {w : World} (h : RS N c0 D σ a w) : RS N c0 D' ⟨σ.env, σ.h.tick⟩ a w := by
  obtain ⟨c, rfl, hh, hH, hE, hN, hD, h0, f0, l0, hlt, hal⟩ := h
  obtain ⟨t1, t2, t3⟩ := tick_ctx hH (c.h.ep + 1)
  refine ⟨⟨c.w, c.S, { c.h with ep := c.h.ep + 1 }, c.φ, c.al⟩, rfl, by rw [← hh]; rfl, t2, fun i => VRep.mono t1 _ _ (hE i), hN, hD, h0.trans t1, f0.trans t3, ⟨Nat.le_succ_of_le l0.ep, l0.al⟩, Nat.lt_succ_of_lt hlt, fun id hid => .inl ?_⟩
  rcases hal id hid with h | h
  · exact Nat.lt_succ_of_lt h
  · exact h.1 ▸ Nat.lt_succ_self _

theorem RS.fresh {N : Nat} {c0 : Cx} {D : Nat → Prop} {σ : St} {a : Act} {w : World} (h : RS N c0 D σ a w) : Fresh σ.h := by
  obtain ⟨c, rfl, hh, hH, hE, hN, hD, h0, f0, l0, hlt, hal⟩ := h
  rw [← hh]
  exact fresh_of hH fun id h => by rcases hal id h with h | h <;> omega

theorem awp_sound {P : Program} (hm : P.follows .mixedOrders = true) {N : Nat} {c0 : Cx} : ∀ (c : Code) (ac : ACode), cCode P N c = some ac → ∀ (Q : AEx → St → Prop) (σ : St) (a : Act) (w : World), awp P ac Q σ → RS N c0 (fun _ => True) σ a w → c.wp P (lift N c0 Q) a w
  | .skip, ac, hc, Q, σ, a, w, h, hR => by
    simp only [cCode, Option.some.injEq] at hc
    subst hc
    exact wp_skip ⟨.normal, σ, rfl, h, hR⟩
  | .region id ops draw, ac, hc, Q, σ, a, w, h, hR => by
    simp only [cCode] at hc
    split at hc
    · rename_i l hl
      obtain ⟨hlen, hget⟩ := cOpers_get hl
      have hlen' : l.length = ops.size := by rw [hlen]; simp
      split at hc
      · rename_i hmk
        cases draw with
        | false =>
          simp only [Bool.false_eq_true, if_false, Option.some.injEq] at hc
          subst hc
          refine wp_region ?_
          rw [List.range_eq_range']
          have := ops_sound (P := P) (ops := ops) (l := l) (q := false) (N := N) (c0 := c0) (K := fun σ' => sepAll [] σ'.env ∧ Q .normal σ') (Q := lift N c0 Q) hmk (fun σ a w hk hr => ⟨.normal, σ, rfl, hk.2, hr⟩) l 0 ⟨σ.env, σ.h.tick⟩ a w (fun j => by simp) (fun j x hx => by
            have hj : j < ops.toList.length := by rw [← hlen]; exact (List.getElem?_eq_some_iff.1 hx).1
            obtain ⟨x', h1, h2⟩ := hget j _ (List.getElem?_eq_getElem hj)
            rw [hx] at h1
            cases h1
            exact ⟨_, by simp at hj ⊢, h2⟩) (h hR.fresh) (hR.tick (D' := Dl l (· < 0)))
          rwa [hlen'] at this
        | true =>
          simp only [if_true] at hc
          split at hc
          · rename_i hB
            simp only [Option.some.injEq] at hc
            subst hc
            simp only [Bool.and_eq_true] at hB
            have h4 : ∀ (j : Nat) x, l[j]? = some x → cls x.op ≠ 4 := fun j x hx => by
              have := List.all_eq_true.1 hB.1 x (List.mem_of_getElem? hx)
              simpa using this
            have hu : unl (Array.replicate ops.size false) = ops.size := by simp [unl]
            have h1 := awAny_lex (P := P) (ops := ops) (l := l) (K := fun σ' => sepAll (allSeps ops l) σ'.env ∧ Q .normal σ') (seps := allSeps ops l) h4 (fun σ hk => hk.1) ops.size 0 l (Array.replicate ops.size false) ⟨σ.env, σ.h.tick⟩
              (fun k o hk _ => by
                exfalso
                rcases Nat.lt_or_ge k ops.size with g | g
                · simp [g] at hk
                · rw [Array.getD_eq_getD_getElem?, Array.getElem?_eq_none (by simpa using g)] at hk; simp at hk) (by omega) (fun m hm => by omega) hlen' (fun j => by simp) hB.2 (h hR.fresh)
            have hR' : RS N c0 (Dl l fun m => (Array.replicate ops.size false).getD m true = true) ⟨σ.env, σ.h.tick⟩ a { w with drawn := w.drawn + 1 } := hR.drew.tick
            exact wp_region_any hm (any_sound (q := true) (N := N) (c0 := c0) (K := fun σ' => sepAll (allSeps ops l) σ'.env ∧ Q .normal σ') (Q := lift N c0 Q) hmk (fun σ a w hk hr => ⟨.normal, σ, rfl, hk.2, hr⟩) (fun j o ho => hget j o (by simpa using ho)) ops.size _ ⟨σ.env, σ.h.tick⟩ a _ (by omega) h1 hR')
          · cases hc
      · cases hc
    · cases hc
  | .seq x y, ac, hc, Q, σ, a, w, h, hR => by
    simp only [cCode] at hc
    split at hc
    · rename_i ax ay h1 h2
      cases hc
      refine wp_seq (wp_mono (awp_sound hm x ax h1 _ σ a w h hR) fun e a' w' hx => ?_)
      obtain ⟨ae, σ', rfl, hq, hR'⟩ := hx
      cases ae with
      | normal => exact awp_sound hm y ay h2 Q σ' a' w' hq hR'
      | exit id => exact ⟨.exit id, σ', rfl, hq, hR'⟩
      | ret => exact ⟨.ret, σ', rfl, hq, hR'⟩
    · cases hc
  | .cond c x y, ac, hc, Q, σ, a, w, h, hR => by
    simp only [cCode] at hc
    split at hc
    · rename_i cA ax ay h0 h1 h2
      cases hc
      simp only [awp] at h
      split at h
      · rename_i t ht
        have hv : a.eval c = .bool t := by
          obtain ⟨cx, _, _, _, hE, _⟩ := hR
          have := env_rep hE c cA h0
          rw [ht] at this
          exact this.lit
        refine wp_cond_split hv (fun e => awp_sound hm x ax h1 Q σ a w (h.1 e) hR) (fun e => awp_sound hm y ay h2 Q σ a w (h.2 e) hR)
      · exact h.elim
    · cases hc
  | .block id x, ac, hc, Q, σ, a, w, h, hR => by
    simp only [cCode] at hc
    split at hc
    · rename_i ax h1
      cases hc
      refine wp_block (wp_mono (awp_sound hm x ax h1 _ σ a w h hR) fun e a' w' hx => ?_)
      obtain ⟨ae, σ', rfl, hq, hR'⟩ := hx
      cases ae with
      | normal => exact ⟨.normal, σ', rfl, hq, hR'⟩
      | exit id' =>
        simp only [AEx.toExit, Exit.inBlock]
        simp only [blockK] at hq
        split at hq
        · rename_i e
          rw [if_pos e]
          exact ⟨.normal, σ', rfl, hq, hR'⟩
        · rename_i e
          rw [if_neg e]
          exact ⟨.exit id', σ', rfl, hq, hR'⟩
      | ret => exact ⟨.ret, σ', rfl, hq, hR'⟩
    · cases hc
  | .loop x, ac, hc, Q, σ, a, w, h, hR => by
    simp only [cCode] at hc
    split at hc
    · rename_i ax h1
      cases hc
      simp only [awp] at h
      obtain ⟨I, ⟨n, hn⟩, hround⟩ := h
      refine wp_loop_rel (fun n a w => ∃ σ, I n σ ∧ RS N c0 (fun _ => True) σ a w) ⟨n, σ, hn, hR⟩ fun n a w hx => ?_
      obtain ⟨σ', hI, hR'⟩ := hx
      refine wp_mono (awp_sound hm x ax h1 _ σ' a w (hround n σ' hI) hR') fun e a' w' hx => ?_
      obtain ⟨ae, σ'', rfl, hq, hR''⟩ := hx
      cases ae with
      | normal =>
        obtain ⟨m, hlt, hI'⟩ := hq
        exact ⟨m, hlt, σ'', hI', hR''⟩
      | exit id => exact ⟨.exit id, σ'', rfl, hq, hR''⟩
      | ret => exact ⟨.ret, σ'', rfl, hq, hR''⟩
    · cases hc
  | .exit id, ac, hc, Q, σ, a, w, h, hR => by
    simp only [cCode, Option.some.injEq] at hc
    subst hc
    exact wp_exit ⟨.exit id, σ, rfl, h, hR⟩
  | .ret, ac, hc, Q, σ, a, w, h, hR => by
    simp only [cCode, Option.some.injEq] at hc
    subst hc
    exact wp_ret ⟨.ret, σ, rfl, h, hR⟩
  | .rangeFunc .., ac, hc, _, _, _, _, _, _ => by simp [cCode] at hc
  | .scope _, ac, hc, _, _, _, _, _, _ => by simp [cCode] at hc
  | .label _, ac, hc, _, _, _, _, _, _ => by simp [cCode] at hc
  | .goto _, ac, hc, _, _, _, _, _, _ => by simp [cCode] at hc
  | .refuse _, ac, hc, _, _, _, _, _, _ => by simp [cCode] at hc

end Go.Proofs.Hx
