import Derived.Test.YtcdibfkebojefaaG0
set_option linter.unusedVariables false
set_option linter.unusedSimpArgs false
namespace Go.Proofs.Hx

structure zC where
  dst : Option Nat
  op : AOp
  guard : Option (Nat × Bool)

inductive ACode where
  | skip
  | ops (l : List zC) (seps : List (Nat × Nat))
  | seq (a b : ACode)
  | cond (c : AOpd) (a b : ACode)
  | block (id : Nat) (c : ACode)
  | loop (c : ACode)
  | exit (id : Nat)
  | ret

inductive AEx where
  | normal
  | exit (id : Nat)
  | ret
def AEx.toExit : AEx → Exit
  | .normal => .normal
  | .exit id => .exit id
  | .ret => .ret

structure St where
  env : Nat → AV
  h : Hp

def putA (env : Nat → AV) (dst : Option Nat) (v : AV) : Nat → AV :=
  match dst with
  | some d => upd env d v
  | none => env

/-! ### Lending and freezing: what lies in the abstract heap as a value -/
def mapO {α β : Type} (f : α → Option β) : List α → Option (List β)
  | [] => some []
  | x :: xs => match f x, mapO f xs with | some y, some ys => some (y :: ys) | _, _ => none
def chunks {α : Type} (sz : Nat) (cells : List α) (len : Nat) : List (List α) := (List.range len).map fun i => (cells.drop (i * sz)).take sz
mutual
/-- It holds no reference into the abstract heap. -/
def imm : AV → Bool
  | .undef | .lit _ | .nil => true
  | .agg cs | .tup cs | .ip cs | .fn _ cs => imms cs
  | .row xs => immss xs
  | .sl .. | .ptr .. | .map _ => false
def imms : List AV → Bool
  | [] => true
  | x :: xs => imm x && imms xs
def immss : List (List AV) → Bool
  | [] => true
  | x :: xs => imms x && immss xs
end
def lend : Nat → Hp → AV → Option AV
  | 0, _, a => if imm a then some a else none
  | d + 1, h, a =>
    if imm a then some a else
    match a with
    | .agg cs => (mapO (lend d h) cs).map .agg
    | .tup cs => (mapO (lend d h) cs).map .tup
    | .fn f cs => (mapO (lend d h) cs).map (.fn f)
    | .sl id off len sz => match h.hp id with
      | some blk => if len = 0 then some (.row []) else if off + len * sz ≤ blk.cells.length then (mapO (lend d h) ((blk.cells.drop off).take (len * sz))).map fun cells => .row (chunks sz cells len) else none
      | none => none
    | .ptr id off => match h.hp id with
      | some blk => (mapO (lend d h) (blk.cells.drop off)).map .ip
      | none => none
    | _ => none

def emp : Hp := ⟨fun _ => none, fun _ => none, 0⟩
/-- Only values. -/
def Cx0 (w : World) (S : Nat → Prop) : Cx := ⟨w, S, emp, fun _ => (0, 0), fun _ => False⟩

mutual
theorem imm_tr {c c' : Cx} (hS : ∀ b, c.S b → c'.S b ∧ c'.w.heap[b]? = c.w.heap[b]?) (v : Value) : ∀ a : AV, imm a = true → VRep c v a → VRep c' v a
  | .undef, _, _ => trivial
  | .lit u, _, hv => by simpa [VRep] using hv
  | .nil, _, hv => by simpa [VRep] using hv
  | .agg cs, hi, hv => by
    simp only [VRep] at hv ⊢
    simp only [imm] at hi
    obtain ⟨arr, e, hr⟩ := hv
    exact ⟨arr, e, imms_tr hS _ cs hi hr⟩
  | .tup cs, hi, hv => by
    simp only [VRep] at hv ⊢
    simp only [imm] at hi
    obtain ⟨arr, e, hr⟩ := hv
    exact ⟨arr, e, imms_tr hS _ cs hi hr⟩
  | .fn f cs, hi, hv => by
    simp only [VRep] at hv ⊢
    simp only [imm] at hi
    obtain ⟨arr, e, hr⟩ := hv
    exact ⟨arr, e, imms_tr hS _ cs hi hr⟩
  | .ip cs, hi, hv => by
    simp only [VRep] at hv ⊢
    simp only [imm] at hi
    obtain ⟨b, off, e, hs, hr⟩ := hv
    exact ⟨b, off, e, (hS b hs).1, immsC_tr hS b (hS b hs).2 off cs hi hr⟩
  | .row xs, hi, hv => by
    simp only [VRep] at hv ⊢
    simp only [imm] at hi
    obtain ⟨addr, cap, e, hc, hr⟩ := hv
    refine ⟨addr, cap, e, hc, fun hx => ?_⟩
    obtain ⟨b, off, sz, e1, hs, hr⟩ := hr hx
    exact ⟨b, off, sz, e1, (hS b hs).1, immss_tr hS b sz (hS b hs).2 off xs hi hr⟩
  | .sl .., hi, _ => by simp [imm] at hi
  | .ptr .., hi, _ => by simp [imm] at hi
  | .map _, hi, _ => by simp [imm] at hi
theorem imms_tr {c c' : Cx} (hS : ∀ b, c.S b → c'.S b ∧ c'.w.heap[b]? = c.w.heap[b]?) : ∀ (vs : List Value) (as : List AV), imms as = true → Reps c vs as → Reps c' vs as
  | [], [], _, _ => by simp [Reps]
  | v :: vs, x :: xs, hi, hr => by
    simp only [Reps] at hr ⊢
    simp only [imms, Bool.and_eq_true] at hi
    exact ⟨imm_tr hS v x hi.1 hr.1, imms_tr hS vs xs hi.2 hr.2⟩
  | [], _ :: _, _, hr => by simp [Reps] at hr
  | _ :: _, [], _, hr => by simp [Reps] at hr
theorem immsC_tr {c c' : Cx} (hS : ∀ b, c.S b → c'.S b ∧ c'.w.heap[b]? = c.w.heap[b]?) (b : Nat) (hs : c'.w.heap[b]? = c.w.heap[b]?) : ∀ (off : Nat) (as : List AV), imms as = true → CRep c b off as → CRep c' b off as
  | _, [], _, _ => by simp [CRep]
  | off, x :: xs, hi, hr => by
    simp only [CRep] at hr ⊢
    simp only [imms, Bool.and_eq_true] at hi
    obtain ⟨⟨v, e, hv⟩, hr⟩ := hr
    exact ⟨⟨v, by rw [cell_of_heap hs]; exact e, imm_tr hS v x hi.1 hv⟩, immsC_tr hS b hs (off + 1) xs hi.2 hr⟩
theorem immss_tr {c c' : Cx} (hS : ∀ b, c.S b → c'.S b ∧ c'.w.heap[b]? = c.w.heap[b]?) (b sz : Nat) (hs : c'.w.heap[b]? = c.w.heap[b]?) : ∀ (off : Nat) (as : List (List AV)), immss as = true → RRep c b sz off as → RRep c' b sz off as
  | _, [], _, _ => by simp [RRep]
  | off, x :: xs, hi, hr => by
    simp only [RRep] at hr ⊢
    simp only [immss, Bool.and_eq_true] at hi
    exact ⟨hr.1, immsC_tr hS b hs off x hi.1 hr.2.1, immss_tr hS b sz hs (off + sz) xs hi.2 hr.2.2⟩
end

theorem mapO_length {α β : Type} {f : α → Option β} : ∀ {xs : List α} {ys : List β}, mapO f xs = some ys → ys.length = xs.length
  | [], ys, h => by simp [mapO] at h; subst h; rfl
  | x :: xs, ys, h => by
    simp only [mapO] at h
    split at h
    · rename_i y zs _ h2
      cases h
      simp [mapO_length h2]
    · cases h
theorem mapO_get {α β : Type} {f : α → Option β} : ∀ {xs : List α} {ys : List β}, mapO f xs = some ys → ∀ {i : Nat} {y : β}, ys[i]? = some y → ∃ x, xs[i]? = some x ∧ f x = some y
  | [], ys, h, i, y, hy => by simp [mapO] at h; subst h; simp at hy
  | x :: xs, ys, h, i, y, hy => by
    simp only [mapO] at h
    split at h
    · rename_i y' zs h1 h2
      cases h
      cases i with
      | zero => simp at hy; subst hy; exact ⟨x, rfl, h1⟩
      | succ i => simp at hy; simpa using mapO_get h2 hy
    · cases h
theorem imms_of_get : ∀ {as : List AV}, (∀ (i : Nat) x, as[i]? = some x → imm x = true) → imms as = true
  | [], _ => rfl
  | x :: xs, h => by simp only [imms, Bool.and_eq_true]; exact ⟨h 0 x rfl, imms_of_get fun i y hy => h (i + 1) y (by simpa using hy)⟩
theorem imms_get : ∀ {as : List AV}, imms as = true → ∀ {i : Nat} {x : AV}, as[i]? = some x → imm x = true
  | [], _, _, _, h => by simp at h
  | y :: ys, h, 0, x, hx => by simp only [imms, Bool.and_eq_true] at h; simp at hx; subst hx; exact h.1
  | y :: ys, h, i + 1, x, hx => by simp only [imms, Bool.and_eq_true] at h; simp at hx; exact imms_get h.2 hx
theorem qI : ∀ {as : List (List AV)}, (∀ (i : Nat) x, as[i]? = some x → imms x = true) → immss as = true
  | [], _ => rfl
  | x :: xs, h => by simp only [immss, Bool.and_eq_true]; exact ⟨h 0 x rfl, qI fun i y hy => h (i + 1) y (by simpa using hy)⟩

theorem lend_sound {c : Cx} (hH : HRep c) {S0 : Nat → Prop} (hS : ∀ b, c.S b → S0 b) (hA : ∀ id blk, c.h.hp id = some blk → S0 (c.φ id).1) : ∀ (d : Nat) (v : Value) (a a' : AV), lend d c.h a = some a' → VRep c v a → VRep (Cx0 c.w S0) v a' ∧ imm a' = true
  | d, v, a, a', h, hv => by
    have tr : imm a = true → VRep (Cx0 c.w S0) v a := fun hi => imm_tr (c := c) (c' := Cx0 c.w S0) (fun b hb => ⟨hS b hb, rfl⟩) v a hi hv
    cases d with
    | zero =>
      simp only [lend] at h
      split at h
      · cases h; exact ⟨tr (by assumption), by assumption⟩
      · cases h
    | succ d =>
      have ih := lend_sound hH hS hA d
      have lst : ∀ (vs : List Value) (as as' : List AV), mapO (lend d c.h) as = some as' → Reps c vs as → Reps (Cx0 c.w S0) vs as' ∧ imms as' = true := fun vs as as' h hr => by
        refine ⟨Reps.of_get (by rw [hr.length, mapO_length h]) fun i u x hu hx => ?_, imms_of_get fun i x hx => ?_⟩
        · obtain ⟨y, hy, e⟩ := mapO_get h hx
          obtain ⟨u', h1, h2⟩ := hr.get hy
          rw [hu] at h1
          cases h1
          exact (ih u y x e h2).1
        · obtain ⟨y, hy, e⟩ := mapO_get h hx
          obtain ⟨u', h1, h2⟩ := hr.get hy
          exact (ih u' y x e h2).2
      have cel : ∀ (b off : Nat) (as as' : List AV), mapO (lend d c.h) as = some as' → CRep c b off as → CRep (Cx0 c.w S0) b off as' ∧ imms as' = true := fun b off as as' h hr => by
        refine ⟨CRep.of_get fun i x hx => ?_, imms_of_get fun i x hx => ?_⟩
        · obtain ⟨y, hy, e⟩ := mapO_get h hx
          obtain ⟨u', h1, h2⟩ := hr.get hy
          exact ⟨u', h1, (ih u' y x e h2).1⟩
        · obtain ⟨y, hy, e⟩ := mapO_get h hx
          obtain ⟨u', h1, h2⟩ := hr.get hy
          exact (ih u' y x e h2).2
      simp only [lend] at h
      split at h
      · cases h; exact ⟨tr (by assumption), by assumption⟩
      · split at h
        · rename_i cs
          simp only [Option.map_eq_some_iff] at h
          obtain ⟨cs', h1, rfl⟩ := h
          simp only [VRep] at hv ⊢
          obtain ⟨arr, e, hr⟩ := hv
          exact ⟨⟨arr, e, (lst _ _ _ h1 hr).1⟩, by simp only [imm]; exact (lst _ _ _ h1 hr).2⟩
        · rename_i cs
          simp only [Option.map_eq_some_iff] at h
          obtain ⟨cs', h1, rfl⟩ := h
          simp only [VRep] at hv ⊢
          obtain ⟨arr, e, hr⟩ := hv
          exact ⟨⟨arr, e, (lst _ _ _ h1 hr).1⟩, by simp only [imm]; exact (lst _ _ _ h1 hr).2⟩
        · rename_i f cs
          simp only [Option.map_eq_some_iff] at h
          obtain ⟨cs', h1, rfl⟩ := h
          simp only [VRep] at hv ⊢
          obtain ⟨arr, e, hr⟩ := hv
          exact ⟨⟨arr, e, (lst _ _ _ h1 hr).1⟩, by simp only [imm]; exact (lst _ _ _ h1 hr).2⟩
        · rename_i id off len sz _
          simp only [VRep] at hv
          obtain ⟨hid, hv⟩ := hv
          split at h
          · rename_i blk hb
            obtain ⟨_, _, hcr, _⟩ := hH.blk id blk hb
            split at h
            · rename_i h0
              cases h
              subst h0
              refine ⟨?_, rfl⟩
              simp only [VRep]
              rcases hv with ⟨cap, rfl, hc, h7⟩ | ⟨_, a, rfl⟩
              · exact ⟨_, cap, rfl, by simp, fun hh => absurd rfl hh⟩
              · exact ⟨a, 0, rfl, by simp, fun hh => absurd rfl hh⟩
            · rename_i h0
              split at h
              · rename_i hl
                simp only [Option.map_eq_some_iff] at h
                obtain ⟨cells, h1, rfl⟩ := h
                have hlc : cells.length = len * sz := by rw [mapO_length h1]; simp; omega
                rcases hv with ⟨cap, rfl, hc, h7⟩ | ⟨h0', _⟩
                · obtain ⟨h8, h9⟩ := cel _ _ _ _ h1 ((hcr.drop off).take (len * sz))
                  refine ⟨?_, ?_⟩
                  · simp only [VRep]
                    refine ⟨some ⟨(c.φ id).1, (c.φ id).2 + off, none⟩, cap, by simp [chunks], by simpa [chunks] using hc, fun _ => ⟨_, _, sz, rfl, hA id blk hb, RRep.of_get fun i x hx => ?_⟩⟩
                    simp only [chunks, List.getElem?_map, Option.map_eq_some_iff] at hx
                    obtain ⟨k, hk, rfl⟩ := hx
                    have hk' : k = i ∧ i < len := by
                      rw [List.getElem?_eq_some_iff] at hk
                      obtain ⟨hlt, hk⟩ := hk
                      simp at hk hlt
                      omega
                    obtain ⟨rfl, hlt⟩ := hk'
                    have hle : k * sz + sz ≤ len * sz := by
                      have := mul_le_of (a := k + 1) (b := len) (s := sz) (by omega)
                      rwa [Nat.add_mul, Nat.one_mul] at this
                    exact ⟨by simp; omega, (h8.drop (k * sz)).take sz⟩
                  · simp only [imm]
                    refine qI fun i x hx => imms_of_get fun j y hy => ?_
                    simp only [chunks, List.getElem?_map, Option.map_eq_some_iff] at hx
                    obtain ⟨k, hk, rfl⟩ := hx
                    rw [List.getElem?_take] at hy
                    split at hy
                    · rw [List.getElem?_drop] at hy
                      exact imms_get h9 hy
                    · cases hy
                · exact absurd h0' h0
              · cases h
          · cases h
        · rename_i id off _
          simp only [VRep] at hv
          obtain ⟨hid, rfl⟩ := hv
          split at h
          · rename_i blk hb
            simp only [Option.map_eq_some_iff] at h
            obtain ⟨cells, h1, rfl⟩ := h
            obtain ⟨_, _, hcr, _⟩ := hH.blk id blk hb
            obtain ⟨h8, h9⟩ := cel _ _ _ _ h1 (hcr.drop off)
            exact ⟨by simp only [VRep]; exact ⟨_, _, rfl, hA id blk hb, h8⟩, by simp only [imm]; exact h9⟩
          · cases h
        · cases h

/-- Without anything that was lent before. -/
def atom : AV → Bool
  | .undef | .lit _ => true
  | _ => false
def lendF : Nat → Hp → AV → Option AV
  | 0, _, a => if atom a then some a else none
  | d + 1, h, a =>
    if atom a then some a else
    match a with
    | .nil => some (.row [])
    | .agg cs => (mapO (lendF d h) cs).map .agg
    | .tup cs => (mapO (lendF d h) cs).map .tup
    | .fn f cs => (mapO (lendF d h) cs).map (.fn f)
    | .sl id off len sz => match h.hp id with
      | some blk => if blk.wr = true then (if len = 0 then some (.row []) else if off + len * sz ≤ blk.cells.length then (mapO (lendF d h) ((blk.cells.drop off).take (len * sz))).map fun cells => .row (chunks sz cells len) else none) else none
      | none => none
    | .ptr id off => match h.hp id with
      | some blk => if blk.wr = true then (mapO (lendF d h) (blk.cells.drop off)).map .ip else none
      | none => none
    | _ => none
theorem lendF_sound {c : Cx} (hH : HRep c) {S0 : Nat → Prop} (hA : ∀ id blk, c.h.hp id = some blk → blk.wr = true → S0 (c.φ id).1) : ∀ (d : Nat) (v : Value) (a a' : AV), lendF d c.h a = some a' → VRep c v a → VRep (Cx0 c.w S0) v a' ∧ imm a' = true
  | d, v, a, a', h, hv => by
    have tr : atom a = true → VRep (Cx0 c.w S0) v a ∧ imm a = true := fun hi => by
      cases a <;> simp only [atom, Bool.false_eq_true] at hi
      · exact ⟨trivial, rfl⟩
      · exact ⟨by simpa [VRep] using hv, rfl⟩
    cases d with
    | zero =>
      simp only [lendF] at h
      split at h
      · cases h; exact tr (by assumption)
      · cases h
    | succ d =>
      have ih := lendF_sound hH hA d
      have lst : ∀ (vs : List Value) (as as' : List AV), mapO (lendF d c.h) as = some as' → Reps c vs as → Reps (Cx0 c.w S0) vs as' ∧ imms as' = true := fun vs as as' h hr => by
        refine ⟨Reps.of_get (by rw [hr.length, mapO_length h]) fun i u x hu hx => ?_, imms_of_get fun i x hx => ?_⟩
        · obtain ⟨y, hy, e⟩ := mapO_get h hx
          obtain ⟨u', h1, h2⟩ := hr.get hy
          rw [hu] at h1
          cases h1
          exact (ih u y x e h2).1
        · obtain ⟨y, hy, e⟩ := mapO_get h hx
          obtain ⟨u', h1, h2⟩ := hr.get hy
          exact (ih u' y x e h2).2
      have cel : ∀ (b off : Nat) (as as' : List AV), mapO (lendF d c.h) as = some as' → CRep c b off as → CRep (Cx0 c.w S0) b off as' ∧ imms as' = true := fun b off as as' h hr => by
        refine ⟨CRep.of_get fun i x hx => ?_, imms_of_get fun i x hx => ?_⟩
        · obtain ⟨y, hy, e⟩ := mapO_get h hx
          obtain ⟨u', h1, h2⟩ := hr.get hy
          exact ⟨u', h1, (ih u' y x e h2).1⟩
        · obtain ⟨y, hy, e⟩ := mapO_get h hx
          obtain ⟨u', h1, h2⟩ := hr.get hy
          exact (ih u' y x e h2).2
      simp only [lendF] at h
      split at h
      · cases h; exact tr (by assumption)
      · split at h
        · cases h
          simp only [VRep] at hv
          obtain ⟨a, rfl⟩ := hv
          exact ⟨by simp only [VRep]; exact ⟨a, 0, rfl, by simp, fun hh => absurd rfl hh⟩, rfl⟩
        · rename_i cs
          simp only [Option.map_eq_some_iff] at h
          obtain ⟨cs', h1, rfl⟩ := h
          simp only [VRep] at hv ⊢
          obtain ⟨arr, e, hr⟩ := hv
          exact ⟨⟨arr, e, (lst _ _ _ h1 hr).1⟩, by simp only [imm]; exact (lst _ _ _ h1 hr).2⟩
        · rename_i cs
          simp only [Option.map_eq_some_iff] at h
          obtain ⟨cs', h1, rfl⟩ := h
          simp only [VRep] at hv ⊢
          obtain ⟨arr, e, hr⟩ := hv
          exact ⟨⟨arr, e, (lst _ _ _ h1 hr).1⟩, by simp only [imm]; exact (lst _ _ _ h1 hr).2⟩
        · rename_i f cs
          simp only [Option.map_eq_some_iff] at h
          obtain ⟨cs', h1, rfl⟩ := h
          simp only [VRep] at hv ⊢
          obtain ⟨arr, e, hr⟩ := hv
          exact ⟨⟨arr, e, (lst _ _ _ h1 hr).1⟩, by simp only [imm]; exact (lst _ _ _ h1 hr).2⟩
        · rename_i id off len sz _
          simp only [VRep] at hv
          obtain ⟨hid, hv⟩ := hv
          split at h
          · rename_i blk hb
            obtain ⟨_, _, hcr, _⟩ := hH.blk id blk hb
            by_cases hwr : blk.wr = true
            rotate_left
            · rw [if_neg hwr] at h; cases h
            rw [if_pos hwr] at h
            split at h
            · rename_i h0
              cases h
              subst h0
              refine ⟨?_, rfl⟩
              simp only [VRep]
              rcases hv with ⟨cap, rfl, hc, h7⟩ | ⟨_, a, rfl⟩
              · exact ⟨_, cap, rfl, by simp, fun hh => absurd rfl hh⟩
              · exact ⟨a, 0, rfl, by simp, fun hh => absurd rfl hh⟩
            · rename_i h0
              split at h
              · rename_i hl
                simp only [Option.map_eq_some_iff] at h
                obtain ⟨cells, h1, rfl⟩ := h
                have hlc : cells.length = len * sz := by rw [mapO_length h1]; simp; omega
                rcases hv with ⟨cap, rfl, hc, h7⟩ | ⟨h0', _⟩
                · obtain ⟨h8, h9⟩ := cel _ _ _ _ h1 ((hcr.drop off).take (len * sz))
                  refine ⟨?_, ?_⟩
                  · simp only [VRep]
                    refine ⟨some ⟨(c.φ id).1, (c.φ id).2 + off, none⟩, cap, by simp [chunks], by simpa [chunks] using hc, fun _ => ⟨_, _, sz, rfl, hA id blk hb hwr, RRep.of_get fun i x hx => ?_⟩⟩
                    simp only [chunks, List.getElem?_map, Option.map_eq_some_iff] at hx
                    obtain ⟨k, hk, rfl⟩ := hx
                    have hk' : k = i ∧ i < len := by
                      rw [List.getElem?_eq_some_iff] at hk
                      obtain ⟨hlt, hk⟩ := hk
                      simp at hk hlt
                      omega
                    obtain ⟨rfl, hlt⟩ := hk'
                    have hle : k * sz + sz ≤ len * sz := by
                      have := mul_le_of (a := k + 1) (b := len) (s := sz) (by omega)
                      rwa [Nat.add_mul, Nat.one_mul] at this
                    exact ⟨by simp; omega, (h8.drop (k * sz)).take sz⟩
                  · simp only [imm]
                    refine qI fun i x hx => imms_of_get fun j y hy => ?_
                    simp only [chunks, List.getElem?_map, Option.map_eq_some_iff] at hx
                    obtain ⟨k, hk, rfl⟩ := hx
                    rw [List.getElem?_take] at hy
                    split at hy
                    · rw [List.getElem?_drop] at hy
                      exact imms_get h9 hy
                    · cases hy
                · exact absurd h0' h0
              · cases h
          · cases h
        · rename_i id off _
          simp only [VRep] at hv
          obtain ⟨hid, rfl⟩ := hv
          split at h
          · rename_i blk hb
            obtain ⟨_, _, hcr, _⟩ := hH.blk id blk hb
            by_cases hwr : blk.wr = true
            rotate_left
            · rw [if_neg hwr] at h; cases h
            rw [if_pos hwr] at h
            simp only [Option.map_eq_some_iff] at h
            obtain ⟨cells, h1, rfl⟩ := h
            obtain ⟨h8, h9⟩ := cel _ _ _ _ h1 (hcr.drop off)
            exact ⟨by simp only [VRep]; exact ⟨_, _, rfl, hA id blk hb hwr, h8⟩, by simp only [imm]; exact h9⟩
          · cases h
        · cases h

end Go.Proofs.Hx

set_option linter.unusedVariables false
set_option linter.unusedSimpArgs false
namespace Go.Proofs.Hx

/-! ### Contracts -/
def okFn (P : Program) (f : Nat) : Prop := ∃ fn b, P.funcs[f]? = some fn ∧ fn.name ≠ "runtime.NumGoroutine" ∧ fn.body = some b

/-- No block was made in a later epoch. -/
def EB (c : Cx) : Prop := ∀ id, c.al id → id.1 ≤ c.h.ep
/-- What is made behind 'c' is made in later epochs. -/
structure Later (c c' : Cx) : Prop where
  ep : c.h.ep ≤ c'.h.ep
  al : ∀ id, c'.al id → c.al id ∨ c.h.ep < id.1

/-- Nothing lies in an epoch to come. -/
def qQ (h : Hp) : Prop := ∀ e s, h.ep < e → h.hp (e, s) = none ∧ h.mp (e, s) = none
theorem fresh_of {c : Cx} (hH : HRep c) (hEB : EB c) : qQ c.h := fun e s hlt => by
  have key : ¬ c.al (e, s) := fun h => by have := hEB _ h; simp at this; omega
  refine ⟨?_, ?_⟩
  · cases hb : c.h.hp (e, s) with
    | none => rfl
    | some blk => exact (key (hH.blk _ _ hb).1).elim
  · cases hb : c.h.mp (e, s) with
    | none => rfl
    | some es => exact (key (hH.mp _ _ hb).1).elim

/-- A function's contract over the abstract heap. -/
def HC (P : Program) (f : Nat) (args : List AV) (h : Hp) (K : AV → Hp → Prop) : Prop :=
  okFn P f ∧ ∀ (c : Cx) (vs : Array Value), c.h = h → HRep c → EB c → Reps c vs.toList args →
    Calls P f vs c.w fun e w' => ∃ v c' r, e = .returned v ∧ c'.w = w' ∧ VRep c' v r ∧ Le c c' ∧ HRep c' ∧ Fr c c' ∧ EB c' ∧ Later c c' ∧ K r c'.h

/-- What a call that works on values alone leaves as it was. -/
structure FrW (w w' : World) : Prop where
  os : w'.os = w.os
  tape : w'.tape = w.tape
  output : w'.output = w.output
  size : w.heap.size ≤ w'.heap.size
  block : ∀ b, b < w.heap.size → w'.heap[b]? = w.heap[b]?

/-- A function's contract over values. -/
def HV (P : Program) (f : Nat) (args : List AV) (r : AV) : Prop :=
  okFn P f ∧ imms args = true ∧ imm r = true ∧ ∀ (w : World) (S : Nat → Prop) (vs : Array Value), (∀ b, S b → b < w.heap.size) → Reps (Cx0 w S) vs.toList args →
    Calls P f vs w fun e w' => ∃ v, e = .returned v ∧ VRep (Cx0 w' fun b => S b ∨ (w.heap.size ≤ b ∧ b < w'.heap.size)) v r ∧ FrW w w'

/-- A function's contract over values, whose answer lies in memory of its own. -/
def HVF (P : Program) (f : Nat) (args : List AV) (r : AV) : Prop :=
  okFn P f ∧ imms args = true ∧ imm r = true ∧ ∀ (w : World) (S : Nat → Prop) (vs : Array Value), (∀ b, S b → b < w.heap.size) → Reps (Cx0 w S) vs.toList args →
    Calls P f vs w fun e w' => ∃ v, e = .returned v ∧ VRep (Cx0 w' fun b => w.heap.size ≤ b ∧ b < w'.heap.size) v r ∧ FrW w w'
theorem HVF.hv {P : Program} {f : Nat} {args : List AV} {r : AV} (h : HVF P f args r) : HV P f args r :=
  ⟨h.1, h.2.1, h.2.2.1, fun w S vs hS hr => (h.2.2.2 w S vs hS hr).mono fun e w' ⟨v, h1, h2, h3⟩ => ⟨v, h1, imm_tr (c := Cx0 w' fun b => w.heap.size ≤ b ∧ b < w'.heap.size) (c' := Cx0 w' fun b => S b ∨ (w.heap.size ≤ b ∧ b < w'.heap.size)) (fun b hb => ⟨Or.inr hb, rfl⟩) v r h.2.2.1 h2, h3⟩⟩

/-- No slices in it: it stays what it is whatever becomes of memory. -/
def flat : AV → Bool
  | .undef | .lit _ | .nil => true
  | .tup vs => vs.all fun | .lit _ => true | _ => false
  | .agg vs => vs.all fun | .lit _ => true | _ => false
  | _ => false

/-! ### The weakest precondition -/
def ob {α : Type} (o : Option α) (k : α → Prop) : Prop :=
  match o with
  | some a => k a
  | none => False
/-- A guarded operation: carried out, or not. -/
def guardK (g : Option (Nat × Bool)) (env : Nat → AV) (k1 k0 : Prop) : Prop :=
  match g with
  | none => k1
  | some (s, w) => match env s with | .lit (.bool b) => (b = w → k1) ∧ (b = !w → k0) | .tup [] => k0 | _ => False
def qB (op : AOp) (ρ : AOpd → AV) (h : Hp) (id : Id) : Option (AV × Hp) :=
  match yH op ρ with
  | some r => some (r, h)
  | none => match yS op ρ h with
    | some r => some (r, h)
    | none => yO op ρ h id

def fuelL : Nat := 8
/-- A call that works on values: its contract gives what it answers. -/
def QCall (P : Program) (f : Nat) (args : List AV) (h : Hp) (r : AV) : Prop :=
  ∃ args', mapO (lend fuelL h) args = some args' ∧ ((HV P f args' r ∧ (flat r = true ∨ imms args = true)) ∨ HVF P f args' r)

def callA (P : Program) (q : Bool) (f : AV) (args : List AV) (h : Hp) (K : AV → Hp → Prop) : Prop :=
  match f with
  | .fn g caps => if q then ∃ r, QCall P g (args ++ caps) h r ∧ K r h else HC P g (args ++ caps) h fun r h' => qQ h' → K r h'.tick
  | _ => False

def yQ (P : Program) (dst : Option Nat) (op : AOp) (K : St → Prop) (σ : St) : Prop :=
  match op with
  | .call q f args => callA P q (evA σ.env f) (args.map (evA σ.env)) σ.h fun r h' => K ⟨putA σ.env dst r, h'⟩
  | op => ob (qB op (evA σ.env) σ.h (σ.h.ep, dst.getD 0)) fun x => K ⟨putA σ.env dst x.1, x.2⟩
def qF (P : Program) (o : zC) (K : St → Prop) (σ : St) : Prop :=
  guardK o.guard σ.env (yQ P o.dst o.op K σ) (K ⟨putA σ.env o.dst (.tup []), σ.h⟩)

def yM (P : Program) : List zC → (St → Prop) → St → Prop
  | [], K, σ => K σ
  | o :: l, K, σ => qF P o (yM P l K) σ

def idOf : AV → Option Id
  | .ptr id _ | .sl id .. | .map id => some id
  | _ => none
/-- Not of one block. -/
def sepV (x y : AV) : Prop :=
  match idOf x, idOf y with
  | some i, some j => i ≠ j
  | _, _ => True
def sepAll : List (Nat × Nat) → (Nat → AV) → Prop
  | [], _ => True
  | (a, b) :: r, env => sepV (env a) (env b) ∧ sepAll r env

def seqK (P : Program) (k : St → Prop) (Q : AEx → St → Prop) : AEx → St → Prop
  | .normal, σ => k σ
  | e, σ => Q e σ
def blockK (id : Nat) (Q : AEx → St → Prop) : AEx → St → Prop
  | .exit id', σ => if id' = id then Q .normal σ else Q (.exit id') σ
  | e, σ => Q e σ

def awp (P : Program) : ACode → (AEx → St → Prop) → St → Prop
  | .skip, Q, σ => Q .normal σ
  | .ops l seps, Q, σ => qQ σ.h → yM P l (fun σ' => sepAll seps σ'.env ∧ Q .normal σ') ⟨σ.env, σ.h.tick⟩
  | .seq a b, Q, σ => awp P a (seqK P (awp P b Q) Q) σ
  | .cond c a b, Q, σ => match evA σ.env c with | .lit (.bool t) => (t = true → awp P a Q σ) ∧ (t = false → awp P b Q σ) | _ => False
  | .block id c, Q, σ => awp P c (blockK id Q) σ
  | .loop c, Q, σ => ∃ (I : Nat → St → Prop), (∃ n, I n σ) ∧ ∀ n σ, I n σ → awp P c (seqK P (fun σ' => ∃ m, m < n ∧ I m σ') Q) σ
  | .exit id, Q, σ => Q (.exit id) σ
  | .ret, Q, σ => Q .ret σ

/-! ### The compiler, on -/
def dstOk (N : Nat) : Option Nat → Bool
  | some d => decide (d < N)
  | none => true
def cOper (P : Program) (q : Bool) (N : Nat) (ops : Array Oper) (o : Oper) : Option zC :=
  match cOp P q o.op with
  | none => none
  | some op =>
    if dstOk N o.dst = true then
      match o.guard with
      | none => some ⟨o.dst, op, none⟩
      | some (j, want) => match (ops[j]?).bind (·.dst) with
        | some s => if s < N then some ⟨o.dst, op, some (s, want)⟩ else none
        | none => none
    else none

/-- The relation between the abstract state and the real one; 'D': the slots that this region has written. -/
def RS (N : Nat) (c0 : Cx) (D : Nat → Prop) (σ : St) (a : Act) (w : World) : Prop :=
  ∃ c : Cx, c.w = w ∧ c.h = σ.h ∧ HRep c ∧ (∀ i, VRep c (a.tmps.getD i undef) (σ.env i)) ∧ a.tmps.size = N ∧ a.defers = [] ∧ Le c0 c ∧ Fr c0 c ∧ Later c0 c ∧
    c0.h.ep < c.h.ep ∧ ∀ id, c.al id → id.1 < c.h.ep ∨ (id.1 = c.h.ep ∧ D id.2)

section
variable {P : Program}

theorem env_rep {c : Cx} {a : Act} {env : Nat → AV} (h : ∀ i, VRep c (a.tmps.getD i undef) (env i)) : ∀ x y, cOpd x = some y → VRep c (a.eval x) (evA env y) := by
  intro x y hxy
  cases x with
  | tmp t => simp only [cOpd, Option.some.injEq] at hxy; subst hxy; exact h t
  | const v => simp only [cOpd, Option.map_eq_some_iff] at hxy; obtain ⟨z, h1, rfl⟩ := hxy; exact toAV_sound h1
  | func f => simp only [cOpd, Option.some.injEq] at hxy; subst hxy; simp only [evA, VRep, Act.eval]; exact ⟨#[], rfl, by simp [Reps]⟩
  | global g => simp [cOpd] at hxy

theorem put_rep {c : Cx} {a : Act} {env : Nat → AV} {dst : Option Nat} {v : Value} {r : AV} (h : ∀ i, VRep c (a.tmps.getD i undef) (env i)) (hv : VRep c v r) (hd : ∀ d, dst = some d → d < a.tmps.size) :
    ∀ i, VRep c ((a.put dst v).tmps.getD i undef) (putA env dst r i) := by
  intro i
  cases dst with
  | none => exact h i
  | some d =>
    have hd := hd d rfl
    simp only [Act.put, putA, upd]
    by_cases e : i = d
    · subst e
      rw [if_pos rfl]
      simpa [hd] using hv
    · rw [if_neg e]
      have := h i
      have he : (a.tmps.setIfInBounds d v).getD i undef = a.tmps.getD i undef := by
        simp [Array.getElem?_setIfInBounds_ne (Ne.symm e)]
      rw [he]
      exact this

theorem put_size (a : Act) (dst : Option Nat) (v : Value) : (a.put dst v).tmps.size = a.tmps.size := by cases dst <;> simp [Act.put]
theorem put_defers (a : Act) (dst : Option Nat) (v : Value) : (a.put dst v).defers = a.defers := by cases dst <;> rfl

/-- One operation in the state: what is to be shown of it. -/
theorem RS.step {N : Nat} {c0 c c' : Cx} {D : Nat → Prop} {σ : St} {a : Act} {dst : Option Nat} {v : Value} {r : AV} (hE : ∀ i, VRep c (a.tmps.getD i undef) (σ.env i)) (hN : a.tmps.size = N) (hD : a.defers = []) (h0 : Le c0 c) (f0 : Fr c0 c) (l0 : Later c0 c) (hlt : c0.h.ep < c.h.ep)
    (hd : ∀ d, dst = some d → d < N) (hle : Le c c') (hH' : HRep c') (hfr : Fr c c') (hv : VRep c' v r) (hlt' : c.h.ep ≤ c'.h.ep) (hal1 : ∀ id, c'.al id → c.al id ∨ c.h.ep ≤ id.1) (hal2 : ∀ id, c'.al id → id.1 < c'.h.ep ∨ (id.1 = c'.h.ep ∧ D id.2)) :
    RS N c0 D ⟨putA σ.env dst r, c'.h⟩ (a.put dst v) c'.w :=
  ⟨c', rfl, rfl, hH', put_rep (fun i => VRep.mono hle _ _ (hE i)) hv (by rw [hN]; exact hd), by rw [put_size, hN], by rw [put_defers, hD], h0.trans hle, f0.trans hfr,
    ⟨Nat.le_trans l0.ep hlt', fun id h => by
      rcases hal1 id h with h | h
      · exact l0.al id h
      · exact .inr (Nat.lt_of_lt_of_le hlt h)⟩, Nat.lt_of_lt_of_le hlt hlt', hal2⟩

/-- What the guard says. -/
def wantedA (o : zC) (env : Nat → AV) : Option Bool :=
  match o.guard with
  | none => some true
  | some (s, want) => match env s with | .lit (.bool b) => some (b == want) | .tup [] => some false | _ => none

theorem guardK_wanted {o : zC} {env : Nat → AV} {k1 k0 : Prop} : guardK o.guard env k1 k0 ↔ match wantedA o env with | none => False | some true => k1 | some false => k0 := by
  unfold guardK wantedA
  cases o.guard with
  | none => rfl
  | some p =>
    obtain ⟨s, w⟩ := p
    simp only
    cases env s <;> try rfl
    · rename_i u
      cases u <;> try rfl
      rename_i b
      cases b <;> cases w <;> simp
    · rename_i u
      cases u <;> rfl

theorem guard_want {N : Nat} {q : Bool} {ops : Array Oper} {o : Oper} {ao : zC} {c : Cx} {a : Act} {env : Nat → AV} (hc : cOper P q N ops o = some ao) (hE : ∀ i, VRep c (a.tmps.getD i undef) (env i)) (hN : a.tmps.size = N) {b : Bool}
    (hw : wantedA ao env = some b) : Region.wanted o (yielded ops a.tmps) = b := by
  unfold cOper at hc
  split at hc
  · cases hc
  · split at hc
    · split at hc
      · rename_i hg
        cases hc
        simp only [wantedA, Option.some.injEq] at hw
        subst hw
        simp [Region.wanted, hg]
      · rename_i j want hg
        split at hc
        · rename_i s hs
          split at hc
          · rename_i hsN
            cases hc
            simp only [wantedA] at hw
            split at hw
            · rename_i t ht
              simp only [Option.some.injEq] at hw
              subst hw
              have := hE s
              rw [ht] at this
              have hv := this.lit
              have hy : yielded ops a.tmps j = some t := by
                unfold yielded
                rw [hs]
                have hlt : s < a.tmps.size := hN ▸ hsN
                have e : a.tmps[s]? = some (.bool t) := by
                  rw [Array.getElem?_eq_getElem hlt]
                  simpa [hlt] using hv
                simp [e]
              simp only [Region.wanted, hg, hy]
              cases t <;> cases want <;> rfl
            · rename_i ht
              simp only [Option.some.injEq] at hw
              subst hw
              have := hE s
              rw [ht] at this
              simp only [VRep] at this
              obtain ⟨arr, hv, hr⟩ := this
              have hy : yielded ops a.tmps j = none := by
                unfold yielded
                rw [hs]
                have hlt : s < a.tmps.size := hN ▸ hsN
                have e : a.tmps[s]? = some (.tuple arr) := by
                  rw [Array.getElem?_eq_getElem hlt]
                  simpa [hlt] using hv
                simp [e]
              simp only [Region.wanted, hg, hy]
              cases want <;> rfl
            · cases hw
          · cases hc
        · cases hc
    · cases hc

theorem dst_ok {N : Nat} {q : Bool} {ops : Array Oper} {o : Oper} {ao : zC} (hc : cOper P q N ops o = some ao) : cOp P q o.op = some ao.op ∧ ao.dst = o.dst ∧ ∀ d, o.dst = some d → d < N := by
  unfold cOper at hc
  split at hc
  · cases hc
  · rename_i op hop
    split at hc
    · rename_i hd
      have hd' : ∀ d, o.dst = some d → d < N := fun d h => by rw [h] at hd; simpa [dstOk] using hd
      split at hc
      · cases hc; exact ⟨hop, rfl, hd'⟩
      · split at hc
        · split at hc
          · cases hc; exact ⟨hop, rfl, hd'⟩
          · cases hc
        · cases hc
    · cases hc

theorem execOp_call {ρ : Operand → Value} {o : Oper} {cl : Call} {f : Operand} (ho : o.op = .call cl) (hf : cl.callee = .value f) {g : Nat} {cap : Array Value} (hv : ρ f = .func (.func g) #[] cap) (hok : okFn P g) (w : World) :
    (execOp ρ o).run P w = .ok (.enter g (cl.args.map ρ ++ cap)) w := by
  obtain ⟨dst, op, type, pos, after, guard⟩ := o
  obtain ⟨callee, args, tys⟩ := cl
  simp only at ho hf
  subst ho hf
  obtain ⟨fn, b, h1, h2, h3⟩ := hok
  simp [execOp, resolve, hv, Deferred.ofValue, Go.invoke, callFunc, h1, h2, h3]

/-- A call on values, carried out in the caller's context. -/
theorem qcall_sound {c : Cx} (hH : HRep c) {g : Nat} {args : List AV} {r : AV} (hq : QCall P g args c.h r) {vs : Array Value} (hr : Reps c vs.toList args) :
    okFn P g ∧ Calls P g vs c.w fun e w' => ∃ v c', e = .returned v ∧ c'.w = w' ∧ c'.h = c.h ∧ VRep c' v r ∧ Le c c' ∧ HRep c' ∧ Fr c c' ∧ c'.al = c.al := by
  obtain ⟨args', hl, hq⟩ := hq
  refine ⟨by rcases hq with ⟨h, _⟩ | h <;> exact h.1, ?_⟩
  have hblt : ∀ id blk, c.h.hp id = some blk → (c.φ id).1 < c.w.heap.size := fun id blk hb => by
    obtain ⟨_, ⟨arr, el, h1, _⟩, _⟩ := hH.blk id blk hb
    exact (Array.getElem?_eq_some_iff.1 h1).1
  have hmlt : ∀ id es, c.h.mp id = some es → (c.φ id).1 < c.w.heap.size := fun id es hb => by
    obtain ⟨_, _, _, ents, cl, h1, _⟩ := hH.mp id es hb
    exact (Array.getElem?_eq_some_iff.1 h1).1
  -- the context behind the call, for a set of blocks that stay
  have ctx : ∀ (w' : World) (S' : Nat → Prop), FrW c.w w' → (∀ b, c.S b → S' b) → (∀ b, S' b → c.S b ∨ (c.w.heap.size ≤ b ∧ b < w'.heap.size)) →
      Le c ⟨w', S', c.h, c.φ, c.al⟩ ∧ HRep ⟨w', S', c.h, c.φ, c.al⟩ ∧ Fr c ⟨w', S', c.h, c.φ, c.al⟩ := by
    intro w' S' hfr h1 h2
    have hle : Le c ⟨w', S', c.h, c.φ, c.al⟩ := ⟨fun b hb => ⟨h1 b hb, hfr.block b (hH.slt b hb)⟩, fun _ h => h, fun _ _ => rfl, fun id _ blk hb => ⟨blk, hb, rfl, fun arr el fr ha => ⟨arr, by
      rw [hfr.block _ (hblt id blk hb)]; exact ha, rfl⟩⟩⟩
    refine ⟨hle, ⟨fun b hb => ?_, fun id blk hb => ?_, fun id es hb => ?_, hH.inj⟩, ⟨hfr.os, hfr.tape, hfr.output, hfr.size, fun b hb _ => hfr.block b hb, fun b hb => .inl hb, fun b hb => ?_⟩⟩
    · rcases h2 b hb with h | h
      · exact Nat.lt_of_lt_of_le (hH.slt b h) hfr.size
      · exact h.2
    · obtain ⟨a1, ⟨arr, el, a2, a3⟩, a4, a5, a6⟩ := hH.blk id blk hb
      have he := hfr.block _ (hblt id blk hb)
      refine ⟨a1, ⟨arr, el, by rw [he]; exact a2, a3⟩, CRep.mono hle _ he _ _ a4, fun hw hs => ?_, fun hw => h1 _ (a6 hw)⟩
      rcases h2 _ hs with h | h
      · exact a5 hw h
      · have h' : c.w.heap.size ≤ (c.φ id).1 := h.1
        have := hblt id blk hb; omega
    · obtain ⟨a1, a2, a3, ents, cl, a4, a5⟩ := hH.mp id es hb
      have he := hfr.block _ (hmlt id es hb)
      refine ⟨a1, a2, fun hs => ?_, ents, cl, by rw [he]; exact a4, ERep.mono hle _ _ a5⟩
      rcases h2 _ hs with h | h
      · exact a3 h
      · have h' : c.w.heap.size ≤ (c.φ id).1 := h.1
        have := hmlt id es hb; omega
    · rcases h2 b hb with h | h
      · exact .inl h
      · exact .inr (.inr h.1)
  have hrepL : Reps (Cx0 c.w fun b => b < c.w.heap.size) vs.toList args' := by
    refine Reps.of_get (by rw [hr.length, mapO_length hl]) fun i u x hu hx => ?_
    obtain ⟨y, hy, e⟩ := mapO_get hl hx
    obtain ⟨u', h1, h2⟩ := hr.get hy
    rw [hu] at h1
    cases h1
    exact (lend_sound hH (S0 := fun b => b < c.w.heap.size) hH.slt (fun id blk hb => hblt id blk hb) _ _ _ _ e h2).1
  rcases hq with ⟨⟨hok, hia, hir, hv⟩, hcase⟩ | ⟨hok, hia, hir, hv⟩
  rotate_left
  · refine (hv c.w (fun b => b < c.w.heap.size) vs (fun b h => h) hrepL).mono fun e w' hh => ?_
    obtain ⟨v, he, hvr, hfr⟩ := hh
    obtain ⟨h1, h2, h3⟩ := ctx w' (fun b => c.S b ∨ (c.w.heap.size ≤ b ∧ b < w'.heap.size)) hfr (fun b h => .inl h) (fun b h => h)
    exact ⟨v, ⟨w', fun b => c.S b ∨ (c.w.heap.size ≤ b ∧ b < w'.heap.size), c.h, c.φ, c.al⟩, he, rfl, rfl, imm_tr (c := Cx0 w' fun b => c.w.heap.size ≤ b ∧ b < w'.heap.size) (c' := ⟨w', fun b => c.S b ∨ (c.w.heap.size ≤ b ∧ b < w'.heap.size), c.h, c.φ, c.al⟩) (fun b h => ⟨.inr h, rfl⟩) _ _ hir hvr, h1, h2, h3, rfl⟩
  rcases hcase with hflat | himm
  · -- lent
    have hrep : Reps (Cx0 c.w fun b => b < c.w.heap.size) vs.toList args' := by
      refine Reps.of_get (by rw [hr.length, mapO_length hl]) fun i u x hu hx => ?_
      obtain ⟨y, hy, e⟩ := mapO_get hl hx
      obtain ⟨u', h1, h2⟩ := hr.get hy
      rw [hu] at h1
      cases h1
      exact (lend_sound hH (S0 := fun b => b < c.w.heap.size) hH.slt (fun id blk hb => hblt id blk hb) _ _ _ _ e h2).1
    refine (hv c.w (fun b => b < c.w.heap.size) vs (fun b h => h) hrep).mono fun e w' hh => ?_
    obtain ⟨v, he, hvr, hfr⟩ := hh
    obtain ⟨h1, h2, h3⟩ := ctx w' c.S hfr (fun b h => h) (fun b h => .inl h)
    refine ⟨v, ⟨w', c.S, c.h, c.φ, c.al⟩, he, rfl, rfl, ?_, h1, h2, h3, rfl⟩
    -- flat values
    have fl : ∀ (us : List Value) (xs : List AV), (xs.all fun | .lit _ => true | _ => false) = true → Reps (Cx0 w' fun b => b < c.w.heap.size ∨ (c.w.heap.size ≤ b ∧ b < w'.heap.size)) us xs → Reps ⟨w', c.S, c.h, c.φ, c.al⟩ us xs := by
      intro us xs hx hr
      refine Reps.of_get hr.length fun i u x hu hxi => ?_
      obtain ⟨u', h4, h5⟩ := hr.get hxi
      rw [hu] at h4
      cases h4
      have := List.all_eq_true.1 hx x (List.mem_of_getElem? hxi)
      cases x <;> simp at this
      simpa [VRep] using h5
    cases r <;> simp only [flat, Bool.false_eq_true] at hflat
    case undef => trivial
    case lit u => simpa [VRep] using hvr
    case nil => simpa [VRep] using hvr
    case tup xs => simp only [VRep] at hvr ⊢; obtain ⟨arr, e, hr⟩ := hvr; exact ⟨arr, e, fl _ _ hflat hr⟩
    case agg xs => simp only [VRep] at hvr ⊢; obtain ⟨arr, e, hr⟩ := hvr; exact ⟨arr, e, fl _ _ hflat hr⟩
  · -- nothing lent
    have same : args' = args := by
      have : ∀ (xs ys : List AV), imms xs = true → mapO (lend fuelL c.h) xs = some ys → ys = xs := by
        intro xs
        induction xs with
        | nil => intro ys _ h; simp [mapO] at h; exact h
        | cons x xs ih =>
          intro ys hi h
          simp only [imms, Bool.and_eq_true] at hi
          simp only [mapO] at h
          split at h
          · rename_i y zs h1 h2
            cases h
            have : y = x := by
              unfold fuelL at h1
              rw [show (8 : Nat) = 7 + 1 from rfl] at h1
              simp only [lend, hi.1, if_true, Option.some.injEq] at h1
              exact h1.symm
            rw [this, ih zs hi.2 h2]
          · cases h
      exact this args args' himm hl
    subst same
    have hrep : Reps (Cx0 c.w c.S) vs.toList args' := imms_tr (c := c) (c' := Cx0 c.w c.S) (fun b h => ⟨h, rfl⟩) _ _ hia hr
    refine (hv c.w c.S vs hH.slt hrep).mono fun e w' hh => ?_
    obtain ⟨v, he, hvr, hfr⟩ := hh
    obtain ⟨h1, h2, h3⟩ := ctx w' (fun b => c.S b ∨ (c.w.heap.size ≤ b ∧ b < w'.heap.size)) hfr (fun b h => .inl h) (fun b h => h)
    exact ⟨v, ⟨w', fun b => c.S b ∨ (c.w.heap.size ≤ b ∧ b < w'.heap.size), c.h, c.φ, c.al⟩, he, rfl, rfl, imm_tr (c := Cx0 w' fun b => c.S b ∨ (c.w.heap.size ≤ b ∧ b < w'.heap.size)) (c' := ⟨w', fun b => c.S b ∨ (c.w.heap.size ≤ b ∧ b < w'.heap.size), c.h, c.φ, c.al⟩) (fun b h => ⟨h, rfl⟩) _ _ hir hvr, h1, h2, h3, rfl⟩

/-- A contract over values serves as one over the abstract heap. -/
theorem HC.of_HV {f : Nat} {args : List AV} {h : Hp} {r : AV} {K : AV → Hp → Prop} (hq : QCall P f args h r) (hk : K r h) : HC P f args h K := by
  have hok : okFn P f := by obtain ⟨_, _, ⟨h1, _⟩ | h1⟩ := hq <;> exact h1.1
  refine ⟨hok, fun c vs hc hH hEB hr => ?_⟩
  subst hc
  refine (qcall_sound hH hq hr).2.mono fun e w' hh => ?_
  obtain ⟨v, c', h1, h2, h3, h4, h5, h6, h7, h8⟩ := hh
  exact ⟨v, c', r, h1, h2, h4, h5, h6, h7, fun id h => by rw [h8] at h; rw [h3]; exact hEB id h, ⟨by rw [h3]; exact Nat.le_refl _, fun id h => by rw [h8] at h; exact .inl h⟩, by rw [h3]; exact hk⟩
theorem HC.mono {f : Nat} {args : List AV} {h : Hp} {K K' : AV → Hp → Prop} (hh : HC P f args h K) (hk : ∀ r h', K r h' → K' r h') : HC P f args h K' := by
  refine ⟨hh.1, fun c vs hc hH hEB hr => (hh.2 c vs hc hH hEB hr).mono fun e w' hx => ?_⟩
  obtain ⟨v, c', r, h1, h2, h3, h4, h5, h6, h7, h8, h9⟩ := hx
  exact ⟨v, c', r, h1, h2, h3, h4, h5, h6, h7, h8, hk _ _ h9⟩
end
end Go.Proofs.Hx

set_option linter.unusedVariables false
set_option linter.unusedSimpArgs false
namespace Go.Proofs.Hx

def aTag : AOp → Nat
  | .mv _ => 0 | .pick .. => 1 | .alloc _ => 2 | .box _ => 3 | .build .. => 4 | .buildSl .. => 5 | .load .. => 6 | .store .. => 7 | .nilchk _ => 8 | .bin .. => 9 | .beq .. => 9 | .aeq .. => 9
  | .un .. => 10 | .conv .. => 11 | .mkfn .. => 12 | .mksl .. => 13 | .slice .. => 14 | .fieldAddr .. => 15 | .field .. => 16 | .idxAddr .. => 17 | .idx .. => 18 | .ext .. => 19
  | .call .. => 20 | .len .. => 20 | .lenStr _ => 20 | .append .. => 20 | .maxs _ => 20 | .mins _ => 20
def oTag : Op → Nat
  | .move _ => 0 | .assign _ => 0 | .pick .. => 1 | .alloc _ => 2 | .box .. => 3 | .build .. => 4 | .buildSlice .. => 5 | .load .. => 6 | .store .. => 7 | .nilCheck _ => 8 | .binOp .. => 9
  | .unOp .. => 10 | .convert .. => 11 | .makeFunc .. => 12 | .makeSlice .. => 13 | .slice .. => 14 | .fieldAddr .. => 15 | .field .. => 16 | .indexAddr .. => 17 | .index .. => 18 | .extract .. => 19
  | .call _ => 20 | _ => 99

theorem tagO {α : Type} {x : Option α} {f : α → AOp} {ao : AOp} {n : Nat} (h : x.map f = some ao) (hf : ∀ a, aTag (f a) = n) : aTag ao = n := by
  cases x with
  | none => cases h
  | some a => simp at h; subst h; exact hf a
theorem tagB {α : Type} {x : Option α} {f : α → Option AOp} {ao : AOp} {n : Nat} (h : x.bind f = some ao) (hf : ∀ a, f a = some ao → aTag ao = n) : aTag ao = n := by
  cases x with
  | none => cases h
  | some a => exact hf a h

theorem cBuiltin_tag {P : Program} {b : Builtin} {as : List Operand} {tys : Array TypeId} {ao : AOp} (h : cBuiltin P b as tys = some ao) : aTag ao = 20 := by
  unfold cBuiltin at h
  split at h
  · refine tagB h fun _ h => tagB h fun _ h => ?_
    split at h <;> first | (cases h; rfl) | cases h
  · refine tagB h fun _ h => tagB h fun _ h => tagB h fun _ h => tagB h fun _ h => ?_
    split at h
    · refine tagB h fun _ h => tagB h fun _ h => ?_
      split at h <;> first | (cases h; rfl) | cases h
    · cases h
  · exact tagO h fun _ => rfl
  · exact tagO h fun _ => rfl
  · cases h

theorem cOp_tag {P : Program} {q : Bool} {op : Op} {ao : AOp} (h : cOp P q op = some ao) : aTag ao = oTag op := by
  cases op <;> simp only [cOp, reduceCtorEq] at h <;> simp only [oTag]
  case move => exact tagO h fun _ => rfl
  case assign => exact tagO h fun _ => rfl
  case pick => exact tagB h fun _ h => tagB h fun _ h => tagO h fun _ => rfl
  case alloc => exact tagO h fun _ => rfl
  case box => exact tagO h fun _ => rfl
  case build => exact tagB h fun _ h => tagB h fun _ h => tagO h fun _ => rfl
  case buildSlice =>
    split at h
    · refine tagB h fun _ h => tagB h fun _ h => ?_
      split at h
      · exact tagO h fun _ => rfl
      · cases h
    · cases h
  case load => exact tagB h fun _ h => tagB h fun _ h => tagO h fun _ => rfl
  case store => exact tagB h fun _ h => tagB h fun _ h => tagO h fun _ => rfl
  case nilCheck => exact tagO h fun _ => rfl
  case binOp =>
    refine tagB h fun _ h => tagB h fun _ h => ?_
    split at h
    · split at h <;> first | (cases h; rfl) | cases h
    · split at h
      · cases h
      · split at h <;> first | exact tagO h fun _ => rfl | cases h
    · cases h; rfl
  case unOp => exact tagO h fun _ => rfl
  case convert =>
    split at h
    · exact tagO h fun _ => rfl
    · cases h
  case makeFunc fn first caps =>
    cases fn <;> simp only [cOp, reduceCtorEq] at h
    split at h
    · exact tagO h fun _ => rfl
    · cases h
  case makeSlice =>
    split at h
    · refine tagB h fun _ h => tagB h fun _ h => tagB h fun _ h => tagB h fun _ h => ?_
      split at h
      · cases h; rfl
      · cases h
    · cases h
  case slice =>
    refine tagB h fun _ h => tagB h fun _ h => tagB h fun _ h => tagB h fun _ h => ?_
    split at h
    · exact tagO h fun _ => rfl
    · exact tagO h fun _ => rfl
    · cases h
  case fieldAddr =>
    split at h
    · refine tagB h fun _ h => tagB h fun _ h => ?_
      split at h
      · cases h
      · exact tagO h fun _ => rfl
    · cases h
  case field =>
    split at h
    · exact tagB h fun _ h => tagB h fun _ h => tagB h fun _ h => tagO h fun _ => rfl
    · cases h
  case indexAddr =>
    refine tagB h fun _ h => tagB h fun _ h => ?_
    split at h
    · exact tagO h fun _ => rfl
    · exact tagO h fun _ => rfl
    · cases h
  case index =>
    refine tagB h fun _ h => tagB h fun _ h => ?_
    split at h
    · exact tagB h fun _ h => tagO h fun _ => rfl
    · cases h
  case extract => exact tagO h fun _ => rfl
  case call cl =>
    split at h
    · exact tagB h fun _ h => tagO h fun _ => rfl
    · exact cBuiltin_tag h
    · cases h

/-- It makes a block (for its slot). -/
def makes : AOp → Bool
  | .alloc _ | .box _ | .buildSl .. | .mksl .. | .append .. => true
  | _ => false

section
variable {P : Program}

/-- Another epoch: nothing else. -/
theorem tick_ctx {c : Cx} (hH : HRep c) (n : Nat) : Le c ⟨c.w, c.S, { c.h with ep := n }, c.φ, c.al⟩ ∧ HRep ⟨c.w, c.S, { c.h with ep := n }, c.φ, c.al⟩ ∧ Fr c ⟨c.w, c.S, { c.h with ep := n }, c.φ, c.al⟩ := by
  have hle : Le c ⟨c.w, c.S, { c.h with ep := n }, c.φ, c.al⟩ := ⟨fun b h => ⟨h, rfl⟩, fun _ h => h, fun _ _ => rfl, fun id _ blk h => ⟨blk, h, rfl, fun arr el fr h => ⟨arr, h, rfl⟩⟩⟩
  refine ⟨hle, ⟨hH.slt, fun id blk h => ?_, fun id es h => ?_, hH.inj⟩, ⟨rfl, rfl, rfl, Nat.le_refl _, fun _ _ _ => rfl, fun _ h => .inl h, fun _ h => .inl h⟩⟩
  · obtain ⟨a1, a2, a3, a4, a5⟩ := hH.blk id blk h
    exact ⟨a1, a2, CRep.mono hle _ rfl _ _ a3, a4, a5⟩
  · obtain ⟨a1, a2, a3, ents, cl, a4, a5⟩ := hH.mp id es h
    exact ⟨a1, a2, a3, ents, cl, a4, ERep.mono hle _ _ a5⟩

/-- Any operation but a call. -/
theorem step_sound {c : Cx} {q : Bool} {o : Oper} {ao : AOp} {id : Id} (hc : cOp P q o.op = some ao) (hH : HRep c) (hn : makes ao = true → ¬ c.al id) {ρ : Operand → Value} {ρA : AOpd → AV} (hρ : ∀ x y, cOpd x = some y → VRep c (ρ x) (ρA y)) {r : AV} {h' : Hp}
    (hs : qB ao ρA c.h id = some (r, h')) : h'.ep = c.h.ep ∧ ∃ (c' : Cx) (nxt : Next) (v : Value), (execOp ρ o).run P c.w = .ok nxt c'.w ∧ (nxt = .value v ∨ nxt = .skip ∧ v = undef) ∧ c'.h = h' ∧ VRep c' v r ∧ Le c c' ∧ HRep c' ∧ Fr c c' ∧
      ∀ i, c'.al i → c.al i ∨ (makes ao = true ∧ i = id) := by
  unfold qB at hs
  split at hs
  · rename_i r' hp
    cases hs
    obtain ⟨v, h1, h2⟩ := pure_sound hc hρ hp
    exact ⟨rfl, c, _, v, h1, .inl rfl, rfl, h2, Le.refl c, hH, Fr.refl c, fun _ h => .inl h⟩
  · split at hs
    · rename_i r' hp
      cases hs
      have htag := cOp_tag hc
      obtain ⟨dst, op, type, pos, after, guard⟩ := o
      simp only at htag hc
      cases ao <;> simp only [yS, reduceCtorEq] at hp <;> simp only [aTag] at htag
      case load g n x =>
        cases op <;> simp only [oTag] at htag <;> try (simp at htag; done)
        obtain ⟨v, h1, h2⟩ := load_op hc hH hρ (by simp only [yS]; exact hp)
        exact ⟨rfl, c, .value v, v, by simp [execOp, h1], .inl rfl, rfl, h2, Le.refl c, hH, Fr.refl c, fun _ h => .inl h⟩
      case slice arr sz x lo hi' mx =>
        cases op <;> simp only [oTag] at htag <;> try (simp at htag; done)
        obtain ⟨v, h1, h2⟩ := sliceArr_op hc hH hρ (by simp only [yS]; exact hp)
        exact ⟨rfl, c, .value v, v, by simp [execOp, h1], .inl rfl, rfl, h2, Le.refl c, hH, Fr.refl c, fun _ h => .inl h⟩
    · have htag := cOp_tag hc
      have hep : h'.ep = c.h.ep := by
        cases ao <;> simp only [yO, reduceCtorEq] at hs
        case alloc => split at hs <;> cases hs; rfl
        case box =>
          split at hs
          · simp only [Option.map_eq_some_iff, Prod.mk.injEq] at hs
            obtain ⟨_, _, _, rfl⟩ := hs; rfl
          · cases hs
        case buildSl =>
          split at hs
          · simp only [Option.map_eq_some_iff] at hs
            obtain ⟨_, _, hs⟩ := hs
            split at hs <;> cases hs <;> rfl
          · cases hs
        case mksl =>
          split at hs
          · split at hs <;> cases hs; rfl
          · cases hs
        case store =>
          split at hs
          · split at hs
            · split at hs
              · split at hs <;> cases hs; rfl
              · cases hs
            · cases hs
          · cases hs
        case append =>
          split at hs
          · cases hs
          · split at hs
            · split at hs
              · cases hs; rfl
              · split at hs <;> cases hs; rfl
            · split at hs
              · split at hs <;> cases hs; rfl
              · cases hs
            · cases hs
      refine ⟨hep, ?_⟩
      obtain ⟨dst, op, type, pos, after, guard⟩ := o
      simp only at htag hc
      have fin : ∀ {x : Sem Value}, makes ao = true → Makes P c id x r h' → ∃ (c' : Cx) (nxt : Next) (v : Value), ((do pure (Next.value (← x)) : Sem Next)).run P c.w = .ok nxt c'.w ∧ (nxt = .value v ∨ nxt = .skip ∧ v = undef) ∧ c'.h = h' ∧ VRep c' v r ∧ Le c c' ∧ HRep c' ∧ Fr c c' ∧ ∀ i, c'.al i → c.al i ∨ (makes ao = true ∧ i = id) := by
        intro x hm ⟨v, c', h1, h2, h3, h4, h5, h6, h7⟩
        exact ⟨c', .value v, v, by simp [h1], .inl rfl, h2, h3, h4, h5, h6, fun i hi => (h7 i hi).imp (fun h => h) fun h => ⟨hm, h⟩⟩
      cases ao <;> (first | (simp only [yO, reduceCtorEq] at hs; done) | skip) <;> simp only [aTag] at htag
      case alloc z =>
        cases op <;> simp only [oTag] at htag <;> try (simp at htag; done)
        exact fin rfl (alloc_op hc hH (hn rfl) hs)
      case box x =>
        cases op <;> simp only [oTag] at htag <;> try (simp at htag; done)
        exact fin rfl (box_op hc hH (hn rfl) hρ hs)
      case buildSl =>
        cases op <;> simp only [oTag] at htag <;> try (simp at htag; done)
        exact fin rfl (buildSl_op hc hH (hn rfl) hρ hs)
      case mksl =>
        cases op <;> simp only [oTag] at htag <;> try (simp at htag; done)
        exact fin rfl (mksl_op hc hH (hn rfl) hρ hs)
      case store =>
        cases op <;> simp only [oTag] at htag <;> try (simp at htag; done)
        obtain ⟨hr, c', h1, h2, h3, h4, h5, h6⟩ := store_op hc hH hρ hs
        exact ⟨c', .skip, undef, by simp [execOp, h1], .inr ⟨rfl, rfl⟩, h2, by rw [hr]; trivial, h3, h4, h5, fun i hi => by rw [h6] at hi; exact .inl hi⟩
      case append =>
        cases op <;> simp only [oTag] at htag <;> try (simp at htag; done)
        rename_i cl
        obtain ⟨callee, args, tys⟩ := cl
        simp only [cOp] at hc
        split at hc
        · simp only [Option.bind_eq_some_iff, Option.map_eq_some_iff, reduceCtorEq, and_false, exists_false] at hc
        · rename_i b hcal
          have hc' := hc
          unfold cBuiltin at hc
          split at hc
          · simp only [Option.bind_eq_some_iff] at hc
            obtain ⟨_, _, _, _, hc⟩ := hc
            split at hc <;> simp at hc
          · rename_i s x hargs
            obtain rfl : args = #[s, x] := by cases args; simp_all
            have hm := append_op (ty := type) hH (hn rfl) hc' hρ hs
            obtain ⟨v, c', h1, h2, h3, h4, h5, h6, h7⟩ := hm
            exact ⟨c', .value v, v, by simp [execOp, resolve, Go.invoke, Go.builtin, h1], .inl rfl, h2, h3, h4, h5, h6, fun i hi => (h7 i hi).imp (fun h => h) fun h => ⟨rfl, h⟩⟩
          · simp only [Option.map_eq_some_iff, reduceCtorEq, and_false, exists_false] at hc
          · simp only [Option.map_eq_some_iff, reduceCtorEq, and_false, exists_false] at hc
          · cases hc
        · cases hc

/-- The slots for which blocks were made. -/
def Dn (D : Nat → Prop) (ao : zC) (s : Nat) : Prop := D s ∨ (makes ao.op = true ∧ ao.dst = some s)

/-- One operation of a region. -/
theorem op_sound {N : Nat} {q : Bool} {ops : Array Oper} {i : Nat} {o : Oper} {ao : zC} (hi : ops[i]? = some o) (hc : cOper P q N ops o = some ao) {c0 : Cx} {D : Nat → Prop} (hmk : makes ao.op = true → ∃ d, ao.dst = some d ∧ ¬ D d) {σ : St} {a : Act} {w : World} {K : St → Prop} (h : qF P ao K σ) (hR : RS N c0 D σ a w)
    (Q : Exit → Act → World → Prop) : wpOp P ops Q i (fun a' w' => ∃ σ', K σ' ∧ RS N c0 (Dn D ao) σ' a' w') a w := by
  obtain ⟨c, hw, hh, hH, hE, hN, hD, h0, f0, l0, hlt, hal⟩ := hR
  subst hw
  obtain ⟨hop, hdst, hd⟩ := dst_ok hc
  unfold wpOp
  simp only [hi]
  unfold qF at h
  rw [guardK_wanted] at h
  split at h
  · exact h.elim
  · rename_i hwant
    rw [guard_want hc hE hN hwant]
    simp only [if_true]
    refine .inl ?_
    have hρ := env_rep hE
    unfold Oper.wp
    unfold yQ at h
    split at h
    · rename_i q' f as hao
      have htag := cOp_tag hop
      rw [hao] at hop htag
      obtain ⟨dst, op, type, pos, after, guard⟩ := o
      simp only [aTag] at htag
      simp only at hop hdst hd
      cases op <;> simp only [oTag] at htag <;> try (simp at htag; done)
      rename_i cl
      obtain ⟨callee, args, tys⟩ := cl
      simp only [cOp] at hop
      split at hop
      · rename_i fo
        simp only [Option.bind_eq_some_iff, Option.map_eq_some_iff] at hop
        obtain ⟨fA, h1, asA, h2, h3⟩ := hop
        injection h3 with e1 e2 e3
        subst e1 e2 e3
        have hf := hρ fo fA h1
        unfold callA at h
        split at h
        · rename_i g caps hg
          rw [hg] at hf
          simp only [VRep] at hf
          obtain ⟨carr, hfv, hcr⟩ := hf
          have hargs : Reps c (args.map a.eval ++ carr).toList (asA.map (evA σ.env) ++ caps) := by
            simpa using Reps.append (cOpds_rep hρ h2) hcr
          rw [hdst] at h
          cases q with
          | true =>
            simp only [if_true] at h
            obtain ⟨r, hq, hk⟩ := h
            rw [← hh] at hq
            obtain ⟨hok, hcalls⟩ := qcall_sound hH hq hargs
            rw [execOp_call (cl := ⟨.value fo, args, tys⟩) (f := fo) rfl rfl hfv hok]
            rw [Oper.upon_enter]
            refine hcalls.mono fun e w' hx => ?_
            obtain ⟨v, c', rfl, rfl, h6, h7, h8, h9, h10, h11⟩ := hx
            rw [← hh] at hk
            refine ⟨_, hk, ?_⟩
            rw [← h6]
            exact RS.step hE hN hD h0 f0 l0 hlt hd h8 h9 h10 h7 (by rw [h6]; exact Nat.le_refl _) (fun id h => by rw [h11] at h; exact .inl h) (fun id h => by
              rw [h11] at h; rw [h6]; exact (hal id h).imp (fun h => h) fun h => ⟨h.1, .inl h.2⟩)
          | false =>
            simp only [Bool.false_eq_true, if_false] at h
            rw [execOp_call (cl := ⟨.value fo, args, tys⟩) (f := fo) rfl rfl hfv h.1]
            rw [Oper.upon_enter]
            have hEB : EB c := fun id h => by rcases hal id h with h | h <;> omega
            refine (h.2 c _ hh hH hEB hargs).mono fun e w' hx => ?_
            obtain ⟨v, c', r, rfl, rfl, h5, h6, h7, h8, h9, h10, h11⟩ := hx
            obtain ⟨t1, t2, t3⟩ := tick_ctx h7 (c'.h.ep + 1)
            refine ⟨_, h11 (fresh_of h7 h9), ?_⟩
            exact RS.step (c' := ⟨c'.w, c'.S, { c'.h with ep := c'.h.ep + 1 }, c'.φ, c'.al⟩) hE hN hD h0 f0 l0 hlt hd (h6.trans t1) t2 (h8.trans t3) (VRep.mono t1 _ _ h5) (Nat.le_succ_of_le h10.ep)
              (fun id h => (h10.al id h).imp (fun h => h) fun h => Nat.le_of_lt h) (fun id h => .inl (Nat.lt_succ_of_le (h9 id h)))
        · exact h.elim
      · rename_i b hcal
        have := cBuiltin_tag hop
        exfalso
        unfold cBuiltin at hop
        split at hop
        · simp only [Option.bind_eq_some_iff] at hop
          obtain ⟨_, _, _, _, hop⟩ := hop
          split at hop <;> simp at hop
        · simp only [Option.bind_eq_some_iff] at hop
          obtain ⟨_, _, _, _, _, _, _, _, hop⟩ := hop
          split at hop
          · simp only [Option.bind_eq_some_iff] at hop
            obtain ⟨_, _, _, _, hop⟩ := hop
            split at hop <;> simp at hop
          · cases hop
        · simp only [Option.map_eq_some_iff, reduceCtorEq, and_false, exists_false] at hop
        · simp only [Option.map_eq_some_iff, reduceCtorEq, and_false, exists_false] at hop
        · cases hop
      · cases hop
    · unfold ob at h
      split at h
      · rename_i x hs
        obtain ⟨r, h'⟩ := x
        rw [← hh] at hs
        have hn : makes ao.op = true → ¬ c.al (c.h.ep, ao.dst.getD 0) := fun hm hcal => by
          obtain ⟨d, e1, e2⟩ := hmk hm
          rw [e1] at hcal
          rcases hal _ hcal with h | h
          · exact absurd h (Nat.lt_irrefl _)
          · exact e2 h.2
        obtain ⟨hep, c', nxt, v, h1, h2, h3, h4, h5, h6, h7, h8⟩ := step_sound hop hH hn hρ hs
        rw [h1]
        have hRS := RS.step (D := Dn D ao) hE hN hD h0 f0 l0 hlt hd h5 h6 h7 h4 (by rw [h3, hep]; exact Nat.le_refl _) (fun id h => (h8 id h).imp (fun h => h) fun h => by rw [h.2]; exact Nat.le_refl _) (fun id h => by
          rw [h3, hep]
          rcases h8 id h with h | ⟨hm, h⟩
          · exact (hal id h).imp (fun h => h) fun h => ⟨h.1, .inl h.2⟩
          · obtain ⟨d, e1, e2⟩ := hmk hm
            rw [h]
            exact .inr ⟨rfl, .inr ⟨hm, by rw [e1]; rfl⟩⟩)
        simp only at h
        rw [hdst, ← h3] at h
        rcases h2 with rfl | ⟨rfl, rfl⟩
        · exact ⟨_, h, hRS⟩
        · exact ⟨_, h, hRS⟩
      · exact h.elim
  · rename_i hwant
    rw [guard_want hc hE hN hwant]
    simp only [Bool.false_eq_true, if_false]
    refine ⟨_, h, ?_⟩
    rw [hdst, ← hh]
    exact RS.step hE hN hD h0 f0 l0 hlt hd (Le.refl c) hH (Fr.refl c) (by simp only [VRep]; exact ⟨#[], rfl, by simp [Reps]⟩) (Nat.le_refl _) (fun id h => .inl h) (fun id h => (hal id h).imp (fun h => h) fun h => ⟨h.1, .inl h.2⟩)
end
end Go.Proofs.Hx

set_option linter.unusedVariables false
set_option linter.unusedSimpArgs false
namespace Go.Proofs.Hx

/-! ### Operations that can change places -/
def aopds : AOp → List AOpd
  | .mv x | .box x | .load _ _ x | .nilchk x | .un _ x | .conv _ x | .fieldAddr _ x | .field _ _ _ x | .ext x _ | .len _ x | .lenStr x => [x]
  | .pick c a b => [c, a, b]
  | .alloc _ => []
  | .build _ ps | .buildSl _ _ _ ps => ps.map (·.2.2)
  | .store _ a x | .bin _ a x | .beq _ a x | .aeq _ _ a x | .mksl _ _ _ a x | .idxAddr _ _ a x | .idx _ _ _ a x | .append _ _ a x => [a, x]
  | .mkfn _ xs | .maxs xs | .mins xs => xs
  | .slice _ _ x lo hi mx => x :: (lo.toList ++ hi.toList ++ mx.toList)
  | .call _ f as => f :: as
def slotsOf : List AOpd → List Nat
  | [] => []
  | .t i :: l => i :: slotsOf l
  | .c _ :: l => slotsOf l
def readsOf (o : zC) : List Nat := (match o.guard with | some (s, _) => [s] | none => []) ++ slotsOf (aopds o.op)
/-- 0: its operands alone · 1: it reads the heap at a pointer · 2: it makes memory · 3: it writes · 4: a call that may do anything · 5: a call on values -/
def cls : AOp → Nat
  | .load .. => 1
  | .slice (some _) .. => 1
  | .alloc _ | .box _ | .buildSl .. | .mksl .. => 2
  | .store .. | .append .. => 3
  | .call q _ _ => if q then 5 else 4
  | _ => 0
def slotOf : AOpd → List Nat
  | .t i => [i]
  | .c _ => []
/-- The slot of the pointer that is read at. -/
def ptrSlot : AOp → List Nat
  | .load _ _ x => slotOf x
  | .slice (some _) _ x _ _ _ => slotOf x
  | _ => []
def constOk : AOpd → Bool
  | .t _ => true
  | .c v => (match v with | .ptr .. | .sl .. | .map _ => false | _ => true)
/-- Its pointer, or what it writes, is no reference that stands in the code. -/
def refOk : AOp → Bool
  | .load _ _ x => constOk x
  | .slice (some _) _ x _ _ _ => constOk x
  | .store _ a _ => constOk a
  | .append _ _ a _ => constOk a
  | _ => true
/-- The slot of what is written. -/
def tgtSlot : AOp → List Nat
  | .store _ a _ => slotOf a
  | .append _ _ a _ => slotOf a
  | _ => []
def selfOk (o : zC) : Bool :=
  (match o.dst with | some d => !(ptrSlot o.op ++ tgtSlot o.op).contains d | none => true) && (!makes o.op || o.dst.isSome) && refOk o.op
def pairsWith (as bs : List Nat) : List (Nat × Nat) := as.flatMap fun a => bs.map fun b => (a, b)
def isApp : AOp → Bool
  | .append .. => true
  | _ => false
/-- It makes memory, whatever happens. -/
def newOk (y : zC) : Bool := y.guard.isNone && y.dst.isSome && (match y.op with | .buildSl _ len _ _ => len != 0 | .box _ | .alloc _ => true | _ => false)
/-- What must lie apart for two operations to change places; none: they can't. -/
def sepsOf (x y : zC) : Option (List (Nat × Nat)) :=
  let cx := cls x.op
  let cy := cls y.op
  if cx == 4 || cy == 4 || !selfOk x || !selfOk y then none
  else if cx == 0 || cy == 0 then some []
  else if (cx == 1 || cx == 5) && (cy == 1 || cy == 5) then some []
  else if cx == 1 then some (pairsWith (ptrSlot x.op) (y.dst.toList ++ tgtSlot y.op))
  else if cy == 1 then some (pairsWith (ptrSlot y.op) (x.dst.toList ++ tgtSlot x.op))
  else if cx == 5 && cy == 2 then some []
  else if cx == 2 && cy == 2 then (if x.dst.isSome && y.dst.isSome then some [] else none)
  else if isApp x.op && x.dst.isSome && newOk y then some (pairsWith (tgtSlot x.op) y.dst.toList)
  else none
def apartT (x y : zC) : Bool :=
  (match x.dst with | some d => !(readsOf y).contains d && y.dst != some d | none => true) &&
  (match y.dst with | some d => !(readsOf x).contains d | none => true)

theorem mem_slots {l : List AOpd} {i : Nat} (h : AOpd.t i ∈ l) : i ∈ slotsOf l := by
  induction l with
  | nil => cases h
  | cons x l ih =>
    cases h with
    | head => simp [slotsOf]
    | tail _ h => cases x <;> simp [slotsOf, ih h]
theorem evA_put {env : Nat → AV} {d : Option Nat} {v : AV} {l : List AOpd} (h : ∀ k, d = some k → k ∉ slotsOf l) : ∀ x ∈ l, evA (putA env d v) x = evA env x := by
  intro x hx
  cases x with
  | c v => rfl
  | t i =>
    cases d with
    | none => rfl
    | some k =>
      have : i ≠ k := fun e => h k rfl (e ▸ mem_slots hx)
      simp [evA, putA, upd, this]

theorem map_congr_mem {α β : Type} {f g : α → β} {l : List α} (h : ∀ x ∈ l, f x = g x) : l.map f = l.map g := List.map_congr_left h

theorem parts_congr {ρ ρ' : AOpd → AV} {ps : List (Nat × Nat × AOpd)} (h : ∀ x ∈ ps.map (·.2.2), ρ x = ρ' x) : (ps.map fun p => (p.1, p.2.1, ρ p.2.2)) = ps.map fun p => (p.1, p.2.1, ρ' p.2.2) :=
  List.map_congr_left fun p hp => by rw [h p.2.2 (List.mem_map.2 ⟨p, hp, rfl⟩)]
theorem opt_congr {ρ ρ' : AOpd → AV} {x : Option AOpd} (h : ∀ y ∈ x.toList, ρ y = ρ' y) : x.map ρ = x.map ρ' := by
  cases x with
  | none => rfl
  | some y => simp [h y (by simp)]

theorem stepV_congr {op : AOp} {ρ ρ' : AOpd → AV} {h : Hp} {id : Id} (e : ∀ x ∈ aopds op, ρ x = ρ' x) : qB op ρ h id = qB op ρ' h id := by
  cases op <;> simp only [aopds, List.mem_cons, List.not_mem_nil, or_false, forall_eq_or_imp, forall_eq] at e <;> simp only [qB, yH, yS, yO]
  case build z ps => rw [parts_congr (by simpa using e)]
  case buildSl sz len z ps => rw [parts_congr (by simpa using e)]
  case mkfn f xs => rw [map_congr_mem e]
  case maxs xs => rw [map_congr_mem e]
  case mins xs => rw [map_congr_mem e]
  case slice arr sz x lo hi' mx =>
    obtain ⟨e1, e2⟩ := e
    have l1 := opt_congr (ρ := ρ) (ρ' := ρ') (x := lo) fun y hy => e2 y (by simp [hy])
    have l2 := opt_congr (ρ := ρ) (ρ' := ρ') (x := hi') fun y hy => e2 y (by simp [hy])
    have l3 := opt_congr (ρ := ρ) (ρ' := ρ') (x := mx) fun y hy => e2 y (by simp [hy])
    cases arr <;> simp only [e1, l1, l2, l3]
  all_goals first
    | rfl
    | (simp only [e]; done)
    | (obtain ⟨e1, e2⟩ := e; simp only [e1, e2]; done)
    | (obtain ⟨e1, e2, e3⟩ := e; simp only [e1, e2, e3]; done)

theorem putA_comm {env : Nat → AV} {a b : Option Nat} {u v : AV} (h : ∀ k, a = some k → b ≠ some k) : putA (putA env a u) b v = putA (putA env b v) a u := by
  cases a with
  | none => rfl
  | some i =>
    cases b with
    | none => rfl
    | some j =>
      have hne : i ≠ j := fun e => h i rfl (by rw [e])
      funext k
      simp only [putA, upd]
      by_cases e1 : k = i <;> by_cases e2 : k = j <;> simp [e1, e2]
      · omega
      · intro h'; omega
      · intro h'; omega

section
variable {P : Program}

theorem awpOp_mono {o : zC} {K K' : St → Prop} {σ : St} (hk : ∀ σ, K σ → K' σ) (h : qF P o K σ) : qF P o K' σ := by
  unfold qF at *
  rw [guardK_wanted] at *
  split at h
  · exact h.elim
  · unfold yQ at *
    split at h
    · unfold callA at *
      split at h
      · split at h
        · rename_i hq
          simp only [hq, if_true]
          obtain ⟨r, h1, h2⟩ := h
          exact ⟨r, h1, hk _ h2⟩
        · rename_i hq
          simp only [hq, Bool.false_eq_true, if_false]
          exact HC.mono h fun r h' hx hf => hk _ (hx hf)
      · exact h.elim
    · unfold ob at *
      split at h
      · exact hk _ h
      · exact h.elim
  · exact hk _ h

/-- What one operation does, where it is no call that may do anything. -/
def Ef (P : Program) (o : zC) (env : Nat → AV) (h : Hp) (r : AV) (h' : Hp) : Prop :=
  match wantedA o env with
  | none => False
  | some false => r = .tup [] ∧ h' = h
  | some true =>
    match o.op with
    | .call q f args => q = true ∧ (∃ g caps, evA env f = .fn g caps ∧ QCall P g (args.map (evA env) ++ caps) h r) ∧ h' = h
    | op => qB op (evA env) h (h.ep, o.dst.getD 0) = some (r, h')

theorem Ef.awp {o : zC} {K : St → Prop} {σ : St} (hcl : cls o.op ≠ 4) : qF P o K σ ↔ ∃ r h', Ef P o σ.env σ.h r h' ∧ K ⟨putA σ.env o.dst r, h'⟩ := by
  obtain ⟨dst, op, g⟩ := o
  simp only at hcl
  unfold qF Ef
  rw [guardK_wanted]
  cases hw : wantedA ⟨dst, op, g⟩ σ.env with
  | none => simp
  | some b =>
    cases b with
    | false => exact ⟨fun h => ⟨_, _, ⟨rfl, rfl⟩, h⟩, fun ⟨r, h', ⟨e1, e2⟩, h⟩ => by rw [e1, e2] at h; exact h⟩
    | true =>
      simp only [yQ]
      cases op
      case call q f args =>
        simp only [callA]
        have hq : q = true := by
          cases q with
          | true => rfl
          | false => simp [cls] at hcl
        subst hq
        cases hf : evA σ.env f <;> simp
        rename_i g' caps
        constructor
        · rintro ⟨r, h1, h2⟩
          exact ⟨r, σ.h, ⟨⟨_, _, ⟨rfl, rfl⟩, h1⟩, rfl⟩, h2⟩
        · rintro ⟨r, h', ⟨⟨_, _, ⟨rfl, rfl⟩, h1⟩, rfl⟩, h2⟩
          exact ⟨r, h1, h2⟩
      all_goals
        simp only [ob]
        constructor
        · intro h
          split at h
          · rename_i x hs
            obtain ⟨r, h'⟩ := x
            exact ⟨r, h', hs, h⟩
          · exact h.elim
        · rintro ⟨r, h', hs, hk⟩
          rw [hs]
          exact hk

theorem wantedA_congr {o : zC} {env env' : Nat → AV} (h : ∀ s ∈ readsOf o, env s = env' s) : wantedA o env = wantedA o env' := by
  unfold wantedA
  cases hg : o.guard with
  | none => rfl
  | some p =>
    obtain ⟨s, w⟩ := p
    have := h s (by simp [readsOf, hg])
    simp only [this]

theorem Ef.congr {o : zC} {env env' : Nat → AV} {h h' : Hp} {r : AV} (e : ∀ s ∈ readsOf o, env s = env' s) (hh : Ef P o env h r h') : Ef P o env' h r h' := by
  have hev : ∀ x ∈ aopds o.op, evA env x = evA env' x := fun x hx => by
    cases x with
    | c v => rfl
    | t i => exact e i (by simp [readsOf, mem_slots hx])
  obtain ⟨dst, op, g⟩ := o
  unfold Ef at *
  rw [← wantedA_congr e]
  cases hw : wantedA ⟨dst, op, g⟩ env with
  | none => rw [hw] at hh; exact hh
  | some b =>
    rw [hw] at hh
    cases b with
    | false => exact hh
    | true =>
      simp only at hev hh ⊢
      cases op
      case call q f args =>
        simp only [aopds] at hev
        have h1 := hev f (by simp)
        have h2 : args.map (evA env') = args.map (evA env) := map_congr_mem fun x hx => (hev x (by simp [hx])).symm
        simp only [← h1, h2]
        exact hh
      all_goals
        simp only at hh ⊢
        rw [← stepV_congr hev]
        exact hh

theorem Ef.cls0 {o : zC} {env : Nat → AV} {h h' : Hp} {r : AV} (hc : cls o.op = 0) (hh : Ef P o env h r h') : h' = h ∧ ∀ h2, Ef P o env h2 r h2 := by
  obtain ⟨dst, op, g⟩ := o
  unfold Ef at *
  cases hw : wantedA ⟨dst, op, g⟩ env with
  | none => rw [hw] at hh; exact hh.elim
  | some b =>
    rw [hw] at hh
    cases b with
    | false => exact ⟨hh.2, fun h2 => ⟨hh.1, rfl⟩⟩
    | true =>
      simp only at hc hh ⊢
      cases op <;> simp only [cls] at hc <;> try (simp at hc; done)
      case slice arr sz x lo hi' mx =>
        cases arr with
        | some n => simp at hc
        | none =>
          simp only [qB, yS, yO] at hh ⊢
          split at hh
          · rename_i r' hp
            cases hh
            exact ⟨rfl, fun h2 => rfl⟩
          · cases hh
      case call q f args => split at hc <;> simp at hc
      all_goals
        simp only [qB, yS, yO] at hh ⊢
        split at hh
        · rename_i r' hp
          cases hh
          exact ⟨rfl, fun h2 => rfl⟩
        · cases hh

theorem const_id {v : AV} (h : constOk (.c v) = true) : idOf v = none := by
  cases v <;> first | rfl | simp [constOk] at h

/-- A read: it leaves the heap, and sees its own block alone. -/
theorem Ef.cls1 {o : zC} {env : Nat → AV} {h h' : Hp} {r : AV} (hc : cls o.op = 1) (hro : refOk o.op = true) (hh : Ef P o env h r h') :
    h' = h ∧ ∀ h2 : Hp, (∀ s ∈ ptrSlot o.op, ∀ id, idOf (env s) = some id → h2.hp id = h.hp id) → Ef P o env h2 r h2 := by
  obtain ⟨dst, op, g⟩ := o
  unfold Ef at *
  cases hw : wantedA ⟨dst, op, g⟩ env with
  | none => rw [hw] at hh; exact hh.elim
  | some b =>
    rw [hw] at hh
    cases b with
    | false => exact ⟨hh.2, fun h2 _ => ⟨hh.1, rfl⟩⟩
    | true =>
      simp only at hc hro hh ⊢
      have at_ : ∀ (x : AOpd) (h2 : Hp) (id : Id) (off : Nat), constOk x = true → (∀ s ∈ slotOf x, ∀ id, idOf (env s) = some id → h2.hp id = h.hp id) → evA env x = .ptr id off → h2.hp id = h.hp id := fun x h2 id off hco hs he => by
        cases x with
        | c v =>
          have := const_id hco
          simp only [evA] at he
          rw [he] at this
          simp [idOf] at this
        | t i => exact hs i (by simp [slotOf]) id (by simp only [evA] at he; rw [he]; rfl)
      cases op <;> simp only [cls] at hc <;> try (simp at hc; done)
      case call q f args => split at hc <;> simp at hc
      case load a n x =>
        simp only [qB, yH, yO, ptrSlot] at hh ⊢
        split at hh
        · rename_i r' hp
          cases hh
          refine ⟨rfl, fun h2 hs => ?_⟩
          have : yS (.load a n x) (evA env) h2 = some r := by
            simp only [yS] at hp ⊢
            split at hp
            · rename_i id off e
              rw [at_ x h2 id off hro hs e]
              exact hp
            · exact hp
            · cases hp
          rw [this]
        · cases hh
      case slice arr sz x lo hi' mx =>
        cases arr with
        | none => simp at hc
        | some n =>
          simp only [qB, yH, yO, ptrSlot] at hh ⊢
          split at hh
          · rename_i r' hp
            cases hh
            refine ⟨rfl, fun h2 hs => ?_⟩
            have : yS (.slice (some n) sz x lo hi' mx) (evA env) h2 = some r := by
              simp only [yS] at hp ⊢
              split at hp
              · rename_i id off e
                rw [at_ x h2 id off hro hs e]
                exact hp
              · cases hp
            rw [this]
          · cases hh

theorem lend_put {h h2 : Hp} (hs : ∀ id blk, h.hp id = some blk → h2.hp id = some blk) : ∀ (d : Nat) (a a' : AV), lend d h a = some a' → lend d h2 a = some a'
  | 0, a, a', e => by simpa [lend] using e
  | d + 1, a, a', e => by
    have ih := lend_put hs d
    have lst : ∀ (xs ys : List AV), mapO (lend d h) xs = some ys → mapO (lend d h2) xs = some ys := by
      intro xs
      induction xs with
      | nil => intro ys hy; simpa [mapO] using hy
      | cons x xs ih2 =>
        intro ys hy
        simp only [mapO] at hy ⊢
        split at hy
        · rename_i y zs h1 h2
          rw [ih _ _ h1, ih2 _ h2]
          exact hy
        · cases hy
    simp only [lend] at e ⊢
    split
    · rename_i hi; rw [if_pos hi] at e; exact e
    · rename_i hi
      rw [if_neg hi] at e
      split at e
      · simp only [Option.map_eq_some_iff] at e ⊢
        obtain ⟨cs, h1, h2⟩ := e
        exact ⟨cs, lst _ _ h1, h2⟩
      · simp only [Option.map_eq_some_iff] at e ⊢
        obtain ⟨cs, h1, h2⟩ := e
        exact ⟨cs, lst _ _ h1, h2⟩
      · simp only [Option.map_eq_some_iff] at e ⊢
        obtain ⟨cs, h1, h2⟩ := e
        exact ⟨cs, lst _ _ h1, h2⟩
      · split at e
        · rename_i blk hb
          simp only [hs _ _ hb]
          split
          · rename_i h0; rw [if_pos h0] at e; exact e
          · rename_i h0
            rw [if_neg h0] at e
            split
            · rename_i h1
              rw [if_pos h1] at e
              simp only [Option.map_eq_some_iff] at e ⊢
              obtain ⟨cs, h2, h3⟩ := e
              exact ⟨cs, lst _ _ h2, h3⟩
            · rename_i h1; rw [if_neg h1] at e; cases e
        · cases e
      · split at e
        · rename_i blk hb
          simp only [hs _ _ hb]
          simp only [Option.map_eq_some_iff] at e ⊢
          obtain ⟨cs, h2, h3⟩ := e
          exact ⟨cs, lst _ _ h2, h3⟩
        · cases e
      · cases e
theorem mapO_lend_put {h h2 : Hp} (hs : ∀ id blk, h.hp id = some blk → h2.hp id = some blk) {d : Nat} : ∀ {xs ys : List AV}, mapO (lend d h) xs = some ys → mapO (lend d h2) xs = some ys
  | [], ys, e => by simpa [mapO] using e
  | x :: xs, ys, e => by
    simp only [mapO] at e ⊢
    split at e
    · rename_i y zs h1 h2
      rw [lend_put hs _ _ _ h1, mapO_lend_put hs h2]
      exact e
    · cases e

/-- A call on values: it leaves the heap, and sees no block that is not there. -/
theorem Ef.cls5 {o : zC} {env : Nat → AV} {h h' : Hp} {r : AV} (hc : cls o.op = 5) (hh : Ef P o env h r h') :
    h' = h ∧ ∀ h2 : Hp, (∀ id blk, h.hp id = some blk → h2.hp id = some blk) → Ef P o env h2 r h2 := by
  obtain ⟨dst, op, g⟩ := o
  unfold Ef at *
  cases hw : wantedA ⟨dst, op, g⟩ env with
  | none => rw [hw] at hh; exact hh.elim
  | some b =>
    rw [hw] at hh
    cases b with
    | false => exact ⟨hh.2, fun h2 _ => ⟨hh.1, rfl⟩⟩
    | true =>
      simp only at hc hh ⊢
      cases op <;> simp only [cls] at hc <;> try (simp at hc; done)
      case slice arr sz x lo hi' mx => cases arr <;> simp at hc
      case call q f args =>
        obtain ⟨h1, ⟨g', caps, h2, args', h3, h4⟩, h6⟩ := hh
        exact ⟨h6, fun h2' hs => ⟨h1, ⟨g', caps, h2, args', mapO_lend_put hs h3, h4⟩, trivial⟩⟩

/-- An operation that makes memory: it looks at nothing but its own place. -/
theorem Ef.cls2 {o : zC} {env : Nat → AV} {h h' : Hp} {r : AV} (hc : cls o.op = 2) (hh : Ef P o env h r h') :
    (h' = h ∧ ∀ g : Hp, g.ep = h.ep → ((g.hp (h.ep, o.dst.getD 0)).isNone = true ∨ (h.hp (h.ep, o.dst.getD 0)).isNone = false) → Ef P o env g r g) ∨
    ((h.hp (h.ep, o.dst.getD 0)).isNone = true ∧ idOf r = some (h.ep, o.dst.getD 0) ∧ ∃ cells, h' = h.push (h.ep, o.dst.getD 0) cells ∧ ∀ g : Hp, g.ep = h.ep → (g.hp (h.ep, o.dst.getD 0)).isNone = true → Ef P o env g r (g.push (h.ep, o.dst.getD 0) cells)) := by
  obtain ⟨dst, op, g⟩ := o
  unfold Ef at *
  cases hw : wantedA ⟨dst, op, g⟩ env with
  | none => rw [hw] at hh; exact hh.elim
  | some b =>
    rw [hw] at hh
    cases b with
    | false => exact .inl ⟨hh.2, fun g _ _ => ⟨hh.1, rfl⟩⟩
    | true =>
      simp only at hc hh ⊢
      cases op <;> simp only [cls] at hc <;> try (simp at hc; done)
      case slice arr sz x lo hi' mx => cases arr <;> simp at hc
      case call q f args => split at hc <;> simp at hc
      case alloc z =>
        simp only [qB, yH, yS, yO] at hh ⊢
        split at hh
        · rename_i hn
          simp only [Option.some.injEq, Prod.mk.injEq] at hh
          obtain ⟨rfl, rfl⟩ := hh
          exact .inr ⟨hn, rfl, _, rfl, fun g he hg => by rw [he, if_pos hg]⟩
        · cases hh
      case box x =>
        simp only [qB, yH, yS, yO] at hh ⊢
        split at hh
        · rename_i hn
          simp only [Option.map_eq_some_iff, Prod.mk.injEq] at hh
          obtain ⟨cs, h1, rfl, rfl⟩ := hh
          exact .inr ⟨hn, rfl, _, rfl, fun g he hg => by rw [he, if_pos hg, h1]; rfl⟩
        · cases hh
      case buildSl sz len z ps =>
        simp only [qB, yH, yS, yO] at hh ⊢
        split at hh
        · rename_i hn
          simp only [Option.map_eq_some_iff] at hh
          obtain ⟨cs, h1, e⟩ := hh
          split at e
          · rename_i h0
            cases e
            exact .inl ⟨rfl, fun g he hg => by
              rcases hg with hg | hg
              · rw [he, if_pos hg, h1]; simp [h0]
              · rw [hn] at hg; cases hg⟩
          · rename_i h0
            cases e
            exact .inr ⟨hn, rfl, _, rfl, fun g he hg => by rw [he, if_pos hg, h1]; simp [h0]⟩
        · cases hh
      case mksl =>
        simp only [qB, yH, yS, yO] at hh ⊢
        split at hh
        · rename_i k1 ln k2 cn e1 e2
          split at hh
          · rename_i hcond
            simp only [Option.some.injEq, Prod.mk.injEq] at hh
            obtain ⟨rfl, rfl⟩ := hh
            exact .inr ⟨hcond.1, rfl, _, rfl, fun g he hg => by rw [he, if_pos ⟨hg, hcond.2⟩]⟩
          · cases hh
        · cases hh

theorem Ef.new {o : zC} {env : Nat → AV} {h h' : Hp} {r : AV} (hn : newOk o = true) (hh : Ef P o env h r h') :
    (h.hp (h.ep, o.dst.getD 0)).isNone = true ∧ idOf r = some (h.ep, o.dst.getD 0) ∧ ∃ cells, h' = h.push (h.ep, o.dst.getD 0) cells ∧ ∀ g : Hp, g.ep = h.ep → (g.hp (h.ep, o.dst.getD 0)).isNone = true → Ef P o env g r (g.push (h.ep, o.dst.getD 0) cells) := by
  obtain ⟨dst, op, g⟩ := o
  simp only [newOk, Bool.and_eq_true] at hn
  obtain ⟨⟨hg, hd⟩, hop⟩ := hn
  have hg' : g = none := by cases g <;> simp_all
  subst hg'
  unfold Ef at *
  simp only [wantedA] at hh ⊢
  cases op <;> simp only at hop <;> try (simp at hop; done)
  case alloc z =>
    simp only [qB, yH, yS, yO] at hh ⊢
    split at hh
    · rename_i hn
      simp only [Option.some.injEq, Prod.mk.injEq] at hh
      obtain ⟨rfl, rfl⟩ := hh
      exact ⟨hn, rfl, _, rfl, fun g he hg => by rw [he, if_pos hg]⟩
    · cases hh
  case box x =>
    simp only [qB, yH, yS, yO] at hh ⊢
    split at hh
    · rename_i hn
      simp only [Option.map_eq_some_iff, Prod.mk.injEq] at hh
      obtain ⟨cs, h1, rfl, rfl⟩ := hh
      exact ⟨hn, rfl, _, rfl, fun g he hg => by rw [he, if_pos hg, h1]; rfl⟩
    · cases hh
  case buildSl sz len z ps =>
    have h0 : ¬ len = 0 := by simpa using hop
    simp only [qB, yH, yS, yO] at hh ⊢
    split at hh
    · rename_i hn
      simp only [Option.map_eq_some_iff] at hh
      obtain ⟨cs, h1, e⟩ := hh
      (try rw [if_neg h0] at e)
      cases e
      exact ⟨hn, rfl, _, rfl, fun g he hg => by rw [he, if_pos hg, h1]; simp [h0]⟩
    · cases hh
/-- An append beside memory that is made. -/
theorem Ef.app {o : zC} {env : Nat → AV} {h h' : Hp} {r : AV} (ha : isApp o.op = true) (hh : Ef P o env h r h') {id : Id} {cells : List AV} (hn : h.hp id = none) (hid : id ≠ (h.ep, o.dst.getD 0)) :
    Ef P o env (h.push id cells) r (h'.push id cells) ∧ h'.ep = h.ep ∧ (idOf r ≠ some id) := by
  obtain ⟨dst, op, g⟩ := o
  cases op <;> simp only [isApp] at ha <;> try (cases ha; done)
  rename_i sz bytes s v
  unfold Ef at *
  cases hw : wantedA ⟨dst, .append sz bytes s v, g⟩ env with
  | none => rw [hw] at hh; exact hh.elim
  | some b =>
    rw [hw] at hh
    cases b with
    | false => obtain ⟨rfl, rfl⟩ := hh; exact ⟨⟨rfl, rfl⟩, rfl, by simp [idOf]⟩
    | true =>
      simp only [qB, yH, yS, yO] at hh ⊢
      simp only at hid
      have alive : ∀ t blk, h.hp t = some blk → (h.push id cells).hp t = some blk := fun t blk ht => by
        simp only [Hp.push]
        rw [yT _ _ fun e => by rw [e, hn] at ht; cases ht]
        exact ht
      split at hh
      · cases hh
      · rename_i n new hsrc
        have hsrc' : appSrc (h.push id cells) sz (evA env v) = some (n, new) := by
          revert hsrc
          cases evA env v <;> simp only [appSrc] <;> try (intro h; exact h)
          rename_i t off len sz'
          split
          · intro h1
            split at h1
            · rename_i blk hb
              rw [alive _ _ hb]
              exact h1
            · cases h1
          · intro h; exact h
        rw [hsrc']
        simp only
        split at hh
        · rename_i hs
          (try rw [hs])
          (try simp only)
          split at hh
          · rename_i h0
            cases hh
            exact ⟨by rw [if_pos h0], rfl, by simp [idOf]⟩
          · rename_i h0
            split at hh
            · rename_i h1
              cases hh
              refine ⟨?_, rfl, by simp only [idOf, ne_eq, Option.some.injEq]; exact fun e => hid e.symm⟩
              rw [if_neg h0, if_pos h1]
              simp only [Hp.push]
              rw [upd_comm _ _ _ hid]
            · cases hh
        · rename_i t off len sz' hs
          (try rw [hs])
          (try simp only)
          split at hh
          · rename_i blk hb
            rw [alive _ _ hb]
            (try simp only)
            split at hh
            · rename_i h1
              cases hh
              refine ⟨?_, rfl, by simp only [idOf, ne_eq, Option.some.injEq]; exact fun e => hid e.symm⟩
              rw [if_pos h1]
              have htid : id ≠ t := fun e => by rw [← e, hn] at hb; cases hb
              simp only [Hp.push, Hp.kill]
              rw [upd_comm h.hp _ _ htid, upd_comm _ _ _ hid]
            · cases hh
          · cases hh
        · cases hh

theorem Ef.ep3 {o : zC} {env : Nat → AV} {h h' : Hp} {r : AV} (ha : isApp o.op = true) (hh : Ef P o env h r h') : h'.ep = h.ep := by
  obtain ⟨dst, op, g⟩ := o
  cases op <;> simp only [isApp] at ha <;> try (cases ha; done)
  unfold Ef at hh
  split at hh
  · exact hh.elim
  · rw [hh.2]
  · simp only [qB, yH, yS, yO] at hh
    repeat' split at hh
    all_goals first | (cases hh; rfl) | cases hh
theorem Ef.app_id {o : zC} {env : Nat → AV} {h h' : Hp} {r : AV} (ha : isApp o.op = true) (hh : Ef P o env h r h') {id : Id} (hid : id ≠ (h.ep, o.dst.getD 0)) : idOf r ≠ some id := by
  obtain ⟨dst, op, g⟩ := o
  cases op <;> simp only [isApp] at ha <;> try (cases ha; done)
  unfold Ef at hh
  split at hh
  · exact hh.elim
  · rw [hh.1]; simp [idOf]
  · simp only [qB, yH, yS, yO] at hh
    repeat' split at hh
    all_goals first | (cases hh; simp [idOf]; done) | (cases hh; simp only [idOf, ne_eq, Option.some.injEq]; exact fun e => hid e.symm) | cases hh

/-- What an operation that makes or writes memory leaves of other blocks. -/
theorem Ef.other {o : zC} {env : Nat → AV} {h h' : Hp} {r : AV} (hc : cls o.op = 2 ∨ cls o.op = 3) (hro : refOk o.op = true) (hh : Ef P o env h r h') {id : Id} (h1 : idOf r ≠ some id) (h2 : ∀ s ∈ tgtSlot o.op, idOf (env s) ≠ some id) : h'.hp id = h.hp id := by
  rcases hc with hc | hc
  · rcases Ef.cls2 hc hh with ⟨rfl, _⟩ | ⟨_, h3, cells, rfl, _⟩
    · rfl
    · rw [h3] at h1
      simp only [Hp.push]
      exact yT _ _ fun e => h1 (by rw [e])
  · obtain ⟨dst, op, g⟩ := o
    unfold Ef at *
    cases hw : wantedA ⟨dst, op, g⟩ env with
    | none => rw [hw] at hh; exact hh.elim
    | some b =>
      rw [hw] at hh
      cases b with
      | false => rw [hh.2]
      | true =>
        simp only at hc hro hh h2
        have tg : ∀ (x : AOpd) (v : AV) (j : Id), constOk x = true → (∀ s ∈ slotOf x, idOf (env s) ≠ some id) → evA env x = v → idOf v = some j → j ≠ id := fun x v j hco hs he hj e => by
          subst e
          cases x with
          | c u =>
            have := const_id hco
            simp only [evA] at he
            rw [he, hj] at this
            cases this
          | t i => exact hs i (by simp [slotOf]) (by simp only [evA] at he; rw [he]; exact hj)
        cases op <;> simp only [cls] at hc <;> try (simp at hc; done)
        case slice arr sz x lo hi' mx => cases arr <;> simp at hc
        case call q f args => split at hc <;> simp at hc
        case store n a x =>
          simp only [qB, yH, yS, yO, refOk, tgtSlot] at hh hro h2
          split at hh
          · rename_i t off e
            split at hh
            · split at hh
              · split at hh
                · cases hh
                  simp only [Hp.put]
                  exact yT _ _ fun e' => tg a _ t hro h2 e rfl e'.symm
                · cases hh
              · cases hh
            · cases hh
          · cases hh
        case append sz bytes s x =>
          simp only [qB, yH, yS, yO, refOk, tgtSlot] at hh hro h2
          split at hh
          · cases hh
          · split at hh
            · split at hh
              · cases hh; rfl
              · split at hh
                · cases hh
                  simp only [Hp.push]
                  exact yT _ _ fun e' => h1 (by rw [e']; rfl)
                · cases hh
            · rename_i t off len sz' e
              split at hh
              · split at hh
                · cases hh
                  simp only [Hp.push, Hp.kill]
                  rw [yT _ _ fun e' => h1 (by rw [e']; rfl)]
                  exact yT _ _ fun e' => tg s _ t hro h2 e rfl e'.symm
                · cases hh
              · cases hh
            · cases hh
end
end Go.Proofs.Hx

set_option linter.unusedVariables false
set_option linter.unusedSimpArgs false
namespace Go.Proofs.Hx
section
variable {P : Program}

theorem put_reads {o : zC} {env : Nat → AV} {d : Option Nat} {v : AV} (h : ∀ k, d = some k → k ∉ readsOf o) : ∀ s ∈ readsOf o, putA env d v s = env s := by
  intro s hs
  cases d with
  | none => rfl
  | some k =>
    have : s ≠ k := fun e => h k rfl (e ▸ hs)
    simp [putA, upd, this]

theorem apart_spec {x y : zC} (h : apartT x y = true) : (∀ d, x.dst = some d → d ∉ readsOf y) ∧ (∀ d, x.dst = some d → y.dst ≠ some d) ∧ (∀ d, y.dst = some d → d ∉ readsOf x) := by
  simp only [apartT, Bool.and_eq_true] at h
  obtain ⟨h1, h2⟩ := h
  refine ⟨fun d hd => ?_, fun d hd => ?_, fun d hd => ?_⟩
  · rw [hd] at h1; simp at h1; exact h1.1
  · rw [hd] at h1; simp at h1; exact h1.2
  · rw [hd] at h2; simpa using h2

theorem slot_reads {o : zC} {s : Nat} (h : s ∈ ptrSlot o.op ∨ s ∈ tgtSlot o.op) : s ∈ readsOf o := by
  have sl : ∀ (x : AOpd) (s : Nat), s ∈ slotOf x → x = .t s := fun x s h => by cases x <;> simp [slotOf] at h; rw [h]
  unfold readsOf
  refine List.mem_append.2 (.inr ?_)
  rcases h with h | h
  · obtain ⟨dst, op, g⟩ := o
    cases op <;> simp only [ptrSlot, List.not_mem_nil] at h
    case load => exact mem_slots (by rw [sl _ _ h]; simp [aopds])
    case slice arr sz x lo hi' mx =>
      cases arr <;> simp only [List.not_mem_nil] at h
      exact mem_slots (by rw [sl _ _ h]; simp [aopds])
  · obtain ⟨dst, op, g⟩ := o
    cases op <;> simp only [tgtSlot, List.not_mem_nil] at h
    case store => exact mem_slots (by rw [sl _ _ h]; simp [aopds])
    case append => exact mem_slots (by rw [sl _ _ h]; simp [aopds])

theorem sepV_ne {x y : AV} {i : Id} (h : sepV x y) (hx : idOf x = some i) : idOf y ≠ some i := by
  intro hy
  simp only [sepV, hx, hy] at h
  exact h rfl

/-- Two operations change places: 'env2': where both have been done. -/
theorem comm {x y : zC} (ha : apartT x y = true) {l : List (Nat × Nat)} (hs : sepsOf x y = some l) {env : Nat → AV} {h h1 h2 : Hp} {r1 r2 : AV} (e1 : Ef P x env h r1 h1) (e2 : Ef P y (putA env x.dst r1) h1 r2 h2)
    (hsep : ∀ p ∈ l, sepV (putA (putA env x.dst r1) y.dst r2 p.1) (putA (putA env x.dst r1) y.dst r2 p.2)) :
    ∃ hm, Ef P y env h r2 hm ∧ Ef P x (putA env y.dst r2) hm r1 h2 ∧ putA (putA env x.dst r1) y.dst r2 = putA (putA env y.dst r2) x.dst r1 := by
  obtain ⟨p1, p2, p3⟩ := apart_spec ha
  have e2' : Ef P y env h1 r2 h2 := Ef.congr (put_reads p1) e2
  have fin : ∀ {hm : Hp}, Ef P y env h r2 hm → Ef P x env hm r1 h2 → ∃ hm, Ef P y env h r2 hm ∧ Ef P x (putA env y.dst r2) hm r1 h2 ∧ putA (putA env x.dst r1) y.dst r2 = putA (putA env y.dst r2) x.dst r1 := fun {hm} a1 a2 =>
    ⟨hm, a1, Ef.congr (fun s hs => (put_reads p3 s hs).symm) a2, putA_comm p2⟩
  -- slots of operands hold at the end what they held
  have hx2 : ∀ s, s ∈ readsOf x → x.dst ≠ some s → putA (putA env x.dst r1) y.dst r2 s = env s := fun s hs hd => by
    have n2 : ∀ d, y.dst = some d → s ≠ d := fun d hd' e => p3 d hd' (e ▸ hs)
    have n1 : ∀ d, x.dst = some d → s ≠ d := fun d hd' e => hd (by rw [hd', e])
    cases hxd : x.dst with
    | none => cases hyd : y.dst with
      | none => rfl
      | some d => simp only [putA]; exact yT _ _ (n2 d hyd)
    | some d => cases hyd : y.dst with
      | none => simp only [putA]; exact yT _ _ (n1 d hxd)
      | some d' => simp only [putA]; rw [yT _ _ (n2 d' hyd)]; exact yT _ _ (n1 d hxd)
  have hy2 : ∀ s, s ∈ readsOf y → y.dst ≠ some s → putA (putA env x.dst r1) y.dst r2 s = env s := fun s hs hd => by
    have n1 : ∀ d, x.dst = some d → s ≠ d := fun d hd' e => p1 d hd' (e ▸ hs)
    have n2 : ∀ d, y.dst = some d → s ≠ d := fun d hd' e => hd (by rw [hd', e])
    cases hxd : x.dst with
    | none => cases hyd : y.dst with
      | none => rfl
      | some d => simp only [putA]; exact yT _ _ (n2 d hyd)
    | some d => cases hyd : y.dst with
      | none => simp only [putA]; exact yT _ _ (n1 d hxd)
      | some d' => simp only [putA]; rw [yT _ _ (n2 d' hyd)]; exact yT _ _ (n1 d hxd)
  have rx : ∀ d, x.dst = some d → putA (putA env x.dst r1) y.dst r2 d = r1 := fun d hd => by
    have n : ∀ d', y.dst = some d' → d ≠ d' := fun d' hd' e => p2 d hd (by rw [hd', e])
    cases hyd : y.dst with
    | none => rw [hd]; simp [putA]
    | some d' => rw [hd]; simp only [putA]; rw [yT _ _ (n d' hyd)]; simp
  have ry : ∀ d, y.dst = some d → putA (putA env x.dst r1) y.dst r2 d = r2 := fun d hd => by rw [hd]; simp [putA]
  unfold sepsOf at hs
  simp only at hs
  split at hs
  · cases hs
  rename_i hno
  simp only [Bool.or_eq_true, beq_iff_eq, Bool.not_eq_true', not_or] at hno
  obtain ⟨⟨⟨hx4, hy4⟩, hsx⟩, hsy⟩ := hno
  have self : ∀ (o : zC), ¬ selfOk o = false → (∀ s ∈ ptrSlot o.op ++ tgtSlot o.op, o.dst ≠ some s) ∧ (makes o.op = true → o.dst.isSome = true) ∧ refOk o.op = true := fun o ho => by
    have ho : selfOk o = true := by cases h : selfOk o <;> simp_all
    simp only [selfOk, Bool.and_eq_true] at ho
    obtain ⟨⟨h1, h2⟩, h3⟩ := ho
    refine ⟨fun s hs hd => ?_, fun hm => by rw [hm] at h2; simpa using h2, h3⟩
    rw [hd] at h1
    simp at h1
    simp at hs
    rcases hs with hs | hs
    · exact h1.1 hs
    · exact h1.2 hs
  obtain ⟨sx1, sx2, sx3⟩ := self x hsx
  obtain ⟨sy1, sy2, sy3⟩ := self y hsy
  -- a result that no slot takes is no reference
  have nores : ∀ (o : zC) (env : Nat → AV) (h h' : Hp) (r : AV), cls o.op = 2 ∨ cls o.op = 3 → (makes o.op = true → o.dst.isSome = true) → Ef P o env h r h' → o.dst = none → idOf r = none := fun o env h h' r hc hm he hd => by
    obtain ⟨dst, op, g⟩ := o
    simp only at hc hm hd
    subst hd
    cases op
    case store n a x =>
      unfold Ef at he
      split at he
      · exact he.elim
      · rw [he.1]; rfl
      · simp only [qB, yH, yS, yO] at he
        split at he
        · split at he
          · split at he
            · split at he
              · cases he; rfl
              · cases he
            · cases he
          · cases he
        · cases he
    case slice arr _ _ _ _ _ => cases arr <;> simp [cls] at hc
    case call q _ _ => cases q <;> simp [cls] at hc
    all_goals first
      | (exfalso; rcases hc with hc | hc <;> (simp only [cls] at hc; cases hc); done)
      | (simp [makes] at hm; done)
  split at hs
  · rename_i h0
    simp only [Bool.or_eq_true, beq_iff_eq] at h0
    rcases h0 with h0 | h0
    · obtain ⟨rfl, hall⟩ := Ef.cls0 h0 e1
      exact fin e2' (hall h2)
    · obtain ⟨rfl, hall⟩ := Ef.cls0 h0 e2'
      exact fin (hall h) e1
  · split at hs
    · rename_i h0
      simp only [Bool.and_eq_true, Bool.or_eq_true, beq_iff_eq] at h0
      have hx : h1 = h := by
        rcases h0.1 with h0 | h0
        · exact (Ef.cls1 h0 sx3 e1).1
        · exact (Ef.cls5 h0 e1).1
      have hy : h2 = h1 := by
        rcases h0.2 with h0 | h0
        · exact (Ef.cls1 h0 sy3 e2').1
        · exact (Ef.cls5 h0 e2').1
      subst hx hy
      exact fin e2' e1
    · rename_i n0 n1
      simp only [Bool.or_eq_true, beq_iff_eq, not_or] at n0
      have range : ∀ (o : AOp), cls o ≠ 4 → cls o ≠ 0 → cls o = 1 ∨ cls o = 2 ∨ cls o = 3 ∨ cls o = 5 := fun o h4 h0 => by
        cases o
        case slice arr _ _ _ _ _ => cases arr <;> simp [cls] at h0 ⊢
        case call q _ _ => cases q <;> simp [cls] at h4 ⊢
        all_goals first
          | (exact absurd rfl h0)
          | (simp [cls]; done)
      have c1 := range x.op hx4 n0.1
      have c2 := range y.op hy4 n0.2
      split at hs
      · -- x reads, y makes or writes
        rename_i h0
        simp only [beq_iff_eq] at h0
        simp only [Option.some.injEq] at hs
        subst hs
        obtain ⟨rfl, hall⟩ := Ef.cls1 h0 sx3 e1
        have hy : cls y.op = 2 ∨ cls y.op = 3 := by
          simp only [h0] at n1
          rcases c2 with c | c | c | c
          · simp [c] at n1
          · exact .inl c
          · exact .inr c
          · simp [c] at n1
        refine fin e2' (hall h2 fun s hs id hid => ?_)
        have ha1 := hx2 s (slot_reads (.inl hs)) (sx1 s (by simp [hs]))
        refine Ef.other hy sy3 e2' ?_ fun t ht => ?_
        · cases hyd : y.dst with
          | none => rw [nores y _ _ _ _ hy sy2 e2' hyd]; simp
          | some d =>
            have := hsep (s, d) (by simp only [pairsWith, List.mem_flatMap, List.mem_map]; exact ⟨s, hs, d, by simp [hyd], rfl⟩)
            simp only at this
            rw [ha1, ry d hyd] at this
            exact sepV_ne this hid
        · have := hsep (s, t) (by simp only [pairsWith, List.mem_flatMap, List.mem_map]; exact ⟨s, hs, t, by simp [ht], rfl⟩)
          simp only at this
          rw [ha1, hy2 t (slot_reads (.inr ht)) (sy1 t (by simp [ht]))] at this
          exact sepV_ne this hid
      · split at hs
        · -- y reads, x makes or writes
          rename_i hx1 h0
          simp only [beq_iff_eq] at h0 hx1
          simp only [Option.some.injEq] at hs
          subst hs
          obtain ⟨rfl, hall⟩ := Ef.cls1 h0 sy3 e2'
          have hx : cls x.op = 2 ∨ cls x.op = 3 := by
            simp only [h0] at n1
            rcases c1 with c | c | c | c
            · exact absurd c hx1
            · exact .inl c
            · exact .inr c
            · simp [c] at n1
          refine fin (hall h fun s hs id hid => ?_) e1
          have ha1 := hy2 s (slot_reads (.inl hs)) (sy1 s (by simp [hs]))
          refine (Ef.other hx sx3 e1 ?_ fun t ht => ?_).symm
          · cases hxd : x.dst with
            | none => rw [nores x _ _ _ _ hx sx2 e1 hxd]; simp
            | some d =>
              have := hsep (s, d) (by simp only [pairsWith, List.mem_flatMap, List.mem_map]; exact ⟨s, hs, d, by simp [hxd], rfl⟩)
              simp only at this
              rw [ha1, rx d hxd] at this
              exact sepV_ne this hid
          · have := hsep (s, t) (by simp only [pairsWith, List.mem_flatMap, List.mem_map]; exact ⟨s, hs, t, by simp [ht], rfl⟩)
            simp only at this
            rw [ha1, hx2 t (slot_reads (.inr ht)) (sx1 t (by simp [ht]))] at this
            exact sepV_ne this hid
        · split at hs
          · -- a call on values, then memory is made
            rename_i h0
            simp only [Bool.and_eq_true, beq_iff_eq] at h0
            obtain ⟨rfl, hall⟩ := Ef.cls5 h0.1 e1
            rcases Ef.cls2 h0.2 e2' with ⟨rfl, _⟩ | ⟨hn, _, cells, rfl, _⟩
            · exact fin e2' e1
            · refine fin e2' (hall _ fun id blk hb => ?_)
              simp only [Hp.push]
              rw [yT _ _ fun e => by rw [← e, hb] at hn; simp at hn]
              exact hb
          · split at hs
            · -- two that make memory
              rename_i h0
              simp only [Bool.and_eq_true, beq_iff_eq] at h0
              split at hs
              · rename_i hd
                simp only [Bool.and_eq_true, Option.isSome_iff_exists] at hd
                obtain ⟨⟨dx, hdx⟩, ⟨dy, hdy⟩⟩ := hd
                have hne : dx ≠ dy := fun e => p2 dx hdx (by rw [hdy, e])
                have hidn : (h.ep, x.dst.getD 0) ≠ (h.ep, y.dst.getD 0) := by rw [hdx, hdy]; simp [hne]
                have hep1 : h1.ep = h.ep := by rcases Ef.cls2 h0.1 e1 with ⟨rfl, _⟩ | ⟨_, _, _, rfl, _⟩ <;> rfl
                rcases Ef.cls2 h0.1 e1 with ⟨rfl, hall1⟩ | ⟨hn1, _, cells1, rfl, hall1⟩
                · rcases Ef.cls2 h0.2 e2' with ⟨rfl, _⟩ | ⟨hn2, _, cells2, rfl, _⟩
                  · exact fin e2' e1
                  · refine fin e2' (hall1 _ rfl ?_)
                    simp only [Hp.push]
                    rw [yT _ _ hidn]
                    cases hq : (h1.hp (h1.ep, x.dst.getD 0)).isNone
                    · exact .inr rfl
                    · exact .inl rfl
                · have ho : (h.push (h.ep, x.dst.getD 0) cells1).hp (h.ep, y.dst.getD 0) = h.hp (h.ep, y.dst.getD 0) := by simp only [Hp.push]; exact yT _ _ (Ne.symm hidn)
                  have hep2 : (h.push (h.ep, x.dst.getD 0) cells1).ep = h.ep := rfl
                  rcases Ef.cls2 h0.2 e2' with ⟨rfl, hall2⟩ | ⟨hn2, _, cells2, rfl, hall2⟩
                  · rw [hep2, ho] at hall2
                    refine fin (hall2 h rfl ?_) e1
                    cases hq : (h.hp (h.ep, y.dst.getD 0)).isNone
                    · exact .inr rfl
                    · exact .inl rfl
                  · rw [hep2, ho] at hn2
                    rw [hep2] at hall2
                    have a1 := hall2 h rfl hn2
                    have a2 := hall1 (h.push (h.ep, y.dst.getD 0) cells2) rfl (by simp only [Hp.push]; rw [yT _ _ hidn]; exact hn1)
                    have e : (h.push (h.ep, y.dst.getD 0) cells2).push (h.ep, x.dst.getD 0) cells1 = (h.push (h.ep, x.dst.getD 0) cells1).push ((h.push (h.ep, x.dst.getD 0) cells1).ep, y.dst.getD 0) cells2 := by
                      simp only [Hp.push]
                      rw [upd_comm _ _ _ hidn]
                    rw [e] at a2
                    exact fin a1 a2
              · cases hs
            · split at hs
              · -- an append, then memory is made
                rename_i h0
                simp only [Bool.and_eq_true, Option.isSome_iff_exists] at h0
                obtain ⟨⟨happ, ⟨dx, hdx⟩⟩, hnew⟩ := h0
                simp only [Option.some.injEq] at hs
                subst hs
                obtain ⟨dy, hdy⟩ : ∃ dy, y.dst = some dy := by
                  simp only [newOk, Bool.and_eq_true, Option.isSome_iff_exists] at hnew
                  exact hnew.1.2
                obtain ⟨hn2, hid2, cells2, rfl, hall2⟩ := Ef.new hnew e2'
                have hne : dx ≠ dy := fun e => p2 dx hdx (by rw [hdy, e])
                have hx3 : cls x.op = 3 := by
                  cases hop : x.op <;> simp [hop, isApp] at happ
                  simp [cls]
                have hep : h1.ep = h.ep := Ef.ep3 happ e1
                have hidn : (h.ep, y.dst.getD 0) ≠ (h.ep, x.dst.getD 0) := by rw [hdx, hdy]; simp [Ne.symm hne]
                rw [hep] at hn2 hid2 hall2
                have hold : h.hp (h.ep, y.dst.getD 0) = none := by
                  have hk : h1.hp (h.ep, y.dst.getD 0) = h.hp (h.ep, y.dst.getD 0) := by
                    refine Ef.other (.inr hx3) sx3 e1 (Ef.app_id happ e1 hidn) fun t ht => ?_
                    have := hsep (t, dy) (by simp only [pairsWith, List.mem_flatMap, List.mem_map]; exact ⟨t, ht, dy, by simp [hdy], rfl⟩)
                    simp only at this
                    rw [hx2 t (slot_reads (.inr ht)) (sx1 t (by simp [ht])), ry dy hdy] at this
                    intro e
                    simp only [sepV, e, hid2] at this
                    exact this rfl
                  rw [hk] at hn2
                  simpa using hn2
                have a1 := hall2 h rfl (by simp [hold])
                have a2 := (Ef.app (cells := cells2) happ e1 hold hidn).1
                refine fin a1 ?_
                rw [hep]
                exact a2
              · cases hs
end
end Go.Proofs.Hx

set_option linter.unusedVariables false
set_option linter.unusedSimpArgs false
namespace Go.Proofs.Hx

/-! ### Regions -/
def cOpers (P : Program) (q : Bool) (N : Nat) (ops : Array Oper) : List Oper → Option (List zC)
  | [] => some []
  | o :: l => match cOper P q N ops o, cOpers P q N ops l with | some x, some xs => some (x :: xs) | _, _ => none
/-- The bits of those for whom 'o' waits, be it through others; 'M': the rows that are known. -/
def ancRow (n M : Nat) : List Edge → Nat
  | [] => 0
  | e :: r => (if Region.binds .any e && decide (e.on < n) then (1 <<< e.on) ||| ((M >>> (e.on * n)) % 2 ^ n) else 0) ||| ancRow n M r
def ancM (ops : Array Oper) (n : Nat) : Nat → Nat
  | 0 => 0
  | k + 1 => ancM ops n k ||| (match ops[k]? with | some o => ancRow n (ancM ops n k) o.after.toList <<< (k * n) | none => 0)
/-- Does 'j' wait for 'm', be it through others? -/
def depN (ops : Array Oper) (n j m : Nat) : Bool := decide (m < n) && (ancM ops n n).testBit (j * n + m)
/-- Nobody writes slot 's' behind 'i' and 'j', but those for whom one of them waits. -/
def stable (ops : Array Oper) (l : List zC) (i j s : Nat) : Bool :=
  (List.range l.length).all fun m => m == i || m == j || m < i || (match l[m]? with | some x => x.dst != some s | none => true) || depN ops ops.size i m || depN ops ops.size j m
def pairChk (ops : Array Oper) (l : List zC) (seps : List (Nat × Nat)) (i j : Nat) : Bool :=
  match l[i]?, l[j]? with
  | some x, some y => apartT x y && (match sepsOf x y with | some ps => ps.all fun p => seps.contains p && stable ops l i j p.1 && stable ops l i j p.2 | none => false)
  | _, _ => true
def freeA (ops : Array Oper) (l : List zC) (seps : List (Nat × Nat)) (k : Nat) (listed : Array Bool) : Bool :=
  (List.range ops.size).all fun j => j == k || listed.getD j true || depN ops ops.size j k || pairChk ops l seps k j
def lexA (ops : Array Oper) (l : List zC) (seps : List (Nat × Nat)) : Nat → Nat → Array Bool → Bool
  | 0, _, _ => true
  | n + 1, k, listed => (Region.ready .any ops listed).contains k && freeA ops l seps k listed && lexA ops l seps n (k + 1) (listed.setIfInBounds k true)
/-- Every operation that makes a block has a slot of its own. -/
def mkOk (l : List zC) : Bool :=
  (List.range l.length).all fun i => match l[i]? with
    | some x => !makes x.op || (match x.dst with
      | some d => (List.range l.length).all fun j => j == i || (match l[j]? with | some y => !makes y.op || y.dst != some d | none => true)
      | none => false)
    | none => true

def awIdx (P : Program) (l : List zC) (i : Nat) (K : St → Prop) (σ : St) : Prop :=
  match l[i]? with
  | none => K σ
  | some o => qF P o K σ
def awAny (P : Program) (ops : Array Oper) (l : List zC) (K : St → Prop) : Nat → Array Bool → St → Prop
  | 0, _, σ => K σ
  | n + 1, listed, σ => (Region.ready .any ops listed = [] → K σ) ∧ ∀ i ∈ Region.ready .any ops listed, awIdx P l i (awAny P ops l K n (listed.setIfInBounds i true)) σ

def unl (listed : Array Bool) : Nat := listed.toList.count false

theorem unl_set {listed : Array Bool} {i : Nat} (h : listed.getD i true = false) : unl (listed.setIfInBounds i true) + 1 = unl listed := by
  have hlt : i < listed.size := by
    rcases Nat.lt_or_ge i listed.size with g | g
    · exact g
    · simp [Array.getElem?_eq_none g] at h
  have hv : listed.toList[i]'(by simpa using hlt) = false := by simpa [hlt] using h
  unfold unl
  rw [Array.toList_setIfInBounds, List.count_set (by simpa using hlt)]
  simp only [hv]
  have : 0 < listed.toList.count false := List.count_pos_iff.2 (hv ▸ List.getElem_mem _)
  have e1 : (false == false) = true := rfl
  have e2 : (true == false) = false := rfl
  simp only [e1, e2, if_true, Bool.false_eq_true, if_false, Nat.add_zero]
  omega
theorem unl_pos {listed : Array Bool} {i : Nat} (h : listed.getD i true = false) : 0 < unl listed := by have := unl_set h; omega
theorem unl_zero {listed : Array Bool} (h : unl listed = 0) (i : Nat) : listed.getD i true = true := by
  cases hh : listed.getD i true with
  | true => rfl
  | false => have := unl_pos hh; omega

section
variable {P : Program} {ops : Array Oper} {l : List zC}

theorem awIdx_mono {i : Nat} {K K' : St → Prop} {σ : St} (hk : ∀ σ, K σ → K' σ) (h : awIdx P l i K σ) : awIdx P l i K' σ := by
  unfold awIdx at *
  split at h
  · exact hk _ h
  · exact awpOp_mono hk h
def closed (ops : Array Oper) (listed : Array Bool) : Prop :=
  ∀ k o, listed.getD k false = true → ops[k]? = some o → ∀ e ∈ o.after, Region.binds .any e = true → listed.getD e.on false = true
theorem closed_set {listed : Array Bool} {i : Nat} (h : closed ops listed) (hi : i ∈ Region.ready .any ops listed) : closed ops (listed.setIfInBounds i true) := by
  intro k o hk ho e he hb
  by_cases e' : i = k
  · subst e'
    obtain ⟨_, o', ho', hall⟩ := mem_ready.1 hi
    rw [ho] at ho'
    cases ho'
    exact getD_set_true (hall e he hb)
  · rw [getD_set_ne false e'] at hk
    exact getD_set_true (h k o hk ho e he hb)
/-- Where all for whom 'j' waits are listed, 'm' is. -/
def GoodA (ops : Array Oper) (j m : Nat) : Prop := ∀ listed : Array Bool, closed ops listed → (∀ o, ops[j]? = some o → ∀ e ∈ o.after, Region.binds .any e = true → listed.getD e.on false = true) → listed.getD m false = true
theorem ancRow_good {n M : Nat} (hM : ∀ x, M.testBit x = true → GoodA ops (x / n) (x % n)) {j : Nat} {o : Oper} (ho : ops[j]? = some o) : ∀ (l : List Edge), (∀ e ∈ l, e ∈ o.after) → ∀ y, (ancRow n M l).testBit y = true → y < n ∧ GoodA ops j y
  | [], _, y, h => by simp [ancRow] at h
  | e :: r, hl, y, h => by
    simp only [ancRow, Nat.testBit_or, Bool.or_eq_true] at h
    rcases h with h | h
    · split at h
      · rename_i hc
        simp only [Bool.and_eq_true, decide_eq_true_eq] at hc
        simp only [Nat.testBit_or, Bool.or_eq_true, Nat.testBit_shiftLeft, Nat.testBit_mod_two_pow, Nat.testBit_shiftRight, Bool.and_eq_true, decide_eq_true_eq] at h
        rcases h with h | h
        · have : y = e.on := by
            have h2 := h.2
            rw [Nat.testBit_one_eq_true_iff_self_eq_zero] at h2
            omega
          subst this
          exact ⟨hc.2, fun listed _ hx => hx o ho e (hl e (by simp)) hc.1⟩
        · refine ⟨h.1, fun listed hcl hx => ?_⟩
          have h1 := hM _ h.2
          have hn : 0 < n := by omega
          have e1 : (e.on * n + y) / n = e.on := by
            rw [Nat.mul_comm, Nat.mul_add_div hn, Nat.div_eq_of_lt h.1]; rfl
          have e2 : (e.on * n + y) % n = y := by
            rw [Nat.mul_comm, Nat.mul_add_mod, Nat.mod_eq_of_lt h.1]
          rw [e1, e2] at h1
          exact h1 listed hcl fun o' ho' e' he' hb' => hcl e.on o' (hx o ho e (hl e (by simp)) hc.1) ho' e' he' hb'
      · simp at h
    · exact ancRow_good hM ho r (fun e' he' => hl e' (by simp [he'])) y h
theorem ancM_good {n : Nat} : ∀ (k : Nat) x, (ancM ops n k).testBit x = true → GoodA ops (x / n) (x % n)
  | 0, x, h => by simp [ancM] at h
  | k + 1, x, h => by
    simp only [ancM, Nat.testBit_or, Bool.or_eq_true] at h
    rcases h with h | h
    · exact ancM_good k x h
    · split at h
      · rename_i o ho
        simp only [Nat.testBit_shiftLeft, Bool.and_eq_true, decide_eq_true_eq] at h
        obtain ⟨h1, h2⟩ := ancRow_good (ancM_good k) ho o.after.toList (fun e he => by simpa using he) _ h.2
        have hn : 0 < n := by omega
        have hx : x = n * k + (x - k * n) := by rw [Nat.mul_comm n k]; omega
        have e1 : x / n = k := by rw [hx, Nat.mul_add_div hn, Nat.div_eq_of_lt h1]; rfl
        have e2 : x % n = x - k * n := by rw [hx, Nat.mul_add_mod, Nat.mod_eq_of_lt h1, ← hx]
        rw [e1, e2]
        exact h2
      · simp at h
theorem dep_listed {listed : Array Bool} (hc : closed ops listed) (n j m : Nat) (hj : ∀ o, ops[j]? = some o → ∀ e ∈ o.after, Region.binds .any e = true → listed.getD e.on false = true) (h : depN ops n j m = true) : listed.getD m false = true := by
  simp only [depN, Bool.and_eq_true, decide_eq_true_eq] at h
  have h1 := ancM_good _ _ h.2
  have hn : 0 < n := by omega
  have e1 : (j * n + m) / n = j := by
    rw [Nat.mul_comm, Nat.mul_add_div hn, Nat.div_eq_of_lt h.1]; rfl
  have e2 : (j * n + m) % n = m := by
    rw [Nat.mul_comm, Nat.mul_add_mod, Nat.mod_eq_of_lt h.1]
  rw [e1, e2] at h1
  exact h1 listed hc hj
theorem listed_not {listed : Array Bool} {m : Nat} (h : listed.getD m false = true) : listed.getD m true = true := by
  rcases Nat.lt_or_ge m listed.size with g | g
  · simpa [g] using h
  · simp [Array.getElem?_eq_none g] at h

/-- The end of all that is left, and what it leaves of the frame. -/
theorem awAny_final {K : St → Prop} (h4 : ∀ (j : Nat) x, l[j]? = some x → cls x.op ≠ 4) : ∀ (n : Nat) (listed : Array Bool) (σ : St), awAny P ops l K n listed σ → ∃ σf, K σf ∧ ∀ s, (∀ (m : Nat) x, listed.getD m true = false → l[m]? = some x → x.dst ≠ some s) → σf.env s = σ.env s
  | 0, listed, σ, h => ⟨σ, h, fun _ _ => rfl⟩
  | n + 1, listed, σ, h => by
    cases hr : Region.ready .any ops listed with
    | nil => exact ⟨σ, h.1 hr, fun _ _ => rfl⟩
    | cons i rest =>
      have hi : i ∈ Region.ready .any ops listed := by rw [hr]; simp
      have h1 := h.2 i hi
      have hun := (mem_ready.1 hi).1
      have sub : ∀ m, (listed.setIfInBounds i true).getD m true = false → listed.getD m true = false := fun m hm => by
        by_cases e : i = m
        · subst e; exact hun
        · rwa [getD_set_ne true e] at hm
      unfold awIdx at h1
      cases hx : l[i]? with
      | none =>
        rw [hx] at h1
        obtain ⟨σf, hk, hag⟩ := awAny_final h4 n _ σ h1
        exact ⟨σf, hk, fun s hs => hag s fun m x hm hx => hs m x (sub m hm) hx⟩
      | some x =>
        rw [hx] at h1
        simp only at h1
        rw [Ef.awp (h4 i x hx)] at h1
        obtain ⟨r, h', _, h2⟩ := h1
        obtain ⟨σf, hk, hag⟩ := awAny_final h4 n _ _ h2
        refine ⟨σf, hk, fun s hs => ?_⟩
        rw [hag s fun m y hm hy => hs m y (sub m hm) hy]
        have hne := hs i x hun hx
        cases hd : x.dst with
        | none => simp [putA]
        | some d =>
          simp only [putA]
          exact yT _ _ fun e => hne (by rw [hd, e])

theorem sepAll_mem : ∀ {seps : List (Nat × Nat)} {env : Nat → AV}, sepAll seps env → ∀ p ∈ seps, sepV (env p.1) (env p.2)
  | [], _, _, _, h => by cases h
  | (a, b) :: r, env, h, p, hp => by
    simp only [sepAll] at h
    cases hp with
    | head => exact h.1
    | tail _ hp => exact sepAll_mem h.2 p hp

/-- An operation that may come up now may be taken first. -/
theorem awAny_first {K : St → Prop} {seps : List (Nat × Nat)} (h4 : ∀ (j : Nat) x, l[j]? = some x → cls x.op ≠ 4) (hK : ∀ σ, K σ → sepAll seps σ.env) {i : Nat} : ∀ (n : Nat) (listed : Array Bool) (σ : St), closed ops listed → unl listed ≤ n + 1 →
    (∀ m, m < i → listed.getD m true = true) →
    (∀ j, j < ops.size → j ≠ i → listed.getD j true = false → depN ops ops.size j i = false → pairChk ops l seps i j = true) →
    i ∈ Region.ready .any ops listed → awIdx P l i (awAny P ops l K n (listed.setIfInBounds i true)) σ → awAny P ops l K (n + 1) listed σ
  | 0, listed, σ, hcl, hu, hlow, hfree, hr, H => by
    refine ⟨fun h => (by rw [h] at hr; cases hr), fun j hj => ?_⟩
    by_cases hji : j = i
    · subst hji; exact H
    · have h1 := (mem_ready.1 hr).1
      have h2 := (mem_ready.1 hj).1
      have h3 : (listed.setIfInBounds i true).getD j true = false := by rw [getD_set_ne true (Ne.symm hji)]; exact h2
      have := unl_set h1
      have := unl_pos h3
      omega
  | n + 1, listed, σ, hcl, hu, hlow, hfree, hr, H => by
    refine ⟨fun h => (by rw [h] at hr; cases hr), fun j hj => ?_⟩
    by_cases hji : j = i
    · subst hji; exact H
    · have hjr := ready_mono hj hji
      have H2 : awIdx P l i (awIdx P l j (awAny P ops l K n ((listed.setIfInBounds i true).setIfInBounds j true))) σ := awIdx_mono (fun σ' h => h.2 j hjr) H
      have h1 := (mem_ready.1 hr).1
      have h2 := (mem_ready.1 hj).1
      obtain ⟨_, oi, hoi, halli⟩ := mem_ready.1 hr
      obtain ⟨_, oj, hoj, hallj⟩ := mem_ready.1 hj
      have hdj : ∀ m, depN ops ops.size j m = true → listed.getD m true = true := fun m hm => listed_not (dep_listed hcl _ j m (fun o ho e he hb => by rw [hoj] at ho; cases ho; exact hallj e he hb) hm)
      have hdi : ∀ m, depN ops ops.size i m = true → listed.getD m true = true := fun m hm => listed_not (dep_listed hcl _ i m (fun o ho e he hb => by rw [hoi] at ho; cases ho; exact halli e he hb) hm)
      have hjlt : j < ops.size := (Array.getElem?_eq_some_iff.1 hoj).1
      have hnd : depN ops ops.size j i = false := by
        cases hw : depN ops ops.size j i with
        | false => rfl
        | true => have := hdj i hw; rw [h1] at this; cases this
      have H3 : awIdx P l j (awIdx P l i (awAny P ops l K n ((listed.setIfInBounds i true).setIfInBounds j true))) σ := by
        cases hx : l[i]? with
        | none => unfold awIdx at H2 ⊢; simp only [hx] at H2 ⊢; exact H2
        | some x =>
          cases hy : l[j]? with
          | none => unfold awIdx at H2 ⊢; simp only [hx, hy] at H2 ⊢; exact H2
          | some y =>
            have hp := hfree j hjlt hji h2 hnd
            unfold pairChk at hp
            simp only [hx, hy, Bool.and_eq_true] at hp
            obtain ⟨hap, hps⟩ := hp
            split at hps
            · rename_i ps hsep
              unfold awIdx at H2 ⊢
              simp only [hx, hy] at H2 ⊢
              rw [Ef.awp (h4 i x hx)] at H2
              obtain ⟨r1, h1', e1, H2⟩ := H2
              rw [Ef.awp (h4 j y hy)] at H2
              obtain ⟨r2, h2', e2, H2⟩ := H2
              obtain ⟨σf, hk, hag⟩ := awAny_final h4 _ _ _ H2
              have hs := hK σf hk
              have hst : ∀ s, stable ops l i j s = true → σf.env s = putA (putA σ.env x.dst r1) y.dst r2 s := fun s hst => by
                refine hag s fun m z hm hz => ?_
                unfold stable at hst
                have hml : m < l.length := (List.getElem?_eq_some_iff.1 hz).1
                have := List.all_eq_true.1 hst m (List.mem_range.2 hml)
                simp only [hz, Bool.or_eq_true, beq_iff_eq, decide_eq_true_eq, bne_iff_ne] at this
                have hmi : m ≠ i := fun e => by
                  subst e
                  by_cases e' : j = m
                  · exact hji e'
                  · rw [getD_set_ne true e'] at hm
                    have hlt : m < listed.size := by
                      rcases Nat.lt_or_ge m listed.size with g | g
                      · exact g
                      · simp [Array.getElem?_eq_none g] at h1
                    simp [hlt] at hm
                have hmj : m ≠ j := fun e => by
                  subst e
                  have hlt : m < listed.size := by
                    rcases Nat.lt_or_ge m listed.size with g | g
                    · exact g
                    · simp [Array.getElem?_eq_none g] at h2
                  simp [hlt] at hm
                have hm0 : listed.getD m true = false := by
                  rw [getD_set_ne true (Ne.symm hmj), getD_set_ne true (Ne.symm hmi)] at hm
                  exact hm
                rcases this with ((((h | h) | h) | h) | h) | h
                · exact absurd h hmi
                · exact absurd h hmj
                · have := hlow m h; rw [hm0] at this; cases this
                · exact h
                · have := hdi m h; rw [hm0] at this; cases this
                · have := hdj m h; rw [hm0] at this; cases this
              obtain ⟨hm, a1, a2, a3⟩ := comm hap hsep e1 e2 (fun p hp => by
                have hq := List.all_eq_true.1 hps p hp
                simp only [Bool.and_eq_true] at hq
                have := sepAll_mem hs p (by simpa using hq.1.1)
                rwa [hst p.1 hq.1.2, hst p.2 hq.2] at this)
              rw [Ef.awp (h4 j y hy)]
              refine ⟨r2, hm, a1, ?_⟩
              rw [Ef.awp (h4 i x hx)]
              refine ⟨r1, h2', a2, ?_⟩
              rw [← a3]
              exact H2
            · cases hps
      refine awIdx_mono (fun σ' h => ?_) H3
      refine awAny_first h4 hK n (listed.setIfInBounds j true) σ' (closed_set hcl hj) (by have := unl_set h2; omega) (fun m hm => ?_) (fun k hk hki hun hnw => ?_) (ready_mono hr (Ne.symm hji)) ?_
      · by_cases e : j = m
        · subst e
          have := hlow j hm
          rw [h2] at this
          cases this
        · rw [getD_set_ne true e]; exact hlow m hm
      · refine hfree k hk hki ?_ hnw
        by_cases hkj : j = k
        · subst hkj; exact h2
        · rw [getD_set_ne true hkj] at hun; exact hun
      · rw [Array.setIfInBounds_comm _ _ hji]
        exact h

theorem awAny_lex {K : St → Prop} {seps : List (Nat × Nat)} (h4 : ∀ (j : Nat) x, l[j]? = some x → cls x.op ≠ 4) (hK : ∀ σ, K σ → sepAll seps σ.env) : ∀ (n k : Nat) (l' : List zC) (listed : Array Bool) (σ : St), closed ops listed → unl listed ≤ n → (∀ m, m < k → listed.getD m true = true) → l'.length = n → (∀ j, l'[j]? = l[k + j]?) → lexA ops l seps n k listed = true →
    yM P l' K σ → awAny P ops l K n listed σ
  | 0, k, l', listed, σ, hcl, hu, hlow, hn, hl, hB, h => by
    have : l' = [] := List.length_eq_zero_iff.1 hn
    subst this
    exact h
  | n + 1, k, [], listed, σ, hcl, hu, hlow, hn, hl, hB, h => by simp at hn
  | n + 1, k, o :: l', listed, σ, hcl, hu, hlow, hn, hl, hB, h => by
    simp only [lexA, Bool.and_eq_true] at hB
    obtain ⟨⟨hr, hfr⟩, hB⟩ := hB
    have hr : k ∈ Region.ready .any ops listed := by simpa using hr
    have hk : l[k]? = some o := by have := hl 0; simpa using this.symm
    have h0 := (mem_ready.1 hr).1
    refine awAny_first h4 hK n listed σ hcl hu hlow (fun j hj hji hun hnd => ?_) hr ?_
    · unfold freeA at hfr
      have := List.all_eq_true.1 hfr j (List.mem_range.2 hj)
      simp only [hnd, hun] at this
      simpa [hji] using this
    · unfold awIdx
      simp only [hk]
      simp only [yM] at h
      refine awpOp_mono (fun σ' hx => ?_) h
      refine awAny_lex h4 hK n (k + 1) l' _ σ' (closed_set hcl hr) (by have := unl_set h0; omega) (fun m hm => ?_) (by simpa using hn) (fun j => by have := hl (j + 1); simpa [Nat.add_assoc, Nat.add_comm 1 j] using this) hB hx
      by_cases e : k = m
      · subst e
        have hlt : k < listed.size := by
          rcases Nat.lt_or_ge k listed.size with g | g
          · exact g
          · simp [Array.getElem?_eq_none g] at h0
        simp [hlt]
      · rw [getD_set_ne true e]; exact hlow m (by omega)

/-- Compiled operations one by one. -/
theorem cOpers_get {q : Bool} {N : Nat} : ∀ {os : List Oper} {xs : List zC}, cOpers P q N ops os = some xs → xs.length = os.length ∧ ∀ (j : Nat) o, os[j]? = some o → ∃ x, xs[j]? = some x ∧ cOper P q N ops o = some x
  | [], xs, h => by simp [cOpers] at h; subst h; simp
  | o :: os, xs, h => by
    simp only [cOpers] at h
    split at h
    · rename_i x ys h1 h2
      cases h
      obtain ⟨h3, h4⟩ := cOpers_get h2
      refine ⟨by simp [h3], fun j o' hj => ?_⟩
      cases j with
      | zero => simp at hj; subst hj; exact ⟨x, rfl, h1⟩
      | succ j => simp at hj ⊢; exact h4 j o' hj
    · cases h

/-- The slots of the blocks that the listed operations have made. -/
def Dl (l : List zC) (done : Nat → Prop) (s : Nat) : Prop := ∃ (m : Nat) (x : zC), done m ∧ l[m]? = some x ∧ makes x.op = true ∧ x.dst = some s
theorem mk_fresh (hm : mkOk l = true) {i : Nat} {x : zC} (hx : l[i]? = some x) {done : Nat → Prop} (hd : ¬ done i) (hmk : makes x.op = true) : ∃ d, x.dst = some d ∧ ¬ Dl l done d := by
  unfold mkOk at hm
  have hil : i < l.length := (List.getElem?_eq_some_iff.1 hx).1
  have h1 := List.all_eq_true.1 hm i (List.mem_range.2 hil)
  simp only [hx, hmk, Bool.not_true, Bool.false_or] at h1
  split at h1
  · rename_i d hd'
    refine ⟨d, hd', fun ⟨m, y, hdm, hy, hmy, hyd⟩ => ?_⟩
    have hml : m < l.length := (List.getElem?_eq_some_iff.1 hy).1
    have h2 := List.all_eq_true.1 h1 m (List.mem_range.2 hml)
    simp only [hy, hmy, hyd, Bool.not_true, bne_self_eq_false, Bool.or_false, beq_iff_eq] at h2
    subst h2
    exact hd hdm
  · cases h1
theorem RS.weaken {N : Nat} {c0 : Cx} {D D' : Nat → Prop} {σ : St} {a : Act} {w : World} (h : RS N c0 D σ a w) (hd : ∀ s, D s → D' s) : RS N c0 D' σ a w := by
  obtain ⟨c, h1, h2, h3, h4, h5, h6, h7, h8, h9, h10, h11⟩ := h
  exact ⟨c, h1, h2, h3, h4, h5, h6, h7, h8, h9, h10, fun id hid => (h11 id hid).imp (fun h => h) fun h => ⟨h.1, hd _ h.2⟩⟩
theorem Dn_Dl {done : Nat → Prop} {i : Nat} {x : zC} (hx : l[i]? = some x) : ∀ s, Dn (Dl l done) x s → Dl l (fun m => done m ∨ m = i) s := by
  rintro s (⟨m, y, h1, h2, h3, h4⟩ | ⟨h1, h2⟩)
  · exact ⟨m, y, .inl h1, h2, h3, h4⟩
  · exact ⟨i, x, .inr rfl, hx, h1, h2⟩

theorem ops_sound {N : Nat} {q : Bool} {c0 : Cx} {K : St → Prop} {Q : Exit → Act → World → Prop} (hmk : mkOk l = true) (hQ : ∀ σ a w, K σ → RS N c0 (fun _ => True) σ a w → Q .normal a w) :
    ∀ (l' : List zC) (k : Nat) (σ : St) (a : Act) (w : World), (∀ j, l'[j]? = l[k + j]?) → (∀ (j : Nat) x, l'[j]? = some x → ∃ o, ops[k + j]? = some o ∧ cOper P q N ops o = some x) → yM P l' K σ → RS N c0 (Dl l (· < k)) σ a w → wpOps P ops Q (List.range' k l'.length) a w
  | [], k, σ, a, w, hj, hl, h, hR => by simpa [wpOps] using hQ σ a w h (hR.weaken fun _ _ => trivial)
  | x :: l', k, σ, a, w, hj, hl, h, hR => by
    simp only [List.length_cons, List.range'_succ, wpOps_cons]
    obtain ⟨o, ho, hc⟩ := hl 0 x rfl
    have hx : l[k]? = some x := by have := hj 0; simpa using this.symm
    simp only [yM] at h
    refine wpOp_mono (fun a' w' hy => ?_) (op_sound (by simpa using ho) hc (fun hm => mk_fresh (done := fun m => m < k) hmk hx (Nat.lt_irrefl k) hm) h hR Q)
    obtain ⟨σ', hk, hR'⟩ := hy
    refine ops_sound hmk hQ l' (k + 1) σ' a' w' (fun j => by have := hj (j + 1); simpa [Nat.add_assoc, Nat.add_comm 1 j] using this) (fun j y hy => by obtain ⟨o', h1, h2⟩ := hl (j + 1) y (by simpa using hy); exact ⟨o', by rw [show k + 1 + j = k + (j + 1) by omega]; exact h1, h2⟩) hk (hR'.weaken fun s hs => ?_)
    obtain ⟨m, y, h1, h2⟩ := Dn_Dl hx s hs
    exact ⟨m, y, by omega, h2⟩

theorem any_sound {N : Nat} {q : Bool} {c0 : Cx} {K : St → Prop} {Q : Exit → Act → World → Prop} (hmk : mkOk l = true) (hQ : ∀ σ a w, K σ → RS N c0 (fun _ => True) σ a w → Q .normal a w) (hl : ∀ (j : Nat) o, ops[j]? = some o → ∃ x, l[j]? = some x ∧ cOper P q N ops o = some x) :
    ∀ (n : Nat) (listed : Array Bool) (σ : St) (a : Act) (w : World), unl listed ≤ n → awAny P ops l K n listed σ → RS N c0 (Dl l fun m => listed.getD m true = true) σ a w → wpAny P .any ops Q n listed a w
  | 0, listed, σ, a, w, hu, h, hR => by
    refine ⟨?_, hQ σ a w h (hR.weaken fun _ _ => trivial)⟩
    rw [List.eq_nil_iff_forall_not_mem]
    intro i hi
    have := (mem_ready.1 hi).1
    rw [unl_zero (by omega) i] at this
    cases this
  | n + 1, listed, σ, a, w, hu, h, hR => by
    refine ⟨fun h0 => hQ σ a w (h.1 h0) (hR.weaken fun _ _ => trivial), fun i hi => ?_⟩
    have hi' := mem_ready.1 hi
    obtain ⟨o, ho, _⟩ := hi'.2
    obtain ⟨x, hx, hc⟩ := hl i o ho
    have h1 := h.2 i hi
    unfold awIdx at h1
    simp only [hx] at h1
    refine wpOp_mono (fun a' w' hy => ?_) (op_sound ho hc (fun hm => mk_fresh hmk hx (by rw [hi'.1]; simp) hm) h1 hR Q)
    obtain ⟨σ', hk, hR'⟩ := hy
    refine any_sound hmk hQ hl n _ σ' a' w' (by have := unl_set hi'.1; omega) hk (hR'.weaken fun s hs => ?_)
    obtain ⟨m, y, h2, h3⟩ := Dn_Dl hx s hs
    refine ⟨m, y, ?_, h3⟩
    rcases h2 with h2 | h2
    · by_cases e : i = m
      · subst e; rw [hi'.1] at h2; cases h2
      · rw [getD_set_ne true e]; exact h2
    · subst h2
      have hlt : m < listed.size := by
        rcases Nat.lt_or_ge m listed.size with g | g
        · exact g
        · have := hi'.1; simp [Array.getElem?_eq_none g] at this
      simp [hlt]
end

/-! ### Code -/
/-- All that must lie apart at a region's end. -/
def allSeps (ops : Array Oper) (l : List zC) : List (Nat × Nat) :=
  ((List.range l.length).flatMap fun i => (List.range l.length).flatMap fun j => if i < j && !depN ops ops.size j i then (match l[i]?, l[j]? with | some x, some y => (sepsOf x y).getD [] | _, _ => []) else []).eraseDups
def cCode (P : Program) (N : Nat) : Code → Option ACode
  | .skip => some .skip
  | .region _ ops draw => match cOpers P draw N ops ops.toList with
    | some l => if mkOk l then (if draw then (if (l.all fun x => cls x.op != 4) && lexA ops l (allSeps ops l) ops.size 0 (Array.replicate ops.size false) then some (.ops l (allSeps ops l)) else none) else some (.ops l [])) else none
    | none => none
  | .seq a b => match cCode P N a, cCode P N b with | some x, some y => some (.seq x y) | _, _ => none
  | .cond c a b => match cOpd c, cCode P N a, cCode P N b with | some c, some x, some y => some (.cond c x y) | _, _, _ => none
  | .block id c => match cCode P N c with | some x => some (.block id x) | none => none
  | .loop c => match cCode P N c with | some x => some (.loop x) | none => none
  | .exit id => some (.exit id)
  | .ret => some .ret
  | _ => none

/-- A loop, by numbered invariants. -/
theorem wp_loop_rel {P : Program} {Q : Exit → Act → World → Prop} {c : Code} {a : Act} {w : World} (I : Nat → Act → World → Prop) (h₀ : ∃ n, I n a w)
    (round : ∀ n a w, I n a w → c.wp P (Exit.then (fun a' w' => ∃ m, m < n ∧ I m a' w') Q) a w) : (Code.loop c).wp P Q a w := by
  intro b k cs
  have key : ∀ n a w, I n a w → ∃ e a' w', Q e a' w' ∧ Arrives P (lone (b.at a (.code c :: .inLoop c :: k)) cs w) b k cs e a' w' := by
    intro n
    induction n using Nat.strongRecOn with
    | _ n ih =>
      intro a w hI
      obtain ⟨e, a₁, w₁, hq, harr⟩ := round n a w hI b (.inLoop c :: k) cs
      cases e with
      | normal =>
        obtain ⟨m, hlt, hI₁⟩ := hq
        obtain ⟨e₂, a₂, w₂, hq₂, harr₂⟩ := ih m hlt a₁ w₁ hI₁
        exact ⟨e₂, a₂, w₂, hq₂, .of_steps (Steps.trans harr (.one step_inLoop)) harr₂⟩
      | exit id => exact ⟨_, a₁, w₁, hq, .pass (x := .inLoop c) rfl (fun _ _ => .inl (by simp)) harr⟩
      | goto l => exact ⟨_, a₁, w₁, hq, .pass (x := .inLoop c) rfl (fun _ _ => .inl (by simp)) harr⟩
      | ret => exact ⟨_, a₁, w₁, hq, .pass (x := .inLoop c) rfl (fun _ _ => .inl (by simp)) harr⟩
      | panic ch => exact ⟨_, a₁, w₁, hq, .pass (x := .inLoop c) rfl (fun _ _ => .inl (by simp)) harr⟩
      | outgrown => exact ⟨_, a₁, w₁, hq, .pass (x := .inLoop c) rfl (fun _ _ => .inl (by simp)) harr⟩
  obtain ⟨n, hn⟩ := h₀
  obtain ⟨e, a', w', hq, harr⟩ := key n a w hn
  exact ⟨e, a', w', hq, .of_steps (.one step_loop) harr⟩

/-- What the abstract postcondition says of the real end. -/
def lift (N : Nat) (c0 : Cx) (Q : AEx → St → Prop) : Exit → Act → World → Prop := fun e a w => ∃ ae σ, e = ae.toExit ∧ Q ae σ ∧ RS N c0 (fun _ => True) σ a w

theorem drew_ctx {c : Cx} (hH : HRep c) : Le c ⟨{ c.w with drawn := c.w.drawn + 1 }, c.S, c.h, c.φ, c.al⟩ ∧ HRep ⟨{ c.w with drawn := c.w.drawn + 1 }, c.S, c.h, c.φ, c.al⟩ ∧ Fr c ⟨{ c.w with drawn := c.w.drawn + 1 }, c.S, c.h, c.φ, c.al⟩ := by
  have hle : Le c ⟨{ c.w with drawn := c.w.drawn + 1 }, c.S, c.h, c.φ, c.al⟩ := ⟨fun b h => ⟨h, rfl⟩, fun _ h => h, fun _ _ => rfl, fun id _ blk h => ⟨blk, h, rfl, fun arr el fr h => ⟨arr, h, rfl⟩⟩⟩
  refine ⟨hle, ⟨hH.slt, fun id blk h => ?_, fun id es h => ?_, hH.inj⟩, ⟨rfl, rfl, rfl, Nat.le_refl _, fun _ _ _ => rfl, fun _ h => .inl h, fun _ h => .inl h⟩⟩
  · obtain ⟨a1, a2, a3, a4, a5⟩ := hH.blk id blk h
    exact ⟨a1, a2, CRep.mono hle _ rfl _ _ a3, a4, a5⟩
  · obtain ⟨a1, a2, a3, ents, cl, a4, a5⟩ := hH.mp id es h
    exact ⟨a1, a2, a3, ents, cl, a4, ERep.mono hle _ _ a5⟩

theorem RS.drew {N : Nat} {c0 : Cx} {D : Nat → Prop} {σ : St} {a : Act} {w : World} (h : RS N c0 D σ a w) : RS N c0 D σ a { w with drawn := w.drawn + 1 } := by
  obtain ⟨c, rfl, hh, hH, hE, hN, hD, h0, f0, l0, hlt, hal⟩ := h
  obtain ⟨t1, t2, t3⟩ := drew_ctx hH
  exact ⟨⟨{ c.w with drawn := c.w.drawn + 1 }, c.S, c.h, c.φ, c.al⟩, rfl, hh, t2, fun i => VRep.mono t1 _ _ (hE i), hN, hD, h0.trans t1, f0.trans t3, ⟨l0.ep, l0.al⟩, hlt, hal⟩
/-- A region begins: a new epoch. -/
theorem RS.tick {N : Nat} {c0 : Cx} {D D' : Nat → Prop} {σ : St} {a : Act} {w : World} (h : RS N c0 D σ a w) : RS N c0 D' ⟨σ.env, σ.h.tick⟩ a w := by
  obtain ⟨c, rfl, hh, hH, hE, hN, hD, h0, f0, l0, hlt, hal⟩ := h
  obtain ⟨t1, t2, t3⟩ := tick_ctx hH (c.h.ep + 1)
  refine ⟨⟨c.w, c.S, { c.h with ep := c.h.ep + 1 }, c.φ, c.al⟩, rfl, by rw [← hh]; rfl, t2, fun i => VRep.mono t1 _ _ (hE i), hN, hD, h0.trans t1, f0.trans t3, ⟨Nat.le_succ_of_le l0.ep, l0.al⟩, Nat.lt_succ_of_lt hlt, fun id hid => .inl ?_⟩
  rcases hal id hid with h | h
  · exact Nat.lt_succ_of_lt h
  · exact h.1 ▸ Nat.lt_succ_self _

theorem RS.fresh {N : Nat} {c0 : Cx} {D : Nat → Prop} {σ : St} {a : Act} {w : World} (h : RS N c0 D σ a w) : qQ σ.h := by
  obtain ⟨c, rfl, hh, hH, hE, hN, hD, h0, f0, l0, hlt, hal⟩ := h
  rw [← hh]
  exact fresh_of hH fun id h => by rcases hal id h with h | h <;> omega

theorem awp_sound {P : Program} (hm : P.follows .mixedOrders = true) {N : Nat} {c0 : Cx} : ∀ (c : Code) (ac : ACode), cCode P N c = some ac → ∀ (Q : AEx → St → Prop) (σ : St) (a : Act) (w : World), awp P ac Q σ → RS N c0 (fun _ => True) σ a w → c.wp P (lift N c0 Q) a w
  | .skip, ac, hc, Q, σ, a, w, h, hR => by
    simp only [cCode, Option.some.injEq] at hc
    subst hc
    exact wp_skip ⟨.normal, σ, rfl, h, hR⟩
  | .region id ops draw, ac, hc, Q, σ, a, w, h, hR => by
    simp only [cCode] at hc
    split at hc
    · rename_i l hl
      obtain ⟨hlen, hget⟩ := cOpers_get hl
      have hlen' : l.length = ops.size := by rw [hlen]; simp
      split at hc
      · rename_i hmk
        cases draw with
        | false =>
          simp only [Bool.false_eq_true, if_false, Option.some.injEq] at hc
          subst hc
          refine wp_region ?_
          rw [List.range_eq_range']
          have := ops_sound (P := P) (ops := ops) (l := l) (q := false) (N := N) (c0 := c0) (K := fun σ' => sepAll [] σ'.env ∧ Q .normal σ') (Q := lift N c0 Q) hmk (fun σ a w hk hr => ⟨.normal, σ, rfl, hk.2, hr⟩) l 0 ⟨σ.env, σ.h.tick⟩ a w (fun j => by simp) (fun j x hx => by
            have hj : j < ops.toList.length := by rw [← hlen]; exact (List.getElem?_eq_some_iff.1 hx).1
            obtain ⟨x', h1, h2⟩ := hget j _ (List.getElem?_eq_getElem hj)
            rw [hx] at h1
            cases h1
            exact ⟨_, by simp at hj ⊢, h2⟩) (h hR.fresh) (hR.tick (D' := Dl l (· < 0)))
          rwa [hlen'] at this
        | true =>
          simp only [if_true] at hc
          split at hc
          · rename_i hB
            simp only [Option.some.injEq] at hc
            subst hc
            simp only [Bool.and_eq_true] at hB
            have h4 : ∀ (j : Nat) x, l[j]? = some x → cls x.op ≠ 4 := fun j x hx => by
              have := List.all_eq_true.1 hB.1 x (List.mem_of_getElem? hx)
              simpa using this
            have hu : unl (Array.replicate ops.size false) = ops.size := by simp [unl]
            have h1 := awAny_lex (P := P) (ops := ops) (l := l) (K := fun σ' => sepAll (allSeps ops l) σ'.env ∧ Q .normal σ') (seps := allSeps ops l) h4 (fun σ hk => hk.1) ops.size 0 l (Array.replicate ops.size false) ⟨σ.env, σ.h.tick⟩
              (fun k o hk _ => by
                exfalso
                rcases Nat.lt_or_ge k ops.size with g | g
                · simp [g] at hk
                · rw [Array.getD_eq_getD_getElem?, Array.getElem?_eq_none (by simpa using g)] at hk; simp at hk) (by omega) (fun m hm => by omega) hlen' (fun j => by simp) hB.2 (h hR.fresh)
            have hR' : RS N c0 (Dl l fun m => (Array.replicate ops.size false).getD m true = true) ⟨σ.env, σ.h.tick⟩ a { w with drawn := w.drawn + 1 } := hR.drew.tick
            exact wp_region_any hm (any_sound (q := true) (N := N) (c0 := c0) (K := fun σ' => sepAll (allSeps ops l) σ'.env ∧ Q .normal σ') (Q := lift N c0 Q) hmk (fun σ a w hk hr => ⟨.normal, σ, rfl, hk.2, hr⟩) (fun j o ho => hget j o (by simpa using ho)) ops.size _ ⟨σ.env, σ.h.tick⟩ a _ (by omega) h1 hR')
          · cases hc
      · cases hc
    · cases hc
  | .seq x y, ac, hc, Q, σ, a, w, h, hR => by
    simp only [cCode] at hc
    split at hc
    · rename_i ax ay h1 h2
      cases hc
      refine wp_seq (wp_mono (awp_sound hm x ax h1 _ σ a w h hR) fun e a' w' hx => ?_)
      obtain ⟨ae, σ', rfl, hq, hR'⟩ := hx
      cases ae with
      | normal => exact awp_sound hm y ay h2 Q σ' a' w' hq hR'
      | exit id => exact ⟨.exit id, σ', rfl, hq, hR'⟩
      | ret => exact ⟨.ret, σ', rfl, hq, hR'⟩
    · cases hc
  | .cond c x y, ac, hc, Q, σ, a, w, h, hR => by
    simp only [cCode] at hc
    split at hc
    · rename_i cA ax ay h0 h1 h2
      cases hc
      simp only [awp] at h
      split at h
      · rename_i t ht
        have hv : a.eval c = .bool t := by
          obtain ⟨cx, _, _, _, hE, _⟩ := hR
          have := env_rep hE c cA h0
          rw [ht] at this
          exact this.lit
        refine wp_cond_split hv (fun e => awp_sound hm x ax h1 Q σ a w (h.1 e) hR) (fun e => awp_sound hm y ay h2 Q σ a w (h.2 e) hR)
      · exact h.elim
    · cases hc
  | .block id x, ac, hc, Q, σ, a, w, h, hR => by
    simp only [cCode] at hc
    split at hc
    · rename_i ax h1
      cases hc
      refine wp_block (wp_mono (awp_sound hm x ax h1 _ σ a w h hR) fun e a' w' hx => ?_)
      obtain ⟨ae, σ', rfl, hq, hR'⟩ := hx
      cases ae with
      | normal => exact ⟨.normal, σ', rfl, hq, hR'⟩
      | exit id' =>
        simp only [AEx.toExit, Exit.inBlock]
        simp only [blockK] at hq
        split at hq
        · rename_i e
          rw [if_pos e]
          exact ⟨.normal, σ', rfl, hq, hR'⟩
        · rename_i e
          rw [if_neg e]
          exact ⟨.exit id', σ', rfl, hq, hR'⟩
      | ret => exact ⟨.ret, σ', rfl, hq, hR'⟩
    · cases hc
  | .loop x, ac, hc, Q, σ, a, w, h, hR => by
    simp only [cCode] at hc
    split at hc
    · rename_i ax h1
      cases hc
      simp only [awp] at h
      obtain ⟨I, ⟨n, hn⟩, hround⟩ := h
      refine wp_loop_rel (fun n a w => ∃ σ, I n σ ∧ RS N c0 (fun _ => True) σ a w) ⟨n, σ, hn, hR⟩ fun n a w hx => ?_
      obtain ⟨σ', hI, hR'⟩ := hx
      refine wp_mono (awp_sound hm x ax h1 _ σ' a w (hround n σ' hI) hR') fun e a' w' hx => ?_
      obtain ⟨ae, σ'', rfl, hq, hR''⟩ := hx
      cases ae with
      | normal =>
        obtain ⟨m, hlt, hI'⟩ := hq
        exact ⟨m, hlt, σ'', hI', hR''⟩
      | exit id => exact ⟨.exit id, σ'', rfl, hq, hR''⟩
      | ret => exact ⟨.ret, σ'', rfl, hq, hR''⟩
    · cases hc
  | .exit id, ac, hc, Q, σ, a, w, h, hR => by
    simp only [cCode, Option.some.injEq] at hc
    subst hc
    exact wp_exit ⟨.exit id, σ, rfl, h, hR⟩
  | .ret, ac, hc, Q, σ, a, w, h, hR => by
    simp only [cCode, Option.some.injEq] at hc
    subst hc
    exact wp_ret ⟨.ret, σ, rfl, h, hR⟩
  | .rangeFunc .., ac, hc, _, _, _, _, _, _ => by simp [cCode] at hc
  | .scope _, ac, hc, _, _, _, _, _, _ => by simp [cCode] at hc
  | .label _, ac, hc, _, _, _, _, _, _ => by simp [cCode] at hc
  | .goto _, ac, hc, _, _, _, _, _, _ => by simp [cCode] at hc
  | .refuse _, ac, hc, _, _, _, _, _, _ => by simp [cCode] at hc

end Go.Proofs.Hx

set_option linter.unusedVariables false
set_option linter.unusedSimpArgs false
namespace Go.Proofs.Hx

/-! ### Functions -/
def cRes (P : Program) : ResultVar → Option AOp
  | .tmp t => some (.mv (.t t))
  | .cell a t => (isAggT P t).bind fun g => (P.info? t).map fun i => .load g i.size (.t a)
def cRess (P : Program) : List ResultVar → Option (List AOp)
  | [] => some []
  | r :: rs => match cRes P r, cRess P rs with | some x, some xs => some (x :: xs) | _, _ => none
def cFn (P : Program) (f : Nat) : Option (Nat × ACode × List AOp) :=
  match P.funcs[f]? with
  | none => none
  | some fn =>
    if fn.name = "runtime.NumGoroutine" then none else
    match fn.body with
    | none => none
    | some b => match cCode P fn.ntmps b, cRess P fn.results.toList with
      | some c, some r => some (fn.ntmps, c, r)
      | _, _ => none

def resV (env : Nat → AV) (h : Hp) (op : AOp) : Option AV :=
  match yH op (evA env) with
  | some r => some r
  | none => yS op (evA env) h
def retV : List AV → AV
  | [v] => v
  | vs => .tup vs
def endK (res : List AOp) (K : AV → Hp → Prop) (σ : St) : Prop :=
  match mapO (resV σ.env σ.h) res with
  | some vals => K (retV vals) σ.h
  | none => False
def PostF (res : List AOp) (K : AV → Hp → Prop) : AEx → St → Prop
  | .normal, σ | .ret, σ => endK res K σ
  | .exit _, _ => False
def initEnv (args : List AV) : Nat → AV := fun i => args.getD i .undef

section
variable {P : Program}

def resF (tmps : Array Value) (rv : ResultVar) : Sem Value :=
  match rv with
  | .tmp t => pure (tmps.getD t undef)
  | .cell a t => do loadVar t (← asAddr (tmps.getD a undef))
theorem results_eq (fn : Func) (tmps : Array Value) : results fn tmps = (do
    let vs ← fn.results.mapM (resF tmps)
    pure (if h : vs.size = 1 then vs[0] else .tuple vs)) := by
  unfold results
  congr 1

theorem cRes_sound {c : Cx} (hH : HRep c) {tmps : Array Value} {env : Nat → AV} (hE : ∀ i, VRep c (tmps.getD i undef) (env i)) {rv : ResultVar} {op : AOp} (hc : cRes P rv = some op) {r : AV} (h : resV env c.h op = some r) :
    Gives P c (resF tmps rv) r := by
  unfold resF
  cases rv with
  | tmp t =>
    simp only [cRes, Option.some.injEq] at hc
    subst hc
    simp only [resV, yH, evA, Option.some.injEq] at h
    subst h
    exact ⟨_, rfl, hE t⟩
  | cell a t =>
    simp only [cRes, Option.bind_eq_some_iff, Option.map_eq_some_iff] at hc
    obtain ⟨g, h1, i, h2, rfl⟩ := hc
    simp only [resV, yH] at h
    have hop : cOp P false (.load t (.tmp a)) = some (.load g i.size (.t a)) := by simp [cOp, h1, h2, cOpd]
    have hl := load_op (ρ := fun x => match x with | .tmp t => tmps.getD t undef | .const v => v | .global g => .pointer (some ⟨g, 0, none⟩) | .func f => .func (.func f) #[] #[]) (ρA := evA env) hop hH (fun x y hxy => by
      cases x with
      | tmp t => simp only [cOpd, Option.some.injEq] at hxy; subst hxy; exact hE t
      | const v => simp only [cOpd, Option.map_eq_some_iff] at hxy; obtain ⟨z, h1, rfl⟩ := hxy; exact toAV_sound h1
      | func f => simp only [cOpd, Option.some.injEq] at hxy; subst hxy; simp only [evA, VRep]; exact ⟨#[], rfl, by simp [Reps]⟩
      | global g => simp [cOpd] at hxy) h
    obtain ⟨v, h3, h4⟩ := hl
    refine ⟨v, ?_, h4⟩
    simp only [Instr.loadAt] at h3
    have hx := hE a
    simp only [yS, evA] at h
    have key : ∃ ad, tmps.getD a undef = .pointer (some ad) := by
      split at h
      · rename_i id off e; rw [e] at hx; simp only [VRep] at hx; exact ⟨_, hx.2⟩
      · rename_i cs e; rw [e] at hx; simp only [VRep] at hx; obtain ⟨b, off, e1, _⟩ := hx; exact ⟨_, e1⟩
      · cases h
    obtain ⟨ad, e⟩ := key
    simp only [e, Instr.sureAddr, Sem.run_bind, Sem.run_pure, Result.andThen_ok] at h3
    simp only [e, asAddr, Sem.run_bind, Sem.run_pure, Result.andThen_ok]
    exact h3

theorem cRess_sound {c : Cx} (hH : HRep c) {tmps : Array Value} {env : Nat → AV} (hE : ∀ i, VRep c (tmps.getD i undef) (env i)) : ∀ {rvs : List ResultVar} {ops : List AOp} {vals : List AV}, cRess P rvs = some ops → mapO (resV env c.h) ops = some vals →
    ∃ vs : List Value, (rvs.mapM (resF tmps)).run P c.w = .ok vs c.w ∧ Reps c vs vals
  | [], ops, vals, h1, h2 => by
    simp only [cRess, Option.some.injEq] at h1
    subst h1
    simp only [mapO, Option.some.injEq] at h2
    subst h2
    exact ⟨[], by simp, by simp [Reps]⟩
  | rv :: rvs, ops, vals, h1, h2 => by
    simp only [cRess] at h1
    split at h1
    · rename_i x xs e1 e2
      cases h1
      simp only [mapO] at h2
      split at h2
      · rename_i y ys e3 e4
        cases h2
        obtain ⟨v, g1, g2⟩ := cRes_sound hH hE e1 e3
        obtain ⟨vs, g3, g4⟩ := cRess_sound hH hE e2 e4
        refine ⟨v :: vs, ?_, by simp only [Reps]; exact ⟨g2, g4⟩⟩
        rw [List.mapM_cons, Sem.run_bind, g1]
        simp only [Result.andThen_ok, Sem.run_bind, g3, Sem.run_pure]
      · cases h2
    · cases h1

theorem results_sound {c : Cx} (hH : HRep c) {fn : Func} {tmps : Array Value} {env : Nat → AV} (hE : ∀ i, VRep c (tmps.getD i undef) (env i)) {ops : List AOp} {vals : List AV} (h1 : cRess P fn.results.toList = some ops) (h2 : mapO (resV env c.h) ops = some vals) :
    Gives P c (results fn tmps) (retV vals) := by
  obtain ⟨vs, h3, h4⟩ := cRess_sound (P := P) hH hE h1 h2
  have hm : (fn.results.mapM (resF tmps)).run P c.w = .ok vs.toArray c.w := by
    rw [Array.mapM_eq_mapM_toList]
    simp only [Sem.run_map, h3, Result.andThen_ok]
  refine ⟨if h : vs.toArray.size = 1 then vs.toArray[0] else .tuple vs.toArray, ?_, ?_⟩
  · rw [results_eq, Sem.run_bind, hm]
    rfl
  · have hl := h4.length
    match vals, vs, h4, hl with
    | [], [], h4, _ => simp [retV, VRep, Reps]
    | [x], [v], h4, _ => simpa [retV, Reps] using h4
    | x :: y :: r, v :: u :: s, h4, _ => simp only [retV, VRep]; exact ⟨(v :: u :: s).toArray, by simp, by simpa using h4⟩

theorem cFn_inv {f N : Nat} {ac : ACode} {res : List AOp} (h : cFn P f = some (N, ac, res)) : ∃ fn b, P.funcs[f]? = some fn ∧ fn.name ≠ "runtime.NumGoroutine" ∧ fn.body = some b ∧ fn.ntmps = N ∧ cCode P N b = some ac ∧ cRess P fn.results.toList = some res := by
  unfold cFn at h
  split at h
  · cases h
  · rename_i fn hfn
    split at h
    · cases h
    · rename_i hname
      split at h
      · cases h
      · rename_i b hb
        split at h
        · rename_i c r h1 h2
          simp only [Option.some.injEq, Prod.mk.injEq] at h
          obtain ⟨rfl, rfl, rfl⟩ := h
          exact ⟨fn, b, hfn, hname, hb, rfl, h1, h2⟩
        · cases h

theorem init_rep {c : Cx} {vs : Array Value} {args : List AV} {N : Nat} (hr : Reps c vs.toList args) : ∀ i, VRep c ((vs ++ Array.replicate (N - vs.size) undef).getD i undef) (initEnv args i) := by
  intro i
  unfold initEnv
  rw [List.getD_eq_getElem?_getD, Array.getD_eq_getD_getElem?]
  cases hx : args[i]? with
  | none => simp [VRep]
  | some x =>
    obtain ⟨v, h1, h2⟩ := hr.get hx
    have h1' : vs[i]? = some v := by simpa using h1
    have hlt : i < vs.size := (Array.getElem?_eq_some_iff.1 h1').1
    rw [Array.getElem?_append_left hlt, h1']
    simpa using h2

theorem body_sound (hm : P.follows .mixedOrders = true) {f N : Nat} {ac : ACode} {res : List AOp} (hf : cFn P f = some (N, ac, res)) {args : List AV} (hargs : args.length ≤ N) {c : Cx} (hH : HRep c) (hEB : EB c) {vs : Array Value} (hr : Reps c vs.toList args) {K : AV → Hp → Prop}
    (h : awp P ac (PostF res K) ⟨initEnv args, c.h.tick⟩) : Calls P f vs c.w fun e w' => ∃ v c' r, e = .returned v ∧ c'.w = w' ∧ VRep c' v r ∧ Le c c' ∧ HRep c' ∧ Fr c c' ∧ EB c' ∧ Later c c' ∧ K r c'.h := by
  obtain ⟨fn, b, h1, h2, h3, rfl, h5, h6⟩ := cFn_inv hf
  have hvs : vs.size ≤ fn.ntmps := by have := hr.length; simp at this; omega
  obtain ⟨t1, t2, t3⟩ := tick_ctx hH (c.h.ep + 1)
  refine calls_of_wp h1 h3 (wp_mono (awp_sound (c0 := c) hm b ac h5 _ _ _ _ h ⟨⟨c.w, c.S, { c.h with ep := c.h.ep + 1 }, c.φ, c.al⟩, rfl, rfl, t2, fun i => VRep.mono t1 _ _ (init_rep hr i), by simp; omega, rfl, t1, t3, ⟨Nat.le_succ _, fun id h => .inl h⟩, Nat.lt_succ_self _, fun id h => .inl (Nat.lt_succ_of_le (hEB id h))⟩) fun e a w' hx => ?_)
  obtain ⟨ae, σ, rfl, hq, c', hw, hh, hH', hE, hN, hD, hle, hfr, hla, hlt, hal⟩ := hx
  subst hw
  have hEB' : EB c' := fun id h => by
    rcases hal id h with h | h
    · exact Nat.le_of_lt h
    · exact Nat.le_of_eq h.1
  have fin : endK res K σ → ∃ v, (results fn a.tmps).run P c'.w = .ok v c'.w ∧ ∃ v' c'' r, Ending.returned v = .returned v' ∧ c''.w = c'.w ∧ VRep c'' v' r ∧ Le c c'' ∧ HRep c'' ∧ Fr c c'' ∧ EB c'' ∧ Later c c'' ∧ K r c''.h := fun hk => by
    unfold endK at hk
    split at hk
    · rename_i vals hv
      rw [← hh] at hv hk
      obtain ⟨v, g1, g2⟩ := results_sound hH' hE h6 hv
      exact ⟨v, g1, v, c', retV vals, rfl, rfl, g2, hle, hH', hfr, hEB', hla, hk⟩
    · exact hk.elim
  cases ae with
  | normal => exact ⟨hD, fin hq⟩
  | ret => exact ⟨hD, fin hq⟩
  | exit id => exact hq.elim

/-- **A function's contract, from its code.** -/
theorem HC_of_awp (hm : P.follows .mixedOrders = true) {f N : Nat} {ac : ACode} {res : List AOp} (hf : cFn P f = some (N, ac, res)) {args : List AV} (hargs : args.length ≤ N) {h : Hp} {K : AV → Hp → Prop}
    (hw : qQ h → awp P ac (PostF res K) ⟨initEnv args, h.tick⟩) : HC P f args h K := by
  obtain ⟨fn, b, h1, h2, h3, _⟩ := cFn_inv hf
  refine ⟨⟨fn, b, h1, h2, h3⟩, fun c vs hc hH hEB hr => ?_⟩
  subst hc
  exact body_sound hm hf hargs hH hEB hr (hw (fresh_of hH hEB))

/-- **A function's contract over values, from its code.** -/
theorem yJ (hm : P.follows .mixedOrders = true) {f N : Nat} {ac : ACode} {res : List AOp} (hf : cFn P f = some (N, ac, res)) {args : List AV} (hargs : args.length ≤ N) (hi : imms args = true) {r : AV}
    (hw : awp P ac (PostF res fun r' h' => lend fuelL h' r' = some r) ⟨initEnv args, emp.tick⟩) (hri : imm r = true) : HV P f args r := by
  obtain ⟨fn, b, h1, h2, h3, _⟩ := cFn_inv hf
  refine ⟨⟨fn, b, h1, h2, h3⟩, hi, hri, fun w S vs hS hr => ?_⟩
  have hH : HRep (Cx0 w S) := ⟨hS, fun id blk h => by simp [Cx0, emp] at h, fun id es h => by simp [Cx0, emp] at h, fun i j h => by rcases h with ⟨_, h⟩ | ⟨_, h⟩ <;> simp [Cx0, emp] at h⟩
  have hEB : EB (Cx0 w S) := fun id h => by simp [Cx0] at h
  refine (body_sound (c := Cx0 w S) hm hf hargs hH hEB hr hw).mono fun e w' hx => ?_
  obtain ⟨v, c', r', he, hw', hv, hle, hH', hfr, _, _, hk⟩ := hx
  subst hw'
  have hM : ∀ b, ¬ (Cx0 w S).M b := fun b ⟨id, h, _⟩ => by rcases h with ⟨blk, h, _⟩ | ⟨es, h⟩ <;> simp [Cx0, emp] at h
  refine ⟨v, he, ?_, ⟨hfr.os, hfr.tape, hfr.output, hfr.size, fun b hb => hfr.block b hb (hM b)⟩⟩
  refine (lend_sound hH' (S0 := fun b => S b ∨ (w.heap.size ≤ b ∧ b < c'.w.heap.size)) (fun b hb => ?_) (fun id blk hb => ?_) _ _ _ _ hk hv).1
  · rcases hfr.S b hb with h | h | h
    · exact .inl h
    · exact (hM b h).elim
    · exact .inr ⟨h, hH'.slt b hb⟩
  · obtain ⟨_, ⟨arr, el, h4, _⟩, _, h5, h6⟩ := hH'.blk id blk hb
    have hlt : (c'.φ id).1 < c'.w.heap.size := (Array.getElem?_eq_some_iff.1 h4).1
    cases hwr : blk.wr with
    | true =>
      rcases hfr.M _ ⟨id, .inl ⟨blk, hb, hwr⟩, rfl⟩ with h | h
      · exact (hM _ h).elim
      · exact .inr ⟨h, hlt⟩
    | false =>
      rcases hfr.S _ (h6 hwr) with h | h | h
      · exact .inl h
      · exact (hM _ h).elim
      · exact .inr ⟨h, hlt⟩

/-- The same, where the answer lies in memory of the call's own. -/
theorem HVF_of_HC {f : Nat} {args : List AV} (hi : imms args = true) {r : AV} (hri : imm r = true) (h : HC P f args emp fun r' h' => lendF fuelL h' r' = some r) : HVF P f args r := by
  refine ⟨h.1, hi, hri, fun w S vs hS hr => ?_⟩
  have hH : HRep (Cx0 w S) := ⟨hS, fun id blk h => by simp [Cx0, emp] at h, fun id es h => by simp [Cx0, emp] at h, fun i j h => by rcases h with ⟨_, h⟩ | ⟨_, h⟩ <;> simp [Cx0, emp] at h⟩
  have hEB : EB (Cx0 w S) := fun id h => by simp [Cx0] at h
  refine (h.2 (Cx0 w S) vs rfl hH hEB hr).mono fun e w' hx => ?_
  obtain ⟨v, c', r', he, hw', hv, hle, hH', hfr, _, _, hk⟩ := hx
  subst hw'
  have hM : ∀ b, ¬ (Cx0 w S).M b := fun b ⟨id, h, _⟩ => by rcases h with ⟨blk, h, _⟩ | ⟨es, h⟩ <;> simp [Cx0, emp] at h
  refine ⟨v, he, ?_, ⟨hfr.os, hfr.tape, hfr.output, hfr.size, fun b hb => hfr.block b hb (hM b)⟩⟩
  refine (lendF_sound hH' (S0 := fun b => w.heap.size ≤ b ∧ b < c'.w.heap.size) (fun id blk hb hwr => ?_) _ _ _ _ hk hv).1
  obtain ⟨_, ⟨arr, el, h4, _⟩, _, h5, h6⟩ := hH'.blk id blk hb
  have hlt : (c'.φ id).1 < c'.w.heap.size := (Array.getElem?_eq_some_iff.1 h4).1
  rcases hfr.M _ ⟨id, .inl ⟨blk, hb, hwr⟩, rfl⟩ with h | h
  · exact (hM _ h).elim
  · exact ⟨h, hlt⟩
theorem HVF_of_awp (hm : P.follows .mixedOrders = true) {f N : Nat} {ac : ACode} {res : List AOp} (hf : cFn P f = some (N, ac, res)) {args : List AV} (hargs : args.length ≤ N) (hi : imms args = true) {r : AV}
    (hw : awp P ac (PostF res fun r' h' => lendF fuelL h' r' = some r) ⟨initEnv args, emp.tick⟩) (hri : imm r = true) : HVF P f args r :=
  HVF_of_HC hi hri (HC_of_awp hm hf hargs fun _ => hw)
end
end Go.Proofs.Hx
