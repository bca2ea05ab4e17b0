import Derived.Test.YtcdibfkebojefaaAm10
set_option linter.unusedVariables false
set_option linter.unusedSimpArgs false
namespace Go.Proofs.Hx

structure AOper where
  dst : Option Nat
  op : AOp
  guard : Option (Nat × Bool)

inductive ACode where
  | skip
  | ops (l : List AOper) (seps : List (Nat × Nat))
  | seq (a b : ACode)
  | cond (c : AOpd) (a b : ACode)
  | block (id : Nat) (c : ACode)
  | loop (c : ACode)
  | exit (id : Nat)
  | ret

inductive AEx where
  | normal
  | exit (id : Nat)
  | ret
def AEx.toExit : AEx → Exit
  | .normal => .normal
  | .exit id => .exit id
  | .ret => .ret

structure St where
  env : Nat → AV
  h : Hp

def putA (env : Nat → AV) (dst : Option Nat) (v : AV) : Nat → AV :=
  match dst with
  | some d => upd env d v
  | none => env

/-! ### Lending and freezing: what lies in the abstract heap as a value -/
def mapO {α β : Type} (f : α → Option β) : List α → Option (List β)
  | [] => some []
  | x :: xs => match f x, mapO f xs with | some y, some ys => some (y :: ys) | _, _ => none
def chunks {α : Type} (sz : Nat) (cells : List α) (len : Nat) : List (List α) := (List.range len).map fun i => (cells.drop (i * sz)).take sz
mutual
/-- It holds no reference into the abstract heap. -/
def imm : AV → Bool
  | .undef | .lit _ | .nil => true
  | .agg cs | .tup cs | .ip cs | .fn _ cs => imms cs
  | .row xs => immss xs
  | .sl .. | .ptr .. | .map _ => false
def imms : List AV → Bool
  | [] => true
  | x :: xs => imm x && imms xs
def immss : List (List AV) → Bool
  | [] => true
  | x :: xs => imms x && immss xs
end
def lend : Nat → Hp → AV → Option AV
  | 0, _, a => if imm a then some a else none
  | d + 1, h, a =>
    if imm a then some a else
    match a with
    | .agg cs => (mapO (lend d h) cs).map .agg
    | .tup cs => (mapO (lend d h) cs).map .tup
    | .fn f cs => (mapO (lend d h) cs).map (.fn f)
    | .sl id off len sz => match h.hp id with
      | some blk => if len = 0 then some (.row []) else if off + len * sz ≤ blk.cells.length then (mapO (lend d h) ((blk.cells.drop off).take (len * sz))).map fun cells => .row (chunks sz cells len) else none
      | none => none
    | .ptr id off => match h.hp id with
      | some blk => (mapO (lend d h) (blk.cells.drop off)).map .ip
      | none => none
    | _ => none

def emp : Hp := ⟨fun _ => none, fun _ => none, 0⟩
/-- Only values. -/
def Cx0 (w : World) (S : Nat → Prop) : Cx := ⟨w, S, emp, fun _ => (0, 0), fun _ => False⟩

mutual
theorem imm_tr {c c' : Cx} (hS : ∀ b, c.S b → c'.S b ∧ c'.w.heap[b]? = c.w.heap[b]?) (v : Value) : ∀ a : AV, imm a = true → VRep c v a → VRep c' v a
  | .undef, _, _ => trivial
  | .lit u, _, hv => by simpa [VRep] using hv
  | .nil, _, hv => by simpa [VRep] using hv
  | .agg cs, hi, hv => by
    simp only [VRep] at hv ⊢
    simp only [imm] at hi
    obtain ⟨arr, e, hr⟩ := hv
    exact ⟨arr, e, imms_tr hS _ cs hi hr⟩
  | .tup cs, hi, hv => by
    simp only [VRep] at hv ⊢
    simp only [imm] at hi
    obtain ⟨arr, e, hr⟩ := hv
    exact ⟨arr, e, imms_tr hS _ cs hi hr⟩
  | .fn f cs, hi, hv => by
    simp only [VRep] at hv ⊢
    simp only [imm] at hi
    obtain ⟨arr, e, hr⟩ := hv
    exact ⟨arr, e, imms_tr hS _ cs hi hr⟩
  | .ip cs, hi, hv => by
    simp only [VRep] at hv ⊢
    simp only [imm] at hi
    obtain ⟨b, off, e, hs, hr⟩ := hv
    exact ⟨b, off, e, (hS b hs).1, immsC_tr hS b (hS b hs).2 off cs hi hr⟩
  | .row xs, hi, hv => by
    simp only [VRep] at hv ⊢
    simp only [imm] at hi
    obtain ⟨addr, cap, e, hc, hr⟩ := hv
    refine ⟨addr, cap, e, hc, fun hx => ?_⟩
    obtain ⟨b, off, sz, e1, hs, hr⟩ := hr hx
    exact ⟨b, off, sz, e1, (hS b hs).1, immss_tr hS b sz (hS b hs).2 off xs hi hr⟩
  | .sl .., hi, _ => by simp [imm] at hi
  | .ptr .., hi, _ => by simp [imm] at hi
  | .map _, hi, _ => by simp [imm] at hi
theorem imms_tr {c c' : Cx} (hS : ∀ b, c.S b → c'.S b ∧ c'.w.heap[b]? = c.w.heap[b]?) : ∀ (vs : List Value) (as : List AV), imms as = true → Reps c vs as → Reps c' vs as
  | [], [], _, _ => by simp [Reps]
  | v :: vs, x :: xs, hi, hr => by
    simp only [Reps] at hr ⊢
    simp only [imms, Bool.and_eq_true] at hi
    exact ⟨imm_tr hS v x hi.1 hr.1, imms_tr hS vs xs hi.2 hr.2⟩
  | [], _ :: _, _, hr => by simp [Reps] at hr
  | _ :: _, [], _, hr => by simp [Reps] at hr
theorem immsC_tr {c c' : Cx} (hS : ∀ b, c.S b → c'.S b ∧ c'.w.heap[b]? = c.w.heap[b]?) (b : Nat) (hs : c'.w.heap[b]? = c.w.heap[b]?) : ∀ (off : Nat) (as : List AV), imms as = true → CRep c b off as → CRep c' b off as
  | _, [], _, _ => by simp [CRep]
  | off, x :: xs, hi, hr => by
    simp only [CRep] at hr ⊢
    simp only [imms, Bool.and_eq_true] at hi
    obtain ⟨⟨v, e, hv⟩, hr⟩ := hr
    exact ⟨⟨v, by rw [cell_of_heap hs]; exact e, imm_tr hS v x hi.1 hv⟩, immsC_tr hS b hs (off + 1) xs hi.2 hr⟩
theorem immss_tr {c c' : Cx} (hS : ∀ b, c.S b → c'.S b ∧ c'.w.heap[b]? = c.w.heap[b]?) (b sz : Nat) (hs : c'.w.heap[b]? = c.w.heap[b]?) : ∀ (off : Nat) (as : List (List AV)), immss as = true → RRep c b sz off as → RRep c' b sz off as
  | _, [], _, _ => by simp [RRep]
  | off, x :: xs, hi, hr => by
    simp only [RRep] at hr ⊢
    simp only [immss, Bool.and_eq_true] at hi
    exact ⟨hr.1, immsC_tr hS b hs off x hi.1 hr.2.1, immss_tr hS b sz hs (off + sz) xs hi.2 hr.2.2⟩
end

theorem mapO_length {α β : Type} {f : α → Option β} : ∀ {xs : List α} {ys : List β}, mapO f xs = some ys → ys.length = xs.length
  | [], ys, h => by simp [mapO] at h; subst h; rfl
  | x :: xs, ys, h => by
    simp only [mapO] at h
    split at h
    · rename_i y zs _ h2
      cases h
      simp [mapO_length h2]
    · cases h
theorem mapO_get {α β : Type} {f : α → Option β} : ∀ {xs : List α} {ys : List β}, mapO f xs = some ys → ∀ {i : Nat} {y : β}, ys[i]? = some y → ∃ x, xs[i]? = some x ∧ f x = some y
  | [], ys, h, i, y, hy => by simp [mapO] at h; subst h; simp at hy
  | x :: xs, ys, h, i, y, hy => by
    simp only [mapO] at h
    split at h
    · rename_i y' zs h1 h2
      cases h
      cases i with
      | zero => simp at hy; subst hy; exact ⟨x, rfl, h1⟩
      | succ i => simp at hy; simpa using mapO_get h2 hy
    · cases h
theorem imms_of_get : ∀ {as : List AV}, (∀ (i : Nat) x, as[i]? = some x → imm x = true) → imms as = true
  | [], _ => rfl
  | x :: xs, h => by simp only [imms, Bool.and_eq_true]; exact ⟨h 0 x rfl, imms_of_get fun i y hy => h (i + 1) y (by simpa using hy)⟩
theorem imms_get : ∀ {as : List AV}, imms as = true → ∀ {i : Nat} {x : AV}, as[i]? = some x → imm x = true
  | [], _, _, _, h => by simp at h
  | y :: ys, h, 0, x, hx => by simp only [imms, Bool.and_eq_true] at h; simp at hx; subst hx; exact h.1
  | y :: ys, h, i + 1, x, hx => by simp only [imms, Bool.and_eq_true] at h; simp at hx; exact imms_get h.2 hx
theorem immss_of_get : ∀ {as : List (List AV)}, (∀ (i : Nat) x, as[i]? = some x → imms x = true) → immss as = true
  | [], _ => rfl
  | x :: xs, h => by simp only [immss, Bool.and_eq_true]; exact ⟨h 0 x rfl, immss_of_get fun i y hy => h (i + 1) y (by simpa using hy)⟩

theorem lend_sound {c : Cx} (hH : HRep c) {S0 : Nat → Prop} (hS : ∀ b, c.S b → S0 b) (hA : ∀ id blk, c.h.hp id = some blk → S0 (c.φ id).1) : ∀ (d : Nat) (v : Value) (a a' : AV), lend d c.h a = some a' → VRep c v a → VRep (Cx0 c.w S0) v a' ∧ imm a' = true
  | d, v, a, a', h, hv => by
    have tr : imm a = true → VRep (Cx0 c.w S0) v a := fun hi => imm_tr (c := c) (c' := Cx0 c.w S0) (fun b hb => ⟨hS b hb, rfl⟩) v a hi hv
    cases d with
    | zero =>
      simp only [lend] at h
      split at h
      · cases h; exact ⟨tr (by assumption), by assumption⟩
      · cases h
    | succ d =>
      have ih := lend_sound hH hS hA d
      have lst : ∀ (vs : List Value) (as as' : List AV), mapO (lend d c.h) as = some as' → Reps c vs as → Reps (Cx0 c.w S0) vs as' ∧ imms as' = true := fun vs as as' h hr => by
        refine ⟨Reps.of_get (by rw [hr.length, mapO_length h]) fun i u x hu hx => ?_, imms_of_get fun i x hx => ?_⟩
        · obtain ⟨y, hy, e⟩ := mapO_get h hx
          obtain ⟨u', h1, h2⟩ := hr.get hy
          rw [hu] at h1
          cases h1
          exact (ih u y x e h2).1
        · obtain ⟨y, hy, e⟩ := mapO_get h hx
          obtain ⟨u', h1, h2⟩ := hr.get hy
          exact (ih u' y x e h2).2
      have cel : ∀ (b off : Nat) (as as' : List AV), mapO (lend d c.h) as = some as' → CRep c b off as → CRep (Cx0 c.w S0) b off as' ∧ imms as' = true := fun b off as as' h hr => by
        refine ⟨CRep.of_get fun i x hx => ?_, imms_of_get fun i x hx => ?_⟩
        · obtain ⟨y, hy, e⟩ := mapO_get h hx
          obtain ⟨u', h1, h2⟩ := hr.get hy
          exact ⟨u', h1, (ih u' y x e h2).1⟩
        · obtain ⟨y, hy, e⟩ := mapO_get h hx
          obtain ⟨u', h1, h2⟩ := hr.get hy
          exact (ih u' y x e h2).2
      simp only [lend] at h
      split at h
      · cases h; exact ⟨tr (by assumption), by assumption⟩
      · split at h
        · rename_i cs
          simp only [Option.map_eq_some_iff] at h
          obtain ⟨cs', h1, rfl⟩ := h
          simp only [VRep] at hv ⊢
          obtain ⟨arr, e, hr⟩ := hv
          exact ⟨⟨arr, e, (lst _ _ _ h1 hr).1⟩, by simp only [imm]; exact (lst _ _ _ h1 hr).2⟩
        · rename_i cs
          simp only [Option.map_eq_some_iff] at h
          obtain ⟨cs', h1, rfl⟩ := h
          simp only [VRep] at hv ⊢
          obtain ⟨arr, e, hr⟩ := hv
          exact ⟨⟨arr, e, (lst _ _ _ h1 hr).1⟩, by simp only [imm]; exact (lst _ _ _ h1 hr).2⟩
        · rename_i f cs
          simp only [Option.map_eq_some_iff] at h
          obtain ⟨cs', h1, rfl⟩ := h
          simp only [VRep] at hv ⊢
          obtain ⟨arr, e, hr⟩ := hv
          exact ⟨⟨arr, e, (lst _ _ _ h1 hr).1⟩, by simp only [imm]; exact (lst _ _ _ h1 hr).2⟩
        · rename_i id off len sz _
          simp only [VRep] at hv
          obtain ⟨hid, hv⟩ := hv
          split at h
          · rename_i blk hb
            obtain ⟨_, _, hcr, _⟩ := hH.blk id blk hb
            split at h
            · rename_i h0
              cases h
              subst h0
              refine ⟨?_, rfl⟩
              simp only [VRep]
              rcases hv with ⟨cap, rfl, hc, h7⟩ | ⟨_, a, rfl⟩
              · exact ⟨_, cap, rfl, by simp, fun hh => absurd rfl hh⟩
              · exact ⟨a, 0, rfl, by simp, fun hh => absurd rfl hh⟩
            · rename_i h0
              split at h
              · rename_i hl
                simp only [Option.map_eq_some_iff] at h
                obtain ⟨cells, h1, rfl⟩ := h
                have hlc : cells.length = len * sz := by rw [mapO_length h1]; simp; omega
                rcases hv with ⟨cap, rfl, hc, h7⟩ | ⟨h0', _⟩
                · obtain ⟨h8, h9⟩ := cel _ _ _ _ h1 ((hcr.drop off).take (len * sz))
                  refine ⟨?_, ?_⟩
                  · simp only [VRep]
                    refine ⟨some ⟨(c.φ id).1, (c.φ id).2 + off, none⟩, cap, by simp [chunks], by simpa [chunks] using hc, fun _ => ⟨_, _, sz, rfl, hA id blk hb, RRep.of_get fun i x hx => ?_⟩⟩
                    simp only [chunks, List.getElem?_map, Option.map_eq_some_iff] at hx
                    obtain ⟨k, hk, rfl⟩ := hx
                    have hk' : k = i ∧ i < len := by
                      rw [List.getElem?_eq_some_iff] at hk
                      obtain ⟨hlt, hk⟩ := hk
                      simp at hk hlt
                      omega
                    obtain ⟨rfl, hlt⟩ := hk'
                    have hle : k * sz + sz ≤ len * sz := by
                      have := mul_le_of (a := k + 1) (b := len) (s := sz) (by omega)
                      rwa [Nat.add_mul, Nat.one_mul] at this
                    exact ⟨by simp; omega, (h8.drop (k * sz)).take sz⟩
                  · simp only [imm]
                    refine immss_of_get fun i x hx => imms_of_get fun j y hy => ?_
                    simp only [chunks, List.getElem?_map, Option.map_eq_some_iff] at hx
                    obtain ⟨k, hk, rfl⟩ := hx
                    rw [List.getElem?_take] at hy
                    split at hy
                    · rw [List.getElem?_drop] at hy
                      exact imms_get h9 hy
                    · cases hy
                · exact absurd h0' h0
              · cases h
          · cases h
        · rename_i id off _
          simp only [VRep] at hv
          obtain ⟨hid, rfl⟩ := hv
          split at h
          · rename_i blk hb
            simp only [Option.map_eq_some_iff] at h
            obtain ⟨cells, h1, rfl⟩ := h
            obtain ⟨_, _, hcr, _⟩ := hH.blk id blk hb
            obtain ⟨h8, h9⟩ := cel _ _ _ _ h1 (hcr.drop off)
            exact ⟨by simp only [VRep]; exact ⟨_, _, rfl, hA id blk hb, h8⟩, by simp only [imm]; exact h9⟩
          · cases h
        · cases h

/-- Without anything that was lent before. -/
def atom : AV → Bool
  | .undef | .lit _ => true
  | _ => false
def lendF : Nat → Hp → AV → Option AV
  | 0, _, a => if atom a then some a else none
  | d + 1, h, a =>
    if atom a then some a else
    match a with
    | .nil => some (.row [])
    | .agg cs => (mapO (lendF d h) cs).map .agg
    | .tup cs => (mapO (lendF d h) cs).map .tup
    | .fn f cs => (mapO (lendF d h) cs).map (.fn f)
    | .sl id off len sz => match h.hp id with
      | some blk => if blk.wr = true then (if len = 0 then some (.row []) else if off + len * sz ≤ blk.cells.length then (mapO (lendF d h) ((blk.cells.drop off).take (len * sz))).map fun cells => .row (chunks sz cells len) else none) else none
      | none => none
    | .ptr id off => match h.hp id with
      | some blk => if blk.wr = true then (mapO (lendF d h) (blk.cells.drop off)).map .ip else none
      | none => none
    | _ => none
theorem lendF_sound {c : Cx} (hH : HRep c) {S0 : Nat → Prop} (hA : ∀ id blk, c.h.hp id = some blk → blk.wr = true → S0 (c.φ id).1) : ∀ (d : Nat) (v : Value) (a a' : AV), lendF d c.h a = some a' → VRep c v a → VRep (Cx0 c.w S0) v a' ∧ imm a' = true
  | d, v, a, a', h, hv => by
    have tr : atom a = true → VRep (Cx0 c.w S0) v a ∧ imm a = true := fun hi => by
      cases a <;> simp only [atom, Bool.false_eq_true] at hi
      · exact ⟨trivial, rfl⟩
      · exact ⟨by simpa [VRep] using hv, rfl⟩
    cases d with
    | zero =>
      simp only [lendF] at h
      split at h
      · cases h; exact tr (by assumption)
      · cases h
    | succ d =>
      have ih := lendF_sound hH hA d
      have lst : ∀ (vs : List Value) (as as' : List AV), mapO (lendF d c.h) as = some as' → Reps c vs as → Reps (Cx0 c.w S0) vs as' ∧ imms as' = true := fun vs as as' h hr => by
        refine ⟨Reps.of_get (by rw [hr.length, mapO_length h]) fun i u x hu hx => ?_, imms_of_get fun i x hx => ?_⟩
        · obtain ⟨y, hy, e⟩ := mapO_get h hx
          obtain ⟨u', h1, h2⟩ := hr.get hy
          rw [hu] at h1
          cases h1
          exact (ih u y x e h2).1
        · obtain ⟨y, hy, e⟩ := mapO_get h hx
          obtain ⟨u', h1, h2⟩ := hr.get hy
          exact (ih u' y x e h2).2
      have cel : ∀ (b off : Nat) (as as' : List AV), mapO (lendF d c.h) as = some as' → CRep c b off as → CRep (Cx0 c.w S0) b off as' ∧ imms as' = true := fun b off as as' h hr => by
        refine ⟨CRep.of_get fun i x hx => ?_, imms_of_get fun i x hx => ?_⟩
        · obtain ⟨y, hy, e⟩ := mapO_get h hx
          obtain ⟨u', h1, h2⟩ := hr.get hy
          exact ⟨u', h1, (ih u' y x e h2).1⟩
        · obtain ⟨y, hy, e⟩ := mapO_get h hx
          obtain ⟨u', h1, h2⟩ := hr.get hy
          exact (ih u' y x e h2).2
      simp only [lendF] at h
      split at h
      · cases h; exact tr (by assumption)
      · split at h
        · cases h
          simp only [VRep] at hv
          obtain ⟨a, rfl⟩ := hv
          exact ⟨by simp only [VRep]; exact ⟨a, 0, rfl, by simp, fun hh => absurd rfl hh⟩, rfl⟩
        · rename_i cs
          simp only [Option.map_eq_some_iff] at h
          obtain ⟨cs', h1, rfl⟩ := h
          simp only [VRep] at hv ⊢
          obtain ⟨arr, e, hr⟩ := hv
          exact ⟨⟨arr, e, (lst _ _ _ h1 hr).1⟩, by simp only [imm]; exact (lst _ _ _ h1 hr).2⟩
        · rename_i cs
          simp only [Option.map_eq_some_iff] at h
          obtain ⟨cs', h1, rfl⟩ := h
          simp only [VRep] at hv ⊢
          obtain ⟨arr, e, hr⟩ := hv
          exact ⟨⟨arr, e, (lst _ _ _ h1 hr).1⟩, by simp only [imm]; exact (lst _ _ _ h1 hr).2⟩
        · rename_i f cs
          simp only [Option.map_eq_some_iff] at h
          obtain ⟨cs', h1, rfl⟩ := h
          simp only [VRep] at hv ⊢
          obtain ⟨arr, e, hr⟩ := hv
          exact ⟨⟨arr, e, (lst _ _ _ h1 hr).1⟩, by simp only [imm]; exact (lst _ _ _ h1 hr).2⟩
        · rename_i id off len sz _
          simp only [VRep] at hv
          obtain ⟨hid, hv⟩ := hv
          split at h
          · rename_i blk hb
            obtain ⟨_, _, hcr, _⟩ := hH.blk id blk hb
            by_cases hwr : blk.wr = true
            rotate_left
            · rw [if_neg hwr] at h; cases h
            rw [if_pos hwr] at h
            split at h
            · rename_i h0
              cases h
              subst h0
              refine ⟨?_, rfl⟩
              simp only [VRep]
              rcases hv with ⟨cap, rfl, hc, h7⟩ | ⟨_, a, rfl⟩
              · exact ⟨_, cap, rfl, by simp, fun hh => absurd rfl hh⟩
              · exact ⟨a, 0, rfl, by simp, fun hh => absurd rfl hh⟩
            · rename_i h0
              split at h
              · rename_i hl
                simp only [Option.map_eq_some_iff] at h
                obtain ⟨cells, h1, rfl⟩ := h
                have hlc : cells.length = len * sz := by rw [mapO_length h1]; simp; omega
                rcases hv with ⟨cap, rfl, hc, h7⟩ | ⟨h0', _⟩
                · obtain ⟨h8, h9⟩ := cel _ _ _ _ h1 ((hcr.drop off).take (len * sz))
                  refine ⟨?_, ?_⟩
                  · simp only [VRep]
                    refine ⟨some ⟨(c.φ id).1, (c.φ id).2 + off, none⟩, cap, by simp [chunks], by simpa [chunks] using hc, fun _ => ⟨_, _, sz, rfl, hA id blk hb hwr, RRep.of_get fun i x hx => ?_⟩⟩
                    simp only [chunks, List.getElem?_map, Option.map_eq_some_iff] at hx
                    obtain ⟨k, hk, rfl⟩ := hx
                    have hk' : k = i ∧ i < len := by
                      rw [List.getElem?_eq_some_iff] at hk
                      obtain ⟨hlt, hk⟩ := hk
                      simp at hk hlt
                      omega
                    obtain ⟨rfl, hlt⟩ := hk'
                    have hle : k * sz + sz ≤ len * sz := by
                      have := mul_le_of (a := k + 1) (b := len) (s := sz) (by omega)
                      rwa [Nat.add_mul, Nat.one_mul] at this
                    exact ⟨by simp; omega, (h8.drop (k * sz)).take sz⟩
                  · simp only [imm]
                    refine immss_of_get fun i x hx => imms_of_get fun j y hy => ?_
                    simp only [chunks, List.getElem?_map, Option.map_eq_some_iff] at hx
                    obtain ⟨k, hk, rfl⟩ := hx
                    rw [List.getElem?_take] at hy
                    split at hy
                    · rw [List.getElem?_drop] at hy
                      exact imms_get h9 hy
                    · cases hy
                · exact absurd h0' h0
              · cases h
          · cases h
        · rename_i id off _
          simp only [VRep] at hv
          obtain ⟨hid, rfl⟩ := hv
          split at h
          · rename_i blk hb
            obtain ⟨_, _, hcr, _⟩ := hH.blk id blk hb
            by_cases hwr : blk.wr = true
            rotate_left
            · rw [if_neg hwr] at h; cases h
            rw [if_pos hwr] at h
            simp only [Option.map_eq_some_iff] at h
            obtain ⟨cells, h1, rfl⟩ := h
            obtain ⟨h8, h9⟩ := cel _ _ _ _ h1 (hcr.drop off)
            exact ⟨by simp only [VRep]; exact ⟨_, _, rfl, hA id blk hb hwr, h8⟩, by simp only [imm]; exact h9⟩
          · cases h
        · cases h

end Go.Proofs.Hx
