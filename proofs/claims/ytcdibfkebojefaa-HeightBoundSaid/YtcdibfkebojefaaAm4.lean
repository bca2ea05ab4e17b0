import Derived.Test.YtcdibfkebojefaaAm3
set_option linter.unusedVariables false
set_option linter.unusedSimpArgs false
namespace Go.Proofs.Hx
section
variable {P : Program} {c : Cx}

/-- An optional operand. -/
def ORep (c : Cx) (v : Option Value) (x : Option AV) : Prop :=
  match v, x with
  | none, none => True
  | some v, some x => VRep c v x
  | _, _ => False
theorem ORep.yes {v : Option Value} {x : Option AV} (h : ORep c v x) : ∀ y, x = some y → ∃ u, v = some u ∧ VRep c u y := by
  intro y hy; subst hy; cases v with
  | none => exact h.elim
  | some u => exact ⟨u, rfl, h⟩
theorem ORep.no {v : Option Value} {x : Option AV} (h : ORep c v x) : x = none → v = none := by
  intro hy; subst hy; cases v with
  | none => rfl
  | some u => exact h.elim

theorem bound_some {d : Nat} {x : Option AV} {n : Nat} (h : bound d x = some n) : ∀ e, x ≠ none → bound e x = some n := by
  intro e hx
  cases x with
  | none => exact absurd rfl hx
  | some y => unfold bound at h ⊢; split at h <;> simp_all

theorem mul_le_of {a b s : Nat} (h : a ≤ b) : a * s ≤ b * s := Nat.mul_le_mul_right s h

/-- A piece of a slice of the abstract heap. -/
theorem sl_piece {id : Id} {off n sz l h m cap : Nat} {v : Value} (hid : c.al id) (hlh : l ≤ h) (hhn : h ≤ n) (hhm : h ≤ m) (hmc : m ≤ cap)
    (hb : ∀ blk, c.h.hp id = some blk → off + n * sz ≤ blk.cells.length ∧ ∃ arr el fr, c.w.heap[(c.φ id).1]? = some (.cells arr el fr) ∧ (c.φ id).2 + off + cap * sz ≤ arr.size) :
    VRep c (.slice (if m = l then some ⟨(c.φ id).1, (c.φ id).2 + off, none⟩ else some ⟨(c.φ id).1, (c.φ id).2 + off + l * sz, none⟩) (h - l) (m - l)) (.sl id (off + l * sz) (h - l) sz) := by
  simp only [VRep]
  refine ⟨hid, ?_⟩
  by_cases e : m = l
  · subst e
    exact .inr ⟨by omega, _, by congr 1 <;> omega⟩
  · refine .inl ⟨m - l, by rw [if_neg e, Nat.add_assoc], by omega, fun blk hblk => ?_⟩
    obtain ⟨h1, arr, el, fr, h2, h3⟩ := hb blk hblk
    have e1 : l * sz + (h - l) * sz ≤ n * sz := by rw [← Nat.add_mul]; exact mul_le_of (by omega)
    have e2 : l * sz + (m - l) * sz ≤ cap * sz := by rw [← Nat.add_mul]; exact mul_le_of (by omega)
    exact ⟨by omega, arr, el, fr, h2, by omega⟩

theorem run_sliceAt_slice {t e : TypeId} {ie : TypeInfo} (hu : P.underlying t = some (.slice e)) (hi : P.info? e = some ie) {a : Option Addr} {len cap l h m : Nat} {lo hi' mx : Option Value}
    (hb : (Instr.sliceBounds true len cap lo hi' mx).run P c.w = .ok (l, h, m) c.w) :
    (Instr.sliceAt t (.slice a len cap) lo hi' mx).run P c.w = .ok (.slice (if m = l then a else a.map (·.add (l * ie.size))) (h - l) (m - l)) c.w := by
  simp [Instr.sliceAt, Instr.slice, run_underlying hu, hb, run_sizeOf' hi]
theorem run_sliceAt_arr {t e : TypeId} {ie : TypeInfo} {n : Nat} (hu : P.underlying t = some (.array n e)) (hi : P.info? e = some ie) {a : Addr} {l h m : Nat} {lo hi' mx : Option Value}
    (hb : (Instr.sliceBounds false n n lo hi' mx).run P c.w = .ok (l, h, m) c.w) :
    (Instr.sliceAt t (.pointer (some a)) lo hi' mx).run P c.w = .ok (.slice (some (if m = l then a else a.add (l * ie.size))) (h - l) (m - l)) c.w := by
  simp [Instr.sliceAt, run_underlying hu, hb, run_sizeOf' hi, Instr.sureAddr]

/-- The bounds, where no third is given: the real one is the capacity. -/
theorem bounds_cap {isSlice : Bool} {n cap l h m : Nat} {lo hi' mx : Option Value} {loA hiA mxA : Option AV} (h1 : ORep c lo loA) (h2 : ORep c hi' hiA) (h3 : ORep c mx mxA)
    (hmh : (mxA.isSome && hiA.isNone) = false) (hn : n ≤ cap) (b1 : bound 0 loA = some l) (b2 : bound n hiA = some h) (b3 : bound n mxA = some m) (c1 : l ≤ h) (c2 : h ≤ m) (c3 : m ≤ n) :
    ∃ m', h ≤ m' ∧ m' ≤ cap ∧ (Instr.sliceBounds isSlice n cap lo hi' mx).run P c.w = .ok (l, h, m') c.w := by
  have key : ∃ m', (mxA = none → m' = cap) ∧ (∀ d, mxA ≠ none → bound d mxA = some m') ∧ h ≤ m' ∧ m' ≤ cap := by
    cases hm : mxA with
    | none => exact ⟨cap, fun _ => rfl, fun _ hh => absurd rfl hh, by omega, Nat.le_refl _⟩
    | some y => exact ⟨m, fun hh => (by cases hh), fun d hh => by rw [hm] at b3; exact bound_some b3 d hh, c2, by omega⟩
  obtain ⟨m', k1, k2, k3, k4⟩ := key
  exact ⟨m', k3, k4, run_sliceBounds (P := P) (c := c) h1.yes h1.no h2.yes h2.no h3.yes h3.no hmh b1 b2 k2 k1 c1 k3 k4⟩

theorem slice_slice {t e : TypeId} {ie : TypeInfo} (hu : P.underlying t = some (.slice e)) (hi : P.info? e = some ie) {x : Value} {lo hi' mx : Option Value} {xa r : AV} {loA hiA mxA : Option AV} (hx : VRep c x xa)
    (h1 : ORep c lo loA) (h2 : ORep c hi' hiA) (h3 : ORep c mx mxA) (h : sliceV none ie.size xa loA hiA mxA = some r) : Gives P c (Instr.sliceAt t x lo hi' mx) r := by
  unfold sliceV at h
  by_cases hmh : (mxA.isSome && hiA.isNone) = true
  · rw [if_pos hmh] at h; cases h
  rw [if_neg hmh] at h
  have hmh : (mxA.isSome && hiA.isNone) = false := by cases hq : (mxA.isSome && hiA.isNone) <;> simp_all
  cases xa <;> simp only [reduceCtorEq] at h
  case sl id off n sz' =>
    split at h
    · rename_i l h' m b1 b2 b3
      split at h
      · rename_i hc
        obtain ⟨c1, c2, c3, e0⟩ := hc
        subst e0
        cases h
        simp only [VRep] at hx
        obtain ⟨hid, ⟨cap, rfl, h6, h7⟩ | ⟨h00, a, rfl⟩⟩ := hx
        · obtain ⟨m', k3, k4, hb⟩ := bounds_cap (P := P) (c := c) (isSlice := true) h1 h2 h3 hmh h6 b1 b2 b3 c1 c2 c3
          refine ⟨_, run_sliceAt_slice hu hi hb, ?_⟩
          have := sl_piece (c := c) (id := id) (off := off) (n := n) (sz := ie.size) (l := l) (h := h') (m := m') (cap := cap) (v := .nilFunc) hid c1 (by omega) k3 k4 h7
          simpa [add_addr] using this
        · subst h00
          obtain ⟨m', k3, k4, hb⟩ := bounds_cap (P := P) (c := c) (isSlice := true) h1 h2 h3 hmh (Nat.le_refl 0) b1 b2 b3 c1 c2 c3
          refine ⟨_, run_sliceAt_slice hu hi hb, ?_⟩
          simp only [VRep]
          exact ⟨hid, .inr ⟨by omega, (if m' = l then a else a.map (·.add (l * ie.size))), by congr 1 <;> omega⟩⟩
      · cases h
    · cases h
  case row xs =>
    split at h
    · rename_i l h' m b1 b2 b3
      split at h
      · rename_i hc
        obtain ⟨c1, c2, c3, hall⟩ := hc
        cases h
        simp only [VRep] at hx
        obtain ⟨addr, cap, rfl, h6, h7⟩ := hx
        obtain ⟨m', k3, k4, hb⟩ := bounds_cap (P := P) (c := c) (isSlice := true) h1 h2 h3 hmh h6 b1 b2 b3 c1 c2 c3
        refine ⟨_, run_sliceAt_slice hu hi hb, ?_⟩
        simp only [VRep]
        have hlen : ((xs.drop l).take (h' - l)).length = h' - l := by simp; omega
        refine ⟨(if m' = l then addr else addr.map (·.add (l * ie.size))), m' - l, by rw [hlen], by rw [hlen]; omega, fun hne => ?_⟩
        have hne' : xs ≠ [] := by intro e; subst e; simp at hne
        obtain ⟨b, off, sz, rfl, hs, hr⟩ := h7 hne'
        have hlt : l < h' := by
          rcases Nat.lt_or_ge l h' with g | g
          · exact g
          · have : h' - l = 0 := by omega
            rw [this] at hne; simp at hne
        have hx0 : ∃ y, xs[l]? = some y := ⟨xs[l]'(by omega), List.getElem?_eq_getElem (by omega)⟩
        obtain ⟨y, hy⟩ := hx0
        have hsz : sz = ie.size := by
          have := (hr.get hy).1
          have h8 := List.all_eq_true.1 hall y (List.mem_of_getElem? hy)
          simp at h8
          omega
        subst hsz
        refine ⟨b, off + l * ie.size, ie.size, by rw [if_neg (by omega)]; simp [add_addr], hs, RRep.of_get fun i z hz => ?_⟩
        rw [List.getElem?_take] at hz
        split at hz
        · rw [List.getElem?_drop] at hz
          have := hr.get hz
          rwa [Nat.add_mul, ← Nat.add_assoc] at this
        · cases hz
      · cases h
    · cases h
  case nil =>
    split at h
    · rename_i b1 b2 b3
      cases h
      simp only [VRep] at hx
      obtain ⟨a, rfl⟩ := hx
      obtain ⟨m', k3, k4, hb⟩ := bounds_cap (P := P) (c := c) (isSlice := true) h1 h2 h3 hmh (Nat.le_refl 0) b1 b2 b3 (Nat.le_refl _) (Nat.le_refl _) (Nat.le_refl _)
      refine ⟨_, run_sliceAt_slice hu hi hb, ?_⟩
      simp only [VRep]
      exact ⟨(if m' = 0 then a else a.map (·.add (0 * ie.size))), by congr 1; omega⟩
    · cases h

theorem slice_arr {t e : TypeId} {ie : TypeInfo} {n : Nat} (hu : P.underlying t = some (.array n e)) (hi : P.info? e = some ie) {x : Value} {lo hi' mx : Option Value} {xa r : AV} {loA hiA mxA : Option AV} (hx : VRep c x xa)
    (h1 : ORep c lo loA) (h2 : ORep c hi' hiA) (h3 : ORep c mx mxA) (hH : HRep c) (hn : ∀ id off, xa = .ptr id off → ∀ blk, c.h.hp id = some blk → off + n * ie.size ≤ blk.cells.length)
    (h : sliceV (some n) ie.size xa loA hiA mxA = some r) : Gives P c (Instr.sliceAt t x lo hi' mx) r := by
  unfold sliceV at h
  by_cases hmh : (mxA.isSome && hiA.isNone) = true
  · rw [if_pos hmh] at h; cases h
  rw [if_neg hmh] at h
  have hmh : (mxA.isSome && hiA.isNone) = false := by cases hq : (mxA.isSome && hiA.isNone) <;> simp_all
  cases xa <;> simp only [reduceCtorEq] at h
  case ptr id off =>
    split at h
    · rename_i l h' m b1 b2 b3
      split at h
      · rename_i hc
        obtain ⟨c1, c2, c3⟩ := hc
        cases h
        simp only [VRep] at hx
        obtain ⟨hid, rfl⟩ := hx
        obtain ⟨m', k3, k4, hb⟩ := bounds_cap (P := P) (c := c) (isSlice := false) h1 h2 h3 hmh (Nat.le_refl n) b1 b2 b3 c1 c2 c3
        refine ⟨_, run_sliceAt_arr hu hi hb, ?_⟩
        have := sl_piece (c := c) (id := id) (off := off) (n := n) (sz := ie.size) (l := l) (h := h') (m := m') (cap := n) (v := .nilFunc) hid c1 (by omega) k3 k4 (fun blk hblk => by
          obtain ⟨_, ⟨arr, el, g1, g2⟩, _⟩ := hH.blk id blk hblk
          have := hn id off rfl blk hblk
          exact ⟨this, arr, el, _, g1, by omega⟩)
        by_cases e : m' = l <;> simp [e, add_addr] at this ⊢ <;> exact this
      · cases h
    · cases h
end
end Go.Proofs.Hx
