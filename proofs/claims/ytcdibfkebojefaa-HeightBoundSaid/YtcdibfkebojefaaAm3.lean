import Derived.Test.YtcdibfkebojefaaAm2
set_option linter.unusedVariables false
set_option linter.unusedSimpArgs false
namespace Go.Proofs.Hx
section
variable {P : Program} {c : Cx}

theorem run_sizeOf' {t : TypeId} {i : TypeInfo} (h : P.info? t = some i) (w : World) : (sizeOf t).run P w = .ok i.size w := by simp [sizeOf, typeInfo, h]

theorem run_indexAt_slice {t e : TypeId} {ie : TypeInfo} (hu : P.underlying t = some (.slice e)) (hi : P.info? e = some ie) (w : World) (a : Addr) (len cap : Nat) (k : IntKind) (i : Int) (h0 : 0 ≤ i) (h1 : i < len) :
    (Instr.indexAt t (.slice (some a) len cap) (.int k i)).run P w = .ok (.pointer (some (a.add (i.toNat * ie.size)))) w := by
  simp [Instr.indexAt, asIntOf, run_underlying hu, run_sizeOf' hi, h0, h1]
theorem run_indexAt_arr {t e : TypeId} {ie : TypeInfo} {n : Nat} (hu : P.underlying t = some (.array n e)) (hi : P.info? e = some ie) (w : World) (a : Addr) (k : IntKind) (i : Int) (h0 : 0 ≤ i) (h1 : i < n) :
    (Instr.indexAt t (.pointer (some a)) (.int k i)).run P w = .ok (.pointer (some (a.add (i.toNat * ie.size)))) w := by
  simp [Instr.indexAt, asIntOf, run_underlying hu, run_sizeOf' hi, h0, h1, Instr.sureAddr]

theorem idxAddr_slice {t e : TypeId} {ie : TypeInfo} (hu : P.underlying t = some (.slice e)) (hi : P.info? e = some ie) {x i : Value} {xa ia r : AV} (hx : VRep c x xa) (hv : VRep c i ia)
    (h : idxAddrV none ie.size xa ia = some r) : Gives P c (Instr.indexAt t x i) r := by
  unfold idxAddrV at h
  split at h
  · rename_i id off len sz' k n
    split at h
    · rename_i hc
      obtain ⟨-, h2, h3, h4⟩ := hc
      subst h2
      cases h
      have := hv.lit
      subst this
      simp only [VRep] at hx
      obtain ⟨h5, ⟨cap, rfl, h6, h7⟩ | ⟨rfl, _⟩⟩ := hx
      · refine ⟨_, run_indexAt_slice hu hi c.w _ len cap k n h3 h4, ?_⟩
        simp only [VRep]
        exact ⟨h5, by rw [add_addr, Nat.add_assoc]⟩
      · simp at h4; omega
    · cases h
  · rename_i xs k n
    split at h
    · rename_i hc
      obtain ⟨-, h3⟩ := hc
      split at h
      · rename_i cs hcs
        split at h
        · rename_i hl
          cases h
          have := hv.lit
          subst this
          simp only [VRep] at hx
          obtain ⟨addr, cap, rfl, _, hb⟩ := hx
          have hlt : n.toNat < xs.length := (List.getElem?_eq_some_iff.1 hcs).1
          obtain ⟨b, off, sz, rfl, hs, hr⟩ := hb (by intro e; subst e; simp at hlt)
          obtain ⟨h6, h7⟩ := hr.get hcs
          refine ⟨_, run_indexAt_slice hu hi c.w _ xs.length cap k n h3 (by omega), ?_⟩
          simp only [VRep]
          refine ⟨b, off + n.toNat * ie.size, by rw [add_addr], hs, ?_⟩
          rw [← hl, h6]
          exact h7
        · cases h
      · cases h
    · cases h
  · simp at h
  · simp at h
  · cases h

theorem idxAddr_arr {t e : TypeId} {ie : TypeInfo} {m : Nat} (hu : P.underlying t = some (.array m e)) (hi : P.info? e = some ie) {x i : Value} {xa ia r : AV} (hx : VRep c x xa) (hv : VRep c i ia)
    (h : idxAddrV (some m) ie.size xa ia = some r) : Gives P c (Instr.indexAt t x i) r := by
  unfold idxAddrV at h
  split at h
  · simp at h
  · simp at h
  · rename_i id off k n
    split at h
    · rename_i m' hm
      cases hm
      split at h
      · rename_i hc
        cases h
        have := hv.lit
        subst this
        simp only [VRep] at hx
        obtain ⟨h5, rfl⟩ := hx
        refine ⟨_, run_indexAt_arr hu hi c.w _ k n hc.1 hc.2, ?_⟩
        simp only [VRep]
        exact ⟨h5, by rw [add_addr, Nat.add_assoc]⟩
      · cases h
    · cases h
  · rename_i cs k n
    split at h
    · rename_i m' hm
      cases hm
      split at h
      · rename_i hc
        cases h
        have := hv.lit
        subst this
        simp only [VRep] at hx
        obtain ⟨b, off, rfl, hs, hr⟩ := hx
        refine ⟨_, run_indexAt_arr hu hi c.w _ k n hc.1 hc.2, ?_⟩
        simp only [VRep]
        exact ⟨b, _, by rw [add_addr], hs, hr.drop _⟩
      · cases h
    · cases h
  · cases h

theorem fieldAddr_sound {t : TypeId} {fs : Array Field} {f : Nat} {fd : Field} {i : TypeInfo} (hu : P.underlying t = some (.struct fs)) (hf : fs[f]? = some fd) (hi : P.info? fd.type = some i) (hz : i.size ≠ 0)
    {x : Value} {xa r : AV} (hx : VRep c x xa) (h : pureV (.fieldAddr fd.offset (.c xa)) (fun y => match y with | .c v => v | .t _ => .undef) = some r) : Gives P c (Instr.fieldAt t x f) r := by
  simp only [pureV] at h
  have key : ∀ (b off : Nat), (Instr.fieldAt t (.pointer (some ⟨b, off, none⟩)) f).run P c.w = .ok (.pointer (some ⟨b, off + fd.offset, none⟩)) c.w := by
    intro b off
    simp [Instr.fieldAt, run_underlying hu, hf, Instr.sureAddr, fieldPlace, run_sizeOf' hi, hz, add_addr]
  split at h
  · cases h
    simp only [VRep] at hx
    obtain ⟨h5, rfl⟩ := hx
    exact ⟨_, key _ _, by simp only [VRep]; exact ⟨h5, by rw [Nat.add_assoc]⟩⟩
  · cases h
    simp only [VRep] at hx
    obtain ⟨b, off, rfl, hs, hr⟩ := hx
    exact ⟨_, key _ _, by simp only [VRep]; exact ⟨b, _, rfl, hs, hr.drop _⟩⟩
  · cases h

theorem run_sliceBound {w : World} {k : IntKind} {i : Int} {y : Nat} {code : BoundsCode} (h0 : 0 ≤ i) (h1 : i.toNat ≤ y) : (Instr.sliceBound (.int k i) y code).run P w = .ok i.toNat w := by
  have : i ≤ (y : Int) := by omega
  simp [Instr.sliceBound, asIntOf, h0, this]

/-- The bounds of a slice expression. -/
theorem run_sliceBounds {isSlice : Bool} {len cap : Nat} {lo hi mx : Option Value} {loA hiA mxA : Option AV} {l h m : Nat}
    (rlo : ∀ x, loA = some x → ∃ v, lo = some v ∧ VRep c v x) (nlo : loA = none → lo = none)
    (rhi : ∀ x, hiA = some x → ∃ v, hi = some v ∧ VRep c v x) (nhi : hiA = none → hi = none)
    (rmx : ∀ x, mxA = some x → ∃ v, mx = some v ∧ VRep c v x) (nmx : mxA = none → mx = none)
    (hmh : (mxA.isSome && hiA.isNone) = false)
    (h1 : bound 0 loA = some l) (h2 : bound len hiA = some h) (h3 : ∀ d, mxA ≠ none → bound d mxA = some m) (hm0 : mxA = none → m = cap)
    (hl : l ≤ h) (hh : h ≤ m) (hmc : m ≤ cap) :
    (Instr.sliceBounds isSlice len cap lo hi mx).run P c.w = .ok (l, h, m) c.w := by
  have bi : ∀ (d : Nat) (x : AV) (n : Nat), bound d (some x) = some n → ∃ k i, x = .lit (.int k i) ∧ 0 ≤ i ∧ i.toNat = n := by
    intro d x n hb
    unfold bound at hb
    split at hb
    · simp at *
    · rename_i k i he
      split at hb
      · simp at he; cases hb; exact ⟨_, _, he, by assumption, rfl⟩
      · cases hb
    · cases hb
  have cm : (mx = none ∧ m = cap) ∨ ∃ k i, mx = some (.int k i) ∧ 0 ≤ i ∧ i.toNat = m := by
    cases hmx : mxA with
    | none => exact .inl ⟨nmx hmx, hm0 hmx⟩
    | some x =>
      obtain ⟨v, rfl, hv⟩ := rmx x hmx
      obtain ⟨k, i, rfl, h0, h4⟩ := bi 0 x m (by rw [← hmx]; exact h3 0 (by simp [hmx]))
      have := hv.lit; subst this
      exact .inr ⟨k, i, rfl, h0, h4⟩
  have ch : (hi = none ∧ mx = none ∧ h = len) ∨ ∃ k i, hi = some (.int k i) ∧ 0 ≤ i ∧ i.toNat = h := by
    cases hhi : hiA with
    | none =>
      have hmx : mxA = none := by cases hx : mxA with | none => rfl | some _ => simp [hx, hhi] at hmh
      rw [hhi] at h2
      simp [bound] at h2
      exact .inl ⟨nhi hhi, nmx hmx, h2.symm⟩
    | some x =>
      obtain ⟨v, rfl, hv⟩ := rhi x hhi
      obtain ⟨k, i, rfl, h0, h4⟩ := bi len x h (by rw [← hhi]; exact h2)
      have := hv.lit; subst this
      exact .inr ⟨k, i, rfl, h0, h4⟩
  have cl : (lo = none ∧ l = 0) ∨ ∃ k i, lo = some (.int k i) ∧ 0 ≤ i ∧ i.toNat = l := by
    cases hlo : loA with
    | none => rw [hlo] at h1; simp [bound] at h1; exact .inl ⟨nlo hlo, h1.symm⟩
    | some x =>
      obtain ⟨v, rfl, hv⟩ := rlo x hlo
      obtain ⟨k, i, rfl, h0, h4⟩ := bi 0 x l (by rw [← hlo]; exact h1)
      have := hv.lit; subst this
      exact .inr ⟨k, i, rfl, h0, h4⟩
  clear rlo nlo rhi nhi rmx nmx hmh h1 h2 h3 hm0 bi
  unfold Instr.sliceBounds
  rcases cm with ⟨rfl, rfl⟩ | ⟨km, im, rfl, hm0, rfl⟩ <;> rcases ch with ⟨rfl, he, rfl⟩ | ⟨kh, ih, rfl, hh0, rfl⟩ <;> rcases cl with ⟨rfl, rfl⟩ | ⟨kl, il, rfl, hl0, rfl⟩ <;>
    first
    | (cases he; done)
    | (simp [run_sliceBound, *]; done)
    | skip

end
end Go.Proofs.Hx
