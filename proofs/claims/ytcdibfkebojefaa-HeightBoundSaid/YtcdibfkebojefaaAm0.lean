import Derived.Orders
set_option linter.unusedVariables false
set_option linter.unusedSimpArgs false
namespace Go.Proofs.Hx

/-- A block of the abstract heap: when it was made, and for which slot. -/
abbrev Id := Nat × Nat

/-- Abstract values. -/
inductive AV where
  | undef
  | lit (v : Value)
  | agg (cs : List AV)
  | tup (vs : List AV)
  | row (xs : List (List AV))
  | nil
  | sl (id : Id) (off len sz : Nat)
  | ptr (id : Id) (off : Nat)
  | ip (cs : List AV)
  | fn (f : Nat) (caps : List AV)
  | map (id : Id)
  deriving Inhabited

structure Blk where
  wr : Bool
  cells : List AV

/-- The abstract heap. -/
structure Hp where
  hp : Id → Option Blk
  mp : Id → Option (List (AV × AV))
  ep : Nat

/-- What an abstract heap stands for. -/
structure Cx where
  w : World
  S : Nat → Prop
  h : Hp
  φ : Id → Nat × Nat
  al : Id → Prop

mutual
def VRep (c : Cx) (v : Value) : AV → Prop
  | .undef => True
  | .lit u => v = u
  | .agg cs => ∃ arr, v = .agg arr ∧ Reps c arr.toList cs
  | .tup cs => ∃ arr, v = .tuple arr ∧ Reps c arr.toList cs
  | .nil => ∃ a, v = .slice a 0 0
  | .row xs => ∃ addr cap, v = .slice addr xs.length cap ∧ xs.length ≤ cap ∧ (xs ≠ [] → ∃ b off sz, addr = some ⟨b, off, none⟩ ∧ c.S b ∧ RRep c b sz off xs)
  | .sl id off len sz => c.al id ∧
      ((∃ cap, v = .slice (some ⟨(c.φ id).1, (c.φ id).2 + off, none⟩) len cap ∧ len ≤ cap ∧ ∀ blk, c.h.hp id = some blk → off + len * sz ≤ blk.cells.length ∧
        ∃ arr el fr, c.w.heap[(c.φ id).1]? = some (.cells arr el fr) ∧ (c.φ id).2 + off + cap * sz ≤ arr.size) ∨ (len = 0 ∧ ∃ a, v = .slice a 0 0))
  | .ptr id off => c.al id ∧ v = .pointer (some ⟨(c.φ id).1, (c.φ id).2 + off, none⟩)
  | .ip cs => ∃ b off, v = .pointer (some ⟨b, off, none⟩) ∧ c.S b ∧ CRep c b off cs
  | .fn f caps => ∃ arr, v = .func (.func f) #[] arr ∧ Reps c arr.toList caps
  | .map id => c.al id ∧ v = .map (some (c.φ id).1)
def Reps (c : Cx) : List Value → List AV → Prop
  | [], [] => True
  | v :: vs, x :: xs => VRep c v x ∧ Reps c vs xs
  | _, _ => False
def CRep (c : Cx) (b off : Nat) : List AV → Prop
  | [] => True
  | x :: xs => (∃ v, c.w.cell? ⟨b, off, none⟩ = some v ∧ VRep c v x) ∧ CRep c b (off + 1) xs
def RRep (c : Cx) (b sz off : Nat) : List (List AV) → Prop
  | [] => True
  | x :: xs => x.length = sz ∧ CRep c b off x ∧ RRep c b sz (off + sz) xs
end

/-- 'c'' comes after 'c': what stood for something in 'c' does so in 'c''. -/
structure Le (c c' : Cx) : Prop where
  S : ∀ b, c.S b → c'.S b ∧ c'.w.heap[b]? = c.w.heap[b]?
  al : ∀ id, c.al id → c'.al id
  φ : ∀ id, c.al id → c'.φ id = c.φ id
  ids : ∀ id, c.al id → ∀ blk', c'.h.hp id = some blk' → ∃ blk, c.h.hp id = some blk ∧ blk.cells.length = blk'.cells.length ∧
    ∀ arr el fr, c.w.heap[(c.φ id).1]? = some (.cells arr el fr) → ∃ arr', c'.w.heap[(c.φ id).1]? = some (.cells arr' el fr) ∧ arr'.size = arr.size

theorem cell_of_heap {w w' : World} {b off : Nat} (h : w'.heap[b]? = w.heap[b]?) : w'.cell? ⟨b, off, none⟩ = w.cell? ⟨b, off, none⟩ := by
  simp only [World.cell?, h]

mutual
theorem VRep.mono {c c' : Cx} (h : Le c c') (v : Value) : ∀ a : AV, VRep c v a → VRep c' v a
  | .undef, _ => trivial
  | .lit u, hv => by simpa [VRep] using hv
  | .agg cs, hv => by
    simp only [VRep] at hv ⊢
    obtain ⟨arr, e, hr⟩ := hv
    exact ⟨arr, e, Reps.mono h _ cs hr⟩
  | .tup cs, hv => by
    simp only [VRep] at hv ⊢
    obtain ⟨arr, e, hr⟩ := hv
    exact ⟨arr, e, Reps.mono h _ cs hr⟩
  | .nil, hv => by simpa [VRep] using hv
  | .row xs, hv => by
    simp only [VRep] at hv ⊢
    obtain ⟨addr, cap, e, hc, hr⟩ := hv
    refine ⟨addr, cap, e, hc, fun hx => ?_⟩
    obtain ⟨b, off, sz, e1, hs, hr⟩ := hr hx
    exact ⟨b, off, sz, e1, (h.S b hs).1, RRep.mono h b sz (h.S b hs).2 off xs hr⟩
  | .sl id off len sz, hv => by
    simp only [VRep] at hv ⊢
    obtain ⟨h1, h2⟩ := hv
    refine ⟨h.al id h1, ?_⟩
    rw [h.φ id h1]
    rcases h2 with ⟨cap, e, hc, h3⟩ | h3
    · refine .inl ⟨cap, e, hc, fun blk' hb => ?_⟩
      obtain ⟨blk, g1, g2, g4⟩ := h.ids id h1 blk' hb
      obtain ⟨h4, arr, el, fr, e2, h5⟩ := h3 blk g1
      obtain ⟨arr', e3, e4⟩ := g4 arr el fr e2
      exact ⟨by omega, arr', el, fr, e3, by omega⟩
    · exact .inr h3
  | .ptr id off, hv => by
    simp only [VRep] at hv ⊢
    rw [h.φ id hv.1]
    exact ⟨h.al id hv.1, hv.2⟩
  | .ip cs, hv => by
    simp only [VRep] at hv ⊢
    obtain ⟨b, off, e, hs, hr⟩ := hv
    exact ⟨b, off, e, (h.S b hs).1, CRep.mono h b (h.S b hs).2 off cs hr⟩
  | .fn f caps, hv => by
    simp only [VRep] at hv ⊢
    obtain ⟨arr, e, hr⟩ := hv
    exact ⟨arr, e, Reps.mono h _ caps hr⟩
  | .map id, hv => by
    simp only [VRep] at hv ⊢
    rw [h.φ id hv.1]
    exact ⟨h.al id hv.1, hv.2⟩
theorem Reps.mono {c c' : Cx} (h : Le c c') : ∀ (vs : List Value) (as : List AV), Reps c vs as → Reps c' vs as
  | [], [], _ => by simp [Reps]
  | v :: vs, x :: xs, hr => by
    simp only [Reps] at hr ⊢
    exact ⟨VRep.mono h v x hr.1, Reps.mono h vs xs hr.2⟩
  | [], _ :: _, hr => by simp [Reps] at hr
  | _ :: _, [], hr => by simp [Reps] at hr
theorem CRep.mono {c c' : Cx} (h : Le c c') (b : Nat) (hs : c'.w.heap[b]? = c.w.heap[b]?) : ∀ (off : Nat) (as : List AV), CRep c b off as → CRep c' b off as
  | _, [], _ => by simp [CRep]
  | off, x :: xs, hr => by
    simp only [CRep] at hr ⊢
    obtain ⟨⟨v, e, hv⟩, hr⟩ := hr
    exact ⟨⟨v, by rw [cell_of_heap hs]; exact e, VRep.mono h v x hv⟩, CRep.mono h b hs (off + 1) xs hr⟩
theorem RRep.mono {c c' : Cx} (h : Le c c') (b sz : Nat) (hs : c'.w.heap[b]? = c.w.heap[b]?) : ∀ (off : Nat) (as : List (List AV)), RRep c b sz off as → RRep c' b sz off as
  | _, [], _ => by simp [RRep]
  | off, x :: xs, hr => by
    simp only [RRep] at hr ⊢
    exact ⟨hr.1, CRep.mono h b hs off x hr.2.1, RRep.mono h b sz hs (off + sz) xs hr.2.2⟩
end

theorem Le.refl (c : Cx) : Le c c := ⟨fun b h => ⟨h, rfl⟩, fun id h => h, fun id _ => rfl, fun id _ blk h => ⟨blk, h, rfl, fun arr el fr h => ⟨arr, h, rfl⟩⟩⟩
theorem Le.trans {a b c : Cx} (h : Le a b) (k : Le b c) : Le a c := by
  refine ⟨fun x hx => ⟨(k.S x (h.S x hx).1).1, ((k.S x (h.S x hx).1).2).trans (h.S x hx).2⟩, fun id hid => k.al id (h.al id hid), fun id hid => (k.φ id (h.al id hid)).trans (h.φ id hid), fun id hid blk' hb => ?_⟩
  obtain ⟨blk1, g1, g2, g4⟩ := k.ids id (h.al id hid) blk' hb
  obtain ⟨blk, f1, f2, f4⟩ := h.ids id hid blk1 g1
  refine ⟨blk, f1, f2.trans g2, fun arr el fr e => ?_⟩
  obtain ⟨arr1, e1, z1⟩ := f4 arr el fr e
  rw [h.φ id hid] at g4
  obtain ⟨arr2, e2, z2⟩ := g4 arr1 el fr e1
  exact ⟨arr2, e2, z2.trans z1⟩

/-- The entries of a map. -/
def ERep (c : Cx) : List MapEntry → List (AV × AV) → Prop
  | [], [] => True
  | e :: es, x :: xs => (VRep c e.key x.1 ∧ VRep c e.val x.2) ∧ ERep c es xs
  | _, _ => False

theorem ERep.mono {c c' : Cx} (h : Le c c') : ∀ (es : List MapEntry) (xs : List (AV × AV)), ERep c es xs → ERep c' es xs
  | [], [], _ => by simp [ERep]
  | e :: es, x :: xs, hr => by
    simp only [ERep] at hr ⊢
    exact ⟨⟨VRep.mono h _ _ hr.1.1, VRep.mono h _ _ hr.1.2⟩, ERep.mono h es xs hr.2⟩
  | [], _ :: _, hr => by simp [ERep] at hr
  | _ :: _, [], hr => by simp [ERep] at hr

def Hp.live (h : Hp) (id : Id) : Prop := (∃ blk, h.hp id = some blk) ∨ ∃ es, h.mp id = some es

/-- The abstract heap's blocks lie in the world. -/
structure HRep (c : Cx) : Prop where
  slt : ∀ b, c.S b → b < c.w.heap.size
  blk : ∀ id blk, c.h.hp id = some blk → c.al id ∧ (∃ arr el, c.w.heap[(c.φ id).1]? = some (.cells arr el (0, 0)) ∧ (c.φ id).2 + blk.cells.length ≤ arr.size) ∧
    CRep c (c.φ id).1 (c.φ id).2 blk.cells ∧ (blk.wr = true → ¬ c.S (c.φ id).1) ∧ (blk.wr = false → c.S (c.φ id).1)
  mp : ∀ id es, c.h.mp id = some es → c.al id ∧ c.h.hp id = none ∧ ¬ c.S (c.φ id).1 ∧
    ∃ ents clock, c.w.heap[(c.φ id).1]? = some (.map ents clock) ∧ ERep c ents.toList es
  inj : ∀ id id', c.h.live id → c.h.live id' → id ≠ id' → (c.φ id).1 ≠ (c.φ id').1

/-- The blocks that may be written. -/
def Cx.M (c : Cx) (b : Nat) : Prop := ∃ id, ((∃ blk, c.h.hp id = some blk ∧ blk.wr = true) ∨ ∃ es, c.h.mp id = some es) ∧ (c.φ id).1 = b

/-- What 'c'' leaves of 'c' as it was. -/
structure Fr (c c' : Cx) : Prop where
  os : c'.w.os = c.w.os
  tape : c'.w.tape = c.w.tape
  output : c'.w.output = c.w.output
  size : c.w.heap.size ≤ c'.w.heap.size
  block : ∀ b, b < c.w.heap.size → ¬ c.M b → c'.w.heap[b]? = c.w.heap[b]?
  M : ∀ b, c'.M b → c.M b ∨ c.w.heap.size ≤ b
  S : ∀ b, c'.S b → c.S b ∨ c.M b ∨ c.w.heap.size ≤ b

theorem Fr.refl (c : Cx) : Fr c c := ⟨rfl, rfl, rfl, Nat.le_refl _, fun _ _ _ => rfl, fun _ h => .inl h, fun _ h => .inl h⟩
theorem Fr.trans {a b c : Cx} (h : Fr a b) (k : Fr b c) : Fr a c := by
  refine ⟨k.os.trans h.os, k.tape.trans h.tape, k.output.trans h.output, Nat.le_trans h.size k.size, fun x hx hm => ?_, fun x hx => ?_, fun x hx => ?_⟩
  · rw [k.block x (Nat.lt_of_lt_of_le hx h.size) (fun hb => ?_), h.block x hx hm]
    rcases h.M x hb with g | g
    · exact hm g
    · omega
  · rcases k.M x hx with g | g
    · exact h.M x g
    · exact .inr (Nat.le_trans h.size g)
  · rcases k.S x hx with g | g | g
    · exact h.S x g
    · rcases h.M x g with g | g
      · exact .inr (.inl g)
      · exact .inr (.inr g)
    · exact .inr (.inr (Nat.le_trans h.size g))

end Go.Proofs.Hx
