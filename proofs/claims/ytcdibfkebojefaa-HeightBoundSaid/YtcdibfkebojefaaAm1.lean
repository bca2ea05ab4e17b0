import Derived.Test.YtcdibfkebojefaaAm0
import Derived.Laws.CopyRow
import Derived.Laws.Tables
import Derived.Laws.Cells
import Derived.Laws.Entries
set_option linter.unusedVariables false
set_option linter.unusedSimpArgs false
namespace Go.Proofs.Hx

/-! ### Lists of representatives -/
theorem Reps.length {c : Cx} : ∀ {vs : List Value} {xs : List AV}, Reps c vs xs → vs.length = xs.length
  | [], [], _ => rfl
  | _ :: _, _ :: _, h => by simp only [Reps] at h; simp [Reps.length h.2]
  | [], _ :: _, h => by simp [Reps] at h
  | _ :: _, [], h => by simp [Reps] at h
theorem Reps.get {c : Cx} : ∀ {vs : List Value} {xs : List AV}, Reps c vs xs → ∀ {i : Nat} {x : AV}, xs[i]? = some x → ∃ v, vs[i]? = some v ∧ VRep c v x
  | [], [], _, _, _, h => by simp at h
  | v :: _, y :: _, h, 0, x, hx => by simp only [Reps] at h; simp at hx; subst hx; exact ⟨v, rfl, h.1⟩
  | _ :: _, _ :: _, h, i + 1, x, hx => by simp only [Reps] at h; simp at hx ⊢; exact Reps.get h.2 hx
  | [], _ :: _, h, _, _, _ => by simp [Reps] at h
  | _ :: _, [], h, _, _, _ => by simp [Reps] at h
theorem Reps.of_get {c : Cx} : ∀ {vs : List Value} {xs : List AV}, vs.length = xs.length → (∀ (i : Nat) v x, vs[i]? = some v → xs[i]? = some x → VRep c v x) → Reps c vs xs
  | [], [], _, _ => by simp [Reps]
  | v :: vs, x :: xs, hl, h => by
    simp only [Reps]
    exact ⟨h 0 v x rfl rfl, Reps.of_get (by simpa using hl) fun i a b ha hb => h (i + 1) a b (by simpa using ha) (by simpa using hb)⟩
  | [], _ :: _, h, _ => by simp at h
  | _ :: _, [], h, _ => by simp at h
theorem Reps.append {c : Cx} : ∀ {vs : List Value} {xs : List AV} {us : List Value} {ys : List AV}, Reps c vs xs → Reps c us ys → Reps c (vs ++ us) (xs ++ ys)
  | [], [], _, _, _, k => by simpa using k
  | _ :: _, _ :: _, _, _, h, k => by simp only [Reps, List.cons_append] at h ⊢; exact ⟨h.1, Reps.append h.2 k⟩
  | [], _ :: _, _, _, h, _ => by simp [Reps] at h
  | _ :: _, [], _, _, h, _ => by simp [Reps] at h
theorem Reps.take {c : Cx} : ∀ {vs : List Value} {xs : List AV} (n : Nat), Reps c vs xs → Reps c (vs.take n) (xs.take n)
  | [], [], _, _ => by simp [Reps]
  | _ :: _, _ :: _, 0, _ => by simp [Reps]
  | _ :: _, _ :: _, n + 1, h => by simp only [Reps, List.take_succ_cons] at h ⊢; exact ⟨h.1, Reps.take n h.2⟩
  | [], _ :: _, _, h => by simp [Reps] at h
  | _ :: _, [], _, h => by simp [Reps] at h
theorem Reps.drop {c : Cx} : ∀ {vs : List Value} {xs : List AV} (n : Nat), Reps c vs xs → Reps c (vs.drop n) (xs.drop n)
  | [], [], _, _ => by simp [Reps]
  | _ :: _, _ :: _, 0, h => by simpa using h
  | _ :: _, _ :: _, n + 1, h => by simp only [Reps, List.drop_succ_cons] at h ⊢; exact Reps.drop n h.2
  | [], _ :: _, _, h => by simp [Reps] at h
  | _ :: _, [], _, h => by simp [Reps] at h

def splice {α : Type} (z : List α) (off : Nat) (cs : List α) : List α := z.take off ++ cs ++ z.drop (off + cs.length)
theorem splice_length {α : Type} {z : List α} {off : Nat} {cs : List α} (h : off + cs.length ≤ z.length) : (splice z off cs).length = z.length := by
  simp [splice]; omega
theorem Reps.splice {c : Cx} {vs us : List Value} {xs ys : List AV} (n : Nat) (h : Reps c vs xs) (k : Reps c us ys) : Reps c (splice vs n us) (splice xs n ys) := by
  unfold Hx.splice
  rw [k.length]
  exact ((h.take n).append k).append (h.drop _)

theorem CRep.get {c : Cx} {b : Nat} : ∀ {off : Nat} {xs : List AV}, CRep c b off xs → ∀ {i : Nat} {x : AV}, xs[i]? = some x → ∃ v, c.w.cell? ⟨b, off + i, none⟩ = some v ∧ VRep c v x
  | _, [], _, _, _, h => by simp at h
  | off, y :: _, h, 0, x, hx => by simp only [CRep] at h; simp at hx; subst hx; exact h.1
  | off, _ :: _, h, i + 1, x, hx => by
    simp only [CRep] at h; simp at hx
    have := CRep.get h.2 hx
    rwa [show off + (i + 1) = off + 1 + i by omega]
theorem CRep.of_get {c : Cx} {b : Nat} : ∀ {off : Nat} {xs : List AV}, (∀ (i : Nat) x, xs[i]? = some x → ∃ v, c.w.cell? ⟨b, off + i, none⟩ = some v ∧ VRep c v x) → CRep c b off xs
  | _, [], _ => by simp [CRep]
  | off, y :: ys, h => by
    simp only [CRep]
    refine ⟨h 0 y rfl, CRep.of_get fun i x hx => ?_⟩
    have := h (i + 1) x (by simpa using hx)
    rwa [show off + (i + 1) = off + 1 + i by omega] at this
theorem CRep.drop {c : Cx} {b off : Nat} {xs : List AV} (n : Nat) (h : CRep c b off xs) : CRep c b (off + n) (xs.drop n) :=
  CRep.of_get fun i x hx => by
    have := h.get (i := n + i) (x := x) (by simpa using hx)
    rwa [show off + n + i = off + (n + i) by omega]
theorem CRep.take {c : Cx} {b off : Nat} {xs : List AV} (n : Nat) (h : CRep c b off xs) : CRep c b off (xs.take n) :=
  CRep.of_get fun i x hx => by
    rw [List.getElem?_take] at hx
    split at hx
    · exact h.get hx
    · cases hx
/-- The cells as values. -/
theorem CRep.vals {c : Cx} {b : Nat} : ∀ {off : Nat} {xs : List AV}, CRep c b off xs → ∃ vs : List Value, Reps c vs xs ∧ ∀ (j : Nat) v, vs[j]? = some v → c.w.cell? ⟨b, off + j, none⟩ = some v
  | _, [], _ => ⟨[], by simp [Reps], by simp⟩
  | off, y :: ys, h => by
    simp only [CRep] at h
    obtain ⟨⟨v, e, hv⟩, h⟩ := h
    obtain ⟨vs, hr, hg⟩ := CRep.vals h
    refine ⟨v :: vs, by simp only [Reps]; exact ⟨hv, hr⟩, fun j u hj => ?_⟩
    cases j with
    | zero => simp at hj; subst hj; exact e
    | succ j => simp at hj; have := hg j u hj; rwa [show off + (j + 1) = off + 1 + j by omega]
theorem RRep.get {c : Cx} {b sz : Nat} : ∀ {off : Nat} {xs : List (List AV)}, RRep c b sz off xs → ∀ {i : Nat} {x : List AV}, xs[i]? = some x → x.length = sz ∧ CRep c b (off + i * sz) x
  | _, [], _, _, _, h => by simp at h
  | off, y :: _, h, 0, x, hx => by simp only [RRep] at h; simp at hx; subst hx; simpa using ⟨h.1, h.2.1⟩
  | off, _ :: _, h, i + 1, x, hx => by
    simp only [RRep] at h; simp at hx
    have := RRep.get h.2.2 hx
    rwa [show off + (i + 1) * sz = off + sz + i * sz by rw [Nat.add_mul]; omega]
theorem RRep.of_get {c : Cx} {b sz : Nat} : ∀ {off : Nat} {xs : List (List AV)}, (∀ (i : Nat) x, xs[i]? = some x → x.length = sz ∧ CRep c b (off + i * sz) x) → RRep c b sz off xs
  | _, [], _ => by simp [RRep]
  | off, y :: ys, h => by
    simp only [RRep]
    have h0 := h 0 y rfl
    simp at h0
    refine ⟨h0.1, h0.2, RRep.of_get fun i x hx => ?_⟩
    have := h (i + 1) x (by simpa using hx)
    rwa [show off + (i + 1) * sz = off + sz + i * sz by rw [Nat.add_mul]; omega] at this

/-! ### Operations -/
inductive AOpd where
  | t (i : Nat)
  | c (v : AV)

inductive AOp where
  | mv (x : AOpd)
  | pick (c a b : AOpd)
  | alloc (z : List AV)
  | box (x : AOpd)
  | build (z : List AV) (parts : List (Nat × Nat × AOpd))
  | buildSl (sz len : Nat) (z : List AV) (parts : List (Nat × Nat × AOpd))
  | load (agg : Bool) (n : Nat) (x : AOpd)
  | store (n : Nat) (a x : AOpd)
  | nilchk (x : AOpd)
  | bin (op : BinOp) (x y : AOpd)
  | beq (neg : Bool) (x y : AOpd)
  | un (op : UnOp) (x : AOpd)
  | conv (k : IntKind) (x : AOpd)
  | mkfn (f : Nat) (caps : List AOpd)
  | mksl (sz bytes : Nat) (z : List AV) (len cap : AOpd)
  | slice (arr : Option Nat) (sz : Nat) (x : AOpd) (lo hi mx : Option AOpd)
  | fieldAddr (off : Nat) (x : AOpd)
  | field (agg : Bool) (off n : Nat) (x : AOpd)
  | idxAddr (arr : Option Nat) (sz : Nat) (x i : AOpd)
  | idx (agg : Bool) (len sz : Nat) (x i : AOpd)
  | ext (x : AOpd) (i : Nat)
  | call (q : Bool) (f : AOpd) (args : List AOpd)
  | len (arr : Option Nat) (x : AOpd)
  | lenStr (x : AOpd)
  | append (sz bytes : Nat) (s x : AOpd)
  | maxs (xs : List AOpd)
  | mins (xs : List AOpd)

def scalarV : Value → Bool
  | .bool _ | .int _ _ | .string _ | .pointer none | .nilFunc | .nilIface | .map none => true
  | _ => false
def toAV : Value → Option AV
  | .slice none 0 0 => some .nil
  | v => if scalarV v then some (.lit v) else none
theorem toAV_sound {c : Cx} {v : Value} {x : AV} (h : toAV v = some x) : VRep c v x := by
  unfold toAV at h
  split at h
  · cases h; simp [VRep]
  · split at h
    · cases h; simp [VRep]
    · cases h
def toAVs : List Value → Option (List AV)
  | [] => some []
  | v :: vs => (toAV v).bind fun x => (toAVs vs).map fun xs => x :: xs
theorem toAVs_sound {c : Cx} : ∀ {vs : List Value} {xs : List AV}, toAVs vs = some xs → Reps c vs xs
  | [], xs, h => by simp [toAVs] at h; subst h; simp [Reps]
  | v :: vs, xs, h => by
    simp only [toAVs, Option.bind_eq_some_iff, Option.map_eq_some_iff] at h
    obtain ⟨x, h1, ys, h2, rfl⟩ := h
    simp only [Reps]
    exact ⟨toAV_sound h1, toAVs_sound h2⟩
def cOpd : Operand → Option AOpd
  | .tmp t => some (.t t)
  | .const v => (toAV v).map .c
  | .func f => some (.c (.fn f []))
  | .global _ => none
def evA (env : Nat → AV) : AOpd → AV
  | .t i => env i
  | .c v => v

/-- One cell's value. -/
def one : AV → Bool
  | .lit u => scalarV u
  | .row _ | .nil | .sl .. | .ptr .. | .ip _ | .fn .. | .map _ => true
  | _ => false
theorem one_cell {c : Cx} {v : Value} : ∀ {x : AV}, VRep c v x → one x = true → v.oneCell' = true ∧ v.cells = #[v]
  | .lit u, h, k => by simp only [VRep] at h; subst h; simp only [one] at k; cases v <;> simp_all [scalarV, Value.oneCell', Value.cells]
  | .row xs, h, _ => by simp only [VRep] at h; obtain ⟨_, _, rfl, _⟩ := h; exact ⟨rfl, rfl⟩
  | .nil, h, _ => by simp only [VRep] at h; obtain ⟨_, rfl⟩ := h; exact ⟨rfl, rfl⟩
  | .sl .., h, _ => by simp only [VRep] at h; rcases h.2 with ⟨_, rfl, _⟩ | ⟨_, _, rfl⟩ <;> exact ⟨rfl, rfl⟩
  | .ptr .., h, _ => by simp only [VRep] at h; obtain ⟨_, rfl⟩ := h; exact ⟨rfl, rfl⟩
  | .ip _, h, _ => by simp only [VRep] at h; obtain ⟨_, _, rfl, _⟩ := h; exact ⟨rfl, rfl⟩
  | .fn .., h, _ => by simp only [VRep] at h; obtain ⟨_, rfl, _⟩ := h; exact ⟨rfl, rfl⟩
  | .map _, h, _ => by simp only [VRep] at h; obtain ⟨_, rfl⟩ := h; exact ⟨rfl, rfl⟩
  | .undef, _, k => by simp [one] at k
  | .agg _, _, k => by simp [one] at k
  | .tup _, _, k => by simp [one] at k
def cellsA : AV → Option (List AV)
  | .agg cs => some cs
  | x => if one x then some [x] else none
theorem cellsA_sound {c : Cx} {v : Value} {x : AV} {cs : List AV} (h : VRep c v x) (k : cellsA x = some cs) : Reps c v.cells.toList cs := by
  unfold cellsA at k
  split at k
  · cases k
    simp only [VRep] at h
    obtain ⟨arr, rfl, h⟩ := h
    simpa [Value.cells] using h
  · split at k
    · rename_i h1
      cases k
      rw [(one_cell h h1).2]
      simpa [Reps] using h
    · cases k
def fillA (z : List AV) : List (Nat × Nat × AV) → Option (List AV)
  | [] => some z
  | (off, size, v) :: rest =>
    match cellsA v with
    | some cs => if cs.length = size ∧ off + size ≤ z.length then fillA (splice z off cs) rest else none
    | none => none

theorem foldl_splice (off : Nat) : ∀ (l : List Value) (k : Nat) (arr : Array Value), off + k + l.length ≤ arr.size →
    ((l.zipIdx k).foldl (fun cs (x : Value × Nat) => cs.setIfInBounds (off + x.2) x.1) arr).toList = arr.toList.take (off + k) ++ l ++ arr.toList.drop (off + k + l.length)
  | [], k, arr, _ => by simp
  | v :: l, k, arr, h => by
    simp only [List.zipIdx_cons, List.foldl_cons]
    rw [foldl_splice off l (k + 1) _ (by simp at h ⊢; omega)]
    have e := list_seg_step arr.toList (off + k) v l (by simp at h ⊢; omega)
    simpa [Array.toList_setIfInBounds, Nat.add_assoc] using e

/-- Parts of a literal: the real ones and the abstract ones. -/
def PRep (c : Cx) (place : Nat → Option (Nat × Nat)) : List (Nat × Value) → List (Nat × Nat × AV) → Prop
  | [], [] => True
  | p :: ps, q :: qs => (place p.1 = some (q.1, q.2.1) ∧ VRep c p.2 q.2.2) ∧ PRep c place ps qs
  | _, _ => False
theorem fillA_sound {c : Cx} {place : Nat → Option (Nat × Nat)} : ∀ {ps : List (Nat × Value)} {qs : List (Nat × Nat × AV)} {zs : List Value} {z out : List AV}, PRep c place ps qs → Reps c zs z → fillA z qs = some out →
    ∃ cells, Instr.fill place zs.toArray ps = some cells ∧ Reps c cells.toList out ∧ cells.size = zs.length
  | [], [], zs, z, out, _, hz, h => by simp [fillA] at h; subst h; exact ⟨zs.toArray, by simp [Instr.fill], by simpa using hz, by simp⟩
  | (i, v) :: ps, (off, size, x) :: qs, zs, z, out, hp, hz, h => by
    simp only [PRep] at hp
    obtain ⟨⟨h1, h2⟩, hp⟩ := hp
    simp only [fillA] at h
    split at h
    · rename_i cs hcs
      split at h
      · rename_i hl
        have hr := cellsA_sound h2 hcs
        have hlen : v.cells.size = size := by have := hr.length; simp at this; omega
        have hzl := hz.length
        obtain ⟨cells, e, hR, hsz⟩ := fillA_sound (zs := splice zs off v.cells.toList) hp (hz.splice off hr) h
        refine ⟨cells, ?_, hR, ?_⟩
        · simp only [Instr.fill, h1]
          rw [if_neg (by simp [hlen]; omega)]
          rw [← e]
          congr 1
          apply Array.ext'
          rw [← Array.foldl_toList, Array.toList_zipIdx]
          have := foldl_splice off v.cells.toList 0 zs.toArray (by simp; omega)
          simpa [splice] using this
        · rw [hsz, splice_length (by simp; omega)]
      · cases h
    · cases h
  | [], _ :: _, _, _, _, h, _, _ => by simp [PRep] at h
  | _ :: _, [], _, _, _, h, _, _ => by simp [PRep] at h

end Go.Proofs.Hx
