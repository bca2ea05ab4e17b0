import Derived.Orders
import Derived.Laws.CopyRow
import Derived.Laws.Tables
import Derived.Laws.Cells
import Derived.Laws.Entries
import Derived.Laws.Pointers
import Derived.Laws.StructEq
import Derived.Maps.RangeRun
import Derived.WideKeyRuns
set_option linter.unusedVariables false
set_option linter.unusedSimpArgs false
namespace Go.Proofs.Hx
theorem oM {α β : Type} {x : Option α} {f : α → β} {b : β} : x.map f = some b ↔ ∃ a, x = some a ∧ f a = b := Option.map_eq_some_iff
theorem oB {α β : Type} {x : Option α} {f : α → Option β} {b : β} : x.bind f = some b ↔ ∃ a, x = some a ∧ f a = some b := Option.bind_eq_some_iff
theorem oI {α : Type} (a b : α) : (some a = some b) = (a = b) := Option.some.injEq a b
theorem gD {α : Type} (l : List α) (i : Nat) (d : α) : l.getD i d = l[i]?.getD d := List.getD_eq_getElem?_getD
abbrev Id := Nat × Nat
inductive AV where
 | undef
 | lit (v : Value)
 | agg (cs : List AV)
 | tup (vs : List AV)
 | row (xs : List (List AV))
 | nil
 | sl (id : Id) (off len sz : Nat)
 | ptr (id : Id) (off : Nat)
 | ip (cs : List AV)
 | fn (f : Nat) (caps : List AV)
 | map (id : Id)
 | bf (f : Nat) (first : List AV)
 deriving Inhabited
structure Blk where
 wr : Bool
 cells : List AV
inductive MB where
 | ents (es : List (AV × AV))
 | iter (m : Id) (since : Nat) (seen : List Nat) (stepped : Nat)
structure Hp where
 hp : Id → Option Blk
 mp : Id → Option MB
 ep : Nat
structure Cx where
 w : World
 S : Nat → Prop
 h : Hp
 φ : Id → Nat × Nat
 al : Id → Prop
mutual
def VRep (c : Cx) (v : Value) : AV → Prop
 | .undef => True
 | .lit u => v = u
 | .agg cs => ∃ arr, v = .agg arr ∧ Reps c arr.toList cs
 | .tup cs => ∃ arr, v = .tuple arr ∧ Reps c arr.toList cs
 | .nil => ∃ a, v = .slice a 0 0
 | .row xs => ∃ addr cap, v = .slice addr xs.length cap ∧ xs.length ≤ cap ∧ (xs ≠ [] → ∃ b off sz, addr = some ⟨b, off, none⟩ ∧ c.S b ∧ RRep c b sz off xs)
 | .sl id off len sz => c.al id ∧
  ((∃ cap, v = .slice (some ⟨(c.φ id).1, (c.φ id).2 + off, none⟩) len cap ∧ len ≤ cap ∧ ∀ blk, c.h.hp id = some blk → off + len * sz ≤ blk.cells.length ∧
    ∃ arr el fr, c.w.heap[(c.φ id).1]? = some (.cells arr el fr) ∧ (c.φ id).2 + off + cap * sz ≤ arr.size) ∨ (len = 0 ∧ ∃ a, v = .slice a 0 0))
 | .ptr id off => c.al id ∧ v = .pointer (some ⟨(c.φ id).1, (c.φ id).2 + off, none⟩)
 | .ip cs => ∃ b off, v = .pointer (some ⟨b, off, none⟩) ∧ c.S b ∧ CRep c b off cs
 | .fn f caps => ∃ arr, v = .func (.func f) #[] arr ∧ Reps c arr.toList caps
 | .map id => c.al id ∧ v = .map (some (c.φ id).1)
 | .bf f fs => ∃ arr, v = .func (.func f) arr #[] ∧ Reps c arr.toList fs
def Reps (c : Cx) : List Value → List AV → Prop
 | [], [] => True
 | v :: vs, x :: xs => VRep c v x ∧ Reps c vs xs
 | _, _ => False
def CRep (c : Cx) (b off : Nat) : List AV → Prop
 | [] => True
 | x :: xs => (∃ v, c.w.cell? ⟨b, off, none⟩ = some v ∧ VRep c v x) ∧ CRep c b (off + 1) xs
def RRep (c : Cx) (b sz off : Nat) : List (List AV) → Prop
 | [] => True
 | x :: xs => x.length = sz ∧ CRep c b off x ∧ RRep c b sz (off + sz) xs
end
structure Le (c c' : Cx) : Prop where
 S : ∀ b, c.S b → c'.S b ∧ c'.w.heap[b]? = c.w.heap[b]?
 al : ∀ id, c.al id → c'.al id
 φ : ∀ id, c.al id → c'.φ id = c.φ id
 ids : ∀ id, c.al id → ∀ blk', c'.h.hp id = some blk' → ∃ blk, c.h.hp id = some blk ∧ blk.cells.length = blk'.cells.length ∧
  ∀ arr el fr, c.w.heap[(c.φ id).1]? = some (.cells arr el fr) → ∃ arr', c'.w.heap[(c.φ id).1]? = some (.cells arr' el fr) ∧ arr'.size = arr.size
theorem cell_of_heap {w w' : World} {b off : Nat} (h : w'.heap[b]? = w.heap[b]?) : w'.cell? ⟨b, off, none⟩ = w.cell? ⟨b, off, none⟩ := by
 simp only [World.cell?, h]
mutual
theorem VRep.mono {c c' : Cx} (h : Le c c') (v : Value) : ∀ a : AV, VRep c v a → VRep c' v a
 | .undef, _ => trivial
 | .lit u, hv => by simpa [VRep] using hv
 | .agg cs, hv => by
   simp only [VRep] at hv ⊢
   obtain ⟨arr, e, hr⟩ := hv
   exact ⟨arr, e, Reps.mono h _ cs hr⟩
 | .tup cs, hv => by
   simp only [VRep] at hv ⊢
   obtain ⟨arr, e, hr⟩ := hv
   exact ⟨arr, e, Reps.mono h _ cs hr⟩
 | .nil, hv => by simpa [VRep] using hv
 | .row xs, hv => by
   simp only [VRep] at hv ⊢
   obtain ⟨addr, cap, e, hc, hr⟩ := hv
   refine ⟨addr, cap, e, hc, fun hx => ?_⟩
   obtain ⟨b, off, sz, e1, hs, hr⟩ := hr hx
   exact ⟨b, off, sz, e1, (h.S b hs).1, RRep.mono h b sz (h.S b hs).2 off xs hr⟩
 | .sl id off len sz, hv => by
   simp only [VRep] at hv ⊢
   obtain ⟨h1, h2⟩ := hv
   refine ⟨h.al id h1, ?_⟩
   rw [h.φ id h1]
   rcases h2 with ⟨cap, e, hc, h3⟩ | h3
   · refine .inl ⟨cap, e, hc, fun blk' hb => ?_⟩
     obtain ⟨blk, g1, g2, g4⟩ := h.ids id h1 blk' hb
     obtain ⟨h4, arr, el, fr, e2, h5⟩ := h3 blk g1
     obtain ⟨arr', e3, e4⟩ := g4 arr el fr e2
     exact ⟨by omega, arr', el, fr, e3, by omega⟩
   · exact .inr h3
 | .ptr id off, hv => by
   simp only [VRep] at hv ⊢
   rw [h.φ id hv.1]
   exact ⟨h.al id hv.1, hv.2⟩
 | .ip cs, hv => by
   simp only [VRep] at hv ⊢
   obtain ⟨b, off, e, hs, hr⟩ := hv
   exact ⟨b, off, e, (h.S b hs).1, CRep.mono h b (h.S b hs).2 off cs hr⟩
 | .fn f caps, hv => by
   simp only [VRep] at hv ⊢
   obtain ⟨arr, e, hr⟩ := hv
   exact ⟨arr, e, Reps.mono h _ caps hr⟩
 | .map id, hv => by
   simp only [VRep] at hv ⊢
   rw [h.φ id hv.1]
   exact ⟨h.al id hv.1, hv.2⟩
 | .bf f fs, hv => by
   simp only [VRep] at hv ⊢
   obtain ⟨arr, e, hr⟩ := hv
   exact ⟨arr, e, Reps.mono h _ fs hr⟩
theorem Reps.mono {c c' : Cx} (h : Le c c') : ∀ (vs : List Value) (as : List AV), Reps c vs as → Reps c' vs as
 | [], [], _ => by simp [Reps]
 | v :: vs, x :: xs, hr => by
   simp only [Reps] at hr ⊢
   exact ⟨VRep.mono h v x hr.1, Reps.mono h vs xs hr.2⟩
 | [], _ :: _, hr => by simp [Reps] at hr
 | _ :: _, [], hr => by simp [Reps] at hr
theorem CRep.mono {c c' : Cx} (h : Le c c') (b : Nat) (hs : c'.w.heap[b]? = c.w.heap[b]?) : ∀ (off : Nat) (as : List AV), CRep c b off as → CRep c' b off as
 | _, [], _ => by simp [CRep]
 | off, x :: xs, hr => by
   simp only [CRep] at hr ⊢
   obtain ⟨⟨v, e, hv⟩, hr⟩ := hr
   exact ⟨⟨v, by rw [cell_of_heap hs]; exact e, VRep.mono h v x hv⟩, CRep.mono h b hs (off + 1) xs hr⟩
theorem RRep.mono {c c' : Cx} (h : Le c c') (b sz : Nat) (hs : c'.w.heap[b]? = c.w.heap[b]?) : ∀ (off : Nat) (as : List (List AV)), RRep c b sz off as → RRep c' b sz off as
 | _, [], _ => by simp [RRep]
 | off, x :: xs, hr => by
   simp only [RRep] at hr ⊢
   exact ⟨hr.1, CRep.mono h b hs off x hr.2.1, RRep.mono h b sz hs (off + sz) xs hr.2.2⟩
end
theorem Le.refl (c : Cx) : Le c c := ⟨fun b h => ⟨h, rfl⟩, fun id h => h, fun id _ => rfl, fun id _ blk h => ⟨blk, h, rfl, fun arr el fr h => ⟨arr, h, rfl⟩⟩⟩
theorem Le.trans {a b c : Cx} (h : Le a b) (k : Le b c) : Le a c := by
 refine ⟨fun x hx => ⟨(k.S x (h.S x hx).1).1, ((k.S x (h.S x hx).1).2).trans (h.S x hx).2⟩, fun id hid => k.al id (h.al id hid), fun id hid => (k.φ id (h.al id hid)).trans (h.φ id hid), fun id hid blk' hb => ?_⟩
 obtain ⟨blk1, g1, g2, g4⟩ := k.ids id (h.al id hid) blk' hb
 obtain ⟨blk, f1, f2, f4⟩ := h.ids id hid blk1 g1
 refine ⟨blk, f1, f2.trans g2, fun arr el fr e => ?_⟩
 obtain ⟨arr1, e1, z1⟩ := f4 arr el fr e
 rw [h.φ id hid] at g4
 obtain ⟨arr2, e2, z2⟩ := g4 arr1 el fr e1
 exact ⟨arr2, e2, z2.trans z1⟩
def ERep (c : Cx) : List MapEntry → List (AV × AV) → Prop
 | [], [] => True
 | e :: es, x :: xs => (VRep c e.key x.1 ∧ VRep c e.val x.2) ∧ ERep c es xs
 | _, _ => False
theorem ERep.mono {c c' : Cx} (h : Le c c') : ∀ (es : List MapEntry) (xs : List (AV × AV)), ERep c es xs → ERep c' es xs
 | [], [], _ => by simp [ERep]
 | e :: es, x :: xs, hr => by
   simp only [ERep] at hr ⊢
   exact ⟨⟨VRep.mono h _ _ hr.1.1, VRep.mono h _ _ hr.1.2⟩, ERep.mono h es xs hr.2⟩
 | [], _ :: _, hr => by simp [ERep] at hr
 | _ :: _, [], hr => by simp [ERep] at hr
def MRep (c : Cx) (off : Nat) : Obj → MB → Prop
 | .map ents clock, .ents es => ERep c ents.toList es ∧ clock = ents.size ∧ ∀ (i : Nat) e, ents[i]? = some e → e.born = i
 | .mapIter (some r) since' seen' st, .iter m since seen stepped => (c.al m ∧ r = (c.φ m).1) ∧ since' = since ∧ seen'.toList = seen ∧ st = stepped ∧ since ≤ stepped ∧ off = 0
 | _, _ => False
theorem MRep.mono {c c' : Cx} (h : Le c c') {off : Nat} : ∀ {o : Obj} {b : MB}, MRep c off o b → MRep c' off o b
 | .map ents clock, .ents es, hr => ⟨ERep.mono h _ _ hr.1, hr.2⟩
 | .mapIter (some r) since' seen' st, .iter m since seen stepped, hr => ⟨⟨h.al m hr.1.1, by rw [h.φ m hr.1.1]; exact hr.1.2⟩, hr.2⟩
def Hp.live (h : Hp) (id : Id) : Prop := (∃ blk, h.hp id = some blk) ∨ ∃ es, h.mp id = some es
structure HRep (c : Cx) : Prop where
 slt : ∀ b, c.S b → b < c.w.heap.size
 blk : ∀ id blk, c.h.hp id = some blk → c.al id ∧ (∃ arr el, c.w.heap[(c.φ id).1]? = some (.cells arr el (0, 0)) ∧ (c.φ id).2 + blk.cells.length ≤ arr.size) ∧
  CRep c (c.φ id).1 (c.φ id).2 blk.cells ∧ (blk.wr = true → ¬ c.S (c.φ id).1) ∧ (blk.wr = false → c.S (c.φ id).1)
 mp : ∀ id es, c.h.mp id = some es → c.al id ∧ c.h.hp id = none ∧ ¬ c.S (c.φ id).1 ∧
  ∃ o, c.w.heap[(c.φ id).1]? = some o ∧ MRep c (c.φ id).2 o es
 inj : ∀ id id', c.h.live id → c.h.live id' → id ≠ id' → (c.φ id).1 ≠ (c.φ id').1
def Cx.M (c : Cx) (b : Nat) : Prop := ∃ id, ((∃ blk, c.h.hp id = some blk ∧ blk.wr = true) ∨ ∃ es, c.h.mp id = some es) ∧ (c.φ id).1 = b
structure Fr (c c' : Cx) : Prop where
 os : c'.w.os = c.w.os
 tape : c'.w.tape = c.w.tape
 output : c'.w.output = c.w.output
 size : c.w.heap.size ≤ c'.w.heap.size
 block : ∀ b, b < c.w.heap.size → ¬ c.M b → c'.w.heap[b]? = c.w.heap[b]?
 M : ∀ b, c'.M b → c.M b ∨ c.w.heap.size ≤ b
 S : ∀ b, c'.S b → c.S b ∨ c.M b ∨ c.w.heap.size ≤ b
theorem Fr.refl (c : Cx) : Fr c c := ⟨rfl, rfl, rfl, Nat.le_refl _, fun _ _ _ => rfl, fun _ h => .inl h, fun _ h => .inl h⟩
theorem Fr.trans {a b c : Cx} (h : Fr a b) (k : Fr b c) : Fr a c := by
 refine ⟨k.os.trans h.os, k.tape.trans h.tape, k.output.trans h.output, Nat.le_trans h.size k.size, fun x hx hm => ?_, fun x hx => ?_, fun x hx => ?_⟩
 · rw [k.block x (Nat.lt_of_lt_of_le hx h.size) (fun hb => ?_), h.block x hx hm]
   rcases h.M x hb with g | g
   · exact hm g
   · omega
 · rcases k.M x hx with g | g
   · exact h.M x g
   · exact .inr (Nat.le_trans h.size g)
 · rcases k.S x hx with g | g | g
   · exact h.S x g
   · rcases h.M x g with g | g
     · exact .inr (.inl g)
     · exact .inr (.inr g)
   · exact .inr (.inr (Nat.le_trans h.size g))
theorem Reps.length {c : Cx} : ∀ {vs : List Value} {xs : List AV}, Reps c vs xs → vs.length = xs.length
 | [], [], _ => rfl
 | _ :: _, _ :: _, h => by simp only [Reps] at h; simp [Reps.length h.2]
 | [], _ :: _, h => by simp [Reps] at h
 | _ :: _, [], h => by simp [Reps] at h
theorem Reps.get {c : Cx} : ∀ {vs : List Value} {xs : List AV}, Reps c vs xs → ∀ {i : Nat} {x : AV}, xs[i]? = some x → ∃ v, vs[i]? = some v ∧ VRep c v x
 | [], [], _, _, _, h => by simp at h
 | v :: _, y :: _, h, 0, x, hx => by simp only [Reps] at h; simp at hx; subst hx; exact ⟨v, rfl, h.1⟩
 | _ :: _, _ :: _, h, i + 1, x, hx => by simp only [Reps] at h; simp at hx ⊢; exact Reps.get h.2 hx
 | [], _ :: _, h, _, _, _ => by simp [Reps] at h
 | _ :: _, [], h, _, _, _ => by simp [Reps] at h
theorem Reps.of_get {c : Cx} : ∀ {vs : List Value} {xs : List AV}, vs.length = xs.length → (∀ (i : Nat) v x, vs[i]? = some v → xs[i]? = some x → VRep c v x) → Reps c vs xs
 | [], [], _, _ => by simp [Reps]
 | v :: vs, x :: xs, hl, h => by
   simp only [Reps]
   exact ⟨h 0 v x rfl rfl, Reps.of_get (by simpa using hl) fun i a b ha hb => h (i + 1) a b (by simpa using ha) (by simpa using hb)⟩
 | [], _ :: _, h, _ => by simp at h
 | _ :: _, [], h, _ => by simp at h
theorem Reps.append {c : Cx} : ∀ {vs : List Value} {xs : List AV} {us : List Value} {ys : List AV}, Reps c vs xs → Reps c us ys → Reps c (vs ++ us) (xs ++ ys)
 | [], [], _, _, _, k => by simpa using k
 | _ :: _, _ :: _, _, _, h, k => by simp only [Reps, List.cons_append] at h ⊢; exact ⟨h.1, Reps.append h.2 k⟩
 | [], _ :: _, _, _, h, _ => by simp [Reps] at h
 | _ :: _, [], _, _, h, _ => by simp [Reps] at h
theorem Reps.take {c : Cx} : ∀ {vs : List Value} {xs : List AV} (n : Nat), Reps c vs xs → Reps c (vs.take n) (xs.take n)
 | [], [], _, _ => by simp [Reps]
 | _ :: _, _ :: _, 0, _ => by simp [Reps]
 | _ :: _, _ :: _, n + 1, h => by simp only [Reps, List.take_succ_cons] at h ⊢; exact ⟨h.1, Reps.take n h.2⟩
 | [], _ :: _, _, h => by simp [Reps] at h
 | _ :: _, [], _, h => by simp [Reps] at h
theorem Reps.drop {c : Cx} : ∀ {vs : List Value} {xs : List AV} (n : Nat), Reps c vs xs → Reps c (vs.drop n) (xs.drop n)
 | [], [], _, _ => by simp [Reps]
 | _ :: _, _ :: _, 0, h => by simpa using h
 | _ :: _, _ :: _, n + 1, h => by simp only [Reps, List.drop_succ_cons] at h ⊢; exact Reps.drop n h.2
 | [], _ :: _, _, h => by simp [Reps] at h
 | _ :: _, [], _, h => by simp [Reps] at h
def splice {α : Type} (z : List α) (off : Nat) (cs : List α) : List α := z.take off ++ cs ++ z.drop (off + cs.length)
theorem WE {α : Type} {z : List α} {off : Nat} {cs : List α} (h : off + cs.length ≤ z.length) : (splice z off cs).length = z.length := by
 simp [splice]; omega
theorem Reps.splice {c : Cx} {vs us : List Value} {xs ys : List AV} (n : Nat) (h : Reps c vs xs) (k : Reps c us ys) : Reps c (splice vs n us) (splice xs n ys) := by
 unfold Hx.splice
 rw [k.length]
 exact ((h.take n).append k).append (h.drop _)
theorem CRep.get {c : Cx} {b : Nat} : ∀ {off : Nat} {xs : List AV}, CRep c b off xs → ∀ {i : Nat} {x : AV}, xs[i]? = some x → ∃ v, c.w.cell? ⟨b, off + i, none⟩ = some v ∧ VRep c v x
 | _, [], _, _, _, h => by simp at h
 | off, y :: _, h, 0, x, hx => by simp only [CRep] at h; simp at hx; subst hx; exact h.1
 | off, _ :: _, h, i + 1, x, hx => by
   simp only [CRep] at h; simp at hx
   have := CRep.get h.2 hx
   rwa [show off + (i + 1) = off + 1 + i by omega]
theorem CRep.of_get {c : Cx} {b : Nat} : ∀ {off : Nat} {xs : List AV}, (∀ (i : Nat) x, xs[i]? = some x → ∃ v, c.w.cell? ⟨b, off + i, none⟩ = some v ∧ VRep c v x) → CRep c b off xs
 | _, [], _ => by simp [CRep]
 | off, y :: ys, h => by
   simp only [CRep]
   refine ⟨h 0 y rfl, CRep.of_get fun i x hx => ?_⟩
   have := h (i + 1) x (by simpa using hx)
   rwa [show off + (i + 1) = off + 1 + i by omega] at this
theorem CRep.drop {c : Cx} {b off : Nat} {xs : List AV} (n : Nat) (h : CRep c b off xs) : CRep c b (off + n) (xs.drop n) :=
 CRep.of_get fun i x hx => by
  have := h.get (i := n + i) (x := x) (by simpa using hx)
  rwa [show off + n + i = off + (n + i) by omega]
theorem CRep.take {c : Cx} {b off : Nat} {xs : List AV} (n : Nat) (h : CRep c b off xs) : CRep c b off (xs.take n) :=
 CRep.of_get fun i x hx => by
  rw [List.getElem?_take] at hx
  split at hx
  · exact h.get hx
  · cases hx
theorem CRep.vals {c : Cx} {b : Nat} : ∀ {off : Nat} {xs : List AV}, CRep c b off xs → ∃ vs : List Value, Reps c vs xs ∧ ∀ (j : Nat) v, vs[j]? = some v → c.w.cell? ⟨b, off + j, none⟩ = some v
 | _, [], _ => ⟨[], by simp [Reps], by simp⟩
 | off, y :: ys, h => by
   simp only [CRep] at h
   obtain ⟨⟨v, e, hv⟩, h⟩ := h
   obtain ⟨vs, hr, hg⟩ := CRep.vals h
   refine ⟨v :: vs, by simp only [Reps]; exact ⟨hv, hr⟩, fun j u hj => ?_⟩
   cases j with
   | zero => simp at hj; subst hj; exact e
   | succ j => simp at hj; have := hg j u hj; rwa [show off + (j + 1) = off + 1 + j by omega]
theorem RRep.get {c : Cx} {b sz : Nat} : ∀ {off : Nat} {xs : List (List AV)}, RRep c b sz off xs → ∀ {i : Nat} {x : List AV}, xs[i]? = some x → x.length = sz ∧ CRep c b (off + i * sz) x
 | _, [], _, _, _, h => by simp at h
 | off, y :: _, h, 0, x, hx => by simp only [RRep] at h; simp at hx; subst hx; simpa using ⟨h.1, h.2.1⟩
 | off, _ :: _, h, i + 1, x, hx => by
   simp only [RRep] at h; simp at hx
   have := RRep.get h.2.2 hx
   rwa [show off + (i + 1) * sz = off + sz + i * sz by rw [Nat.add_mul]; omega]
theorem RRep.of_get {c : Cx} {b sz : Nat} : ∀ {off : Nat} {xs : List (List AV)}, (∀ (i : Nat) x, xs[i]? = some x → x.length = sz ∧ CRep c b (off + i * sz) x) → RRep c b sz off xs
 | _, [], _ => by simp [RRep]
 | off, y :: ys, h => by
   simp only [RRep]
   have h0 := h 0 y rfl
   simp at h0
   refine ⟨h0.1, h0.2, RRep.of_get fun i x hx => ?_⟩
   have := h (i + 1) x (by simpa using hx)
   rwa [show off + (i + 1) * sz = off + sz + i * sz by rw [Nat.add_mul]; omega] at this
inductive AOpd where
 | t (i : Nat)
 | c (v : AV)
inductive MK where
 | mk
 | look (g : Bool) (ls : List (Nat × Nat)) (sz : Nat) (z : AV)
 | put (g : Bool) (ls : List (Nat × Nat)) (sz : Nat)
 | range
 | next
 | entry
inductive AOp where
 | mv (x : AOpd)
 | pick (c a b : AOpd)
 | alloc (z : List AV)
 | box (x : AOpd)
 | build (z : List AV) (parts : List (Nat × Nat × AOpd))
 | buildSl (sz len : Nat) (z : List AV) (parts : List (Nat × Nat × AOpd))
 | load (agg : Bool) (n : Nat) (x : AOpd)
 | store (n : Nat) (a x : AOpd)
 | nilchk (x : AOpd)
 | bin (op : BinOp) (x y : AOpd)
 | beq (neg : Bool) (x y : AOpd)
 | aeq (neg : Bool) (ls : List (Nat × Nat)) (x y : AOpd)
 | un (op : UnOp) (x : AOpd)
 | conv (k : IntKind) (x : AOpd)
 | mkfn (f : Nat) (caps : List AOpd)
 | mksl (sz bytes : Nat) (z : List AV) (len cap : AOpd)
 | slice (arr : Option Nat) (sz : Nat) (x : AOpd) (lo hi mx : Option AOpd)
 | fieldAddr (off : Nat) (x : AOpd)
 | field (agg : Bool) (off n : Nat) (x : AOpd)
 | idxAddr (arr : Option Nat) (sz : Nat) (x i : AOpd)
 | idx (agg : Bool) (len sz : Nat) (x i : AOpd)
 | ext (x : AOpd) (i : Nat)
 | call (q : Bool) (f : AOpd) (args : List AOpd)
 | len (arr : Option Nat) (x : AOpd)
 | lenStr (x : AOpd)
 | append (sz bytes : Nat) (s x : AOpd)
 | maxs (xs : List AOpd)
 | mkbf (f : Nat) (first : List AOpd)
 | peq (neg : Bool) (x y : AOpd)
 | mop (k : MK) (xs : List AOpd)
 | mins (xs : List AOpd)
def scalarV : Value → Bool
 | .bool _ | .int _ _ | .string _ | .pointer none | .nilFunc | .nilIface | .map none => true
 | _ => false
def toAV : Value → Option AV
 | .slice none 0 0 => some .nil
 | v => if scalarV v then some (.lit v) else none
theorem kO {c : Cx} {v : Value} {x : AV} (h : toAV v = some x) : VRep c v x := by
 unfold toAV at h
 split at h
 · cases h; simp [VRep]
 · split at h
   · cases h; simp [VRep]
   · cases h
def toAVs : List Value → Option (List AV)
 | [] => some []
 | v :: vs => (toAV v).bind fun x => (toAVs vs).map fun xs => x :: xs
theorem WL {c : Cx} : ∀ {vs : List Value} {xs : List AV}, toAVs vs = some xs → Reps c vs xs
 | [], xs, h => by simp [toAVs] at h; subst h; simp [Reps]
 | v :: vs, xs, h => by
   simp only [toAVs, oB, oM] at h
   obtain ⟨x, h1, ys, h2, rfl⟩ := h
   simp only [Reps]
   exact ⟨kO h1, WL h2⟩
def cOpd : Operand → Option AOpd
 | .tmp t => some (.t t)
 | .const v => (toAV v).map .c
 | .func f => some (.c (.fn f []))
 | .global _ => none
def evA (env : Nat → AV) : AOpd → AV
 | .t i => env i
 | .c v => v
def one : AV → Bool
 | .lit u => scalarV u
 | .row _ | .nil | .sl .. | .ptr .. | .ip _ | .fn .. | .map _ | .bf .. => true
 | _ => false
theorem one_cell {c : Cx} {v : Value} : ∀ {x : AV}, VRep c v x → one x = true → v.oneCell' = true ∧ v.cells = #[v]
 | .lit u, h, k => by simp only [VRep] at h; subst h; simp only [one] at k; cases v <;> simp_all [scalarV, Value.oneCell', Value.cells]
 | .row xs, h, _ => by simp only [VRep] at h; obtain ⟨_, _, rfl, _⟩ := h; exact ⟨rfl, rfl⟩
 | .nil, h, _ => by simp only [VRep] at h; obtain ⟨_, rfl⟩ := h; exact ⟨rfl, rfl⟩
 | .sl .., h, _ => by simp only [VRep] at h; rcases h.2 with ⟨_, rfl, _⟩ | ⟨_, _, rfl⟩ <;> exact ⟨rfl, rfl⟩
 | .ptr .., h, _ => by simp only [VRep] at h; obtain ⟨_, rfl⟩ := h; exact ⟨rfl, rfl⟩
 | .ip _, h, _ => by simp only [VRep] at h; obtain ⟨_, _, rfl, _⟩ := h; exact ⟨rfl, rfl⟩
 | .fn .., h, _ => by simp only [VRep] at h; obtain ⟨_, rfl, _⟩ := h; exact ⟨rfl, rfl⟩
 | .map _, h, _ => by simp only [VRep] at h; obtain ⟨_, rfl⟩ := h; exact ⟨rfl, rfl⟩
 | .bf .., h, _ => by simp only [VRep] at h; obtain ⟨_, rfl, _⟩ := h; exact ⟨rfl, rfl⟩
 | .undef, _, k => by simp [one] at k
 | .agg _, _, k => by simp [one] at k
 | .tup _, _, k => by simp [one] at k
def qU : AV → Option (List AV)
 | .agg cs => some cs
 | x => if one x then some [x] else none
theorem kU {c : Cx} {v : Value} {x : AV} {cs : List AV} (h : VRep c v x) (k : qU x = some cs) : Reps c v.cells.toList cs := by
 unfold qU at k
 split at k
 · cases k
   simp only [VRep] at h
   obtain ⟨arr, rfl, h⟩ := h
   simpa [Value.cells] using h
 · split at k
   · rename_i h1
     cases k
     rw [(one_cell h h1).2]
     simpa [Reps] using h
   · cases k
def uQ (z : List AV) : List (Nat × Nat × AV) → Option (List AV)
 | [] => some z
 | (off, size, v) :: rest =>
   match qU v with
   | some cs => if cs.length = size ∧ off + size ≤ z.length then uQ (splice z off cs) rest else none
   | none => none
theorem foldl_splice (off : Nat) : ∀ (l : List Value) (k : Nat) (arr : Array Value), off + k + l.length ≤ arr.size →
 ((l.zipIdx k).foldl (fun cs (x : Value × Nat) => cs.setIfInBounds (off + x.2) x.1) arr).toList = arr.toList.take (off + k) ++ l ++ arr.toList.drop (off + k + l.length)
 | [], k, arr, _ => by simp
 | v :: l, k, arr, h => by
   simp only [List.zipIdx_cons, List.foldl_cons]
   rw [foldl_splice off l (k + 1) _ (by simp at h ⊢; omega)]
   have e := list_seg_step arr.toList (off + k) v l (by simp at h ⊢; omega)
   simpa [Array.toList_setIfInBounds, Nat.add_assoc] using e
def PRep (c : Cx) (place : Nat → Option (Nat × Nat)) : List (Nat × Value) → List (Nat × Nat × AV) → Prop
 | [], [] => True
 | p :: ps, q :: qs => (place p.1 = some (q.1, q.2.1) ∧ VRep c p.2 q.2.2) ∧ PRep c place ps qs
 | _, _ => False
theorem UV {c : Cx} {place : Nat → Option (Nat × Nat)} : ∀ {ps : List (Nat × Value)} {qs : List (Nat × Nat × AV)} {zs : List Value} {z out : List AV}, PRep c place ps qs → Reps c zs z → uQ z qs = some out →
 ∃ cells, Instr.fill place zs.toArray ps = some cells ∧ Reps c cells.toList out ∧ cells.size = zs.length
 | [], [], zs, z, out, _, hz, h => by simp [uQ] at h; subst h; exact ⟨zs.toArray, by simp [Instr.fill], by simpa using hz, by simp⟩
 | (i, v) :: ps, (off, size, x) :: qs, zs, z, out, hp, hz, h => by
   simp only [PRep] at hp
   obtain ⟨⟨h1, h2⟩, hp⟩ := hp
   simp only [uQ] at h
   split at h
   · rename_i cs hcs
     split at h
     · rename_i hl
       have hr := kU h2 hcs
       have hlen : v.cells.size = size := by have := hr.length; simp at this; omega
       have hzl := hz.length
       obtain ⟨cells, e, hR, hsz⟩ := UV (zs := splice zs off v.cells.toList) hp (hz.splice off hr) h
       refine ⟨cells, ?_, hR, ?_⟩
       · simp only [Instr.fill, h1]
         rw [if_neg (by simp [hlen]; omega)]
         rw [← e]
         congr 1
         apply Array.ext'
         rw [← Array.foldl_toList, Array.toList_zipIdx]
         have := foldl_splice off v.cells.toList 0 zs.toArray (by simp; omega)
         simpa [splice] using this
       · rw [hsz, WE (by simp; omega)]
     · cases h
   · cases h
 | [], _ :: _, _, _, _, h, _, _ => by simp [PRep] at h
 | _ :: _, [], _, _, _, h, _, _ => by simp [PRep] at h
def places (P : Program) (t : TypeId) : Option (Nat → Option (Nat × Nat)) :=
 match P.underlying t with
 | some (.struct fields) => (fields.toList.mapM (fun f => (P.info? f.type).map fun i => (f.offset, i.size))).map fun l => fun i => l.toArray[i]?
 | some (.array _ e) => (P.info? e).map fun ie => fun i => some (i * ie.size, ie.size)
 | _ => none
def cParts (pl : Nat → Option (Nat × Nat)) : List (Nat × Operand) → Option (List (Nat × Nat × AOpd))
 | [] => some []
 | (i, x) :: ps => (pl i).bind fun q => (cOpd x).bind fun y => (cParts pl ps).map fun qs => (q.1, q.2, y) :: qs
def cOpds : List Operand → Option (List AOpd)
 | [] => some []
 | x :: xs => (cOpd x).bind fun y => (cOpds xs).map fun ys => y :: ys
def cOpt : Option Operand → Option (Option AOpd)
 | none => some none
 | some x => (cOpd x).map some
def zeroOf (P : Program) (t : TypeId) : Option (List AV) := (P.info? t).bind fun i => i.zero.bind fun z => toAVs z.cells.toList
def wR (P : Program) (t : TypeId) : Option Bool := (P.underlying t).map fun d => match d with | .struct _ | .array _ _ => true | _ => false
def uT (P : Program) (b : Builtin) (args : List Operand) (tys : Array TypeId) : Option AOp :=
 match b, args with
 | .len, [x] => (tys[0]?).bind fun t => (cOpd x).bind fun y =>
   match P.underlying t with
   | some (.array n _) => some (.len (some n) y)
   | some (.slice _) => some (.len none y)
   | some .string => some (.lenStr y)
   | _ => none
 | .append, [s, x] => (tys[0]?).bind fun t => (tys[1]?).bind fun u => (cOpd s).bind fun s => (cOpd x).bind fun x =>
   match P.underlying t, P.underlying u with
   | some (.slice e), some (.slice _) => (P.info? e).bind fun i => i.zero.bind fun z => if z.cells.size = i.size ∧ i.bytes ≠ 0 then some (.append i.size i.bytes s x) else none
   | _, _ => none
 | .max, xs => (cOpds xs).map .maxs
 | .min, xs => (cOpds xs).map .mins
 | _, _ => none
def eqFs (rec : TypeId → Option (List (Nat × Nat))) (P : Program) : List Field → Option (List (Nat × Nat))
 | [] => some []
 | f :: fs => if f.name = "_" then none else (P.info? f.type).bind fun i => (rec f.type).bind fun ls =>
   if ls.all (fun p => decide (p.1 < i.size)) ∧ ls.any (fun p => decide (p.1 + 1 = i.size)) then (eqFs rec P fs).map fun r => ls.map (fun p => (p.1 + f.offset, p.2)) ++ r else none
def eqLv (P : Program) : Nat → TypeId → Option (List (Nat × Nat))
 | 0, _ => none
 | d + 1, t => match P.underlying t with
   | some .bool => some [(0, 1)]
   | some (.int _) => some [(0, 0)]
   | some .string => some [(0, 2)]
   | some (.struct fs) => if P.stoodInHeld t then none else eqFs (eqLv P d) P fs.toList
   | _ => none
def keyLs (P : Program) (kt : TypeId) : Option (Bool × List (Nat × Nat) × Nat) :=
 match P.underlying kt with
 | some (.int _) => some (false, [(0, 0)], 1)
 | some (.struct fs) => (eqLv P 8 kt).bind fun ls => (P.info? kt).bind fun i =>
   if (fs.toList.all fun f => match P.underlying f.type with | some (.int _) => decide (f.offset < i.size) && f.name != "_" | _ => false) && (ls.all fun p => p.2 == 0) && ((List.range i.size).all fun j => ls.any fun p => p.1 == j) then some (true, ls, i.size) else none
 | _ => none
def zeroAV (P : Program) (t : TypeId) : Option AV := (P.info? t).bind fun i => i.zero.bind fun z => match z with | .agg cs => (toAVs cs.toList).map .agg | v => toAV v
def cOp (P : Program) (q : Bool) : Op → Option AOp
 | .move x | .assign x => (cOpd x).map .mv
 | .pick c a b => (cOpd c).bind fun c => (cOpd a).bind fun a => (cOpd b).map fun b => .pick c a b
 | .alloc e => (zeroOf P e).map .alloc
 | .box _ x => (cOpd x).map .box
 | .build t ps => (zeroOf P t).bind fun z => (places P t).bind fun pl => (cParts pl ps.toList).map fun ps => .build z ps
 | .buildSlice t len ps =>
   match P.underlying t with
   | some (.slice e) => (P.info? e).bind fun i => (zeroOf P e).bind fun z => if len * i.size ≤ 2 ^ 24 then
    (cParts (fun k => some (k * i.size, i.size)) ps.toList).map fun ps => .buildSl i.size len ((List.range (len * i.size)).map fun k => z.getD (k % z.length) .undef) ps
    else none
   | _ => none
 | .load t a => (wR P t).bind fun g => (P.info? t).bind fun i => (cOpd a).map fun a => .load g i.size a
 | .store t a x => (P.info? t).bind fun i => (cOpd a).bind fun a => (cOpd x).map fun x => .store i.size a x
 | .nilCheck x => (cOpd x).map .nilchk
 | .binOp op t x y _ => (cOpd x).bind fun x => (cOpd y).bind fun y =>
   match P.underlying t with
   | some .bool => match op with | .eql => some (.beq false x y) | .neq => some (.beq true x y) | _ => none
   | some (.struct _) => if P.eqGuardType P.depth t then none else match op with | .eql => (eqLv P 8 t).map fun ls => .aeq false ls x y | .neq => (eqLv P 8 t).map fun ls => .aeq true ls x y | _ => none
   | some (.pointer _) => match op with | .eql => some (.peq false x y) | .neq => some (.peq true x y) | _ => none
   | _ => some (.bin op x y)
 | .unOp op _ x => (cOpd x).map (.un op)
 | .convert src dst x =>
   match P.underlying src, P.underlying dst with
   | some _, some (.int k) => (cOpd x).map (.conv k)
   | _, _ => none
 | .makeFunc (.func f) first caps => if first.isEmpty then (cOpds caps.toList).map (.mkfn f) else if caps.isEmpty then (cOpds first.toList).map (.mkbf f) else none
 | .makeSlice t l c =>
   match P.underlying t with
   | some (.slice e) => (P.info? e).bind fun i => (zeroOf P e).bind fun z => (cOpd l).bind fun l => (cOpd c).bind fun c => if z.length = i.size ∧ i.size ≠ 0 then some (.mksl i.size i.bytes z l c) else none
   | _ => none
 | .slice t x lo hi mx => (cOpd x).bind fun x => (cOpt lo).bind fun lo => (cOpt hi).bind fun hi => (cOpt mx).bind fun mx =>
   match P.underlying t with
   | some (.array n e) => (P.info? e).map fun i => .slice (some n) i.size x lo hi mx
   | some (.slice e) => (P.info? e).map fun i => .slice none i.size x lo hi mx
   | _ => none
 | .fieldAddr t x f =>
   match P.underlying t with
   | some (.struct fs) => (fs[f]?).bind fun fd => (P.info? fd.type).bind fun i => if i.size = 0 then none else (cOpd x).map (.fieldAddr fd.offset)
   | _ => none
 | .field t x f =>
   match P.underlying t with
   | some (.struct fs) => (fs[f]?).bind fun fd => (P.info? fd.type).bind fun i => (wR P fd.type).bind fun g => (cOpd x).map (.field g fd.offset i.size)
   | _ => none
 | .indexAddr t x i => (cOpd x).bind fun x => (cOpd i).bind fun i =>
   match P.underlying t with
   | some (.array n e) => (P.info? e).map fun ie => .idxAddr (some n) ie.size x i
   | some (.slice e) => (P.info? e).map fun ie => .idxAddr none ie.size x i
   | _ => none
 | .index t x i => (cOpd x).bind fun x => (cOpd i).bind fun i =>
   match P.underlying t with
   | some (.array n e) => (P.info? e).bind fun ie => (wR P e).map fun g => .idx g n ie.size x i
   | _ => none
 | .extract x i => (cOpd x).map fun x => .ext x i
 | .call c =>
   match c.callee with
   | .value f => (cOpd f).bind fun f => (cOpds c.args.toList).map fun as => .call q f as
   | .builtin b => uT P b c.args.toList c.argTypes
   | _ => none
 | .makeMap _ r => if r.isNone then some (.mop .mk []) else none
 | .lookup t m k ok => if ok then none else
   match P.underlying t with
   | some (.map kt et) => (keyLs P kt).bind fun q => (zeroAV P et).bind fun z => (cOpd m).bind fun m => (cOpd k).map fun k => .mop (.look q.1 q.2.1 q.2.2 z) [m, k]
   | _ => none
 | .mapUpdate t m k v =>
   match P.underlying t with
   | some (.map kt _) => (keyLs P kt).bind fun q => (cOpd m).bind fun m => (cOpd k).bind fun k => (cOpd v).map fun v => .mop (.put q.1 q.2.1 q.2.2) [m, k, v]
   | _ => none
 | .range t x =>
   match P.underlying t with
   | some (.map _ _) => (cOpd x).map fun x => .mop .range [x]
   | _ => none
 | .next it s => if s then none else (cOpd it).map fun x => .mop .next [x]
 | .entry it => (cOpd it).map fun x => .mop .entry [x]
 | _ => none
def mapOp : Op → Bool
 | .makeMap .. | .lookup .. | .mapUpdate .. | .range .. | .next .. | .entry .. => true
 | _ => false
theorem mop_of {P : Program} {q : Bool} {op : Op} {ao : AOp} (hm : mapOp op = true) (h : cOp P q op = some ao) : ∃ k xs, ao = .mop k xs := by
 cases op <;> simp only [mapOp, Bool.false_eq_true] at hm <;> simp only [cOp] at h
 case makeMap => split at h <;> cases h; exact ⟨_, _, rfl⟩
 case lookup =>
  split at h
  · cases h
  · split at h
    · simp only [oB, oM] at h
      obtain ⟨_, _, _, _, _, _, _, _, rfl⟩ := h
      exact ⟨_, _, rfl⟩
    · cases h
 case mapUpdate =>
  split at h
  · simp only [oB, oM] at h
    obtain ⟨_, _, _, _, _, _, _, _, rfl⟩ := h
    exact ⟨_, _, rfl⟩
  · cases h
 case range =>
  split at h
  · simp only [oM] at h
    obtain ⟨_, _, rfl⟩ := h
    exact ⟨_, _, rfl⟩
  · cases h
 case next =>
  split at h
  · cases h
  · simp only [oM] at h
    obtain ⟨_, _, rfl⟩ := h
    exact ⟨_, _, rfl⟩
 case entry =>
  simp only [oM] at h
  obtain ⟨_, _, rfl⟩ := h
  exact ⟨_, _, rfl⟩
def bits2 (op : BinOp) (k : IntKind) (x y : Int) : Option Value :=
 let a := BitVec.ofInt k.bits x
 let b := BitVec.ofInt k.bits y
 match op with
 | .and => some (.int k (k.wrap (a &&& b).toNat))
 | .or => some (.int k (k.wrap (a ||| b).toNat))
 | .xor => some (.int k (k.wrap (a ^^^ b).toNat))
 | .andNot => some (.int k (k.wrap (a &&& ~~~b).toNat))
 | _ => none
def binI (op : BinOp) (k : IntKind) (a b : Int) : Option Value :=
 match op with
 | .add => some (.int k (k.wrap (a + b)))
 | .sub => some (.int k (k.wrap (a - b)))
 | .mul => some (.int k (k.wrap (a * b)))
 | .quo => if b = 0 then none else some (.int k (k.wrap (a.tdiv b)))
 | .rem => if b = 0 then none else some (.int k (a.tmod b))
 | .eql => some (.bool (a == b))
 | .neq => some (.bool (a != b))
 | .lss => some (.bool (decide (a < b)))
 | .leq => some (.bool (decide (a ≤ b)))
 | .gtr => some (.bool (decide (b < a)))
 | .geq => some (.bool (decide (b ≤ a)))
 | op => bits2 op k a b
def binS (op : BinOp) (a b : ByteArray) : Option Value :=
 match op with
 | .eql => some (.bool (a.toList == b.toList))
 | .neq => some (.bool !(a.toList == b.toList))
 | _ => none
def binV (op : BinOp) : AV → AV → Option AV
 | .lit (.int k a), .lit (.int k' b) =>
   match op with
   | .shl => if 0 ≤ b then some (.lit (.int k (k.wrap (a * 2 ^ (min b.toNat k.bits))))) else none
   | .shr => if 0 ≤ b then some (.lit (.int k (a.fdiv (2 ^ (min b.toNat k.bits))))) else none
   | op => if k = k' then (binI op k a b).map .lit else none
 | .lit (.string a), .lit (.string b) => (binS op a b).map .lit
 | _, _ => none
def unV (op : UnOp) : AV → Option AV
 | .lit (.bool b) => match op with | .not => some (.lit (.bool (!b))) | _ => none
 | .lit (.int k n) => match op with | .neg => some (.lit (.int k (k.wrap (0 - n)))) | .xor => (bits2 .xor k (if k.signed then -1 else k.max) n).map .lit | _ => none
 | _ => none
def foldI (f : Int → Int → Int) (k : IntKind) : Int → List AV → Option AV
 | a, [] => some (.lit (.int k a))
 | a, .lit (.int _ b) :: r => foldI f k (f a b) r
 | _, _ => none
def maxV : List AV → Option AV
 | .lit (.int k a) :: r => foldI (fun x y => if y > x then y else x) k a r
 | _ => none
def minV : List AV → Option AV
 | .lit (.int k a) :: r => foldI (fun x y => if y < x then y else x) k a r
 | _ => none
def lenV : AV → Option AV
 | .sl _ _ n _ => some (.lit (.int .i64 n))
 | .row xs => some (.lit (.int .i64 xs.length))
 | .nil => some (.lit (.int .i64 0))
 | _ => none
def YE (arr : Option Nat) (sz : Nat) : AV → AV → Option AV
 | .sl id off len sz', .lit (.int _ i) => if arr = none ∧ sz' = sz ∧ 0 ≤ i ∧ i < len then some (.ptr id (off + i.toNat * sz)) else none
 | .row xs, .lit (.int _ i) => if arr = none ∧ 0 ≤ i then (match xs[i.toNat]? with | some x => if x.length = sz then some (.ip x) else none | none => none) else none
 | .ptr id off, .lit (.int _ i) => match arr with | some n => if 0 ≤ i ∧ i < n then some (.ptr id (off + i.toNat * sz)) else none | none => none
 | .ip cs, .lit (.int _ i) => match arr with | some n => if 0 ≤ i ∧ i < n then some (.ip (cs.drop (i.toNat * sz))) else none | none => none
 | _, _ => none
def qQ (agg : Bool) (off n : Nat) (cs : List AV) : Option AV :=
 if agg then (if off + n ≤ cs.length then some (.agg ((cs.drop off).take n)) else none) else cs[off]?
def idxV (agg : Bool) (len sz : Nat) : AV → AV → Option AV
 | .agg cs, .lit (.int _ i) => if 0 ≤ i ∧ i < len then qQ agg (i.toNat * sz) sz cs else none
 | _, _ => none
def qX (d : Nat) : Option AV → Option Nat
 | none => some d
 | some (.lit (.int _ i)) => if 0 ≤ i then some i.toNat else none
 | _ => none
def uD (arr : Option Nat) (sz : Nat) (x : AV) (lo hi mx : Option AV) : Option AV :=
 if mx.isSome && hi.isNone then none else
 match arr, x with
 | some n, .ptr id off =>
   match qX 0 lo, qX n hi, qX n mx with
   | some l, some h, some m => if l ≤ h ∧ h ≤ m ∧ m ≤ n then some (.sl id (off + l * sz) (h - l) sz) else none
   | _, _, _ => none
 | none, .sl id off n sz' =>
   match qX 0 lo, qX n hi, qX n mx with
   | some l, some h, some m => if l ≤ h ∧ h ≤ m ∧ m ≤ n ∧ sz' = sz then some (.sl id (off + l * sz) (h - l) sz) else none
   | _, _, _ => none
 | none, .row xs =>
   match qX 0 lo, qX xs.length hi, qX xs.length mx with
   | some l, some h, some m => if l ≤ h ∧ h ≤ m ∧ m ≤ xs.length ∧ (xs.all fun x => x.length = sz) then some (.row ((xs.drop l).take (h - l))) else none
   | _, _, _ => none
 | none, .nil =>
   match qX 0 lo, qX 0 hi, qX 0 mx with
   | some 0, some 0, some 0 => some .nil
   | _, _, _ => none
 | _, _ => none
def scEq : Nat → Value → Value → Option Bool
 | 0, .int k a, .int k' b => if k = k' then some (a == b) else none
 | 1, .bool a, .bool b => some (a == b)
 | 2, .string a, .string b => some (a.toList == b.toList)
 | _, _, _ => none
def YQ (xs ys : List AV) : List (Nat × Nat) → Option Bool
 | [] => some true
 | (o, g) :: r => match xs[o]?, ys[o]? with
   | some (.lit u), some (.lit v) => (scEq g u v).bind fun b => (YQ xs ys r).map fun b' => b && b'
   | _, _ => none
def peqV (neg : Bool) : AV → AV → Option AV
 | .ptr .., .lit (.pointer none) | .ip _, .lit (.pointer none) => some (.lit (.bool neg))
 | .lit (.pointer none), .lit (.pointer none) => some (.lit (.bool (!neg)))
 | _, _ => none
def yQ (o : AOp) (ρ : AOpd → AV) : Option AV :=
 match o with
 | .mv x => some (ρ x)
 | .pick c a b => match ρ c with | .lit (.bool t) => some (if t then ρ a else ρ b) | _ => none
 | .build z ps => (uQ z (ps.map fun p => (p.1, p.2.1, ρ p.2.2))).map .agg
 | .nilchk x => match ρ x with | .ptr id off => some (.ptr id off) | .ip cs => some (.ip cs) | .fn f cs => some (.fn f cs) | .map id => some (.map id) | _ => none
 | .bin op x y => binV op (ρ x) (ρ y)
 | .aeq neg ls x y => match ρ x, ρ y with | .agg xs, .agg ys => (YQ xs ys ls).map fun b => .lit (.bool (if neg then !b else b)) | _, _ => none
 | .beq neg x y => match ρ x, ρ y with | .lit (.bool a), .lit (.bool b) => some (.lit (.bool (if neg then !(a == b) else a == b))) | _, _ => none
 | .un op x => unV op (ρ x)
 | .conv k x => match ρ x with | .lit (.int _ n) => some (.lit (.int k (k.wrap n))) | _ => none
 | .mkfn f caps => some (.fn f (caps.map ρ))
 | .mkbf f fs => some (.bf f (fs.map ρ))
 | .peq neg x y => peqV neg (ρ x) (ρ y)
 | .slice none sz x lo hi mx => uD none sz (ρ x) (lo.map ρ) (hi.map ρ) (mx.map ρ)
 | .fieldAddr off x => match ρ x with | .ptr id o => some (.ptr id (o + off)) | .ip cs => some (.ip (cs.drop off)) | _ => none
 | .field agg off n x => match ρ x with | .agg cs => qQ agg off n cs | _ => none
 | .idxAddr arr sz x i => YE arr sz (ρ x) (ρ i)
 | .idx agg len sz x i => idxV agg len sz (ρ x) (ρ i)
 | .ext x i => match ρ x with | .tup vs => vs[i]? | _ => none
 | .len arr x => match arr with | some n => some (.lit (.int .i64 n)) | none => lenV (ρ x)
 | .lenStr x => match ρ x with | .lit (.string s) => some (.lit (.int .i64 s.size)) | _ => none
 | .maxs xs => maxV (xs.map ρ)
 | .mins xs => minV (xs.map ρ)
 | _ => none
theorem VRep.lit {c : Cx} {v u : Value} (h : VRep c v (.lit u)) : v = u := by simpa [VRep] using h
theorem VRep.lit_mk {c : Cx} (u : Value) : VRep c u (.lit u) := by simp [VRep]
theorem wS (b off n : Nat) : (⟨b, off, none⟩ : Addr).add n = ⟨b, off + n, none⟩ := by unfold Addr.add; split <;> simp_all
section
variable {P : Program} {c : Cx}
def YY (P : Program) (c : Cx) (x : Sem Value) (r : AV) : Prop := ∃ v, x.run P c.w = .ok v c.w ∧ VRep c v r
theorem bin_int (op : BinOp) (k k' : IntKind) (t : TypeId) (a b : Int) {r : AV} (h : binV op (.lit (.int k a)) (.lit (.int k' b)) = some r) :
 YY P c (binOp op t (.int k a) (.int k' b)) r := by
 unfold binV at h
 cases op <;> simp only [] at h <;> simp only [Go.binOp] <;>
  first
  | (split at h
     · rename_i hk; subst hk
       simp only [binI, bits2] at h
       first
       | (simp only [Option.map_some, oI] at h
          subst h
          refine ⟨_, ?_, VRep.lit_mk _⟩
          simp [Op.intArith, Op.intBits, Op.intCmp]; done)
       | (split at h
          · simp at h
          · rename_i hb
            simp only [Option.map_some, oI] at h
            subst h
            refine ⟨_, ?_, VRep.lit_mk _⟩
            simp [Op.intDiv, hb]; done)
     · cases h)
  | (split at h
     · rename_i hb
       simp only [oI] at h
       subst h
       refine ⟨_, ?_, VRep.lit_mk _⟩
       have : ¬ b < 0 := by omega
       simp [Op.shift, this]
     · cases h)
theorem bin_str (op : BinOp) (t : TypeId) (a b : ByteArray) {r : AV} (h : binV op (.lit (.string a)) (.lit (.string b)) = some r) :
 YY P c (binOp op t (.string a) (.string b)) r := by
 simp only [binV] at h
 cases op <;> simp only [binS, Option.map_none, Option.map_some, oI, reduceCtorEq] at h <;> subst h <;> exact ⟨_, by simp [Go.binOp, Op.stringOp], VRep.lit_mk _⟩
theorem uR (op : BinOp) (t : TypeId) (x y : Operand) (a b : Value) (ha : (match a with | .nilIface | .agg _ => false | _ => true) = true) (w : World) :
 (eqGuard op t x y a b).run P w = .ok () w := by
 unfold eqGuard
 cases a <;> first | (simp at ha; done) | (clear ha; split <;> first | rfl | simp)
theorem uF {ρ : Operand → Value} {ρA : AOpd → AV} (hρ : ∀ x y, cOpd x = some y → VRep c (ρ x) (ρA y)) : ∀ {xs : List Operand} {ys : List AOpd}, cOpds xs = some ys → Reps c (xs.map ρ) (ys.map ρA)
 | [], ys, h => by simp [cOpds] at h; subst h; simp [Reps]
 | x :: xs, ys, h => by
   simp only [cOpds, oB, oM] at h
   obtain ⟨y, h1, zs, h2, rfl⟩ := h
   simp only [List.map_cons, Reps]
   exact ⟨hρ x y h1, uF hρ h2⟩
theorem cParts_rep {ρ : Operand → Value} {ρA : AOpd → AV} (hρ : ∀ x y, cOpd x = some y → VRep c (ρ x) (ρA y)) {pl : Nat → Option (Nat × Nat)} : ∀ {xs : List (Nat × Operand)} {ys : List (Nat × Nat × AOpd)}, cParts pl xs = some ys →
 PRep c pl (xs.map fun p => (p.1, ρ p.2)) (ys.map fun p => (p.1, p.2.1, ρA p.2.2))
 | [], ys, h => by simp [cParts] at h; subst h; simp [PRep]
 | (i, x) :: xs, ys, h => by
   simp only [cParts, oB, oM] at h
   obtain ⟨q, h0, y, h1, zs, h2, rfl⟩ := h
   simp only [List.map_cons, PRep]
   exact ⟨⟨by simpa using h0, hρ x y h1⟩, cParts_rep hρ h2⟩
theorem kN {t : TypeId} {z : List AV} (h : zeroOf P t = some z) : ∃ i v, P.info? t = some i ∧ i.zero = some v ∧ toAVs v.cells.toList = some z := by
 simp only [zeroOf, oB] at h
 obtain ⟨i, h1, v, h2, h3⟩ := h
 exact ⟨i, v, h1, h2, h3⟩
theorem build_sound {t : TypeId} {z : List AV} {pl : Nat → Option (Nat × Nat)} {ps : Array (Nat × Value)} {qs : List (Nat × Nat × AV)} {out : List AV}
 (hz : zeroOf P t = some z) (hpl : places P t = some pl) (hp : PRep c pl ps.toList qs) (h : uQ z qs = some out) : YY P c (Instr.build t ps) (.agg out) := by
 obtain ⟨i, v, h1, h2, h3⟩ := kN hz
 have hr := WL (c := c) h3
 unfold places at hpl
 split at hpl
 · rename_i fields hu
   simp only [oM] at hpl
   obtain ⟨l, hl, rfl⟩ := hpl
   obtain ⟨cells, e, hR, _⟩ := UV hp hr h
   refine ⟨.agg cells, run_build c.w t ps cells ?_, by simp only [VRep]; exact ⟨cells, rfl, hR⟩⟩
   simp only [Program.built, h1, hu, h2, hl]
   simpa using e
 · rename_i n e hu
   simp only [oM] at hpl
   obtain ⟨ie, hl, rfl⟩ := hpl
   obtain ⟨cells, e', hR, _⟩ := UV hp hr h
   refine ⟨.agg cells, run_build c.w t ps cells ?_, by simp only [VRep]; exact ⟨cells, rfl, hR⟩⟩
   simp only [Program.built, h1, hu, h2, hl]
   simpa using e'
 · cases hpl
theorem uE {t : TypeId} {g : Bool} {i : TypeInfo} {arr : Array Value} {cs : List AV} {off : Nat} {r : AV} (hg : wR P t = some g) (hi : P.info? t = some i)
 (hr : Reps c arr.toList cs) (h : qQ g off i.size cs = some r) : YY P c (part t arr off) r := by
 simp only [wR, oM] at hg
 obtain ⟨d, hu, hd⟩ := hg
 have hag : (isAgg t).run P c.w = .ok g c.w := by
  simp only [isAgg, Sem.run_bind, run_underlying hu, Result.andThen_ok]
  subst hd
  cases d <;> rfl
 have hsz : (sizeOf t).run P c.w = .ok i.size c.w := by simp [sizeOf, typeInfo, hi]
 unfold qQ at h
 cases g with
 | true =>
   simp only [if_true] at h
   split at h
   · rename_i hl
     cases h
     refine ⟨.agg (arr.extract off (off + i.size)), ?_, ?_⟩
     · simp only [part, Sem.run_bind, hag, Result.andThen_ok, if_true, hsz, Sem.run_pure]
     · simp only [VRep]
       refine ⟨_, rfl, ?_⟩
       have := (hr.drop off).take i.size
       simpa [Array.toList_extract, List.extract_eq_take_drop] using this
   · cases h
 | false =>
   simp only [Bool.false_eq_true, if_false] at h
   obtain ⟨v, h1, h2⟩ := hr.get h
   refine ⟨v, ?_, h2⟩
   have h1' : arr[off]? = some v := by simpa using h1
   simp [part, hag, h1']
end
section
variable {P : Program} {c : Cx}
theorem qW {t : TypeId} {i : TypeInfo} (h : P.info? t = some i) (w : World) : (sizeOf t).run P w = .ok i.size w := by simp [sizeOf, typeInfo, h]
theorem UT {t e : TypeId} {ie : TypeInfo} (hu : P.underlying t = some (.slice e)) (hi : P.info? e = some ie) (w : World) (a : Addr) (len cap : Nat) (k : IntKind) (i : Int) (h0 : 0 ≤ i) (h1 : i < len) :
 (Instr.indexAt t (.slice (some a) len cap) (.int k i)).run P w = .ok (.pointer (some (a.add (i.toNat * ie.size)))) w := by
 simp [Instr.indexAt, asIntOf, run_underlying hu, qW hi, h0, h1]
theorem kX {t e : TypeId} {ie : TypeInfo} {n : Nat} (hu : P.underlying t = some (.array n e)) (hi : P.info? e = some ie) (w : World) (a : Addr) (k : IntKind) (i : Int) (h0 : 0 ≤ i) (h1 : i < n) :
 (Instr.indexAt t (.pointer (some a)) (.int k i)).run P w = .ok (.pointer (some (a.add (i.toNat * ie.size)))) w := by
 simp [Instr.indexAt, asIntOf, run_underlying hu, qW hi, h0, h1, Instr.sureAddr]
theorem idxAddr_slice {t e : TypeId} {ie : TypeInfo} (hu : P.underlying t = some (.slice e)) (hi : P.info? e = some ie) {x i : Value} {xa ia r : AV} (hx : VRep c x xa) (hv : VRep c i ia)
 (h : YE none ie.size xa ia = some r) : YY P c (Instr.indexAt t x i) r := by
 unfold YE at h
 split at h
 · rename_i id off len sz' k n
   split at h
   · rename_i hc
     obtain ⟨-, h2, h3, h4⟩ := hc
     subst h2
     cases h
     have := hv.lit
     subst this
     simp only [VRep] at hx
     obtain ⟨h5, ⟨cap, rfl, h6, h7⟩ | ⟨rfl, _⟩⟩ := hx
     · refine ⟨_, UT hu hi c.w _ len cap k n h3 h4, ?_⟩
       simp only [VRep]
       exact ⟨h5, by rw [wS, Nat.add_assoc]⟩
     · simp at h4; omega
   · cases h
 · rename_i xs k n
   split at h
   · rename_i hc
     obtain ⟨-, h3⟩ := hc
     split at h
     · rename_i cs hcs
       split at h
       · rename_i hl
         cases h
         have := hv.lit
         subst this
         simp only [VRep] at hx
         obtain ⟨addr, cap, rfl, _, hb⟩ := hx
         have hlt : n.toNat < xs.length := (List.getElem?_eq_some_iff.1 hcs).1
         obtain ⟨b, off, sz, rfl, hs, hr⟩ := hb (by intro e; subst e; simp at hlt)
         obtain ⟨h6, h7⟩ := hr.get hcs
         refine ⟨_, UT hu hi c.w _ xs.length cap k n h3 (by omega), ?_⟩
         simp only [VRep]
         refine ⟨b, off + n.toNat * ie.size, by rw [wS], hs, ?_⟩
         rw [← hl, h6]
         exact h7
       · cases h
     · cases h
   · cases h
 · simp at h
 · simp at h
 · cases h
theorem idxAddr_arr {t e : TypeId} {ie : TypeInfo} {m : Nat} (hu : P.underlying t = some (.array m e)) (hi : P.info? e = some ie) {x i : Value} {xa ia r : AV} (hx : VRep c x xa) (hv : VRep c i ia)
 (h : YE (some m) ie.size xa ia = some r) : YY P c (Instr.indexAt t x i) r := by
 unfold YE at h
 split at h
 · simp at h
 · simp at h
 · rename_i id off k n
   split at h
   · rename_i m' hm
     cases hm
     split at h
     · rename_i hc
       cases h
       have := hv.lit
       subst this
       simp only [VRep] at hx
       obtain ⟨h5, rfl⟩ := hx
       refine ⟨_, kX hu hi c.w _ k n hc.1 hc.2, ?_⟩
       simp only [VRep]
       exact ⟨h5, by rw [wS, Nat.add_assoc]⟩
     · cases h
   · cases h
 · rename_i cs k n
   split at h
   · rename_i m' hm
     cases hm
     split at h
     · rename_i hc
       cases h
       have := hv.lit
       subst this
       simp only [VRep] at hx
       obtain ⟨b, off, rfl, hs, hr⟩ := hx
       refine ⟨_, kX hu hi c.w _ k n hc.1 hc.2, ?_⟩
       simp only [VRep]
       exact ⟨b, _, by rw [wS], hs, hr.drop _⟩
     · cases h
   · cases h
 · cases h
theorem fieldAddr_sound {t : TypeId} {fs : Array Field} {f : Nat} {fd : Field} {i : TypeInfo} (hu : P.underlying t = some (.struct fs)) (hf : fs[f]? = some fd) (hi : P.info? fd.type = some i) (hz : i.size ≠ 0)
 {x : Value} {xa r : AV} (hx : VRep c x xa) (h : yQ (.fieldAddr fd.offset (.c xa)) (fun y => match y with | .c v => v | .t _ => .undef) = some r) : YY P c (Instr.fieldAt t x f) r := by
 simp only [yQ] at h
 have key : ∀ (b off : Nat), (Instr.fieldAt t (.pointer (some ⟨b, off, none⟩)) f).run P c.w = .ok (.pointer (some ⟨b, off + fd.offset, none⟩)) c.w := by
  intro b off
  simp [Instr.fieldAt, run_underlying hu, hf, Instr.sureAddr, fieldPlace, qW hi, hz, wS]
 split at h
 · cases h
   simp only [VRep] at hx
   obtain ⟨h5, rfl⟩ := hx
   exact ⟨_, key _ _, by simp only [VRep]; exact ⟨h5, by rw [Nat.add_assoc]⟩⟩
 · cases h
   simp only [VRep] at hx
   obtain ⟨b, off, rfl, hs, hr⟩ := hx
   exact ⟨_, key _ _, by simp only [VRep]; exact ⟨b, _, rfl, hs, hr.drop _⟩⟩
 · cases h
theorem run_sliceBound {w : World} {k : IntKind} {i : Int} {y : Nat} {code : BoundsCode} (h0 : 0 ≤ i) (h1 : i.toNat ≤ y) : (Instr.sliceBound (.int k i) y code).run P w = .ok i.toNat w := by
 have : i ≤ (y : Int) := by omega
 simp [Instr.sliceBound, asIntOf, h0, this]
theorem run_sliceBounds {isSlice : Bool} {len cap : Nat} {lo hi mx : Option Value} {loA hiA mxA : Option AV} {l h m : Nat}
 (rlo : ∀ x, loA = some x → ∃ v, lo = some v ∧ VRep c v x) (nlo : loA = none → lo = none)
 (rhi : ∀ x, hiA = some x → ∃ v, hi = some v ∧ VRep c v x) (nhi : hiA = none → hi = none)
 (rmx : ∀ x, mxA = some x → ∃ v, mx = some v ∧ VRep c v x) (nmx : mxA = none → mx = none)
 (hmh : (mxA.isSome && hiA.isNone) = false)
 (h1 : qX 0 loA = some l) (h2 : qX len hiA = some h) (h3 : ∀ d, mxA ≠ none → qX d mxA = some m) (hm0 : mxA = none → m = cap)
 (hl : l ≤ h) (hh : h ≤ m) (hmc : m ≤ cap) :
 (Instr.sliceBounds isSlice len cap lo hi mx).run P c.w = .ok (l, h, m) c.w := by
 have bi : ∀ (d : Nat) (x : AV) (n : Nat), qX d (some x) = some n → ∃ k i, x = .lit (.int k i) ∧ 0 ≤ i ∧ i.toNat = n := by
  intro d x n hb
  unfold qX at hb
  split at hb
  · simp at *
  · rename_i k i he
    split at hb
    · simp at he; cases hb; exact ⟨_, _, he, by assumption, rfl⟩
    · cases hb
  · cases hb
 have cm : (mx = none ∧ m = cap) ∨ ∃ k i, mx = some (.int k i) ∧ 0 ≤ i ∧ i.toNat = m := by
  cases hmx : mxA with
  | none => exact .inl ⟨nmx hmx, hm0 hmx⟩
  | some x =>
    obtain ⟨v, rfl, hv⟩ := rmx x hmx
    obtain ⟨k, i, rfl, h0, h4⟩ := bi 0 x m (by rw [← hmx]; exact h3 0 (by simp [hmx]))
    have := hv.lit; subst this
    exact .inr ⟨k, i, rfl, h0, h4⟩
 have ch : (hi = none ∧ mx = none ∧ h = len) ∨ ∃ k i, hi = some (.int k i) ∧ 0 ≤ i ∧ i.toNat = h := by
  cases hhi : hiA with
  | none =>
    have hmx : mxA = none := by cases hx : mxA with | none => rfl | some _ => simp [hx, hhi] at hmh
    rw [hhi] at h2
    simp [qX] at h2
    exact .inl ⟨nhi hhi, nmx hmx, h2.symm⟩
  | some x =>
    obtain ⟨v, rfl, hv⟩ := rhi x hhi
    obtain ⟨k, i, rfl, h0, h4⟩ := bi len x h (by rw [← hhi]; exact h2)
    have := hv.lit; subst this
    exact .inr ⟨k, i, rfl, h0, h4⟩
 have cl : (lo = none ∧ l = 0) ∨ ∃ k i, lo = some (.int k i) ∧ 0 ≤ i ∧ i.toNat = l := by
  cases hlo : loA with
  | none => rw [hlo] at h1; simp [qX] at h1; exact .inl ⟨nlo hlo, h1.symm⟩
  | some x =>
    obtain ⟨v, rfl, hv⟩ := rlo x hlo
    obtain ⟨k, i, rfl, h0, h4⟩ := bi 0 x l (by rw [← hlo]; exact h1)
    have := hv.lit; subst this
    exact .inr ⟨k, i, rfl, h0, h4⟩
 clear rlo nlo rhi nhi rmx nmx hmh h1 h2 h3 hm0 bi
 unfold Instr.sliceBounds
 rcases cm with ⟨rfl, rfl⟩ | ⟨km, im, rfl, hm0, rfl⟩ <;> rcases ch with ⟨rfl, he, rfl⟩ | ⟨kh, ih, rfl, hh0, rfl⟩ <;> rcases cl with ⟨rfl, rfl⟩ | ⟨kl, il, rfl, hl0, rfl⟩ <;>
  first
  | (cases he; done)
  | (simp [run_sliceBound, *]; done)
  | skip
end
section
variable {P : Program} {c : Cx}
def ORep (c : Cx) (v : Option Value) (x : Option AV) : Prop :=
 match v, x with
 | none, none => True
 | some v, some x => VRep c v x
 | _, _ => False
theorem ORep.yes {v : Option Value} {x : Option AV} (h : ORep c v x) : ∀ y, x = some y → ∃ u, v = some u ∧ VRep c u y := by
 intro y hy; subst hy; cases v with
 | none => exact h.elim
 | some u => exact ⟨u, rfl, h⟩
theorem ORep.no {v : Option Value} {x : Option AV} (h : ORep c v x) : x = none → v = none := by
 intro hy; subst hy; cases v with
 | none => rfl
 | some u => exact h.elim
theorem bound_some {d : Nat} {x : Option AV} {n : Nat} (h : qX d x = some n) : ∀ e, x ≠ none → qX e x = some n := by
 intro e hx
 cases x with
 | none => exact absurd rfl hx
 | some y => unfold qX at h ⊢; split at h <;> simp_all
theorem UA {a b s : Nat} (h : a ≤ b) : a * s ≤ b * s := Nat.mul_le_mul_right s h
theorem sl_piece {id : Id} {off n sz l h m cap : Nat} {v : Value} (hid : c.al id) (hlh : l ≤ h) (hhn : h ≤ n) (hhm : h ≤ m) (hmc : m ≤ cap)
 (hb : ∀ blk, c.h.hp id = some blk → off + n * sz ≤ blk.cells.length ∧ ∃ arr el fr, c.w.heap[(c.φ id).1]? = some (.cells arr el fr) ∧ (c.φ id).2 + off + cap * sz ≤ arr.size) :
 VRep c (.slice (if m = l then some ⟨(c.φ id).1, (c.φ id).2 + off, none⟩ else some ⟨(c.φ id).1, (c.φ id).2 + off + l * sz, none⟩) (h - l) (m - l)) (.sl id (off + l * sz) (h - l) sz) := by
 simp only [VRep]
 refine ⟨hid, ?_⟩
 by_cases e : m = l
 · subst e
   exact .inr ⟨by omega, _, by congr 1 <;> omega⟩
 · refine .inl ⟨m - l, by rw [if_neg e, Nat.add_assoc], by omega, fun blk hblk => ?_⟩
   obtain ⟨h1, arr, el, fr, h2, h3⟩ := hb blk hblk
   have e1 : l * sz + (h - l) * sz ≤ n * sz := by rw [← Nat.add_mul]; exact UA (by omega)
   have e2 : l * sz + (m - l) * sz ≤ cap * sz := by rw [← Nat.add_mul]; exact UA (by omega)
   exact ⟨by omega, arr, el, fr, h2, by omega⟩
theorem wE {t e : TypeId} {ie : TypeInfo} (hu : P.underlying t = some (.slice e)) (hi : P.info? e = some ie) {a : Option Addr} {len cap l h m : Nat} {lo hi' mx : Option Value}
 (hb : (Instr.sliceBounds true len cap lo hi' mx).run P c.w = .ok (l, h, m) c.w) :
 (Instr.sliceAt t (.slice a len cap) lo hi' mx).run P c.w = .ok (.slice (if m = l then a else a.map (·.add (l * ie.size))) (h - l) (m - l)) c.w := by
 simp [Instr.sliceAt, Instr.slice, run_underlying hu, hb, qW hi]
theorem run_sliceAt_arr {t e : TypeId} {ie : TypeInfo} {n : Nat} (hu : P.underlying t = some (.array n e)) (hi : P.info? e = some ie) {a : Addr} {l h m : Nat} {lo hi' mx : Option Value}
 (hb : (Instr.sliceBounds false n n lo hi' mx).run P c.w = .ok (l, h, m) c.w) :
 (Instr.sliceAt t (.pointer (some a)) lo hi' mx).run P c.w = .ok (.slice (some (if m = l then a else a.add (l * ie.size))) (h - l) (m - l)) c.w := by
 simp [Instr.sliceAt, run_underlying hu, hb, qW hi, Instr.sureAddr]
theorem UO {isSlice : Bool} {n cap l h m : Nat} {lo hi' mx : Option Value} {loA hiA mxA : Option AV} (h1 : ORep c lo loA) (h2 : ORep c hi' hiA) (h3 : ORep c mx mxA)
 (hmh : (mxA.isSome && hiA.isNone) = false) (hn : n ≤ cap) (b1 : qX 0 loA = some l) (b2 : qX n hiA = some h) (b3 : qX n mxA = some m) (c1 : l ≤ h) (c2 : h ≤ m) (c3 : m ≤ n) :
 ∃ m', h ≤ m' ∧ m' ≤ cap ∧ (Instr.sliceBounds isSlice n cap lo hi' mx).run P c.w = .ok (l, h, m') c.w := by
 have key : ∃ m', (mxA = none → m' = cap) ∧ (∀ d, mxA ≠ none → qX d mxA = some m') ∧ h ≤ m' ∧ m' ≤ cap := by
  cases hm : mxA with
  | none => exact ⟨cap, fun _ => rfl, fun _ hh => absurd rfl hh, by omega, Nat.le_refl _⟩
  | some y => exact ⟨m, fun hh => (by cases hh), fun d hh => by rw [hm] at b3; exact bound_some b3 d hh, c2, by omega⟩
 obtain ⟨m', k1, k2, k3, k4⟩ := key
 exact ⟨m', k3, k4, run_sliceBounds (P := P) (c := c) h1.yes h1.no h2.yes h2.no h3.yes h3.no hmh b1 b2 k2 k1 c1 k3 k4⟩
theorem slice_slice {t e : TypeId} {ie : TypeInfo} (hu : P.underlying t = some (.slice e)) (hi : P.info? e = some ie) {x : Value} {lo hi' mx : Option Value} {xa r : AV} {loA hiA mxA : Option AV} (hx : VRep c x xa)
 (h1 : ORep c lo loA) (h2 : ORep c hi' hiA) (h3 : ORep c mx mxA) (h : uD none ie.size xa loA hiA mxA = some r) : YY P c (Instr.sliceAt t x lo hi' mx) r := by
 unfold uD at h
 by_cases hmh : (mxA.isSome && hiA.isNone) = true
 · rw [if_pos hmh] at h; cases h
 rw [if_neg hmh] at h
 have hmh : (mxA.isSome && hiA.isNone) = false := by cases hq : (mxA.isSome && hiA.isNone) <;> simp_all
 cases xa <;> simp only [reduceCtorEq] at h
 case sl id off n sz' =>
  split at h
  · rename_i l h' m b1 b2 b3
    split at h
    · rename_i hc
      obtain ⟨c1, c2, c3, e0⟩ := hc
      subst e0
      cases h
      simp only [VRep] at hx
      obtain ⟨hid, ⟨cap, rfl, h6, h7⟩ | ⟨h00, a, rfl⟩⟩ := hx
      · obtain ⟨m', k3, k4, hb⟩ := UO (P := P) (c := c) (isSlice := true) h1 h2 h3 hmh h6 b1 b2 b3 c1 c2 c3
        refine ⟨_, wE hu hi hb, ?_⟩
        have := sl_piece (c := c) (id := id) (off := off) (n := n) (sz := ie.size) (l := l) (h := h') (m := m') (cap := cap) (v := .nilFunc) hid c1 (by omega) k3 k4 h7
        simpa [wS] using this
      · subst h00
        obtain ⟨m', k3, k4, hb⟩ := UO (P := P) (c := c) (isSlice := true) h1 h2 h3 hmh (Nat.le_refl 0) b1 b2 b3 c1 c2 c3
        refine ⟨_, wE hu hi hb, ?_⟩
        simp only [VRep]
        exact ⟨hid, .inr ⟨by omega, (if m' = l then a else a.map (·.add (l * ie.size))), by congr 1 <;> omega⟩⟩
    · cases h
  · cases h
 case row xs =>
  split at h
  · rename_i l h' m b1 b2 b3
    split at h
    · rename_i hc
      obtain ⟨c1, c2, c3, hall⟩ := hc
      cases h
      simp only [VRep] at hx
      obtain ⟨addr, cap, rfl, h6, h7⟩ := hx
      obtain ⟨m', k3, k4, hb⟩ := UO (P := P) (c := c) (isSlice := true) h1 h2 h3 hmh h6 b1 b2 b3 c1 c2 c3
      refine ⟨_, wE hu hi hb, ?_⟩
      simp only [VRep]
      have hlen : ((xs.drop l).take (h' - l)).length = h' - l := by simp; omega
      refine ⟨(if m' = l then addr else addr.map (·.add (l * ie.size))), m' - l, by rw [hlen], by rw [hlen]; omega, fun hne => ?_⟩
      have hne' : xs ≠ [] := by intro e; subst e; simp at hne
      obtain ⟨b, off, sz, rfl, hs, hr⟩ := h7 hne'
      have hlt : l < h' := by
       rcases Nat.lt_or_ge l h' with g | g
       · exact g
       · have : h' - l = 0 := by omega
         rw [this] at hne; simp at hne
      have hx0 : ∃ y, xs[l]? = some y := ⟨xs[l]'(by omega), List.getElem?_eq_getElem (by omega)⟩
      obtain ⟨y, hy⟩ := hx0
      have hsz : sz = ie.size := by
       have := (hr.get hy).1
       have h8 := List.all_eq_true.1 hall y (List.mem_of_getElem? hy)
       simp at h8
       omega
      subst hsz
      refine ⟨b, off + l * ie.size, ie.size, by rw [if_neg (by omega)]; simp [wS], hs, RRep.of_get fun i z hz => ?_⟩
      rw [List.getElem?_take] at hz
      split at hz
      · rw [List.getElem?_drop] at hz
        have := hr.get hz
        rwa [Nat.add_mul, ← Nat.add_assoc] at this
      · cases hz
    · cases h
  · cases h
 case nil =>
  split at h
  · rename_i b1 b2 b3
    cases h
    simp only [VRep] at hx
    obtain ⟨a, rfl⟩ := hx
    obtain ⟨m', k3, k4, hb⟩ := UO (P := P) (c := c) (isSlice := true) h1 h2 h3 hmh (Nat.le_refl 0) b1 b2 b3 (Nat.le_refl _) (Nat.le_refl _) (Nat.le_refl _)
    refine ⟨_, wE hu hi hb, ?_⟩
    simp only [VRep]
    exact ⟨(if m' = 0 then a else a.map (·.add (0 * ie.size))), by congr 1; omega⟩
  · cases h
theorem slice_arr {t e : TypeId} {ie : TypeInfo} {n : Nat} (hu : P.underlying t = some (.array n e)) (hi : P.info? e = some ie) {x : Value} {lo hi' mx : Option Value} {xa r : AV} {loA hiA mxA : Option AV} (hx : VRep c x xa)
 (h1 : ORep c lo loA) (h2 : ORep c hi' hiA) (h3 : ORep c mx mxA) (hH : HRep c) (hn : ∀ id off, xa = .ptr id off → ∀ blk, c.h.hp id = some blk → off + n * ie.size ≤ blk.cells.length)
 (h : uD (some n) ie.size xa loA hiA mxA = some r) : YY P c (Instr.sliceAt t x lo hi' mx) r := by
 unfold uD at h
 by_cases hmh : (mxA.isSome && hiA.isNone) = true
 · rw [if_pos hmh] at h; cases h
 rw [if_neg hmh] at h
 have hmh : (mxA.isSome && hiA.isNone) = false := by cases hq : (mxA.isSome && hiA.isNone) <;> simp_all
 cases xa <;> simp only [reduceCtorEq] at h
 case ptr id off =>
  split at h
  · rename_i l h' m b1 b2 b3
    split at h
    · rename_i hc
      obtain ⟨c1, c2, c3⟩ := hc
      cases h
      simp only [VRep] at hx
      obtain ⟨hid, rfl⟩ := hx
      obtain ⟨m', k3, k4, hb⟩ := UO (P := P) (c := c) (isSlice := false) h1 h2 h3 hmh (Nat.le_refl n) b1 b2 b3 c1 c2 c3
      refine ⟨_, run_sliceAt_arr hu hi hb, ?_⟩
      have := sl_piece (c := c) (id := id) (off := off) (n := n) (sz := ie.size) (l := l) (h := h') (m := m') (cap := n) (v := .nilFunc) hid c1 (by omega) k3 k4 (fun blk hblk => by
       obtain ⟨_, ⟨arr, el, g1, g2⟩, _⟩ := hH.blk id blk hblk
       have := hn id off rfl blk hblk
       exact ⟨this, arr, el, _, g1, by omega⟩)
      by_cases e : m' = l <;> simp [e, wS] at this ⊢ <;> exact this
    · cases h
  · cases h
end
def qI (o : AOp) (ρ : AOpd → AV) (h : Hp) : Option AV :=
 match o with
 | .load agg n x =>
   match ρ x with
   | .ptr id off => match h.hp id with | some blk => qQ agg off n blk.cells | none => none
   | .ip cs => qQ agg 0 n cs
   | _ => none
 | .slice (some n) sz x lo hi mx =>
   match ρ x with
   | .ptr id off => match h.hp id with
     | some blk => if off + n * sz ≤ blk.cells.length then uD (some n) sz (.ptr id off) (lo.map ρ) (hi.map ρ) (mx.map ρ) else none
     | none => none
   | _ => none
 | _ => none
section
variable {P : Program} {c : Cx}
theorem WQ {s : Sem Value} {r : AV} (h : YY P c s r) : ∃ v, ((do pure (Next.value (← s)) : Sem Next)).run P c.w = .ok (.value v) c.w ∧ VRep c v r := by
 obtain ⟨v, h1, h2⟩ := h
 exact ⟨v, by simp [h1], h2⟩
theorem kJ {ρ : Operand → Value} {ρA : AOpd → AV} (hρ : ∀ x y, cOpd x = some y → VRep c (ρ x) (ρA y)) {x : Option Operand} {y : Option AOpd} (h : cOpt x = some y) : ORep c (x.map ρ) (y.map ρA) := by
 cases x with
 | none => simp [cOpt] at h; subst h; trivial
 | some x =>
   simp only [cOpt, oM] at h
   obtain ⟨z, h1, rfl⟩ := h
   exact hρ x z h1
theorem foldI_max (k : IntKind) : ∀ (xs : List AV) (vs : List Value) (a : Int) (r : AV), Reps c vs xs → foldI (fun x y => if y > x then y else x) k a xs = some r → YY P c (vs.foldlM Builtin.max2 (.int k a)) r
 | [], [], a, r, _, h => by simp [foldI] at h; subst h; exact ⟨_, by simp, VRep.lit_mk _⟩
 | x :: xs, v :: vs, a, r, hr, h => by
   simp only [Reps] at hr
   unfold foldI at h
   split at h
   · simp at *
   · rename_i b rest he
     simp only [List.cons.injEq] at he
     obtain ⟨rfl, rfl⟩ := he
     have := hr.1.lit
     subst this
     obtain ⟨u, h1, h2⟩ := foldI_max k _ vs _ r hr.2 h
     exact ⟨u, by simp [List.foldlM_cons, Builtin.max2, h1], h2⟩
   · cases h
 | [], _ :: _, _, _, h, _ => by simp [Reps] at h
 | _ :: _, [], _, _, h, _ => by simp [Reps] at h
theorem foldI_min (k : IntKind) : ∀ (xs : List AV) (vs : List Value) (a : Int) (r : AV), Reps c vs xs → foldI (fun x y => if y < x then y else x) k a xs = some r → YY P c (vs.foldlM Builtin.min2 (.int k a)) r
 | [], [], a, r, _, h => by simp [foldI] at h; subst h; exact ⟨_, by simp, VRep.lit_mk _⟩
 | x :: xs, v :: vs, a, r, hr, h => by
   simp only [Reps] at hr
   unfold foldI at h
   split at h
   · simp at *
   · rename_i b rest he
     simp only [List.cons.injEq] at he
     obtain ⟨rfl, rfl⟩ := he
     have := hr.1.lit
     subst this
     obtain ⟨u, h1, h2⟩ := foldI_min k _ vs _ r hr.2 h
     exact ⟨u, by simp [List.foldlM_cons, Builtin.min2, h1], h2⟩
   · cases h
 | [], _ :: _, _, _, h, _ => by simp [Reps] at h
 | _ :: _, [], _, _, h, _ => by simp [Reps] at h
theorem Reps.arr {ρ : Operand → Value} {as : Array Operand} {xs : List AV} (h : Reps c (as.toList.map ρ) xs) : Reps c (as.map ρ).toList xs := by simpa using h
theorem max_sound {vs : Array Value} {xs : List AV} {r : AV} {tys : Array TypeId} {t : TypeId} (hr : Reps c vs.toList xs) (h : maxV xs = some r) : YY P c (Builtin.max_ tys t vs) r := by
 unfold maxV at h
 split at h
 · rename_i k a rest
   unfold Builtin.max_
   cases hv : vs.toList with
   | nil => rw [hv] at hr; simp [Reps] at hr
   | cons v us =>
     rw [hv] at hr
     simp only [Reps] at hr
     have := hr.1.lit
     subst this
     exact foldI_max k rest us a r hr.2 h
 · cases h
theorem min_sound {vs : Array Value} {xs : List AV} {r : AV} {tys : Array TypeId} {t : TypeId} (hr : Reps c vs.toList xs) (h : minV xs = some r) : YY P c (Builtin.min_ tys t vs) r := by
 unfold minV at h
 split at h
 · rename_i k a rest
   unfold Builtin.min_
   cases hv : vs.toList with
   | nil => rw [hv] at hr; simp [Reps] at hr
   | cons v us =>
     rw [hv] at hr
     simp only [Reps] at hr
     have := hr.1.lit
     subst this
     exact foldI_min k rest us a r hr.2 h
 · cases h
theorem eqIn_scalar {d D : Nat} {t : TypeId} {g : Nat} {v u : Value} {b : Bool} (hD : d < D) (h : eqLv P (d + 1) t = some [(0, g)]) (ht : ∀ fs, P.underlying t ≠ some (.struct fs)) (hb : scEq g v u = some b) (w : World) : (Op.equalIn D t v u).run P w = .ok b w := by
 obtain ⟨D, rfl⟩ : ∃ n, D = n + 1 := ⟨D - 1, by omega⟩
 simp only [eqLv] at h
 split at h
 · rename_i hu
   cases h
   cases v <;> cases u <;> simp only [scEq, reduceCtorEq] at hb
   cases hb
   exact run_equalIn_bool' w D t _ _ hu
 · rename_i hu
   cases h
   cases v <;> cases u <;> simp only [scEq, reduceCtorEq] at hb
   split at hb
   · rename_i e; subst e; cases hb; exact run_equalIn_int w D t _ _ _ _ hu
   · cases hb
 · rename_i hu
   cases h
   cases v <;> cases u <;> simp only [scEq, reduceCtorEq] at hb
   cases hb
   exact run_equalIn_string w D t _ _ hu
 · rename_i hu
   exact absurd hu (ht _)
 · cases h
theorem eqAll_app {xs ys : List AV} : ∀ {l r : List (Nat × Nat)} {b : Bool}, YQ xs ys (l ++ r) = some b → ∃ b1 b2, YQ xs ys l = some b1 ∧ YQ xs ys r = some b2 ∧ b = (b1 && b2)
 | [], r, b, h => ⟨true, b, rfl, h, by simp⟩
 | (o, g) :: l, r, b, h => by
   simp only [List.cons_append, YQ] at h
   split at h
   · rename_i u v h1 h2
     simp only [oB, oM] at h
     obtain ⟨b1, h3, b2, h4, rfl⟩ := h
     obtain ⟨c1, c2, h5, h6, rfl⟩ := eqAll_app h4
     exact ⟨b1 && c1, c2, by simp [YQ, h1, h2, h3, h5], h6, by simp [Bool.and_assoc]⟩
   · cases h
theorem eqAll_at {xs ys : List AV} : ∀ {l : List (Nat × Nat)} {b : Bool}, YQ xs ys l = some b → ∀ p ∈ l, ∃ u v, xs[p.1]? = some (.lit u) ∧ ys[p.1]? = some (.lit v)
 | [], b, h => by simp
 | (o, g) :: l, b, h => by
   simp only [YQ] at h
   split at h
   · rename_i u v h1 h2
     simp only [oB, oM] at h
     obtain ⟨b1, h3, b2, h4, rfl⟩ := h
     intro p hp
     rcases List.mem_cons.1 hp with rfl | hp
     · exact ⟨u, v, h1, h2⟩
     · exact eqAll_at h4 p hp
   · cases h
theorem eqAll_shift {xs ys : List AV} {off n : Nat} : ∀ {l : List (Nat × Nat)} {b : Bool}, (∀ p ∈ l, p.1 < n) → YQ xs ys (l.map fun p => (p.1 + off, p.2)) = some b → YQ ((xs.drop off).take n) ((ys.drop off).take n) l = some b
 | [], b, _, h => h
 | (o, g) :: l, b, hl, h => by
   have ho : o < n := hl (o, g) (List.mem_cons_self ..)
   simp only [List.map_cons, YQ] at h ⊢
   rw [List.getElem?_take_of_lt ho, List.getElem?_take_of_lt ho, List.getElem?_drop, List.getElem?_drop, Nat.add_comm off o]
   split at h
   · rename_i u v h1 h2
     simp only [oB, oM] at h
     obtain ⟨b1, h3, b2, h4, rfl⟩ := h
     simp only [h3, eqAll_shift (fun p hp => hl p (List.mem_cons_of_mem _ hp)) h4, Option.bind_some, Option.map_some]
   · cases h
theorem eqIn_struct : ∀ {d D : Nat} {t : TypeId} {fs : Array Field} {ls : List (Nat × Nat)} {va ua : Array Value} {xs ys : List AV} {b : Bool}, d ≤ D → P.underlying t = some (.struct fs) → eqLv P d t = some ls → Reps c va.toList xs → Reps c ua.toList ys → YQ xs ys ls = some b →
 (Op.equalIn D t (.agg va) (.agg ua)).run P c.w = .ok b c.w
 | 0, D, t, fs, ls, va, ua, xs, ys, b, _, _, h, _, _, _ => by simp [eqLv] at h
 | d + 1, D, t, fs, ls, va, ua, xs, ys, b, hD, hu, h, hx, hy, hb => by
   obtain ⟨D, rfl⟩ : ∃ n, D = n + 1 := ⟨D - 1, by omega⟩
   simp only [eqLv, hu] at h
   split at h
   · cases h
   · rename_i hs
     rw [Bool.not_eq_true] at hs
     have hf : P.fieldsOf t = fs := by simp [Program.fieldsOf, hu]
     rw [run_equalIn_struct c.w D t va ua (by rw [hf]; exact hu) hs, hf]
     generalize fs.toList = l at h
     clear hf hu
     induction l generalizing ls b with
     | nil => simp only [eqFs, oI] at h; subst h; simp only [YQ, oI] at hb; subst hb; simp [Op.eqFields]
     | cons f l ih =>
       simp only [eqFs] at h
       split at h
       · cases h
       · rename_i hn
         simp only [oB] at h
         obtain ⟨i, h1, l1, h2, h3⟩ := h
         split at h3
         · rename_i hc
           obtain ⟨hc1, hc2⟩ := hc
           simp only [List.all_eq_true, decide_eq_true_eq] at hc1
           simp only [List.any_eq_true, decide_eq_true_eq] at hc2
           simp only [oM] at h3
           obtain ⟨r, h4, rfl⟩ := h3
           obtain ⟨b1, b2, g1, g2, rfl⟩ := eqAll_app hb
           have key : ∃ v u, (part f.type va f.offset).run P c.w = .ok v c.w ∧ (part f.type ua f.offset).run P c.w = .ok u c.w ∧ (Op.equalIn D f.type v u).run P c.w = .ok b1 c.w := by
            by_cases hst : ∃ gs, P.underlying f.type = some (.struct gs)
            · obtain ⟨gs, hst⟩ := hst
              have hg : wR P f.type = some true := by simp [wR, hst]
              obtain ⟨p, hp1, hp2⟩ := hc2
              obtain ⟨u0, v0, q1, q2⟩ := eqAll_at g1 (p.1 + f.offset, p.2) (List.mem_map.2 ⟨p, hp1, rfl⟩)
              have z1 : f.offset + i.size ≤ xs.length := by have := (List.getElem?_eq_some_iff.1 q1).1; simp only at this; omega
              have z2 : f.offset + i.size ≤ ys.length := by have := (List.getElem?_eq_some_iff.1 q2).1; simp only at this; omega
              obtain ⟨v, e1, e2⟩ := uE (P := P) (c := c) (off := f.offset) (r := .agg ((xs.drop f.offset).take i.size)) hg h1 hx (by simp [qQ, z1])
              obtain ⟨u, e3, e4⟩ := uE (P := P) (c := c) (off := f.offset) (r := .agg ((ys.drop f.offset).take i.size)) hg h1 hy (by simp [qQ, z2])
              simp only [VRep] at e2 e4
              obtain ⟨va', rfl, r1⟩ := e2
              obtain ⟨ua', rfl, r2⟩ := e4
              exact ⟨_, _, e1, e3, eqIn_struct (by omega) hst h2 r1 r2 (eqAll_shift hc1 g1)⟩
            · have hg : ∃ g, l1 = [(0, g)] ∧ wR P f.type = some false ∧ ∃ d', d = d' + 1 := by
               cases d with
               | zero => simp [eqLv] at h2
               | succ d =>
                 simp only [eqLv] at h2
                 split at h2
                 · rename_i hu; cases h2; exact ⟨1, rfl, by simp [wR, hu], d, rfl⟩
                 · rename_i hu; cases h2; exact ⟨0, rfl, by simp [wR, hu], d, rfl⟩
                 · rename_i hu; cases h2; exact ⟨2, rfl, by simp [wR, hu], d, rfl⟩
                 · rename_i hu; exact absurd ⟨_, hu⟩ hst
                 · cases h2
              obtain ⟨g, rfl, hg, d', rfl⟩ := hg
              simp only [List.map_cons, List.map_nil, Nat.zero_add, YQ] at g1
              split at g1
              · rename_i u0 v0 q1 q2
                simp only [oB, Option.map_some, oI, Bool.and_true] at g1
                obtain ⟨b0, q3, rfl⟩ := g1
                obtain ⟨v, e1, e2⟩ := uE (P := P) (c := c) (off := f.offset) (r := .lit u0) hg h1 hx (by simp [qQ, q1])
                obtain ⟨u, e3, e4⟩ := uE (P := P) (c := c) (off := f.offset) (r := .lit v0) hg h1 hy (by simp [qQ, q2])
                have := e2.lit; subst this
                have := e4.lit; subst this
                exact ⟨_, _, e1, e3, eqIn_scalar (by omega) h2 (fun gs hgs => hst ⟨gs, hgs⟩) q3 c.w⟩
              · cases g1
           obtain ⟨v, u, k1, k2, k3⟩ := key
           simp only [Op.eqFields, if_pos (show f.name ≠ "_" from hn), Sem.run_bind, k1, k2, k3, Result.andThen_ok, Sem.run_ite]
           cases b1
           · simp
           · simp only [Bool.not_true, Bool.false_eq_true, if_false, Bool.true_and]
             first | exact ih _ _ g2 h4 | exact ih _ _ h4 g2 | exact ih _ g2 h4 | exact ih _ h4 g2 | exact ih g2 h4
         · cases h3
theorem bin_sound {op : BinOp} {t : TypeId} {x y : Operand} {u v : Value} {xa ya r : AV} (hu : VRep c u xa) (hv : VRep c v ya) (h : binV op xa ya = some r) :
 YY P c (do eqGuard op t x y u v; binOp op t u v) r := by
 unfold binV at h
 split at h
 · rename_i k a k' b
   have e1 := hu.lit
   have e2 := hv.lit
   subst e1 e2
   obtain ⟨w, h1, h2⟩ := bin_int (P := P) (c := c) op k k' t a b (by unfold binV; exact h)
   exact ⟨w, by simp only [Sem.run_bind, uR op t x y (.int k a) (.int k' b) rfl, Result.andThen_ok]; exact h1, h2⟩
 · rename_i a b
   have e1 := hu.lit
   have e2 := hv.lit
   subst e1 e2
   obtain ⟨w, h1, h2⟩ := bin_str (P := P) (c := c) op t a b (by unfold binV; exact h)
   exact ⟨w, by simp only [Sem.run_bind, uR op t x y (.string a) (.string b) rfl, Result.andThen_ok]; exact h1, h2⟩
 · cases h
theorem len_sound {tys : Array TypeId} {t ty e : TypeId} {x : Value} {xa r : AV} (ht : tys[0]? = some t) (hu : P.underlying t = some (.slice e))
 (hx : VRep c x xa) (h : lenV xa = some r) : YY P c (Builtin.len_ tys ty #[x]) r := by
 unfold lenV at h
 split at h
 · cases h
   simp only [VRep] at hx
   rcases hx.2 with ⟨cap, rfl, _⟩ | ⟨rfl, a, rfl⟩ <;> exact ⟨_, by simp [Builtin.len_, ht, run_underlying hu]; rfl, by simp [goInt, VRep]⟩
 · cases h
   simp only [VRep] at hx
   obtain ⟨addr, cap, rfl, _⟩ := hx
   exact ⟨_, by simp [Builtin.len_, ht, run_underlying hu]; rfl, by simp [goInt, VRep]⟩
 · cases h
   simp only [VRep] at hx
   obtain ⟨a, rfl⟩ := hx
   exact ⟨_, by simp [Builtin.len_, ht, run_underlying hu]; rfl, by simp [goInt, VRep]⟩
 · cases h
theorem run_equalIn_bool (d : Nat) {t : TypeId} (hu : P.underlying t = some .bool) (a b : Bool) (w : World) : (Op.equalIn (d + 1) t (.bool a) (.bool b)).run P w = .ok (a == b) w := by
 simp [Op.equalIn, run_underlying hu]
theorem run_equal_bool {t : TypeId} (hu : P.underlying t = some .bool) (a b : Bool) (w : World) : (Op.equal t (.bool a) (.bool b)).run P w = .ok (a == b) w :=
 run_equalIn_bool 9999 hu a b w
theorem run_eqGuard_bool (op : BinOp) (t : TypeId) (x y : Operand) (a b : Bool) (w : World) : (eqGuard op t x y (.bool a) (.bool b)).run P w = .ok () w := uR op t x y _ _ rfl w
theorem run_beq {t : TypeId} (hu : P.underlying t = some .bool) (a b : Bool) (w : World) : (binOp .eql t (.bool a) (.bool b)).run P w = .ok (.bool (a == b)) w := by
 simp only [Go.binOp, Sem.run_bind, run_equal_bool hu, Result.andThen_ok, Sem.run_pure]
theorem run_bne {t : TypeId} (hu : P.underlying t = some .bool) (a b : Bool) (w : World) : (binOp .neq t (.bool a) (.bool b)).run P w = .ok (.bool (!(a == b))) w := by
 simp only [Go.binOp, Sem.run_bind, run_equal_bool hu, Result.andThen_ok, Sem.run_pure]
set_option maxHeartbeats 1000000 in
theorem pure_sound {q : Bool} {o : Oper} {ao : AOp} (hc : cOp P q o.op = some ao) {ρ : Operand → Value} {ρA : AOpd → AV} (hρ : ∀ x y, cOpd x = some y → VRep c (ρ x) (ρA y)) {r : AV}
 (hp : yQ ao ρA = some r) : ∃ v, (execOp ρ o).run P c.w = .ok (.value v) c.w ∧ VRep c v r := by
 obtain ⟨dst, op, type, pos, after, guard⟩ := o
 have hno : mapOp op = true → False := fun hm => by
  obtain ⟨k, xs, rfl⟩ := mop_of hm hc
  simp [yQ] at hp
 cases op
 case makeMap => exact (hno rfl).elim
 case lookup => exact (hno rfl).elim
 case mapUpdate => exact (hno rfl).elim
 case range => exact (hno rfl).elim
 case next => exact (hno rfl).elim
 case entry => exact (hno rfl).elim
 case move x =>
  simp only [cOp, oM] at hc
  obtain ⟨y, h1, rfl⟩ := hc
  simp only [yQ, oI] at hp
  subst hp
  exact ⟨_, rfl, hρ x y h1⟩
 case assign x =>
  simp only [cOp, oM] at hc
  obtain ⟨y, h1, rfl⟩ := hc
  simp only [yQ, oI] at hp
  subst hp
  exact ⟨_, rfl, hρ x y h1⟩
 case pick x a b =>
  simp only [cOp, oM, oB] at hc
  obtain ⟨xA, h1, aA, h2, bA, h3, rfl⟩ := hc
  simp only [yQ] at hp
  have hx := hρ x xA h1
  split at hp
  · rename_i t ht
    rw [ht] at hx
    simp only [oI] at hp
    subst hp
    refine ⟨if t then ρ a else ρ b, by simp only [execOp, Sem.run_bind, hx.lit, asBool, Sem.run_pure, Result.andThen_ok], ?_⟩
    cases t
    · exact hρ b bA h3
    · exact hρ a aA h2
  · cases hp
 case build t ps =>
  simp only [cOp, oM, oB] at hc
  obtain ⟨z, h1, pl, h2, qs, h3, rfl⟩ := hc
  simp only [yQ, oM] at hp
  obtain ⟨out, h4, rfl⟩ := hp
  have hpr := cParts_rep hρ h3
  exact WQ (build_sound (ps := ps.map fun (i, x) => (i, ρ x)) h1 h2 (by simpa using hpr) h4)
 case nilCheck x =>
  simp only [cOp, oM] at hc
  obtain ⟨y, h1, rfl⟩ := hc
  have hx := hρ x y h1
  simp only [yQ] at hp
  split at hp
  all_goals first
   | (cases hp; done)
   | (rename_i e
      simp only [oI] at hp
      subst hp
      rw [e] at hx
      simp only [VRep] at hx ⊢
      first
      | (obtain ⟨h5, h6⟩ := hx
         exact ⟨_, by simp only [execOp]; rw [h6]; rfl, h5, rfl⟩)
      | (obtain ⟨b, off, h6, h7⟩ := hx
         exact ⟨_, by simp only [execOp]; rw [h6]; rfl, b, off, rfl, h7⟩)
      | (obtain ⟨arr, h6, h7⟩ := hx
         exact ⟨_, by simp only [execOp]; rw [h6]; rfl, arr, rfl, h7⟩))
 case binOp op t x y yt =>
  simp only [cOp, oB] at hc
  obtain ⟨xA, h1, yA, h2, hc⟩ := hc
  have hx := hρ x xA h1
  have hy := hρ y yA h2
  split at hc
  · rename_i hu
    split at hc
    all_goals first
     | (cases hc; done)
     | (simp only [oI] at hc
        subst hc
        simp only [yQ] at hp
        split at hp
        · rename_i a b ea eb
          rw [ea] at hx
          rw [eb] at hy
          have e1 := hx.lit
          have e2 := hy.lit
          simp only [oI, if_true, if_false, Bool.false_eq_true] at hp
          subst hp
          refine ⟨_, ?_, VRep.lit_mk _⟩
          simp only [execOp, e1, e2, Sem.run_bind, run_eqGuard_bool, run_beq hu, run_bne hu, Result.andThen_ok, Sem.run_pure]
        · cases hp)
  · rename_i fs hu
    split at hc
    · cases hc
    · rename_i hm
      rw [Bool.not_eq_true] at hm
      split at hc
      all_goals first
       | (cases hc; done)
       | (simp only [oM] at hc
          obtain ⟨ls, h5, rfl⟩ := hc
          simp only [yQ] at hp
          split at hp
          · rename_i xs ys ea eb
            rw [ea] at hx
            rw [eb] at hy
            simp only [oM] at hp
            obtain ⟨b, h6, rfl⟩ := hp
            simp only [VRep] at hx hy
            obtain ⟨va, e1, r1⟩ := hx
            obtain ⟨ua, e2, r2⟩ := hy
            have h7 := eqIn_struct (d := 8) (D := 10000) (by decide) hu h5 r1 r2 h6
            refine ⟨_, ?_, VRep.lit_mk _⟩
            simp only [execOp, e1, e2, Sem.run_bind, run_eqGuard_agg c.w _ t x y va ua hm, Result.andThen_ok, run_eql_struct, run_neq_struct, h7, Sem.run_pure, if_true, if_false, Bool.false_eq_true]
          · cases hp)
  · rename_i e hu
    have hpt : P.underlying t = some (.pointer (P.pointee t)) := by simp [Program.pointee, hu]
    have key : ∀ neg, peqV neg (ρA xA) (ρA yA) = some r → ∃ p, ρ x = .pointer p ∧ ρ y = .pointer none ∧ r = .lit (.bool (if neg then !p.isNone else p.isNone)) := fun neg hp => by
     unfold peqV at hp
     split at hp
     · rename_i e1 e2
       rw [e1] at hx
       rw [e2] at hy
       simp only [VRep] at hx
       cases hp
       exact ⟨_, hx.2, hy.lit, by cases neg <;> rfl⟩
     · rename_i e1 e2
       rw [e1] at hx
       rw [e2] at hy
       simp only [VRep] at hx
       obtain ⟨b, off, hx, _⟩ := hx
       cases hp
       exact ⟨_, hx, hy.lit, by cases neg <;> rfl⟩
     · rename_i e1 e2
       rw [e1] at hx
       rw [e2] at hy
       cases hp
       exact ⟨none, hx.lit, hy.lit, by cases neg <;> rfl⟩
     · cases hp
    split at hc
    · cases hc
      simp only [yQ] at hp
      obtain ⟨p, e1, e2, rfl⟩ := key false hp
      refine ⟨_, ?_, VRep.lit_mk _⟩
      simp only [execOp, e1, e2, Sem.run_bind, uR .eql t x y (.pointer p) (.pointer none) rfl, Result.andThen_ok, run_eql_pointer_nil c.w t p hpt, Sem.run_pure, Bool.false_eq_true, if_false]
    · cases hc
      simp only [yQ] at hp
      obtain ⟨p, e1, e2, rfl⟩ := key true hp
      refine ⟨_, ?_, VRep.lit_mk _⟩
      simp only [execOp, e1, e2, Sem.run_bind, uR .neq t x y (.pointer p) (.pointer none) rfl, Result.andThen_ok, run_neq_pointer_nil c.w t p hpt, Sem.run_pure, if_true]
    · cases hc
  · simp only [oI] at hc
    subst hc
    simp only [yQ] at hp
    exact WQ (bin_sound hx hy hp)
 case unOp op t x =>
  simp only [cOp, oM] at hc
  obtain ⟨y, h1, rfl⟩ := hc
  have hx := hρ x y h1
  simp only [yQ, unV] at hp
  split at hp
  · rename_i b e
    rw [e] at hx
    have e1 := hx.lit
    split at hp
    · simp only [oI] at hp
      subst hp
      exact ⟨_, by simp [execOp, e1, Op.unary], VRep.lit_mk _⟩
    · cases hp
  · rename_i k n e
    rw [e] at hx
    have e1 := hx.lit
    split at hp
    · simp only [oI] at hp
      subst hp
      exact ⟨_, by simp [execOp, e1, Op.unary, Op.intArith]; rfl, by simp [VRep]⟩
    · simp only [bits2, Option.map_some, oI] at hp
      subst hp
      exact ⟨_, by simp [execOp, e1, Op.unary, Op.intBits], VRep.lit_mk _⟩
    · cases hp
  · cases hp
 case convert src dst x =>
  simp only [cOp] at hc
  split at hc
  · rename_i d k hs hd
    simp only [oM] at hc
    obtain ⟨y, h1, rfl⟩ := hc
    have hx := hρ x y h1
    simp only [yQ] at hp
    split at hp
    · rename_i k' n e
      rw [e] at hx
      simp only [oI] at hp
      subst hp
      refine ⟨_, ?_, VRep.lit_mk _⟩
      simp [execOp, hx.lit, Go.convert, run_underlying hs, run_underlying hd, Conv.intToInt]
    · cases hp
  · cases hc
 case makeFunc fn first caps =>
  cases fn <;> simp only [cOp, reduceCtorEq] at hc
  case func f =>
   split at hc
   · rename_i hf
     simp only [oM] at hc
     obtain ⟨ys, h1, rfl⟩ := hc
     simp only [yQ, oI] at hp
     subst hp
     have hf' : first = #[] := by simpa using hf
     subst hf'
     refine ⟨.func (.func f) #[] (caps.map ρ), by simp [execOp, Instr.makeFunc], ?_⟩
     simp only [VRep]
     exact ⟨_, rfl, by simpa using uF hρ h1⟩
   · split at hc
     · rename_i hf
       simp only [oM] at hc
       obtain ⟨ys, h1, rfl⟩ := hc
       simp only [yQ, oI] at hp
       subst hp
       have hf' : caps = #[] := by simpa using hf
       subst hf'
       refine ⟨.func (.func f) (first.map ρ) #[], by simp [execOp, Instr.makeFunc], ?_⟩
       simp only [VRep]
       exact ⟨_, rfl, by simpa using uF hρ h1⟩
     · cases hc
 case slice t x lo hi' mx =>
  simp only [cOp, oB] at hc
  obtain ⟨xA, h1, loA, h2, hiA, h3, mxA, h4, hc⟩ := hc
  split at hc
  · simp only [oM] at hc
    obtain ⟨i, h5, rfl⟩ := hc
    simp [yQ] at hp
  · rename_i e hu
    simp only [oM] at hc
    obtain ⟨i, h5, rfl⟩ := hc
    simp only [yQ] at hp
    exact WQ (slice_slice hu h5 (hρ x xA h1) (kJ hρ h2) (kJ hρ h3) (kJ hρ h4) hp)
  · cases hc
 case fieldAddr t x f =>
  simp only [cOp] at hc
  split at hc
  · rename_i fs hu
    simp only [oB] at hc
    obtain ⟨fd, h1, i, h2, hc⟩ := hc
    split at hc
    · cases hc
    · rename_i hz
      simp only [oM] at hc
      obtain ⟨y, h3, rfl⟩ := hc
      exact WQ (fieldAddr_sound hu h1 h2 hz (hρ x y h3) (by simpa [yQ] using hp))
  · cases hc
 case field t x f =>
  simp only [cOp] at hc
  split at hc
  · rename_i fs hu
    simp only [oB, oM] at hc
    obtain ⟨fd, h1, i, h2, g, h3, y, h4, rfl⟩ := hc
    have hx := hρ x y h4
    simp only [yQ] at hp
    split at hp
    · rename_i cs e
      rw [e] at hx
      simp only [VRep] at hx
      obtain ⟨arr, e1, hr⟩ := hx
      obtain ⟨v, h5, h6⟩ := uE h3 h2 hr hp
      exact ⟨v, by simp [execOp, Instr.field, run_underlying hu, h1, e1, asAgg, h5], h6⟩
    · cases hp
  · cases hc
 case indexAddr t x i =>
  simp only [cOp, oB] at hc
  obtain ⟨xA, h1, iA, h2, hc⟩ := hc
  split at hc
  · rename_i n e hu
    simp only [oM] at hc
    obtain ⟨ie, h5, rfl⟩ := hc
    simp only [yQ] at hp
    exact WQ (idxAddr_arr hu h5 (hρ x xA h1) (hρ i iA h2) hp)
  · rename_i e hu
    simp only [oM] at hc
    obtain ⟨ie, h5, rfl⟩ := hc
    simp only [yQ] at hp
    exact WQ (idxAddr_slice hu h5 (hρ x xA h1) (hρ i iA h2) hp)
  · cases hc
 case index t x i =>
  simp only [cOp, oB] at hc
  obtain ⟨xA, h1, iA, h2, hc⟩ := hc
  split at hc
  · rename_i n e hu
    simp only [oB, oM] at hc
    obtain ⟨ie, h5, g, h6, rfl⟩ := hc
    simp only [yQ, idxV] at hp
    have hx := hρ x xA h1
    have hi := hρ i iA h2
    split at hp
    · rename_i cs k m ex ei
      split at hp
      · rename_i hb
        rw [ex] at hx
        rw [ei] at hi
        simp only [VRep] at hx
        obtain ⟨arr, e1, hr⟩ := hx
        obtain ⟨v, h7, h8⟩ := uE h6 h5 hr hp
        exact ⟨v, by simp [execOp, Instr.index, asIntOf, run_underlying hu, e1, hi.lit, hb.1, hb.2, qW h5, h7], h8⟩
      · cases hp
    · cases hp
  · cases hc
 case extract x i =>
  simp only [cOp, oM] at hc
  obtain ⟨y, h1, rfl⟩ := hc
  have hx := hρ x y h1
  simp only [yQ] at hp
  split at hp
  · rename_i vs e
    rw [e] at hx
    simp only [VRep] at hx
    obtain ⟨arr, e1, hr⟩ := hx
    obtain ⟨v, h5, h6⟩ := hr.get hp
    exact ⟨v, by simp [execOp, Instr.extract, e1, show arr[i]? = some v by simpa using h5], h6⟩
  · cases hp
 case call cl =>
  obtain ⟨callee, args, tys⟩ := cl
  simp only [cOp] at hc
  split at hc
  · simp only [oB, oM] at hc
    obtain ⟨f, h1, as, h2, rfl⟩ := hc
    simp [yQ] at hp
  · rename_i b
    unfold uT at hc
    split at hc
    · rename_i x hargs
      obtain rfl : args = #[x] := by cases args; simp_all
      simp only [oB] at hc
      obtain ⟨t, h1, y, h2, hc⟩ := hc
      split at hc
      · rename_i n e hu
        simp only [oI] at hc
        subst hc
        simp only [yQ, oI] at hp
        subst hp
        exact ⟨_, by simp [execOp, resolve, Go.invoke, Go.builtin, Builtin.len_, h1, run_underlying hu, goInt], VRep.lit_mk _⟩
      · rename_i e hu
        simp only [oI] at hc
        subst hc
        simp only [yQ] at hp
        obtain ⟨v, h3, h4⟩ := len_sound (ty := type) h1 hu (hρ x y h2) hp
        exact ⟨v, by simp [execOp, resolve, Go.invoke, Go.builtin, h3], h4⟩
      · rename_i hu
        simp only [oI] at hc
        subst hc
        simp only [yQ] at hp
        have hx := hρ x y h2
        split at hp
        · rename_i s e
          rw [e] at hx
          simp only [oI] at hp
          subst hp
          exact ⟨_, by simp [execOp, resolve, Go.invoke, Go.builtin, Builtin.len_, h1, run_underlying hu, goInt, hx.lit], VRep.lit_mk _⟩
        · cases hp
      · cases hc
    · simp only [oB] at hc
      obtain ⟨t, h1, u, h2, s, h3, x, h4, hc⟩ := hc
      split at hc
      · simp only [oB] at hc
        obtain ⟨i, h5, z, h6, hc⟩ := hc
        split at hc
        · simp only [oI] at hc
          subst hc
          simp [yQ] at hp
        · cases hc
      · cases hc
    · simp only [oM] at hc
      obtain ⟨ys, h1, rfl⟩ := hc
      simp only [yQ] at hp
      obtain ⟨v, h3, h4⟩ := max_sound (P := P) (tys := tys) (t := type) (Reps.arr (uF hρ h1)) hp
      exact ⟨v, by simp [execOp, resolve, Go.invoke, Go.builtin, h3], h4⟩
    · simp only [oM] at hc
      obtain ⟨ys, h1, rfl⟩ := hc
      simp only [yQ] at hp
      obtain ⟨v, h3, h4⟩ := min_sound (P := P) (tys := tys) (t := type) (Reps.arr (uF hρ h1)) hp
      exact ⟨v, by simp [execOp, resolve, Go.invoke, Go.builtin, h3], h4⟩
    · cases hc
  · cases hc
 case alloc e =>
  simp only [cOp, oM] at hc
  obtain ⟨z, _, rfl⟩ := hc
  simp [yQ] at hp
 case box e x =>
  simp only [cOp, oM] at hc
  obtain ⟨z, _, rfl⟩ := hc
  simp [yQ] at hp
 case buildSlice t n ps =>
  simp only [cOp] at hc
  split at hc
  · simp only [oB] at hc
    obtain ⟨i, _, z, _, hc⟩ := hc
    split at hc
    · simp only [oM] at hc
      obtain ⟨_, _, rfl⟩ := hc
      simp [yQ] at hp
    · cases hc
  · cases hc
 case load t a =>
  simp only [cOp, oM, oB] at hc
  obtain ⟨_, _, _, _, _, _, rfl⟩ := hc
  simp [yQ] at hp
 case store t a x =>
  simp only [cOp, oM, oB] at hc
  obtain ⟨_, _, _, _, _, _, rfl⟩ := hc
  simp [yQ] at hp
 case makeSlice t l cp =>
  simp only [cOp] at hc
  split at hc
  · simp only [oB] at hc
    obtain ⟨_, _, _, _, _, _, _, _, hc⟩ := hc
    split at hc
    · simp only [oI] at hc
      subst hc
      simp [yQ] at hp
    · cases hc
  · cases hc
 all_goals (simp [cOp] at hc)
end
def upd {ι α : Type} [DecidableEq ι] (f : ι → α) (i : ι) (v : α) : ι → α := fun j => if j = i then v else f j
@[simp] theorem upd_same {ι α : Type} [DecidableEq ι] (f : ι → α) (i : ι) (v : α) : upd f i v i = v := by simp [upd]
theorem qF {ι α : Type} [DecidableEq ι] (f : ι → α) {i j : ι} (v : α) (h : j ≠ i) : upd f i v j = f j := by simp [upd, h]
theorem upd_comm {ι α : Type} [DecidableEq ι] (f : ι → α) {i j : ι} (u v : α) (h : i ≠ j) : upd (upd f i u) j v = upd (upd f j v) i u := by
 funext k
 simp only [upd]
 by_cases e1 : k = i <;> by_cases e2 : k = j <;> simp [e1, e2]
 · exact absurd (e1.symm.trans e2) h
 · intro e; exact absurd e.symm (fun e => h e.symm)
 · intro e; exact absurd e.symm (fun e => h e)
def Hp.push (h : Hp) (id : Id) (cells : List AV) : Hp := { h with hp := upd h.hp id (some ⟨true, cells⟩) }
def Hp.kill (h : Hp) (id : Id) : Hp := { h with hp := upd h.hp id none }
def Hp.put (h : Hp) (id : Id) (cells : List AV) : Hp := { h with hp := upd h.hp id (some ⟨true, cells⟩) }
def Hp.tick (h : Hp) : Hp := { h with ep := h.ep + 1 }
theorem splice_get {α : Type} (z : List α) (k : Nat) (us : List α) (h : k + us.length ≤ z.length) (j : Nat) :
 (splice z k us)[j]? = if j < k then z[j]? else if j < k + us.length then us[j - k]? else z[j]? := by
 unfold splice
 have hk : (z.take k).length = k := by simp; omega
 rw [List.append_assoc]
 by_cases h1 : j < k
 · rw [if_pos h1, List.getElem?_append_left (by omega), List.getElem?_take, if_pos h1]
 · rw [if_neg h1, List.getElem?_append_right (by omega), hk]
   by_cases h2 : j < k + us.length
   · rw [if_pos h2, List.getElem?_append_left (by omega)]
   · rw [if_neg h2, List.getElem?_append_right (by omega), List.getElem?_drop]
     congr 1
     omega
section
variable {P : Program} {c : Cx}
theorem load_sound {t : TypeId} {g : Bool} {i : TypeInfo} {b off : Nat} {cs : List AV} {r : AV} (hg : wR P t = some g) (hi : P.info? t = some i) (hr : CRep c b off cs) (h : qQ g 0 i.size cs = some r) :
 YY P c (loadVar t ⟨b, off, none⟩) r := by
 simp only [wR, oM] at hg
 obtain ⟨d, hu, hd⟩ := hg
 have hag : (isAgg t).run P c.w = .ok g c.w := by
  simp only [isAgg, Sem.run_bind, run_underlying hu, Result.andThen_ok]
  subst hd
  cases d <;> rfl
 unfold qQ at h
 cases g with
 | true =>
   simp only [if_true] at h
   split at h
   · rename_i hl
     cases h
     obtain ⟨vs, h1, h2⟩ := (hr.take i.size).vals
     have hlen : vs.length = i.size := by rw [h1.length]; simp; omega
     have := run_loadCells_list (P := P) c.w ⟨b, off, none⟩ vs (fun j v hv => by rw [wS]; exact h2 j v hv)
     rw [hlen] at this
     refine ⟨.agg vs.toArray, ?_, ?_⟩
     · simp [loadVar, hag, qW hi, this]
     · simp only [VRep]
       exact ⟨_, rfl, by simpa using h1⟩
   · cases h
 | false =>
   simp only [Bool.false_eq_true, if_false] at h
   obtain ⟨v, h1, h2⟩ := hr.get h
   refine ⟨v, ?_, h2⟩
   simp [loadVar, hag, show c.w.cell? ⟨b, off, none⟩ = some v from h1]
theorem load_op {q : Bool} {t : TypeId} {x : Operand} {ao : AOp} (hc : cOp P q (.load t x) = some ao) (hH : HRep c) {ρ : Operand → Value} {ρA : AOpd → AV} (hρ : ∀ x y, cOpd x = some y → VRep c (ρ x) (ρA y)) {r : AV}
 (hp : qI ao ρA c.h = some r) : YY P c (Instr.loadAt t (ρ x)) r := by
 simp only [cOp, oM, oB] at hc
 obtain ⟨g, h1, i, h2, y, h3, rfl⟩ := hc
 have hx := hρ x y h3
 simp only [qI] at hp
 split at hp
 · rename_i id off e
   rw [e] at hx
   simp only [VRep] at hx
   split at hp
   · rename_i blk hb
     obtain ⟨_, _, h6, _, _⟩ := hH.blk id blk hb
     rw [hx.2]
     simp only [YY, Instr.loadAt, Instr.sureAddr, Sem.run_bind, Sem.run_pure, Result.andThen_ok]
     have h7 : CRep c (c.φ id).1 ((c.φ id).2 + off) (blk.cells.drop off) := h6.drop off
     have h8 : qQ g 0 i.size (blk.cells.drop off) = some r := by
      unfold qQ at hp ⊢
      split at hp
      · rename_i hg
        rw [if_pos hg]
        split at hp
        · rename_i hl
          rw [if_pos (by simp; omega)]
          simpa using hp
        · cases hp
      · rename_i hg
        rw [if_neg hg]
        simpa using hp
     exact load_sound h1 h2 h7 h8
   · cases hp
 · rename_i cs e
   rw [e] at hx
   simp only [VRep] at hx
   obtain ⟨b, off, e1, _, h6⟩ := hx
   rw [e1]
   simp only [YY, Instr.loadAt, Instr.sureAddr, Sem.run_bind, Sem.run_pure, Result.andThen_ok]
   exact load_sound h1 h2 h6 hp
 · cases hp
theorem sliceArr_op {q : Bool} {t : TypeId} {x : Operand} {lo hi' mx : Option Operand} {ao : AOp} (hc : cOp P q (.slice t x lo hi' mx) = some ao) (hH : HRep c) {ρ : Operand → Value} {ρA : AOpd → AV} (hρ : ∀ x y, cOpd x = some y → VRep c (ρ x) (ρA y)) {r : AV}
 (hp : qI ao ρA c.h = some r) : YY P c (Instr.sliceAt t (ρ x) (lo.map ρ) (hi'.map ρ) (mx.map ρ)) r := by
 simp only [cOp, oB] at hc
 obtain ⟨xA, h1, loA, h2, hiA, h3, mxA, h4, hc⟩ := hc
 split at hc
 · rename_i n e hu
   simp only [oM] at hc
   obtain ⟨i, h5, rfl⟩ := hc
   have hx := hρ x xA h1
   simp only [qI] at hp
   split at hp
   · rename_i id off e
     rw [e] at hx
     split at hp
     · rename_i blk hb
       split at hp
       · rename_i hl
         exact slice_arr hu h5 hx (kJ hρ h2) (kJ hρ h3) (kJ hρ h4) hH (fun id' off' he blk' hb' => by cases he; rw [hb] at hb'; cases hb'; exact hl) hp
       · cases hp
     · cases hp
   · cases hp
 · simp only [oM] at hc
   obtain ⟨i, h5, rfl⟩ := hc
   simp [qI] at hp
 · cases hc
theorem kE (hH : HRep c) {nid : Id} (hn : ¬ c.al nid) {w' : World} {arr : Array Value} {el : TypeId} {cells : List AV} (hw : w'.heap = c.w.heap.push (.cells arr el (0, 0))) (ho : w'.os = c.w.os) (ht : w'.tape = c.w.tape) (hout : w'.output = c.w.output)
 (hlen : cells.length ≤ arr.size) (hcells : ∀ (i : Nat) x, cells[i]? = some x → ∃ v, arr[i]? = some v ∧ VRep c v x) :
 ∃ c' : Cx, c'.w = w' ∧ c'.h = c.h.push nid cells ∧ c'.φ nid = (c.w.heap.size, 0) ∧ Le c c' ∧ HRep c' ∧ Fr c c' ∧ c'.al = fun i => c.al i ∨ i = nid := by
 have hold : ∀ b, b < c.w.heap.size → w'.heap[b]? = c.w.heap[b]? := fun b hb => by rw [hw, Array.getElem?_push, if_neg (by omega)]
 have hnew : w'.heap[c.w.heap.size]? = some (.cells arr el (0, 0)) := by rw [hw]; simp
 have hfresh : ∀ id, c.al id → id ≠ nid := fun id hb e => hn (e ▸ hb)
 have hfreshm : ∀ id es, c.h.mp id = some es → id ≠ nid := fun id es hb => hfresh id (hH.mp id es hb).1
 have hblt : ∀ id blk, c.h.hp id = some blk → (c.φ id).1 < c.w.heap.size := fun id blk hb => by
  obtain ⟨_, ⟨arr, el, h1, _⟩, _⟩ := hH.blk id blk hb
  exact (Array.getElem?_eq_some_iff.1 h1).1
 have hmlt : ∀ id es, c.h.mp id = some es → (c.φ id).1 < c.w.heap.size := fun id es hb => by
  obtain ⟨_, _, _, ob, h1, _⟩ := hH.mp id es hb
  exact (Array.getElem?_eq_some_iff.1 h1).1
 refine ⟨⟨w', c.S, c.h.push nid cells, upd c.φ nid (c.w.heap.size, 0), fun i => c.al i ∨ i = nid⟩, rfl, rfl, by simp, ?_, ?_, ?_, rfl⟩
 · -- Le
   refine ⟨fun b hb => ⟨hb, hold b (hH.slt b hb)⟩, fun id h => .inl h, fun id hid => qF _ _ (hfresh id hid), fun id hid blk' hb => ?_⟩
   simp only [Hp.push] at hb
   rw [qF _ _ (hfresh id hid)] at hb
   exact ⟨blk', hb, rfl, fun arr0 el0 fr0 h0 => ⟨arr0, by rw [hold _ (hblt id blk' hb)]; exact h0, rfl⟩⟩
 all_goals
  have hle : Le c ⟨w', c.S, c.h.push nid cells, upd c.φ nid (c.w.heap.size, 0), fun i => c.al i ∨ i = nid⟩ := by
   refine ⟨fun b hb => ⟨hb, hold b (hH.slt b hb)⟩, fun id h => .inl h, fun id hid => qF _ _ (hfresh id hid), fun id hid blk' hb => ?_⟩
   simp only [Hp.push] at hb
   rw [qF _ _ (hfresh id hid)] at hb
   exact ⟨blk', hb, rfl, fun arr0 el0 fr0 h0 => ⟨arr0, by rw [hold _ (hblt id blk' hb)]; exact h0, rfl⟩⟩
 · -- HRep
   have hsz : w'.heap.size = c.w.heap.size + 1 := by rw [hw]; simp
   refine ⟨fun b hb => by have := hH.slt b hb; simp only at *; omega, fun id blk hb => ?_, fun id es hb => ?_, fun id id' h1 h2 hne => ?_⟩
   · simp only [Hp.push] at hb ⊢
     by_cases e : id = nid
     · subst e
       simp only [upd_same, oI] at hb ⊢
       subst hb
       refine ⟨by simp, ⟨arr, el, hnew, by simpa using hlen⟩, CRep.of_get fun i x hx => ?_, fun _ hs => ?_, fun h => by cases h⟩
       · obtain ⟨v, h1, h2⟩ := hcells i x hx
         have h1' := h1
         refine ⟨v, by simp [World.cell?, hnew, h1'], VRep.mono hle v x h2⟩
       · have := hH.slt _ hs; omega
     · rw [qF _ _ e] at hb
       simp only [qF _ _ e]
       obtain ⟨h1, ⟨arr0, el0, h2, h3⟩, h4, h5, h6⟩ := hH.blk id blk hb
       refine ⟨.inl h1, ⟨arr0, el0, by rw [hold _ (hblt id blk hb)]; exact h2, h3⟩, CRep.mono hle _ (hold _ (hblt id blk hb)) _ _ h4, h5, h6⟩
   · simp only [Hp.push] at hb ⊢
     have e := hfreshm id es hb
     obtain ⟨h1, h2, h3, ob, h4, h5⟩ := hH.mp id es hb
     simp only [qF _ _ e]
     exact ⟨.inl h1, h2, h3, ob, by rw [hold _ (hmlt id es hb)]; exact h4, MRep.mono hle h5⟩
   · have lv : ∀ i, (c.h.push nid cells).live i → i ≠ nid → c.h.live i := fun i h e => by
      rcases h with ⟨b, hb⟩ | ⟨es, hb⟩
      · simp only [Hp.push] at hb; rw [qF _ _ e] at hb; exact .inl ⟨b, hb⟩
      · exact .inr ⟨es, hb⟩
     have lt : ∀ i, c.h.live i → (c.φ i).1 < c.w.heap.size := fun i h => by
      rcases h with ⟨b, hb⟩ | ⟨es, hb⟩
      · exact hblt i b hb
      · exact hmlt i es hb
     by_cases e : id = nid
     · have e' : id' ≠ nid := fun h => hne (e.trans h.symm)
       simp only [e, upd_same, qF _ _ e']
       have := lt id' (lv id' h2 e')
       omega
     · by_cases e' : id' = nid
       · simp only [e', upd_same, qF _ _ e]
         have := lt id (lv id h1 e)
         omega
       · simp only [qF _ _ e, qF _ _ e']
         exact hH.inj id id' (lv id h1 e) (lv id' h2 e') hne
 · -- Fr
   refine ⟨ho, ht, hout, by simp [hw], fun b hb _ => hold b hb, fun b hb => ?_, fun b hb => .inl hb⟩
   obtain ⟨id, hm, hφ⟩ := hb
   by_cases e : id = nid
   · subst e; simp at hφ; exact .inr (by omega)
   · simp only [qF _ _ e] at hφ
     refine .inl ⟨id, ?_, hφ⟩
     rcases hm with ⟨blk, hb, hw⟩ | ⟨es, hb⟩
     · simp only [Hp.push] at hb; rw [qF _ _ e] at hb; exact .inl ⟨blk, hb, hw⟩
     · exact .inr ⟨es, hb⟩
end
section
variable {P : Program} {c : Cx}
theorem kill_step (hH : HRep c) (id : Id) : Le c ⟨c.w, c.S, c.h.kill id, c.φ, c.al⟩ ∧ HRep ⟨c.w, c.S, c.h.kill id, c.φ, c.al⟩ ∧ Fr c ⟨c.w, c.S, c.h.kill id, c.φ, c.al⟩ := by
 have sub : ∀ i blk, (c.h.kill id).hp i = some blk → c.h.hp i = some blk := fun i blk h => by
  simp only [Hp.kill, upd] at h
  split at h
  · cases h
  · exact h
 have hle : Le c ⟨c.w, c.S, c.h.kill id, c.φ, c.al⟩ :=
  ⟨fun b h => ⟨h, rfl⟩, fun i h => h, fun i _ => rfl, fun i _ blk h => ⟨blk, sub i blk h, rfl, fun arr el fr h => ⟨arr, h, rfl⟩⟩⟩
 refine ⟨hle, ⟨hH.slt, fun i blk h => ?_, fun i es h => ?_, fun i j hi hj hne => ?_⟩, ⟨rfl, rfl, rfl, Nat.le_refl _, fun _ _ _ => rfl, fun b h => .inl ?_, fun _ h => .inl h⟩⟩
 · obtain ⟨h1, h2, h3, h4, h5⟩ := hH.blk i blk (sub i blk h)
   exact ⟨h1, h2, CRep.mono hle _ rfl _ _ h3, h4, h5⟩
 · obtain ⟨h1, h2, h3, ob, h4, h5⟩ := hH.mp i es h
   refine ⟨h1, ?_, h3, ob, h4, MRep.mono hle h5⟩
   simp only [Hp.kill, upd]
   split
   · rfl
   · exact h2
 · have lv : ∀ k, (c.h.kill id).live k → c.h.live k := fun k h => by
    rcases h with ⟨b, hb⟩ | ⟨es, hb⟩
    · exact .inl ⟨b, sub k b hb⟩
    · exact .inr ⟨es, hb⟩
   exact hH.inj i j (lv i hi) (lv j hj) hne
 · obtain ⟨i, hm, hφ⟩ := h
   refine ⟨i, ?_, hφ⟩
   rcases hm with ⟨blk, hb, hw⟩ | ⟨es, hb⟩
   · exact .inl ⟨blk, sub i blk hb, hw⟩
   · exact .inr ⟨es, hb⟩
theorem write_step (hH : HRep c) {id : Id} {blk : Blk} (hb : c.h.hp id = some blk) (hwr : blk.wr = true) {w' : World} {arr arr' : Array Value} {el : TypeId} {cells : List AV}
 (harr : c.w.heap[(c.φ id).1]? = some (.cells arr el (0, 0)))
 (hw : w' = c.w.setRow (c.φ id).1 arr') (hsz : arr'.size = arr.size) (hlen : cells.length = blk.cells.length)
 (hcells : ∀ (i : Nat) x, cells[i]? = some x → ∃ v, arr'[(c.φ id).2 + i]? = some v ∧ VRep c v x) :
 ∃ c' : Cx, c'.w = w' ∧ c'.h = c.h.put id cells ∧ Le c c' ∧ HRep c' ∧ Fr c c' ∧ c'.al = c.al := by
 obtain ⟨hid, ⟨arr0, el0, h0, hl0⟩, hcr, hns, _⟩ := hH.blk id blk hb
 rw [harr] at h0
 have e0 : arr0 = arr := by simp only [oI, Obj.cells.injEq] at h0; exact h0.1.symm
 subst e0
 have hns := hns hwr
 have hnew : w'.heap[(c.φ id).1]? = some (.cells arr' el (0, 0)) := by rw [hw]; exact setRow_heap _ _ _ _ _ _ harr
 have hold : ∀ b, b ≠ (c.φ id).1 → w'.heap[b]? = c.w.heap[b]? := fun b h => by rw [hw]; exact setRow_other _ _ _ _ h
 have hblk : ∀ i bl, c.h.hp i = some bl → i ≠ id → (c.φ i).1 ≠ (c.φ id).1 := fun i bl h hne => hH.inj i id (.inl ⟨bl, h⟩) (.inl ⟨blk, hb⟩) hne
 have hle : Le c ⟨w', c.S, c.h.put id cells, c.φ, c.al⟩ := by
  refine ⟨fun b h => ⟨h, hold b fun e => hns (e ▸ h)⟩, fun i h => h, fun i _ => rfl, fun i hi bl' h => ?_⟩
  simp only [Hp.put, upd] at h
  split at h
  · rename_i e
    subst e
    simp only [oI] at h
    subst h
    refine ⟨blk, hb, hlen.symm, fun a e f ha => ?_⟩
    rw [harr] at ha
    simp only [oI, Obj.cells.injEq] at ha
    obtain ⟨rfl, rfl, rfl⟩ := ha
    exact ⟨arr', hnew, hsz⟩
  · rename_i e
    exact ⟨bl', h, rfl, fun a e' f ha => ⟨a, by rw [hold _ (hblk i bl' h e)]; exact ha, rfl⟩⟩
 refine ⟨⟨w', c.S, c.h.put id cells, c.φ, c.al⟩, rfl, rfl, hle, ⟨fun b h => ?_, fun i bl h => ?_, fun i es h => ?_, fun i j hi hj hne => ?_⟩, ⟨by rw [hw]; rfl, by rw [hw]; rfl, by rw [hw]; rfl, by simp [hw], fun b _ hm => ?_, fun b h => .inl ?_, fun _ h => .inl h⟩, rfl⟩
 · have := hH.slt b h; simpa [hw] using this
 · simp only [Hp.put, upd] at h
   split at h
   · rename_i e
     subst e
     simp only [oI] at h
     subst h
     refine ⟨hid, ⟨arr', el, hnew, by simp only; omega⟩, CRep.of_get fun k x hx => ?_, fun _ => hns, fun h => by cases h⟩
     obtain ⟨v, h1, h2⟩ := hcells k x hx
     exact ⟨v, by simp [World.cell?, hnew, h1], VRep.mono hle v x h2⟩
   · rename_i e
     obtain ⟨h1, ⟨a, el', h2, h3⟩, h4, h5, h6⟩ := hH.blk i bl h
     have he := hold _ (hblk i bl h e)
     exact ⟨h1, ⟨a, el', by rw [he]; exact h2, h3⟩, CRep.mono hle _ he _ _ h4, h5, h6⟩
 · obtain ⟨h1, h2, h3, ob, h4, h5⟩ := hH.mp i es h
   have hne : i ≠ id := fun e => by subst e; rw [hb] at h2; cases h2
   have he : (c.φ i).1 ≠ (c.φ id).1 := hH.inj i id (.inr ⟨es, h⟩) (.inl ⟨blk, hb⟩) hne
   refine ⟨h1, by simp only [Hp.put]; rw [qF _ _ hne]; exact h2, h3, ob, by rw [hold _ he]; exact h4, MRep.mono hle h5⟩
 · have lv : ∀ k, (c.h.put id cells).live k → c.h.live k := fun k h => by
    rcases h with ⟨b, hb'⟩ | ⟨es, hb'⟩
    · by_cases e : k = id
      · subst e; exact .inl ⟨blk, hb⟩
      · simp only [Hp.put] at hb'; rw [qF _ _ e] at hb'; exact .inl ⟨b, hb'⟩
    · exact .inr ⟨es, hb'⟩
   exact hH.inj i j (lv i hi) (lv j hj) hne
 · refine hold b fun e => hm ⟨id, .inl ⟨blk, hb, hwr⟩, e.symm⟩
 · obtain ⟨i, hm, hφ⟩ := h
   refine ⟨i, ?_, hφ⟩
   rcases hm with ⟨bl, h, hw⟩ | ⟨es, h⟩
   · by_cases e : i = id
     · subst e; exact .inl ⟨blk, hb, hwr⟩
     · simp only [Hp.put] at h; rw [qF _ _ e] at h; exact .inl ⟨bl, h, hw⟩
   · exact .inr ⟨es, h⟩
theorem take_step (hH : HRep c) {nid : Id} (hn : ¬ c.al nid) {id : Id} {blk : Blk} (hb : c.h.hp id = some blk) (hwr : blk.wr = true) {w' : World} {arr arr' : Array Value} {el : TypeId} {cells : List AV} {base : Nat}
 (harr : c.w.heap[(c.φ id).1]? = some (.cells arr el (0, 0)))
 (hw : w' = c.w.setRow (c.φ id).1 arr') (hsz : arr'.size = arr.size) (hlen : base + cells.length ≤ arr'.size)
 (hcells : ∀ (i : Nat) x, cells[i]? = some x → ∃ v, arr'[base + i]? = some v ∧ VRep c v x) :
 ∃ c' : Cx, c'.w = w' ∧ c'.h = (c.h.kill id).push nid cells ∧ c'.φ nid = ((c.φ id).1, base) ∧ Le c c' ∧ HRep c' ∧ Fr c c' ∧ c'.al = fun i => c.al i ∨ i = nid := by
 obtain ⟨hid, ⟨arr0, el0, h0, hl0⟩, hcr, hns, _⟩ := hH.blk id blk hb
 have hns := hns hwr
 have hnew : w'.heap[(c.φ id).1]? = some (.cells arr' el (0, 0)) := by rw [hw]; exact setRow_heap _ _ _ _ _ _ harr
 have hold : ∀ b, b ≠ (c.φ id).1 → w'.heap[b]? = c.w.heap[b]? := fun b h => by rw [hw]; exact setRow_other _ _ _ _ h
 have hblk : ∀ i bl, c.h.hp i = some bl → i ≠ id → (c.φ i).1 ≠ (c.φ id).1 := fun i bl h hne => hH.inj i id (.inl ⟨bl, h⟩) (.inl ⟨blk, hb⟩) hne
 have hmp : ∀ i es, c.h.mp i = some es → i ≠ id ∧ i ≠ nid ∧ (c.φ i).1 ≠ (c.φ id).1 := fun i es h => by
  obtain ⟨h1, h2, _⟩ := hH.mp i es h
  have hne : i ≠ id := fun e => by subst e; rw [hb] at h2; cases h2
  exact ⟨hne, fun e => hn (e ▸ h1), hH.inj i id (.inr ⟨es, h⟩) (.inl ⟨blk, hb⟩) hne⟩
 have sub : ∀ i bl, ((c.h.kill id).push nid cells).hp i = some bl → i ≠ nid → c.h.hp i = some bl ∧ i ≠ id := fun i bl h e => by
  simp only [Hp.push, Hp.kill, upd] at h
  rw [if_neg e] at h
  split at h
  · cases h
  · rename_i e'; exact ⟨h, e'⟩
 have hle : Le c ⟨w', c.S, (c.h.kill id).push nid cells, upd c.φ nid ((c.φ id).1, base), fun i => c.al i ∨ i = nid⟩ := by
  have hfr' : ∀ i, c.al i → i ≠ nid := fun i h e => hn (e ▸ h)
  refine ⟨fun b h => ⟨h, hold b fun e => hns (e ▸ h)⟩, fun i h => .inl h, fun i hi => qF _ _ (hfr' i hi), fun i hi bl' h => ?_⟩
  obtain ⟨h1, h2⟩ := sub i bl' h (hfr' i hi)
  exact ⟨bl', h1, rfl, fun a e' f ha => ⟨a, by rw [hold _ (hblk i bl' h1 h2)]; exact ha, rfl⟩⟩
 refine ⟨⟨w', c.S, (c.h.kill id).push nid cells, upd c.φ nid ((c.φ id).1, base), fun i => c.al i ∨ i = nid⟩, rfl, rfl, by simp, hle, ⟨fun b h => ?_, fun i bl h => ?_, fun i es h => ?_, fun i j hi hj hne => ?_⟩, ⟨by rw [hw]; rfl, by rw [hw]; rfl, by rw [hw]; rfl, by simp [hw], fun b _ hm => ?_, fun b h => .inl ?_, fun _ h => .inl h⟩, rfl⟩
 · have := hH.slt b h; simpa [hw] using this
 · by_cases e : i = nid
   · subst e
     simp only [Hp.push, Hp.kill, upd_same, oI] at h
     subst h
     simp only [upd_same]
     refine ⟨by simp, ⟨arr', el, hnew, hlen⟩, CRep.of_get fun k x hx => ?_, fun _ => hns, fun h => by cases h⟩
     obtain ⟨v, h1, h2⟩ := hcells k x hx
     exact ⟨v, by simp [World.cell?, hnew, h1], VRep.mono hle v x h2⟩
   · obtain ⟨h0, h0'⟩ := sub i bl h e
     obtain ⟨h1, ⟨a, el', h2, h3⟩, h4, h5, h6⟩ := hH.blk i bl h0
     have he := hold _ (hblk i bl h0 h0')
     simp only [qF _ _ e]
     exact ⟨.inl h1, ⟨a, el', by rw [he]; exact h2, h3⟩, CRep.mono hle _ he _ _ h4, h5, h6⟩
 · obtain ⟨h1, h2, h3, ob, h4, h5⟩ := hH.mp i es h
   obtain ⟨g1, g2, g3⟩ := hmp i es h
   simp only [qF _ _ g2]
   refine ⟨.inl h1, by simp only [Hp.push, Hp.kill]; rw [qF _ _ g2, qF _ _ g1]; exact h2, h3, ob, by rw [hold _ g3]; exact h4, MRep.mono hle h5⟩
 · have lv : ∀ k, ((c.h.kill id).push nid cells).live k → k ≠ nid → c.h.live k ∧ k ≠ id := fun k h e => by
    rcases h with ⟨b, hb'⟩ | ⟨es, hb'⟩
    · obtain ⟨h1, h2⟩ := sub k b hb' e; exact ⟨.inl ⟨b, h1⟩, h2⟩
    · exact ⟨.inr ⟨es, hb'⟩, (hmp k es hb').1⟩
   have lb : c.h.live id := .inl ⟨blk, hb⟩
   by_cases e : i = nid
   · have e' : j ≠ nid := fun h => hne (e.trans h.symm)
     obtain ⟨l1, l2⟩ := lv j hj e'
     simp only [e, upd_same, qF _ _ e']
     exact hH.inj id j lb l1 (Ne.symm l2)
   · obtain ⟨l1, l2⟩ := lv i hi e
     by_cases e' : j = nid
     · simp only [e', upd_same, qF _ _ e]
       exact hH.inj i id l1 lb l2
     · simp only [qF _ _ e, qF _ _ e']
       exact hH.inj i j l1 (lv j hj e').1 hne
 · refine hold b fun e => hm ⟨id, .inl ⟨blk, hb, hwr⟩, e.symm⟩
 · obtain ⟨i, hm, hφ⟩ := h
   by_cases e : i = nid
   · subst e
     simp at hφ
     exact ⟨id, .inl ⟨blk, hb, hwr⟩, hφ⟩
   · simp only [qF _ _ e] at hφ
     refine ⟨i, ?_, hφ⟩
     rcases hm with ⟨bl, h, hw⟩ | ⟨es, h⟩
     · exact .inl ⟨bl, (sub i bl h e).1, hw⟩
     · exact .inr ⟨es, h⟩
end
open Go.ChangeMaps (setBlock)
def Hp.setm (h : Hp) (id : Id) (b : MB) : Hp := { h with mp := upd h.mp id (some b) }
def WU (ls : List (Nat × Nat)) (sz : Nat) (keyC : AV → Option (List AV)) (k : List AV) : List (AV × AV) → Option (Option Nat)
 | [] => some none
 | e :: es => (keyC e.1).bind fun ks => (YQ k ks ls).bind fun b => if b then some (some 0) else (WU ls sz keyC k es).map fun r => r.map (· + 1)
def keyC (g : Bool) (sz : Nat) : AV → Option (List AV)
 | .agg cs => if g && cs.length == sz then some cs else none
 | .lit u => if g then none else some [.lit u]
 | _ => none
def mopV (k : MK) (xs : List AV) (h : Hp) (id : Id) : Option (AV × Hp) :=
 match k, xs with
 | .mk, [] => if (h.mp id).isNone ∧ (h.hp id).isNone then some (.map id, h.setm id (.ents [])) else none
 | .look g ls sz z, [.map m, k] =>
   match h.mp m with
   | some (.ents es) => (keyC g sz k).bind fun ks => (WU ls sz (keyC g sz) ks es).bind fun r =>
     match r with
     | none => some (z, h)
     | some i => (es[i]?).map fun e => (e.2, h)
   | _ => none
 | .put g ls sz, [.map m, k, v] =>
   match h.mp m with
   | some (.ents es) => (keyC g sz k).bind fun ks => (WU ls sz (keyC g sz) ks es).bind fun r =>
     match r with
     | none => some (.undef, h.setm m (.ents (es ++ [(k, v)])))
     | some i => some (.undef, h.setm m (.ents (es.set i (k, v))))
   | _ => none
 | .range, [.map m] =>
   match h.mp m with
   | some (.ents es) => if (h.mp id).isNone ∧ (h.hp id).isNone then some (.ptr id 0, h.setm id (.iter m es.length [] es.length)) else none
   | _ => none
 | .entry, [.ptr i 0] =>
   match h.mp i with
   | some (.iter m since seen st) => match h.mp m with
     | some (.ents es) => if st = es.length then (seen.getLast?).bind fun p => (es[p]?).map fun e => (.tup [e.1, e.2], h) else none
     | _ => none
   | _ => none
 | _, _ => none
def kF (x : List AV) (h : Hp) (K : AV → Hp → Prop) : Prop :=
 match x with
 | [.ptr i 0] =>
   match h.mp i with
   | some (.iter m since seen st) => match h.mp m with
     | some (.ents es) => since = es.length ∧ ((∀ p, p < es.length → p ∈ seen) → K (.tup [.lit (.bool false)]) h) ∧
      ∀ p e, es[p]? = some e → p ∉ seen → K (.tup [.lit (.bool true), e.1, e.2]) (h.setm i (.iter m since (seen ++ [p]) es.length))
     | _ => False
   | _ => False
 | _ => False
section
variable {P : Program} {c : Cx}
theorem newm_step (hH : HRep c) {nid : Id} (hn : ¬ c.al nid) {w' : World} {o : Obj} {b : MB} (hw : w'.heap = c.w.heap.push o) (ho : w'.os = c.w.os) (ht : w'.tape = c.w.tape) (hout : w'.output = c.w.output) (hb : MRep c 0 o b) :
 ∃ c' : Cx, c'.w = w' ∧ c'.h = c.h.setm nid b ∧ c'.φ nid = (c.w.heap.size, 0) ∧ Le c c' ∧ HRep c' ∧ Fr c c' ∧ c'.al = fun i => c.al i ∨ i = nid := by
 have hold : ∀ b, b < c.w.heap.size → w'.heap[b]? = c.w.heap[b]? := fun b hb => by rw [hw, Array.getElem?_push, if_neg (by omega)]
 have hnew : w'.heap[c.w.heap.size]? = some o := by rw [hw]; simp
 have hfresh : ∀ id, c.al id → id ≠ nid := fun id hb e => hn (e ▸ hb)
 have hblt : ∀ id blk, c.h.hp id = some blk → (c.φ id).1 < c.w.heap.size := fun id blk hb => by
  obtain ⟨_, ⟨arr, el, h1, _⟩, _⟩ := hH.blk id blk hb
  exact (Array.getElem?_eq_some_iff.1 h1).1
 have hmlt : ∀ id es, c.h.mp id = some es → (c.φ id).1 < c.w.heap.size := fun id es hb => by
  obtain ⟨_, _, _, ob, h1, _⟩ := hH.mp id es hb
  exact (Array.getElem?_eq_some_iff.1 h1).1
 have hhp : c.h.hp nid = none := by
  cases h : c.h.hp nid with
  | none => rfl
  | some blk => exact absurd (hH.blk nid blk h).1 hn
 have hle : Le c ⟨w', c.S, c.h.setm nid b, upd c.φ nid (c.w.heap.size, 0), fun i => c.al i ∨ i = nid⟩ :=
  ⟨fun b hb => ⟨hb, hold b (hH.slt b hb)⟩, fun id h => .inl h, fun id hid => qF _ _ (hfresh id hid), fun id hid blk' hb =>
   ⟨blk', hb, rfl, fun arr0 el0 fr0 h0 => ⟨arr0, by rw [hold _ (hblt id blk' hb)]; exact h0, rfl⟩⟩⟩
 have hsz : w'.heap.size = c.w.heap.size + 1 := by rw [hw]; simp
 have old : ∀ i es, (c.h.setm nid b).mp i = some es → i ≠ nid → c.h.mp i = some es := fun i es h e => by
  simp only [Hp.setm] at h; rw [qF _ _ e] at h; exact h
 refine ⟨⟨w', c.S, c.h.setm nid b, upd c.φ nid (c.w.heap.size, 0), fun i => c.al i ∨ i = nid⟩, rfl, rfl, by simp, hle, ⟨fun b hb => ?_, fun id blk hb => ?_, fun id es hb' => ?_, fun id id' h1 h2 hne => ?_⟩, ⟨ho, ht, hout, by simp only; omega, fun b hb _ => hold b hb, fun b hb => ?_, fun b hb => .inl hb⟩, rfl⟩
 · have := hH.slt b hb; simp only; omega
 · have e : id ≠ nid := fun e => by subst e; simp only [Hp.setm] at hb; rw [hhp] at hb; cases hb
   obtain ⟨h1, ⟨arr0, el0, h2, h3⟩, h4, h5, h6⟩ := hH.blk id blk hb
   simp only [qF _ _ e]
   exact ⟨.inl h1, ⟨arr0, el0, by rw [hold _ (hblt id blk hb)]; exact h2, h3⟩, CRep.mono hle _ (hold _ (hblt id blk hb)) _ _ h4, h5, h6⟩
 · by_cases e : id = nid
   · subst e
     simp only [Hp.setm, upd_same, oI] at hb' ⊢
     subst hb'
     exact ⟨.inr trivial, hhp, fun hs => by have := hH.slt _ hs; omega, o, hnew, MRep.mono hle hb⟩
   · have hb2 := old id es hb' e
     obtain ⟨h1, h2, h3, ob, h4, h5⟩ := hH.mp id es hb2
     simp only [qF _ _ e]
     exact ⟨.inl h1, h2, h3, ob, by rw [hold _ (hmlt id es hb2)]; exact h4, MRep.mono hle h5⟩
 · have lv : ∀ i, (c.h.setm nid b).live i → i ≠ nid → c.h.live i := fun i h e => by
    rcases h with ⟨b, hb⟩ | ⟨es, hb⟩
    · exact .inl ⟨b, hb⟩
    · exact .inr ⟨es, old i es hb e⟩
   have lt : ∀ i, c.h.live i → (c.φ i).1 < c.w.heap.size := fun i h => by
    rcases h with ⟨b, hb⟩ | ⟨es, hb⟩
    · exact hblt i b hb
    · exact hmlt i es hb
   by_cases e : id = nid
   · have e' : id' ≠ nid := fun h => hne (e.trans h.symm)
     simp only [e, upd_same, qF _ _ e']
     have := lt id' (lv id' h2 e')
     omega
   · by_cases e' : id' = nid
     · simp only [e', upd_same, qF _ _ e]
       have := lt id (lv id h1 e)
       omega
     · simp only [qF _ _ e, qF _ _ e']
       exact hH.inj id id' (lv id h1 e) (lv id' h2 e') hne
 · obtain ⟨id, hm, hφ⟩ := hb
   by_cases e : id = nid
   · subst e; simp at hφ; exact .inr (by omega)
   · simp only [qF _ _ e] at hφ
     refine .inl ⟨id, ?_, hφ⟩
     rcases hm with ⟨blk, hb, hw⟩ | ⟨es, hb⟩
     · exact .inl ⟨blk, hb, hw⟩
     · exact .inr ⟨es, old id es hb e⟩
theorem setm_step (hH : HRep c) {id : Id} {b0 b : MB} (h0 : c.h.mp id = some b0) {w' : World} {o : Obj} (hw : w'.heap = c.w.heap.setIfInBounds (c.φ id).1 o) (ho : w'.os = c.w.os) (ht : w'.tape = c.w.tape) (hout : w'.output = c.w.output) (hb : MRep c (c.φ id).2 o b) :
 ∃ c' : Cx, c'.w = w' ∧ c'.h = c.h.setm id b ∧ Le c c' ∧ HRep c' ∧ Fr c c' ∧ c'.al = c.al := by
 obtain ⟨hid, hhp, hns, ob0, hob, hrep0⟩ := hH.mp id b0 h0
 have hlt : (c.φ id).1 < c.w.heap.size := (Array.getElem?_eq_some_iff.1 hob).1
 have hnew : w'.heap[(c.φ id).1]? = some o := by rw [hw]; simp [hlt]
 have hold : ∀ b, b ≠ (c.φ id).1 → w'.heap[b]? = c.w.heap[b]? := fun b h => by rw [hw, Array.getElem?_setIfInBounds, if_neg (fun e => h e.symm)]
 have hblk : ∀ i bl, c.h.hp i = some bl → (c.φ i).1 ≠ (c.φ id).1 := fun i bl h => hH.inj i id (.inl ⟨bl, h⟩) (.inr ⟨b0, h0⟩) fun e => by subst e; rw [hhp] at h; cases h
 have hmp : ∀ i es, c.h.mp i = some es → i ≠ id → (c.φ i).1 ≠ (c.φ id).1 := fun i es h hne => hH.inj i id (.inr ⟨es, h⟩) (.inr ⟨b0, h0⟩) hne
 have hle : Le c ⟨w', c.S, c.h.setm id b, c.φ, c.al⟩ :=
  ⟨fun b h => ⟨h, hold b fun e => hns (e ▸ h)⟩, fun i h => h, fun i _ => rfl, fun i hi bl' h => ⟨bl', h, rfl, fun a e' f ha => ⟨a, by rw [hold _ (hblk i bl' h)]; exact ha, rfl⟩⟩⟩
 have old : ∀ i es, (c.h.setm id b).mp i = some es → i ≠ id → c.h.mp i = some es := fun i es h e => by
  simp only [Hp.setm] at h; rw [qF _ _ e] at h; exact h
 have lv : ∀ i, (c.h.setm id b).live i → c.h.live i := fun i h => by
  rcases h with ⟨b', hb'⟩ | ⟨es, hb'⟩
  · exact .inl ⟨b', hb'⟩
  · by_cases e : i = id
    · subst e; exact .inr ⟨b0, h0⟩
    · exact .inr ⟨es, old i es hb' e⟩
 refine ⟨⟨w', c.S, c.h.setm id b, c.φ, c.al⟩, rfl, rfl, hle, ⟨fun b h => ?_, fun i bl h => ?_, fun i es h => ?_, fun i j hi hj hne => hH.inj i j (lv i hi) (lv j hj) hne⟩, ⟨ho, ht, hout, by simp [hw], fun b _ hm => ?_, fun b h => .inl ?_, fun _ h => .inl h⟩, rfl⟩
 · have := hH.slt b h; simpa [hw] using this
 · obtain ⟨h1, ⟨a, el', h2, h3⟩, h4, h5, h6⟩ := hH.blk i bl h
   have he := hold _ (hblk i bl h)
   exact ⟨h1, ⟨a, el', by rw [he]; exact h2, h3⟩, CRep.mono hle _ he _ _ h4, h5, h6⟩
 · by_cases e : i = id
   · subst e
     simp only [Hp.setm, upd_same, oI] at h
     subst h
     exact ⟨hid, hhp, hns, o, hnew, MRep.mono hle hb⟩
   · have h' := old i es h e
     obtain ⟨h1, h2, h3, ob, h4, h5⟩ := hH.mp i es h'
     exact ⟨h1, h2, h3, ob, by rw [hold _ (hmp i es h' e)]; exact h4, MRep.mono hle h5⟩
 · exact hold b fun e => hm ⟨id, .inr ⟨b0, h0⟩, e.symm⟩
 · obtain ⟨i, hm, hφ⟩ := h
   refine ⟨i, ?_, hφ⟩
   rcases hm with ⟨bl, h, hw⟩ | ⟨es, h⟩
   · exact .inl ⟨bl, h, hw⟩
   · by_cases e : i = id
     · subst e; exact .inr ⟨b0, h0⟩
     · exact .inr ⟨es, old i es h e⟩
end
def UR (h : Hp) (sz : Nat) : AV → Option (Nat × List AV)
 | .nil => some (0, [])
 | .row xs => if xs.all fun x => x.length = sz then some (xs.length, xs.flatten) else none
 | .sl id off len sz' => if sz' = sz then (match h.hp id with | some blk => some (len, (blk.cells.drop off).take (len * sz)) | none => none) else none
 | _ => none
def qA (o : AOp) (ρ : AOpd → AV) (h : Hp) (id : Id) : Option (AV × Hp) :=
 match o with
 | .alloc z => if (h.hp id).isNone then some (.ptr id 0, h.push id z) else none
 | .box x => if (h.hp id).isNone then (qU (ρ x)).map fun cs => (.ptr id 0, h.push id cs) else none
 | .buildSl sz len z ps => if (h.hp id).isNone then (uQ z (ps.map fun p => (p.1, p.2.1, ρ p.2.2))).map fun cs => if len = 0 then (.nil, h) else (.sl id 0 len sz, h.push id cs) else none
 | .mksl sz bytes z l c =>
   match ρ l, ρ c with
   | .lit (.int _ l), .lit (.int _ c) => if (h.hp id).isNone ∧ 0 ≤ l ∧ l ≤ c ∧ c ≤ 281474976710656 ∧ bytes * c ≤ 281474976710656 then some (.sl id 0 l.toNat sz, h.push id (List.replicate l.toNat z).flatten) else none
   | _, _ => none
 | .store n a x =>
   match ρ a with
   | .ptr t off =>
     match h.hp t with
     | some blk => match qU (ρ x) with
       | some cs => if blk.wr = true ∧ cs.length = n ∧ cs.all one ∧ off + n ≤ blk.cells.length then some (.undef, h.put t (splice blk.cells off cs)) else none
       | none => none
     | none => none
   | _ => none
 | .append sz bytes s x =>
   match UR h sz (ρ x) with
   | none => none
   | some (n, new) =>
     match ρ s with
     | .nil => if n = 0 then some (.nil, h) else if n * bytes ≤ 281474976710656 then some (.sl id 0 n sz, h.push id new) else none
     | .sl t off len sz' =>
       match h.hp t with
       | some blk => if sz' = sz ∧ blk.wr = true ∧ new.all one ∧ (len + n + (len + n) / 4 + 512) * bytes ≤ 281474976710656 then
        some (.sl id 0 (len + n) sz, (h.kill t).push id ((blk.cells.drop off).take (len * sz) ++ new)) else none
       | none => none
     | _ => none
 | .mop k xs => mopV k (xs.map ρ) h id
 | _ => none
section
variable {P : Program} {c : Cx}
def Makes (P : Program) (c : Cx) (id : Id) (x : Sem Value) (r : AV) (h' : Hp) : Prop :=
 ∃ (v : Value) (c' : Cx), x.run P c.w = .ok v c'.w ∧ c'.h = h' ∧ VRep c' v r ∧ Le c c' ∧ HRep c' ∧ Fr c c' ∧ ∀ i, c'.al i → c.al i ∨ i = id
theorem ptr_mk {c' : Cx} {nx : Id} {g : Nat} (h1 : c'.al nx) (h2 : c'.φ nx = (g, 0)) : VRep c' (.pointer (some ⟨g, 0, none⟩)) (.ptr nx 0) := by
 simp only [VRep]; exact ⟨h1, by rw [h2]⟩
theorem alloc_op {q : Bool} {e : TypeId} {ao : AOp} (hc : cOp P q (.alloc e) = some ao) (hH : HRep c) {id : Id} (hn : ¬ c.al id) {ρA : AOpd → AV} {r : AV} {h' : Hp} (hp : qA ao ρA c.h id = some (r, h')) :
 Makes P c id (Instr.alloc e true (.tuple #[])) r h' := by
 simp only [cOp, oM] at hc
 obtain ⟨z, h1, rfl⟩ := hc
 simp only [qA] at hp
 split at hp
 case isFalse => cases hp
 simp only [oI, Prod.mk.injEq] at hp
 obtain ⟨rfl, rfl⟩ := hp
 obtain ⟨i, v, h2, h3, h4⟩ := kN h1
 have hr := WL (c := c) h4
 obtain ⟨c', e1, e2, e3, hle, hH', hfr, e4⟩ := kE hH hn (w' := { c.w with heap := c.w.heap.push (.cells v.cells e) }) (arr := v.cells) (el := e) (cells := z) rfl rfl rfl rfl (by have := hr.length; simp at this; omega)
  (fun i x hx => by obtain ⟨u, h5, h6⟩ := hr.get hx; exact ⟨u, by simpa using h5, h6⟩)
 refine ⟨_, c', ?_, e2, ptr_mk (g := c.w.heap.size) (by rw [e4]; simp) e3, hle, hH', hfr, fun i hi => by rw [e4] at hi; exact hi⟩
 rw [e1]
 simp [Instr.alloc, zeroValue, typeInfo, h2, h3, newVar, newRow]
theorem box_op {q : Bool} {e : TypeId} {x : Operand} {ao : AOp} (hc : cOp P q (.box e x) = some ao) (hH : HRep c) {id : Id} (hn : ¬ c.al id) {ρ : Operand → Value} {ρA : AOpd → AV} (hρ : ∀ x y, cOpd x = some y → VRep c (ρ x) (ρA y)) {r : AV} {h' : Hp} (hp : qA ao ρA c.h id = some (r, h')) :
 Makes P c id (Instr.box e (ρ x)) r h' := by
 simp only [cOp, oM] at hc
 obtain ⟨y, h1, rfl⟩ := hc
 simp only [qA] at hp
 split at hp
 case isFalse => cases hp
 simp only [oM, Prod.mk.injEq] at hp
 obtain ⟨cs, h2, rfl, rfl⟩ := hp
 have hr := kU (hρ x y h1) h2
 obtain ⟨c', e1, e2, e3, hle, hH', hfr, e4⟩ := kE hH hn (w' := { c.w with heap := c.w.heap.push (.cells (ρ x).cells e) }) (arr := (ρ x).cells) (el := e) (cells := cs) rfl rfl rfl rfl (by have := hr.length; simp at this; omega)
  (fun i x hx => by obtain ⟨u, h5, h6⟩ := hr.get hx; exact ⟨u, by simpa using h5, h6⟩)
 refine ⟨_, c', ?_, e2, ptr_mk (g := c.w.heap.size) (by rw [e4]; simp) e3, hle, hH', hfr, fun i hi => by rw [e4] at hi; exact hi⟩
 rw [e1]
 simp [Instr.box, newVar, newRow]
theorem sl_mk {c' : Cx} {nx : Id} {g len cap sz : Nat} {arr : Array Value} {el : TypeId} {cells : List AV} (h1 : c'.al nx) (h2 : c'.φ nx = (g, 0)) (hb : c'.h.hp nx = some ⟨true, cells⟩) (hl : len * sz ≤ cells.length) (hc : len ≤ cap)
 (hw : c'.w.heap[g]? = some (.cells arr el (0, 0))) (ha : cap * sz ≤ arr.size) : VRep c' (.slice (some ⟨g, 0, none⟩) len cap) (.sl nx 0 len sz) := by
 simp only [VRep]
 refine ⟨h1, .inl ⟨cap, by rw [h2], hc, fun blk hblk => ?_⟩⟩
 rw [hb] at hblk
 cases hblk
 refine ⟨by simpa using hl, arr, el, _, by rw [h2]; exact hw, by rw [h2]; simpa using ha⟩
theorem fillA_length : ∀ {ps : List (Nat × Nat × AV)} {z out : List AV}, uQ z ps = some out → out.length = z.length
 | [], z, out, h => by simp [uQ] at h; rw [h]
 | (off, size, v) :: ps, z, out, h => by
   simp only [uQ] at h
   split at h
   · rename_i cs _
     split at h
     · rename_i hl
       rw [fillA_length h, WE (by omega)]
     · cases h
   · cases h
theorem WS {e : TypeId} {i : TypeInfo} {v : Value} (h2 : P.info? e = some i) (h3 : i.zero = some v) (w : World) : (zeroValue e).run P w = .ok v w := by
 simp [zeroValue, typeInfo, h2, h3]
theorem buildSl_op {q : Bool} {t : TypeId} {len : Nat} {ps : Array (Nat × Operand)} {ao : AOp} (hc : cOp P q (.buildSlice t len ps) = some ao) (hH : HRep c) {id : Id} (hn : ¬ c.al id) {ρ : Operand → Value} {ρA : AOpd → AV} (hρ : ∀ x y, cOpd x = some y → VRep c (ρ x) (ρA y)) {r : AV} {h' : Hp}
 (hp : qA ao ρA c.h id = some (r, h')) : Makes P c id (Instr.buildSlice t len (ps.map fun (i, x) => (i, ρ x))) r h' := by
 simp only [cOp] at hc
 split at hc
 · rename_i e hu
   simp only [oB] at hc
   obtain ⟨i, h1, z, h2, hc⟩ := hc
   split at hc
   · rename_i hsz
     simp only [oM] at hc
     obtain ⟨qs, h3, rfl⟩ := hc
     simp only [qA] at hp
     split at hp
     case isFalse => cases hp
     simp only [oM] at hp
     obtain ⟨cs, h4, h5⟩ := hp
     obtain ⟨i', v, g1, g2, g3⟩ := kN h2
     rw [h1] at g1
     cases g1
     have hz := WL (c := c) g3
     have hzs : Reps c ((List.range (len * i.size)).map fun k => v.cells.toList.getD (k % z.length) default) ((List.range (len * i.size)).map fun k => z.getD (k % z.length) .undef) := by
      refine Reps.of_get (by simp) fun k a b ha hb => ?_
      simp only [List.getElem?_map, oM] at ha hb
      obtain ⟨k1, hk1, rfl⟩ := ha
      obtain ⟨k2, hk2, rfl⟩ := hb
      rw [hk1] at hk2
      cases hk2
      rw [gD, gD]
      cases hq : z[k1 % z.length]? with
      | none => simp [VRep]
      | some y =>
        obtain ⟨u, h6, h7⟩ := hz.get hq
        simpa [h6] using h7
     have hpr := cParts_rep hρ h3
     obtain ⟨cells, e1, hR, hcsz⟩ := UV hpr hzs h4
     have hlz := hz.length
     have hz0 : len * i.size = 0 → ((Array.range (len * i.size)).map fun k => (#[] : Array Value)[k % (#[] : Array Value).size]!) = ((List.range (len * i.size)).map fun k => v.cells.toList.getD (k % z.length) default).toArray := fun h0 => by simp [h0]
     have hz1 : ((Array.range (len * i.size)).map fun k => v.cells[k % v.cells.size]!) = ((List.range (len * i.size)).map fun k => v.cells.toList.getD (k % z.length) default).toArray := by
      apply Array.ext'
      simp only [Array.toList_map, Array.toList_range]
      apply List.map_congr_left
      intro k _
      have : v.cells.size = z.length := by simpa using hlz
      rw [this, gD, Array.getElem!_eq_getD, Array.getD_eq_getD_getElem?]
      simp
     obtain ⟨c', f1, f2, f3, hle, hH', hfr, f4⟩ := kE hH hn (w' := { c.w with heap := c.w.heap.push (.cells cells e) }) (arr := cells) (el := e) (cells := cs) rfl rfl rfl rfl (by have := hR.length; simp at this; omega)
      (fun i x hx => by obtain ⟨u, h5, h6⟩ := hR.get hx; exact ⟨u, by simpa using h5, h6⟩)
     have run : (Instr.buildSlice t len (ps.map fun (i, x) => (i, ρ x))).run P c.w = .ok (.slice (some ⟨c.w.heap.size, 0, none⟩) len len) c'.w := by
      rw [f1]
      unfold Instr.buildSlice
      simp only [Sem.run_bind, run_underlying hu, Result.andThen_ok, qW h1]
      rw [if_neg (by omega)]
      have e1' : Instr.fill (fun k => some (k * i.size, i.size)) ((List.range (len * i.size)).map fun k => v.cells.toList.getD (k % z.length) default).toArray (ps.map fun (i, x) => (i, ρ x)).toList = some cells := by
       simpa using e1
      by_cases h0 : len * i.size = 0
      · rw [if_pos h0]
        simp only [Sem.run_bind, Sem.run_pure, Result.andThen_ok, hz0 h0]
        rw [e1']
        simp [newRow]
      · rw [if_neg h0]
        simp only [Sem.run_bind, Sem.run_pure, Result.andThen_ok, WS h1 g2, hz1]
        rw [e1']
        simp [newRow]
     split at h5
     · rename_i hl0
       cases h5
       subst hl0
       -- the old abstract heap, in the new world
       have hle0 : Le c ⟨c'.w, c.S, c.h, c.φ, c.al⟩ := ⟨fun b hb => ⟨hb, (hle.S b hb).2⟩, fun _ h => h, fun _ _ => rfl, fun id hid blk hb => by
        refine ⟨blk, hb, rfl, fun arr el fr ha => ?_⟩
        have hlt : (c.φ id).1 < c.w.heap.size := (Array.getElem?_eq_some_iff.1 ha).1
        exact ⟨arr, by rw [f1]; simp only [Array.getElem?_push]; rw [if_neg (by omega)]; exact ha, rfl⟩⟩
       have hold : ∀ b, b < c.w.heap.size → c'.w.heap[b]? = c.w.heap[b]? := fun b hb => by rw [f1]; simp only [Array.getElem?_push]; rw [if_neg (by omega)]
       refine ⟨_, ⟨c'.w, c.S, c.h, c.φ, c.al⟩, run, rfl, by simp only [VRep]; exact ⟨_, rfl⟩, hle0, ⟨fun b hb => ?_, fun id blk hb => ?_, fun id es hb => ?_, hH.inj⟩, ⟨hfr.os, hfr.tape, hfr.output, hfr.size, fun b hb _ => hold b hb, fun b hb => .inl hb, fun b hb => .inl hb⟩, fun i hi => .inl hi⟩
       · have := hH.slt b hb; have := hfr.size; simp only; omega
       · obtain ⟨a1, ⟨arr, el, a2, a3⟩, a4, a5, a6⟩ := hH.blk id blk hb
         have hlt : (c.φ id).1 < c.w.heap.size := (Array.getElem?_eq_some_iff.1 a2).1
         exact ⟨a1, ⟨arr, el, by rw [hold _ hlt]; exact a2, a3⟩, CRep.mono hle0 _ (hold _ hlt) _ _ a4, a5, a6⟩
       · obtain ⟨a1, a2, a3, ob, a4, a5⟩ := hH.mp id es hb
         have hlt : (c.φ id).1 < c.w.heap.size := (Array.getElem?_eq_some_iff.1 a4).1
         exact ⟨a1, a2, a3, ob, by rw [hold _ hlt]; exact a4, MRep.mono hle0 a5⟩
     · cases h5
       have hl1 : cs.length = len * i.size := by rw [fillA_length h4]; simp
       refine ⟨_, c', run, f2, ?_, hle, hH', hfr, fun i hi => by rw [f4] at hi; exact hi⟩
       have hnew : c'.w.heap[c.w.heap.size]? = some (.cells cells e (0, 0)) := by rw [f1]; simp
       have hcsl : cells.size = cs.length := by have := hR.length; simpa using this
       exact sl_mk (cells := cs) (by rw [f4]; simp) f3 (by rw [f2]; simp [Hp.push]) (by omega) (Nat.le_refl _) hnew (by omega)
   · cases hc
 · cases hc
end
section
variable {P : Program} {c : Cx}
theorem YR {α : Type} (n : Nat) (z : List α) : (List.replicate n z).flatten.length = n * z.length := by
 simp
theorem uA {α : Type} : ∀ (n : Nat) (z : List α) (j : Nat), j < n * z.length → (List.replicate n z).flatten[j]? = z[j % z.length]?
 | 0, z, j, h => by simp at h
 | n + 1, z, j, h => by
   rw [List.replicate_succ, List.flatten_cons]
   rcases Nat.lt_or_ge j z.length with g | g
   · rw [List.getElem?_append_left g, Nat.mod_eq_of_lt g]
   · rw [List.getElem?_append_right g, uA n z _ (by rw [Nat.add_mul] at h; omega)]
     congr 1
     rw [Nat.mod_eq_sub_mod g]
theorem wrap_i64 (n : Int) (h0 : 0 ≤ n) (h1 : n ≤ 281474976710656) : IntKind.i64.wrap n = n := by
 have e : n % (2 : Int) ^ 64 = n := by omega
 simp only [IntKind.wrap, IntKind.bits, IntKind.signed, e]
 simp
 omega
theorem mksl_op {q : Bool} {t : TypeId} {l cp : Operand} {ao : AOp} (hc : cOp P q (.makeSlice t l cp) = some ao) (hH : HRep c) {id : Id} (hn : ¬ c.al id) {ρ : Operand → Value} {ρA : AOpd → AV} (hρ : ∀ x y, cOpd x = some y → VRep c (ρ x) (ρA y)) {r : AV} {h' : Hp}
 (hp : qA ao ρA c.h id = some (r, h')) : Makes P c id (Instr.makeSlice t (ρ l) (ρ cp)) r h' := by
 simp only [cOp] at hc
 split at hc
 · rename_i e hu
   simp only [oB] at hc
   obtain ⟨i, h1, z, h2, lA, h3, cA, h4, hc⟩ := hc
   split at hc
   · rename_i hzl
     obtain ⟨hzl, hsz0⟩ := hzl
     simp only [oI] at hc
     subst hc
     have hl := hρ l lA h3
     have hcv := hρ cp cA h4
     simp only [qA] at hp
     split at hp
     · rename_i k1 ln k2 cn el ec
       rw [el] at hl
       rw [ec] at hcv
       have el := hl.lit
       have ec := hcv.lit
       split at hp
       · rename_i hb
         obtain ⟨_, b1, b2, b3, b4⟩ := hb
         simp only [oI, Prod.mk.injEq] at hp
         obtain ⟨rfl, rfl⟩ := hp
         obtain ⟨i', v, g1, g2, g3⟩ := kN h2
         rw [h1] at g1
         cases g1
         have hz := WL (c := c) g3
         have hvs : v.cells.size = i.size := by have := hz.length; simp at this; omega
         let arr : Array Value := (Array.range (cn.toNat * i.size)).map fun k => v.cells[k % v.cells.size]!
         have harr : arr.size = cn.toNat * i.size := by simp [arr]
         have hle2 : ln.toNat * i.size ≤ cn.toNat * i.size := UA (by omega)
         obtain ⟨c', f1, f2, f3, hle, hH', hfr, f4⟩ := kE hH hn (w' := { c.w with heap := c.w.heap.push (.cells arr e) }) (arr := arr) (el := e) (cells := (List.replicate ln.toNat z).flatten) rfl rfl rfl rfl
          (by rw [YR, harr, hzl]; exact hle2)
          (fun j x hx => by
           have hj : j < ln.toNat * z.length := by rw [← YR]; exact (List.getElem?_eq_some_iff.1 hx).1
           rw [uA _ _ _ hj] at hx
           obtain ⟨u, h5, h6⟩ := hz.get hx
           refine ⟨u, ?_, h6⟩
           have hlt : j < arr.size := by rw [harr]; rw [hzl] at hj; omega
           rw [Array.getElem?_eq_getElem hlt]
           simp only [arr, Array.getElem_map, Array.getElem_range]
           have h5' : v.cells[j % v.cells.size]? = some u := by rw [hvs, ← hzl]; simpa using h5
           rw [Array.getElem!_eq_getD, Array.getD_eq_getD_getElem?, h5']
           rfl)
         have hnew : c'.w.heap[c.w.heap.size]? = some (.cells arr e (0, 0)) := by rw [f1]; simp
         refine ⟨.slice (some ⟨c.w.heap.size, 0, none⟩) ln.toNat cn.toNat, c', ?_, f2, ?_, hle, hH', hfr, fun i hi => by rw [f4] at hi; exact hi⟩
         · rw [f1]
           have w1 := wrap_i64 ln b1 (by omega)
           have w2 := wrap_i64 cn (by omega) b3
           have t1 : ¬ cn < 0 := by omega
           have t2 : ¬ ((i.bytes : Int) * cn > 281474976710656) := by omega
           have t3 : ¬ ln < 0 := by omega
           have t4 : ¬ ln > cn := by omega
           have run0 : (typeInfo e).run P c.w = .ok i c.w := by simp [typeInfo, h1]
           unfold Instr.makeSlice
           simp only [el, ec, Sem.run_bind, run_underlying hu, Result.andThen_ok, asInt, asIntOf, Sem.run_pure, run0, w1, w2]
           rw [if_neg (by simp [t1, t2, t3, t4]; try omega)]
           simp only [Sem.run_bind, run_askRoom, Result.andThen_ok, qW h1]
           by_cases h0 : cn.toNat * i.size = 0
           · rw [if_pos h0]
             have : cn.toNat = 0 := by rcases Nat.mul_eq_zero.1 h0 with h | h <;> omega
             have e0 : ∀ f : Nat → Value, Array.map f (Array.range 0) = #[] := fun f => by simp [Array.range]
             simp [newRow, arr, h0, e0]
           · rw [if_neg h0]
             simp [WS h1 g2, newRow, arr]
         · refine sl_mk (cells := (List.replicate ln.toNat z).flatten) (by rw [f4]; simp) f3 (by rw [f2]; simp [Hp.push]) ?_ (by omega) hnew (by omega)
           rw [YR, hzl]
           exact Nat.le_refl _
       · cases hp
     · cases hp
   · cases hc
 · cases hc
theorem store_op {q : Bool} {t : TypeId} {a x : Operand} {ao : AOp} (hc : cOp P q (.store t a x) = some ao) (hH : HRep c) {ρ : Operand → Value} {ρA : AOpd → AV} (hρ : ∀ x y, cOpd x = some y → VRep c (ρ x) (ρA y)) {r : AV} {h' : Hp}
 {id0 : Id} (hp : qA ao ρA c.h id0 = some (r, h')) : r = .undef ∧ ∃ c' : Cx, (Instr.storeAt t (ρ a) (ρ x)).run P c.w = .ok () c'.w ∧ c'.h = h' ∧ Le c c' ∧ HRep c' ∧ Fr c c' ∧ c'.al = c.al := by
 simp only [cOp, oM, oB] at hc
 obtain ⟨i, h1, aA, h2, xA, h3, rfl⟩ := hc
 have ha := hρ a aA h2
 have hx := hρ x xA h3
 simp only [qA] at hp
 split at hp
 · rename_i id off ea
   rw [ea] at ha
   split at hp
   · rename_i blk hb
     split at hp
     · rename_i cs hcs
       split at hp
       · rename_i hcond
         obtain ⟨hwr, hn, hone, hl⟩ := hcond
         simp only [oI, Prod.mk.injEq] at hp
         obtain ⟨rfl, rfl⟩ := hp
         refine ⟨rfl, ?_⟩
         have hr := kU hx hcs
         simp only [VRep] at ha
         obtain ⟨hid, ha⟩ := ha
         obtain ⟨_, ⟨arr, el, harr, hal⟩, hcr, hns, _⟩ := hH.blk id blk hb
         have hvl : (ρ x).cells.toList.length = cs.length := hr.length
         have hvl2 : (ρ x).cells.size = cs.length := by simpa using hvl
         have hall : ∀ v ∈ (ρ x).cells.toList, v.oneCell' = true := by
          intro v hv
          obtain ⟨j, hj⟩ := List.getElem?_of_mem hv
          have hjl : j < cs.length := by rw [← hvl]; exact (List.getElem?_eq_some_iff.1 hj).1
          obtain ⟨u, h5, h6⟩ := hr.get (List.getElem?_eq_getElem hjl)
          rw [hj] at h5
          cases h5
          exact (one_cell h6 (List.all_eq_true.1 hone _ (List.getElem_mem hjl))).1
         have hst := run_storeCells_at (P := P) (c.φ id).1 ((c.φ id).2 + off) el (ρ x).cells.toList 0 arr c.w harr (by omega) hall
         simp only [Nat.add_zero] at hst
         have harr' : (arr.toList.take ((c.φ id).2 + off) ++ (ρ x).cells.toList ++ arr.toList.drop ((c.φ id).2 + off + (ρ x).cells.toList.length)).toArray = (splice arr.toList ((c.φ id).2 + off) (ρ x).cells.toList).toArray := rfl
         rw [harr'] at hst
         obtain ⟨c', f1, f2, hle, hH', hfr, f4⟩ := write_step hH hb hwr (w' := c.w.setRow (c.φ id).1 (splice arr.toList ((c.φ id).2 + off) (ρ x).cells.toList).toArray) (arr' := (splice arr.toList ((c.φ id).2 + off) (ρ x).cells.toList).toArray) (cells := splice blk.cells off cs)
          harr rfl (by simp; rw [WE (by simp; omega)]; simp) (WE (by omega)) (fun j y hy => by
           rw [splice_get _ _ _ (by omega)] at hy
           simp only [List.getElem?_toArray]
           rw [splice_get _ _ _ (by simp; omega)]
           have old : j < blk.cells.length → blk.cells[j]? = some y → ∃ v, arr.toList[(c.φ id).2 + j]? = some v ∧ VRep c v y := fun _ hy => by
            obtain ⟨v, g1, g2⟩ := hcr.get hy
            exact ⟨v, by simpa [World.cell?, harr] using g1, g2⟩
           split at hy
           · rw [if_pos (by omega)]
             exact old (List.getElem?_eq_some_iff.1 hy).1 hy
           · rw [if_neg (by omega)]
             split at hy
             · rw [if_pos (by omega), show (c.φ id).2 + j - ((c.φ id).2 + off) = j - off by omega]
               exact hr.get hy
             · rw [if_neg (by omega)]
               exact old (List.getElem?_eq_some_iff.1 hy).1 hy)
         refine ⟨c', ?_, f2, hle, hH', hfr, f4⟩
         rw [f1, ha]
         have hsz : (ρ x).cells.size = i.size := by simp at hvl; omega
         simp only [Instr.storeAt, Instr.sureAddr, Sem.run_bind, Sem.run_pure, Result.andThen_ok, storeVar, qW h1]
         rw [if_neg (by simp [hsz])]
         exact hst
       · cases hp
     · cases hp
   · cases hp
 · cases hp
end
theorem growBy_le (n : Nat) : ∀ (k c : Nat), c ≤ n + n / 4 + 512 → Builtin.growBy n k c ≤ n + n / 4 + 512
 | 0, c, h => by simpa [Builtin.growBy] using h
 | k + 1, c, h => by
   simp only [Builtin.growBy]
   split
   · exact h
   · exact growBy_le n k _ (by omega)
theorem nextslicecap_le {need cap : Nat} (h : cap < need) : Builtin.nextslicecap need cap ≤ need + need / 4 + 512 := by
 unfold Builtin.nextslicecap
 split
 · omega
 · split
   · omega
   · exact growBy_le _ _ _ (by omega)
theorem nextslicecap_zero {need : Nat} (h : 0 < need) : Builtin.nextslicecap need 0 = need := by
 unfold Builtin.nextslicecap
 rw [if_pos (by omega)]
section
variable {P : Program} {c : Cx}
theorem CRep.append {b : Nat} : ∀ {off : Nat} {xs ys : List AV}, CRep c b off xs → CRep c b (off + xs.length) ys → CRep c b off (xs ++ ys)
 | off, [], ys, _, h => by simpa using h
 | off, x :: xs, ys, h, k => by
   simp only [CRep, List.cons_append] at h ⊢
   refine ⟨h.1, CRep.append h.2 ?_⟩
   rw [show off + 1 + xs.length = off + (x :: xs).length by simp; omega]
   exact k
theorem RRep.flatten {b sz : Nat} : ∀ {off : Nat} {xs : List (List AV)}, RRep c b sz off xs → CRep c b off xs.flatten
 | off, [], _ => by simp [CRep]
 | off, x :: xs, h => by
   simp only [RRep, List.flatten_cons] at h ⊢
   refine CRep.append h.2.1 ?_
   rw [h.1]
   exact RRep.flatten h.2.2
theorem UI {sz : Nat} : ∀ {xs : List (List AV)}, (∀ x ∈ xs, x.length = sz) → xs.flatten.length = xs.length * sz
 | [], _ => by simp
 | x :: xs, h => by
   simp only [List.flatten_cons, List.length_append, List.length_cons]
   rw [h x (by simp), UI fun y hy => h y (by simp [hy]), Nat.add_mul]
   omega
theorem load_cells {b off : Nat} {cs : List AV} {n : Nat} (h : CRep c b off cs) (hn : cs.length = n) : ∃ vs : List Value, Reps c vs cs ∧ vs.length = n ∧ ∀ w' : World, w'.heap = c.w.heap → (loadCells ⟨b, off, none⟩ n).run P w' = .ok vs.toArray w' := by
 obtain ⟨vs, h1, h2⟩ := h.vals
 have hl : vs.length = n := by rw [h1.length, hn]
 refine ⟨vs, h1, hl, fun w' hw => ?_⟩
 have := run_loadCells_list (P := P) w' ⟨b, off, none⟩ vs (fun j v hv => by rw [wS]; have := h2 j v hv; simpa [World.cell?, hw] using this)
 rwa [hl] at this
theorem appSrc_sound (hH : HRep c) {sz : Nat} {x : Value} {xa : AV} {n : Nat} {new : List AV} (hx : VRep c x xa) (h : UR c.h sz xa = some (n, new)) :
 new.length = n * sz ∧ (Builtin.lenOf x).run P c.w = .ok n c.w ∧ ∃ vs : List Value, Reps c vs new ∧ ∀ w' : World, w'.heap = c.w.heap → (Builtin.firstCells sz n x).run P w' = .ok vs.toArray w' := by
 unfold UR at h
 split at h
 · simp only [oI, Prod.mk.injEq] at h
   obtain ⟨rfl, rfl⟩ := h
   simp only [VRep] at hx
   obtain ⟨a, rfl⟩ := hx
   refine ⟨by simp, rfl, [], by simp [Reps], fun w' _ => ?_⟩
   cases a <;> simp [Builtin.firstCells, loadCells, loadCellsFrom]
 · rename_i xs
   split at h
   · rename_i hall
     simp only [oI, Prod.mk.injEq] at h
     obtain ⟨rfl, rfl⟩ := h
     have hall' : ∀ y ∈ xs, y.length = sz := fun y hy => by simpa using List.all_eq_true.1 hall y hy
     simp only [VRep] at hx
     obtain ⟨addr, cap, rfl, hc, hr⟩ := hx
     refine ⟨UI hall', rfl, ?_⟩
     cases xs with
     | nil =>
       refine ⟨[], by simp [Reps], fun w' _ => ?_⟩
       cases addr <;> simp [Builtin.firstCells, loadCells, loadCellsFrom]
     | cons y ys =>
       obtain ⟨b, off, sz', rfl, hs, hr⟩ := hr (by simp)
       have : sz' = sz := by
        have h1 := (hr.get (i := 0) rfl).1
        have h2 := hall' y (by simp)
        omega
       subst this
       obtain ⟨vs, h1, _, h3⟩ := load_cells (P := P) hr.flatten (UI hall')
       exact ⟨vs, h1, h3⟩
   · cases h
 · rename_i id off len sz'
   split at h
   · rename_i e
     subst e
     split at h
     · rename_i blk hb
       simp only [oI, Prod.mk.injEq] at h
       obtain ⟨rfl, rfl⟩ := h
       simp only [VRep] at hx
       obtain ⟨hid, ⟨cap, rfl, hc, h7⟩ | ⟨rfl, a, rfl⟩⟩ := hx
       · obtain ⟨h8, arr, el, fr, h9, h10⟩ := h7 blk hb
         obtain ⟨_, _, hcr, _⟩ := hH.blk id blk hb
         have hlen : ((blk.cells.drop off).take (len * sz')).length = len * sz' := by simp; omega
         refine ⟨hlen, rfl, ?_⟩
         obtain ⟨vs, h1, _, h3⟩ := load_cells (P := P) ((hcr.drop off).take (len * sz')) hlen
         exact ⟨vs, h1, h3⟩
       · refine ⟨by simp, rfl, [], by simp [Reps], fun w' _ => ?_⟩
         cases a <;> simp [Builtin.firstCells, loadCells, loadCellsFrom]
     · cases h
   · cases h
 · cases h
theorem append_grow (hH : HRep c) {nid : Id} (hn : ¬ c.al nid) {t u e e' ty : TypeId} {i : TypeInfo} {z : Value} {tys : Array TypeId} {x : Value} {n len cap : Nat} {base : Option Addr} {old new : List AV} {ovs nvs : List Value}
 (h1 : tys[0]? = some t) (h2 : tys[1]? = some u) (hu : P.underlying t = some (.slice e)) (hu' : P.underlying u = some (.slice e')) (hi : P.info? e = some i) (hz : i.zero = some z) (hzs : z.cells.size = i.size) (hby : i.bytes ≠ 0)
 (hlen : (Builtin.lenOf x).run P c.w = .ok n c.w) (hnew : Reps c nvs new) (hfn : ∀ w' : World, w'.heap = c.w.heap → (Builtin.firstCells i.size n x).run P w' = .ok nvs.toArray w') (hnl : new.length = n * i.size)
 (hold : Reps c ovs old) (hfo : ∀ w' : World, w'.heap = c.w.heap → (Builtin.firstCells i.size len (.slice base len cap)).run P w' = .ok ovs.toArray w') (hol : old.length = len * i.size)
 (hgrow : cap < len + n) (hroom : Builtin.nextslicecap (len + n) cap * i.bytes ≤ 281474976710656) :
 ∃ (v : Value) (c' : Cx), (Builtin.append_ tys ty #[.slice base len cap, x]).run P c.w = .ok v c'.w ∧ c'.h = c.h.push nid (old ++ new) ∧ VRep c' v (.sl nid 0 (len + n) i.size) ∧ Le c c' ∧ HRep c' ∧ Fr c c' ∧ ∀ i, c'.al i → c.al i ∨ i = nid := by
 have hq : ∃ t', (choose (.appendCap (len + n) cap e)).run P c.w = .ok (len + n + t') { c.w with drawn := c.w.drawn + 1 } := by
  refine ⟨_, by simp [run_choose, Question.forced, Question.cut]; rfl⟩
 obtain ⟨t', hq⟩ := hq
 -- the same context, one draw later
 let cd : Cx := ⟨{ c.w with drawn := c.w.drawn + 1 }, c.S, c.h, c.φ, c.al⟩
 have hled : Le c cd := ⟨fun b h => ⟨h, rfl⟩, fun _ h => h, fun _ _ => rfl, fun id _ blk h => ⟨blk, h, rfl, fun arr el fr h => ⟨arr, h, rfl⟩⟩⟩
 have hHd : HRep cd := ⟨hH.slt, fun id blk h => by obtain ⟨a1, a2, a3, a4, a5⟩ := hH.blk id blk h; exact ⟨a1, a2, CRep.mono hled _ rfl _ _ a3, a4, a5⟩,
  fun id es h => by obtain ⟨a1, a2, a3, ob, a4, a5⟩ := hH.mp id es h; exact ⟨a1, a2, a3, ob, a4, MRep.mono hled a5⟩, hH.inj⟩
 have hfrd : Fr c cd := ⟨rfl, rfl, rfl, Nat.le_refl _, fun _ _ _ => rfl, fun _ h => .inl h, fun _ h => .inl h⟩
 let arr : Array Value := ovs.toArray ++ nvs.toArray ++ Builtin.zeroCells z.cells t'
 have harr : arr.size = (len + n + t') * i.size := by
  have := hold.length; have := hnew.length
  simp [arr, Builtin.zeroCells, hzs, Nat.add_mul]; omega
 obtain ⟨c', f1, f2, f3, hle, hH', hfr, f4⟩ := kE hHd hn (w' := { cd.w with heap := cd.w.heap.push (.cells arr e) }) (arr := arr) (el := e) (cells := old ++ new) rfl rfl rfl rfl
  (by rw [harr]; simp only [List.length_append, hol, hnl, Nat.add_mul]; omega)
  (fun j y hy => by
   have hr := Reps.append hold hnew
   obtain ⟨v, g1, g2⟩ := hr.get hy
   refine ⟨v, ?_, VRep.mono hled v y g2⟩
   have hj : j < (ovs ++ nvs).length := (List.getElem?_eq_some_iff.1 g1).1
   simp only [arr]
   rw [Array.getElem?_append_left (by simpa using hj)]
   simpa using g1)
 have hnewb : c'.w.heap[c.w.heap.size]? = some (.cells arr e (0, 0)) := by rw [f1]; simp [cd]
 refine ⟨.slice (some ⟨c.w.heap.size, 0, none⟩) (len + n) (len + n + t'), c', ?_, f2, ?_, hled.trans hle, hH', hfrd.trans hfr, fun i hi => by rw [f4] at hi; exact hi⟩
 · rw [f1]
   have n1 : ¬ (len + n ≤ cap) := by omega
   have n2 : ¬ (Builtin.nextslicecap (len + n) cap * i.bytes > 2 ^ 48) := by simpa using hroom
   unfold Builtin.append_
   simp only [h1, h2, List.getElem?_toArray, List.getElem?_cons_zero, List.getElem?_cons_succ, Sem.run_bind, run_underlying hu, run_underlying hu', qW hi, Result.andThen_ok, Sem.run_pure]
   simp only [Bool.false_eq_true, if_false, Sem.run_bind, Result.andThen_ok, hlen]
   have run0 : ∀ w : World, (typeInfo e).run P w = .ok i w := fun w => by simp [typeInfo, hi]
   rw [if_neg n1]
   simp only [Sem.run_bind, run0, Result.andThen_ok]
   rw [if_neg (by simp [hby])]
   simp only [Sem.run_bind, run0, Result.andThen_ok]
   rw [if_neg n2]
   simp only [Sem.run_bind, run0, Result.andThen_ok, hq, run_askRoom, Bool.not_false, if_true]
   rw [hfo { heap := c.w.heap, tape := c.w.tape, drawn := c.w.drawn + 1, os := c.w.os, output := c.w.output } rfl]
   simp only [Result.andThen_ok]
   rw [hfn { heap := c.w.heap, tape := c.w.tape, drawn := c.w.drawn + 1, os := c.w.os, output := c.w.output } rfl]
   have e1 : len + n + t' - (len + n) = t' := by omega
   simp only [Result.andThen_ok, WS hi hz, e1]
   simp only [newRow, Sem.run_bind, run_newObj, Result.andThen_ok, Sem.run_pure]
   rfl
 · exact sl_mk (cells := old ++ new) (by rw [f4]; simp) f3 (by rw [f2]; simp [Hp.push, cd]) (by simp only [List.length_append, hol, hnl, Nat.add_mul]; omega) (by omega) hnewb (by omega)
theorem append_fits (hH : HRep c) {nid : Id} (hn : ¬ c.al nid) {t u e e' ty : TypeId} {i : TypeInfo} {tys : Array TypeId} {x : Value} {id : Id} {n len cap off : Nat} {blk : Blk} {new : List AV} {nvs : List Value}
 (h1 : tys[0]? = some t) (h2 : tys[1]? = some u) (hu : P.underlying t = some (.slice e)) (hu' : P.underlying u = some (.slice e')) (hi : P.info? e = some i)
 (hlen : (Builtin.lenOf x).run P c.w = .ok n c.w) (hnew : Reps c nvs new) (hfn : ∀ w' : World, w'.heap = c.w.heap → (Builtin.firstCells i.size n x).run P w' = .ok nvs.toArray w') (hnl : new.length = n * i.size)
 (hone : new.all one = true) (hb : c.h.hp id = some blk) (hwr : blk.wr = true) (hlc : len ≤ cap) (hblk : off + len * i.size ≤ blk.cells.length)
 (hcap : ∃ arr el fr, c.w.heap[(c.φ id).1]? = some (.cells arr el fr) ∧ (c.φ id).2 + off + cap * i.size ≤ arr.size) (hroom : len + n ≤ cap) :
 ∃ (v : Value) (c' : Cx), (Builtin.append_ tys ty #[.slice (some ⟨(c.φ id).1, (c.φ id).2 + off, none⟩) len cap, x]).run P c.w = .ok v c'.w ∧ c'.h = (c.h.kill id).push nid ((blk.cells.drop off).take (len * i.size) ++ new) ∧ VRep c' v (.sl nid 0 (len + n) i.size) ∧ Le c c' ∧ HRep c' ∧ Fr c c' ∧ ∀ i, c'.al i → c.al i ∨ i = nid := by
 obtain ⟨hid, ⟨arr, el, harr, hal⟩, hcr, _⟩ := hH.blk id blk hb
 obtain ⟨arr0, el0, fr0, e0, hcap⟩ := hcap
 rw [harr] at e0
 simp only [oI, Obj.cells.injEq] at e0
 obtain ⟨rfl, rfl, rfl⟩ := e0
 have hnvs : nvs.length = n * i.size := by rw [hnew.length, hnl]
 have hle2 : len * i.size + n * i.size ≤ cap * i.size := by rw [← Nat.add_mul]; exact UA hroom
 have hall : ∀ v ∈ nvs, v.oneCell' = true := by
  intro v hv
  obtain ⟨j, hj⟩ := List.getElem?_of_mem hv
  have hjl : j < new.length := by rw [← hnew.length]; exact (List.getElem?_eq_some_iff.1 hj).1
  obtain ⟨u, h5, h6⟩ := hnew.get (List.getElem?_eq_getElem hjl)
  rw [hj] at h5
  cases h5
  exact (one_cell h6 (List.all_eq_true.1 hone _ (List.getElem_mem hjl))).1
 have hst := run_storeCells_at (P := P) (c.φ id).1 ((c.φ id).2 + off + len * i.size) el nvs 0 arr c.w harr (by omega) hall
 simp only [Nat.add_zero] at hst
 have harr' : (arr.toList.take ((c.φ id).2 + off + len * i.size) ++ nvs ++ arr.toList.drop ((c.φ id).2 + off + len * i.size + nvs.length)).toArray = (splice arr.toList ((c.φ id).2 + off + len * i.size) nvs).toArray := rfl
 rw [harr'] at hst
 have hsz' : (splice arr.toList ((c.φ id).2 + off + len * i.size) nvs).toArray.size = arr.size := by simp; rw [WE (by simp; omega)]; simp
 have hol : ((blk.cells.drop off).take (len * i.size)).length = len * i.size := by simp; omega
 obtain ⟨c', f1, f2, f3, hle, hH', hfr, f4⟩ := take_step hH hn hb hwr (w' := c.w.setRow (c.φ id).1 (splice arr.toList ((c.φ id).2 + off + len * i.size) nvs).toArray) (arr' := (splice arr.toList ((c.φ id).2 + off + len * i.size) nvs).toArray)
  (cells := (blk.cells.drop off).take (len * i.size) ++ new) (base := (c.φ id).2 + off) harr rfl hsz' (by rw [hsz', List.length_append, hol, hnl]; omega) (fun j y hy => by
   simp only [List.getElem?_toArray]
   rw [splice_get _ _ _ (by simp; omega)]
   rcases Nat.lt_or_ge j (len * i.size) with g | g
   · rw [List.getElem?_append_left (by rw [hol]; exact g), List.getElem?_take, if_pos g, List.getElem?_drop] at hy
     rw [if_pos (by omega)]
     obtain ⟨v, g1, g2⟩ := hcr.get hy
     refine ⟨v, ?_, g2⟩
     have : c.w.cell? ⟨(c.φ id).1, (c.φ id).2 + off + j, none⟩ = some v := by rw [Nat.add_assoc]; exact g1
     simpa [World.cell?, harr] using this
   · rw [List.getElem?_append_right (by rw [hol]; exact g), hol] at hy
     have hj2 : j - len * i.size < new.length := (List.getElem?_eq_some_iff.1 hy).1
     rw [if_neg (by omega), if_pos (by omega), show (c.φ id).2 + off + j - ((c.φ id).2 + off + len * i.size) = j - len * i.size by omega]
     exact hnew.get hy)
 refine ⟨.slice (some ⟨(c.φ id).1, (c.φ id).2 + off, none⟩) (len + n) cap, c', ?_, f2, ?_, hle, hH', hfr, fun i hi => by rw [f4] at hi; exact hi⟩
 · rw [f1]
   unfold Builtin.append_
   simp only [h1, h2, List.getElem?_toArray, List.getElem?_cons_zero, List.getElem?_cons_succ, Sem.run_bind, run_underlying hu, run_underlying hu', qW hi, Result.andThen_ok, Sem.run_pure]
   simp only [Bool.false_eq_true, if_false, Sem.run_bind, Result.andThen_ok, hlen]
   rw [if_pos hroom]
   simp only [Sem.run_bind, Bool.not_false, if_true]
   rw [hfn c.w rfl]
   simp only [Result.andThen_ok, wS]
   rw [hst]
   simp
 · simp only [VRep]
   refine ⟨by rw [f4]; simp, .inl ⟨cap, by rw [f3]; simp, hroom, fun bl hbl => ?_⟩⟩
   rw [f2] at hbl
   simp only [Hp.push, Hp.kill, upd_same, oI] at hbl
   subst hbl
   refine ⟨by rw [List.length_append, hol, hnl, Nat.add_mul]; omega, (splice arr.toList ((c.φ id).2 + off + len * i.size) nvs).toArray, el, (0, 0), ?_, ?_⟩
   · rw [f3, f1]; exact setRow_heap _ _ _ _ _ _ harr
   · rw [f3, hsz']; simp only; omega
theorem append_op (hH : HRep c) {nid : Id} (hn : ¬ c.al nid) {tys : Array TypeId} {ty : TypeId} {s x : Operand} {ao : AOp} (hc : uT P .append [s, x] tys = some ao) {ρ : Operand → Value} {ρA : AOpd → AV} (hρ : ∀ x y, cOpd x = some y → VRep c (ρ x) (ρA y)) {r : AV} {h' : Hp}
 (hp : qA ao ρA c.h nid = some (r, h')) : Makes P c nid (Builtin.append_ tys ty #[ρ s, ρ x]) r h' := by
 simp only [uT, oB] at hc
 obtain ⟨t, h1, u, h2, sA, h3, xA, h4, hc⟩ := hc
 have hs := hρ s sA h3
 have hx := hρ x xA h4
 split at hc
 · rename_i e e' hu hu'
   simp only [oB] at hc
   obtain ⟨i, hi, z, hz, hc⟩ := hc
   split at hc
   · rename_i hcond
     obtain ⟨hzs, hby⟩ := hcond
     simp only [oI] at hc
     subst hc
     simp only [qA] at hp
     split at hp
     · cases hp
     · rename_i n new hsrc
       obtain ⟨hnl, hlen, nvs, hnew, hfn⟩ := appSrc_sound (P := P) hH hx hsrc
       -- a slice of no room
       have empty : ∀ (a : Option Addr), n ≠ 0 → n * i.bytes ≤ 281474976710656 → ∃ (v : Value) (c' : Cx), (Builtin.append_ tys ty #[.slice a 0 0, ρ x]).run P c.w = .ok v c'.w ∧ c'.h = c.h.push nid new ∧ VRep c' v (.sl nid 0 n i.size) ∧ Le c c' ∧ HRep c' ∧ Fr c c' ∧ ∀ i, c'.al i → c.al i ∨ i = nid := fun a h0 hb => by
        have := append_grow (P := P) (ty := ty) hH hn (x := ρ x) (n := n) (len := 0) (cap := 0) (base := a) (old := []) (new := new) (ovs := []) (nvs := nvs) h1 h2 hu hu' hi hz hzs hby hlen hnew hfn hnl (by simp [Reps])
         (fun w' _ => by cases a <;> simp [Builtin.firstCells, loadCells, loadCellsFrom]) (by simp) (by omega) (by rw [nextslicecap_zero (by omega)]; simpa using hb)
        simpa using this
       have none0 : ∀ (a : Option Addr), n = 0 → (Builtin.append_ tys ty #[.slice a 0 0, ρ x]).run P c.w = .ok (.slice a 0 0) c.w := fun a h0 => by
        subst h0
        unfold Builtin.append_
        simp only [h1, h2, List.getElem?_toArray, List.getElem?_cons_zero, List.getElem?_cons_succ, Sem.run_bind, run_underlying hu, run_underlying hu', qW hi, Result.andThen_ok, Sem.run_pure]
        simp only [Bool.false_eq_true, if_false, Sem.run_bind, Result.andThen_ok, hlen]
        rw [if_pos (by omega)]
        simp only [Sem.run_bind, Bool.not_false, if_true]
        rw [hfn c.w rfl]
        have hn0 : nvs = [] := by have := hnew.length; rw [hnl] at this; simpa using this
        subst hn0
        cases a <;> simp [storeCells]
       split at hp
       · rename_i es
         rw [es] at hs
         simp only [VRep] at hs
         obtain ⟨a, hs⟩ := hs
         rw [hs]
         split at hp
         · rename_i h0
           simp only [oI, Prod.mk.injEq] at hp
           obtain ⟨rfl, rfl⟩ := hp
           exact ⟨_, c, none0 a h0, rfl, by simp only [VRep]; exact ⟨a, rfl⟩, Le.refl c, hH, Fr.refl c, fun _ h => .inl h⟩
         · rename_i h0
           split at hp
           · rename_i hb
             simp only [oI, Prod.mk.injEq] at hp
             obtain ⟨rfl, rfl⟩ := hp
             exact empty a h0 hb
           · cases hp
       · rename_i id off len sz' es
         rw [es] at hs
         split at hp
         · rename_i blk hb
           split at hp
           · rename_i hcond
             obtain ⟨rfl, hwr, hone, hroom⟩ := hcond
             simp only [oI, Prod.mk.injEq] at hp
             obtain ⟨rfl, rfl⟩ := hp
             simp only [VRep] at hs
             obtain ⟨hid, ⟨cap, hs, hlc, h7⟩ | ⟨rfl, a, hs⟩⟩ := hs
             · rw [hs]
               obtain ⟨h8, hcap⟩ := h7 blk hb
               rcases Nat.lt_or_ge cap (len + n) with g | g
               · obtain ⟨_, _, hcr, _⟩ := hH.blk id blk hb
                 have hol : ((blk.cells.drop off).take (len * i.size)).length = len * i.size := by simp; omega
                 obtain ⟨hle, hHk, hfrk⟩ := kill_step hH id
                 obtain ⟨ovs, ho1, _, ho3⟩ := load_cells (P := P) ((hcr.drop off).take (len * i.size)) hol
                 obtain ⟨v, c', g1, g2, g3, g4, g5, g6, g7⟩ := append_grow (P := P) (ty := ty) hHk hn (x := ρ x) (n := n) (len := len) (cap := cap) (base := some ⟨(c.φ id).1, (c.φ id).2 + off, none⟩) (old := (blk.cells.drop off).take (len * i.size)) (new := new) (ovs := ovs) (nvs := nvs)
                  h1 h2 hu hu' hi hz hzs hby hlen (Reps.mono hle _ _ hnew) hfn hnl (Reps.mono hle _ _ ho1) ho3 hol g (by
                   have := nextslicecap_le (need := len + n) (cap := cap) g
                   exact Nat.le_trans (Nat.mul_le_mul_right _ this) hroom)
                 exact ⟨v, c', g1, g2, g3, hle.trans g4, g5, hfrk.trans g6, g7⟩
               · exact append_fits (P := P) (ty := ty) hH hn h1 h2 hu hu' hi hlen hnew hfn hnl hone hb hwr hlc h8 hcap g
             · rw [hs]
               obtain ⟨_, ⟨arr, el, harr, hal⟩, hcr, _⟩ := hH.blk id blk hb
               simp only [Nat.zero_add, Nat.zero_mul, List.take_zero, List.nil_append]
               by_cases h0 : n = 0
               · have hn0 : new = [] := by rw [h0] at hnl; simpa using hnl
                 subst hn0
                 obtain ⟨c', f1, f2, f3, hle, hH', hfr, f4⟩ := take_step hH hn hb hwr (w' := c.w) (arr' := arr) (cells := []) (base := 0) harr (setRow_self c.w _ arr el (0, 0) harr).symm rfl (by simp) (fun j y hy => by simp at hy)
                 refine ⟨_, c', by rw [f1]; exact none0 a h0, f2, ?_, hle, hH', hfr, fun i hi => by rw [f4] at hi; exact hi⟩
                 simp only [VRep]
                 exact ⟨by rw [f4]; simp, .inr ⟨h0, a, rfl⟩⟩
               · obtain ⟨hle, hHk, hfrk⟩ := kill_step hH id
                 have := append_grow (P := P) (ty := ty) hHk hn (x := ρ x) (n := n) (len := 0) (cap := 0) (base := a) (old := []) (new := new) (ovs := []) (nvs := nvs) h1 h2 hu hu' hi hz hzs hby hlen (Reps.mono hle _ _ hnew) hfn hnl (by simp [Reps])
                  (fun w' _ => by cases a <;> simp [Builtin.firstCells, loadCells, loadCellsFrom]) (by simp) (by omega) (by
                   have h9 := nextslicecap_le (need := 0 + n) (cap := 0) (by omega)
                   exact Nat.le_trans (Nat.mul_le_mul_right _ h9) hroom)
                 simp only [Nat.zero_add, List.nil_append] at this
                 obtain ⟨v, c', g1, g2, g3, g4, g5, g6, g7⟩ := this
                 exact ⟨v, c', g1, g2, g3, hle.trans g4, g5, hfrk.trans g6, g7⟩
           · cases hp
         · cases hp
       · cases hp
   · cases hc
 · cases hc
end
end Go.Proofs.Hx
