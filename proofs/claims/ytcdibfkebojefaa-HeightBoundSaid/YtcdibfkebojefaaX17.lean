import Derived.Test.YtcdibfkebojefaaX16
set_option linter.unusedVariables false
set_option linter.unusedSimpArgs false
namespace Go.Proofs.Hx
open Go Go.Proofs
/-! ### Slices that grow, whatever they lie in -/
def killA (h : Hp) (a : AV) : Hp := match idOf a with | some t => h.kill t | none => h
theorem killA_ep (h : Hp) (a : AV) : (killA h a).ep = h.ep := by unfold killA; split <;> rfl
theorem killA_ne (h : Hp) (a : AV) {x : Id} (hx : idOf a ≠ some x) : (killA h a).hp x = h.hp x := by
  unfold killA
  split
  · rename_i t e
    exact kill_ne _ _ _ (fun e' => hx (by rw [e, e']))
  · rfl
theorem Ext.killA {h g : Hp} (e : Ext h g) {a : AV} (ha : ∀ x, idOf a = some x → h.ep < x.1) : Ext h (Hx.killA g a) :=
  ⟨by rw [killA_ep]; exact e.1, fun x hx => by rw [killA_ne _ _ (fun e' => by have := ha x e'; omega)]; exact e.2 x hx⟩
/-- A slice of 'es', each with cells of its own. -/
structure SlO {α : Type} (f : α → List AV) (sz : Nat) (h : Hp) (a : AV) (es : List α) : Prop where
  st : (a = .nil ∧ es = []) ∨ (∃ id, a = .sl id 0 es.length sz ∧ h.hp id = some ⟨true, es.flatMap f⟩ ∧ id.1 ≤ h.ep)
theorem SlO.nil {α : Type} (f : α → List AV) (sz : Nat) (h : Hp) : SlO f sz h .nil [] := ⟨.inl ⟨rfl, rfl⟩⟩
theorem SlO.ext {α : Type} {f : α → List AV} {sz : Nat} {h g : Hp} {a : AV} {es : List α} (s : SlO f sz h a es) (he : Ext h g) : SlO f sz g a es := by
  rcases s.st with h1 | ⟨id, h1, h2, h3⟩
  · exact ⟨.inl h1⟩
  · exact ⟨.inr ⟨id, h1, (he.2 id h3).trans h2, Nat.le_trans h3 he.1⟩⟩
theorem SlO.len {α : Type} {f : α → List AV} {sz : Nat} {h : Hp} {a : AV} {es : List α} (s : SlO f sz h a es) : lenV a = some (i64 es.length) := by
  rcases s.st with ⟨rfl, rfl⟩ | ⟨id, rfl, h2, h3⟩
  · exact lenV_nil
  · exact lenV_sl _ _ _ _
theorem SlO.id_le {α : Type} {f : α → List AV} {sz : Nat} {h : Hp} {a : AV} {es : List α} (s : SlO f sz h a es) {x : Id} (hx : idOf a = some x) : x.1 ≤ h.ep := by
  rcases s.st with ⟨rfl, rfl⟩ | ⟨id, rfl, h2, h3⟩
  · simp [idOf] at hx
  · simp [idOf] at hx; subst hx; exact h3
/-- The same, where the slice has not been touched. -/
theorem SlO.keep {α : Type} {f : α → List AV} {sz : Nat} {h g : Hp} {a : AV} {es : List α} (s : SlO f sz h a es) (hk : ∀ x, idOf a = some x → g.hp x = h.hp x) (he : h.ep ≤ g.ep) : SlO f sz g a es := by
  rcases s.st with h1 | ⟨id, h1, h2, h3⟩
  · exact ⟨.inl h1⟩
  · exact ⟨.inr ⟨id, h1, (hk id (by rw [h1]; rfl)).trans h2, Nat.le_trans h3 he⟩⟩
/-- It has memory, where there is an element. -/
theorem SlO.blk {α : Type} {f : α → List AV} {sz : Nat} {h : Hp} {a : AV} {es : List α} (s : SlO f sz h a es) (hp : 0 < es.length) : ∃ e n, a = .sl (e, n) 0 es.length sz ∧ h.hp (e, n) = some ⟨true, es.flatMap f⟩ ∧ e ≤ h.ep := by
  rcases s.st with ⟨rfl, rfl⟩ | ⟨⟨e, n⟩, h1, h2, h3⟩
  · simp at hp
  · exact ⟨e, n, h1, h2, h3⟩
theorem flat_len {α : Type} {f : α → List AV} {sz : Nat} (hf : ∀ a, (f a).length = sz) (l : List α) : (l.flatMap f).length = l.length * sz := by
  induction l with
  | nil => simp
  | cons a l ih => rw [List.flatMap_cons, List.length_append, hf, ih, List.length_cons, Nat.add_mul]; omega
theorem flat_drop {α : Type} {f : α → List AV} {sz : Nat} (hf : ∀ a, (f a).length = sz) (l : List α) (k : Nat) : (l.flatMap f).drop (k * sz) = (l.drop k).flatMap f := by
  induction l generalizing k with
  | nil => simp
  | cons a l ih =>
    cases k with
    | zero => simp
    | succ k =>
      have : (k + 1) * sz = (f a).length + k * sz := by rw [hf a, Nat.add_mul]; omega
      rw [List.flatMap_cons, this, ← List.drop_drop, List.drop_left, ih]
      rfl
theorem flat_take {α : Type} {f : α → List AV} {sz : Nat} (hf : ∀ a, (f a).length = sz) (l : List α) {k : Nat} (hk : k < l.length) : ((l.flatMap f).drop (k * sz)).take sz = f l[k] := by
  rw [flat_drop hf, List.drop_eq_getElem_cons hk, List.flatMap_cons, ← hf l[k], List.take_left]
theorem flat_get {α : Type} {f : α → List AV} {sz : Nat} (hf : ∀ a, (f a).length = sz) (l : List α) {k : Nat} (hk : k < l.length) {i : Nat} (hi : i < sz) : (l.flatMap f)[k * sz + i]? = (f l[k])[i]? := by
  rw [← List.getElem?_drop, flat_drop hf, List.drop_eq_getElem_cons hk, List.flatMap_cons, List.getElem?_append_left (by rw [hf]; exact hi)]
theorem SlO.app {α : Type} {f : α → List AV} {sz : Nat} {h : Hp} {a : AV} {es : List α} (s : SlO f sz h a es) (hf : ∀ a, (f a).length = sz) {bytes n : Nat} {new : List AV} (id : Id) (hn : n ≠ 0) (ho : new.all one = true)
    (hb : (es.length + n + (es.length + n) / 4 + 512) * bytes ≤ 281474976710656) : appV h id sz bytes n new a = some (.sl id 0 (es.length + n) sz, (killA h a).push id (es.flatMap f ++ new)) := by
  rcases s.st with ⟨rfl, rfl⟩ | ⟨t, rfl, h2, h3⟩
  · simp only [List.length_nil, Nat.zero_add] at hb ⊢
    rw [appV_nil _ _ hn (Nat.le_trans (Nat.mul_le_mul_right bytes (by omega)) hb)]
    rfl
  · rw [appV_sl_eq, h2]
    simp only [Option.bind_some]
    rw [if_pos ⟨trivial, trivial, ho, hb⟩, List.drop_zero, ← flat_len hf, List.take_length]
    rfl
theorem OutR.slo {h : Hp} {a : AV} {es : List Edg} (o : OutR h a es) : SlO edC 5 h a es := ⟨o⟩
theorem rep1 (n : Nat) (a : AV) : (List.replicate n [a]).flatten = List.replicate n a := by
  induction n with
  | zero => rfl
  | succ n ih => rw [List.replicate_succ, List.flatten_cons, ih]; rfl
def intC (n : Int) : List AV := [i64 n]
theorem ints_imms (l : List Int) : immss (l.map intC) = true := immss_of_get fun i x hx => by simp at hx; obtain ⟨a, _, rfl⟩ := hx; rfl
theorem int_at {l : List Int} {k : Nat} (hk : k < l.length) (kd : IntKind) : idxAddrV none 1 (.row (l.map intC)) (.lit (.int kd (k : Int))) = some (.ip [i64 (l.getD k 0)]) := by
  rw [idxAddr_row intC 1 (fun _ => rfl) l kd hk]
  simp [intC, List.getD_eq_getElem?_getD, hk]
def iC (n : Int) : AV := i64 n
theorem rep_map (n : Nat) (v : Int) : List.replicate n (i64 v) = (List.replicate n v).map iC := by simp [iC]
theorem set_at {α : Type} (f : α → AV) (H : List α) {k : Nat} (hk : k < H.length) (v : α) : (H.map f).take k ++ [f v] ++ (H.map f).drop (k + 1) = (H.set k v).map f := by
  rw [← List.map_take, ← List.map_drop, List.set_eq_take_append_cons_drop, if_pos hk]
  simp
theorem set_cell (c : List AV) {k : Nat} (hk : k < c.length) (v : AV) : c.take k ++ [v] ++ c.drop (k + 1) = c.set k v := by
  rw [List.set_eq_take_append_cons_drop, if_pos hk]
  simp
/-! ### Rows of slices -/
structure RowsO {α : Type} (f : α → List AV) (sz : Nat) (h : Hp) (E : Nat) (c : List AV) (fs : Nat → List α) : Prop where
  get : ∀ (i : Nat) (a : AV), c[i]? = some a → SlO f sz h a (fs i) ∧ ∀ x, idOf a = some x → E < x.1
  sep : ∀ (i j : Nat) (a b : AV) (x : Id), c[i]? = some a → c[j]? = some b → i ≠ j → idOf a = some x → idOf b ≠ some x
theorem RowsO.keep {α : Type} {f : α → List AV} {sz : Nat} {h g : Hp} {E : Nat} {c : List AV} {fs : Nat → List α} (r : RowsO f sz h E c fs) (hk : ∀ x, E < x.1 → x.1 ≤ h.ep → g.hp x = h.hp x) (he : h.ep ≤ g.ep) : RowsO f sz g E c fs :=
  ⟨fun i a hi => ⟨(r.get i a hi).1.keep (fun x hx => hk x ((r.get i a hi).2 x hx) ((r.get i a hi).1.id_le hx)) he, (r.get i a hi).2⟩, r.sep⟩
theorem RowsO.ext {α : Type} {f : α → List AV} {sz : Nat} {h g : Hp} {E : Nat} {c : List AV} {fs : Nat → List α} (r : RowsO f sz h E c fs) (he : Ext h g) : RowsO f sz g E c fs := r.keep (fun x _ hx => he.2 x hx) he.1
/-- One of the rows grows. -/
theorem RowsO.app {α : Type} {f : α → List AV} {sz : Nat} {h g : Hp} {E : Nat} {c : List AV} {fs : Nat → List α} (r : RowsO f sz h E c fs) {k : Nat} {a : AV} (hk : c[k]? = some a) {id : Id} (hid : h.ep < id.1) (hE : E ≤ h.ep) (e : α)
    (hg : g.hp id = some ⟨true, (fs k).flatMap f ++ f e⟩) (hi : id.1 ≤ g.ep) (he : h.ep ≤ g.ep) (ho : ∀ x, E < x.1 → x.1 ≤ h.ep → idOf a ≠ some x → g.hp x = h.hp x) :
    RowsO f sz g E (c.set k (.sl id 0 ((fs k).length + 1) sz)) (fun i => if i = k then fs k ++ [e] else fs i) := by
  have hkl : k < c.length := (List.getElem?_eq_some_iff.1 hk).1
  have new : ∀ (i : Nat) (b : AV), (c.set k (.sl id 0 ((fs k).length + 1) sz))[i]? = some b → (i = k ∧ b = .sl id 0 ((fs k).length + 1) sz) ∨ (i ≠ k ∧ c[i]? = some b) := by
    intro i b hb
    rw [List.getElem?_set] at hb
    by_cases e1 : k = i
    · subst e1
      rw [if_pos rfl, if_pos hkl] at hb
      cases hb
      exact .inl ⟨rfl, rfl⟩
    · rw [if_neg e1] at hb
      exact .inr ⟨Ne.symm e1, hb⟩
  refine ⟨fun i b hb => ?_, fun i j b d x hb hd hij hx => ?_⟩
  · rcases new i b hb with ⟨rfl, rfl⟩ | ⟨h1, h2⟩
    · refine ⟨⟨.inr ⟨id, by simp, ?_, hi⟩⟩, fun x hx => by simp [idOf] at hx; subst hx; omega⟩
      rw [hg]
      simp
    · obtain ⟨g1, g2⟩ := r.get i b h2
      refine ⟨?_, g2⟩
      rw [if_neg h1]
      exact g1.keep (fun x hx => ho x (g2 x hx) (g1.id_le hx) (r.sep i k b a x h2 hk h1 hx)) he
  · rcases new i b hb with ⟨rfl, rfl⟩ | ⟨h1, h2⟩ <;> rcases new j d hd with ⟨rfl, rfl⟩ | ⟨h3, h4⟩
    · exact absurd rfl hij
    · simp [idOf] at hx
      subst hx
      intro h
      have := (r.get j d h4).1.id_le h
      omega
    · intro h
      simp [idOf] at h
      subst h
      have := (r.get i b h2).1.id_le hx
      omega
    · exact r.sep i j b d x h2 h4 hij hx
theorem sepV_old {a : AV} {i : Id} {o : Nat} {E : Nat} (ha : ∀ x, idOf a = some x → x.1 ≤ E) (hi : E < i.1) : sepV (.ptr i o) a = True := by
  simp only [sepV, eq_iff_iff, iff_true]
  split
  · rename_i x y h1 h2
    intro e
    have := ha y h2
    simp [idOf] at h1
    rw [h1, e] at hi
    omega
  · trivial
theorem i64_eq {x y : Int} (h : x = y) : (.lit (.int .i64 x) : AV) = i64 y := by rw [h]
theorem awp_fresh_i2 {P : Program} {l : List AOper} {s : List (Nat × Nat)} {b c : ACode} {Q : AEx → St → Prop} {env : Nat → AV} {h : Hp} (k : Fresh h → awp P (.seq (.seq (.ops l s) b) c) Q ⟨env, h⟩) : awp P (.seq (.seq (.ops l s) b) c) Q ⟨env, h⟩ := fun hf => k hf hf
theorem awp_fresh_i3 {P : Program} {l : List AOper} {s : List (Nat × Nat)} {b c d : ACode} {Q : AEx → St → Prop} {env : Nat → AV} {h : Hp} (k : Fresh h → awp P (.seq (.seq (.seq (.ops l s) b) c) d) Q ⟨env, h⟩) : awp P (.seq (.seq (.seq (.ops l s) b) c) d) Q ⟨env, h⟩ := fun hf => k hf hf
theorem ed_0 (e : Edg) : (edC e)[0]? = some (i64 e.f) := rfl
theorem ed_1 (e : Edg) : (edC e)[1]? = some (i64 e.t) := rfl
theorem ed_2 (e : Edg) : (edC e)[2]? = some (i64 e.l) := rfl
theorem ed_3 (e : Edg) : (edC e)[3]? = some (i64 e.d) := rfl
theorem ed_drop (e : Edg) : (edC e).drop 5 = [] := rfl
attribute [push_cast] lenV_row lenV_sl lenV_nil maxV_two op_0 one_sl ed_0 ed_1 ed_2 ed_3 edC_take edC_len edC_one ed_drop killA_ep
end Go.Proofs.Hx
