import Derived.Test.YtdpaimmheoconaaG5
set_option linter.unusedVariables false
set_option linter.unusedSimpArgs false
namespace Go.Proofs.Hx
open Go Go.Proofs
def killA (h : Hp) (a : AV) : Hp := match idOf a with | some t => h.kill t | none => h
theorem killA_ep (h : Hp) (a : AV) : (killA h a).ep = h.ep := by unfold killA; split <;> rfl
theorem killA_ne (h : Hp) (a : AV) {x : Id} (hx : idOf a ≠ some x) : (killA h a).hp x = h.hp x := by
 unfold killA
 split
 · rename_i t e
   exact uX _ _ _ (fun e' => hx (by rw [e, e']))
 · rfl
theorem Ext.killA {h g : Hp} (e : Ext h g) {a : AV} (ha : ∀ x, idOf a = some x → h.ep < x.1) : Ext h (Hx.killA g a) :=
 ⟨by rw [killA_ep]; exact e.1, fun x hx => by rw [killA_ne _ _ (fun e' => by have := ha x e'; omega)]; exact e.2 x hx⟩
structure SlO {α : Type} (f : α → List AV) (sz : Nat) (h : Hp) (a : AV) (es : List α) : Prop where
 st : (a = .nil ∧ es = []) ∨ (∃ id, a = .sl id 0 es.length sz ∧ h.hp id = some ⟨true, es.flatMap f⟩ ∧ id.1 ≤ h.ep)
theorem SlO.nil {α : Type} (f : α → List AV) (sz : Nat) (h : Hp) : SlO f sz h .nil [] := ⟨.inl ⟨rfl, rfl⟩⟩
theorem SlO.ext {α : Type} {f : α → List AV} {sz : Nat} {h g : Hp} {a : AV} {es : List α} (s : SlO f sz h a es) (he : Ext h g) : SlO f sz g a es := by
 rcases s.st with h1 | ⟨id, h1, h2, h3⟩
 · exact ⟨.inl h1⟩
 · exact ⟨.inr ⟨id, h1, (he.2 id h3).trans h2, Nat.le_trans h3 he.1⟩⟩
theorem SlO.len {α : Type} {f : α → List AV} {sz : Nat} {h : Hp} {a : AV} {es : List α} (s : SlO f sz h a es) : lenV a = some (i64 es.length) := by
 rcases s.st with ⟨rfl, rfl⟩ | ⟨id, rfl, h2, h3⟩
 · exact lenV_nil
 · exact wG _ _ _ _
theorem SlO.id_le {α : Type} {f : α → List AV} {sz : Nat} {h : Hp} {a : AV} {es : List α} (s : SlO f sz h a es) {x : Id} (hx : idOf a = some x) : x.1 ≤ h.ep := by
 rcases s.st with ⟨rfl, rfl⟩ | ⟨id, rfl, h2, h3⟩
 · simp [idOf] at hx
 · simp [idOf] at hx; subst hx; exact h3
theorem SlO.keep {α : Type} {f : α → List AV} {sz : Nat} {h g : Hp} {a : AV} {es : List α} (s : SlO f sz h a es) (hk : ∀ x, idOf a = some x → g.hp x = h.hp x) (he : h.ep ≤ g.ep) : SlO f sz g a es := by
 rcases s.st with h1 | ⟨id, h1, h2, h3⟩
 · exact ⟨.inl h1⟩
 · exact ⟨.inr ⟨id, h1, (hk id (by rw [h1]; rfl)).trans h2, Nat.le_trans h3 he⟩⟩
theorem SlO.blk {α : Type} {f : α → List AV} {sz : Nat} {h : Hp} {a : AV} {es : List α} (s : SlO f sz h a es) (hp : 0 < es.length) : ∃ e n, a = .sl (e, n) 0 es.length sz ∧ h.hp (e, n) = some ⟨true, es.flatMap f⟩ ∧ e ≤ h.ep := by
 rcases s.st with ⟨rfl, rfl⟩ | ⟨⟨e, n⟩, h1, h2, h3⟩
 · simp at hp
 · exact ⟨e, n, h1, h2, h3⟩
theorem UJ {α : Type} {f : α → List AV} {sz : Nat} (hf : ∀ a, (f a).length = sz) (l : List α) : (l.flatMap f).length = l.length * sz := by
 induction l with
 | nil => simp
 | cons a l ih => rw [List.flatMap_cons, List.length_append, hf, ih, List.length_cons, Nat.add_mul]; omega
theorem flat_drop {α : Type} {f : α → List AV} {sz : Nat} (hf : ∀ a, (f a).length = sz) (l : List α) (k : Nat) : (l.flatMap f).drop (k * sz) = (l.drop k).flatMap f := by
 induction l generalizing k with
 | nil => simp
 | cons a l ih =>
   cases k with
   | zero => simp
   | succ k =>
     have : (k + 1) * sz = (f a).length + k * sz := by rw [hf a, Nat.add_mul]; omega
     rw [List.flatMap_cons, this, ← List.drop_drop, List.drop_left, ih]
     rfl
theorem flat_take {α : Type} {f : α → List AV} {sz : Nat} (hf : ∀ a, (f a).length = sz) (l : List α) {k : Nat} (hk : k < l.length) : ((l.flatMap f).drop (k * sz)).take sz = f l[k] := by
 rw [flat_drop hf, List.drop_eq_getElem_cons hk, List.flatMap_cons, ← hf l[k], List.take_left]
theorem SlO.app {α : Type} {f : α → List AV} {sz : Nat} {h : Hp} {a : AV} {es : List α} (s : SlO f sz h a es) (hf : ∀ a, (f a).length = sz) {bytes n : Nat} {new : List AV} (id : Id) (hn : n ≠ 0) (ho : new.all one = true)
 (hb : (es.length + n + (es.length + n) / 4 + 512) * bytes ≤ 281474976710656) : appV h id sz bytes n new a = some (.sl id 0 (es.length + n) sz, (killA h a).push id (es.flatMap f ++ new)) := by
 rcases s.st with ⟨rfl, rfl⟩ | ⟨t, rfl, h2, h3⟩
 · simp only [List.length_nil, Nat.zero_add] at hb ⊢
   rw [appV_nil _ _ hn (Nat.le_trans (Nat.mul_le_mul_right bytes (by omega)) hb)]
   rfl
 · rw [UQ, h2]
   simp only [Option.bind_some]
   rw [if_pos ⟨trivial, trivial, ho, hb⟩, List.drop_zero, ← UJ hf, List.take_length]
   rfl
theorem OutR.slo {h : Hp} {a : AV} {es : List Edg} (o : OutR h a es) : SlO edC 5 h a es := ⟨o⟩
theorem rep1 (n : Nat) (a : AV) : (List.replicate n [a]).flatten = List.replicate n a := by
 induction n with
 | zero => rfl
 | succ n ih => rw [List.replicate_succ, List.flatten_cons, ih]; rfl
def intC (n : Int) : List AV := [i64 n]
theorem ints_imms (l : List Int) : immss (l.map intC) = true := qV fun i x hx => by simp at hx; obtain ⟨a, _, rfl⟩ := hx; rfl
theorem int_at {l : List Int} {k : Nat} (hk : k < l.length) (kd : IntKind) : YE none 1 (.row (l.map intC)) (.lit (.int kd (k : Int))) = some (.ip [i64 (l.getD k 0)]) := by
 rw [UU intC 1 (fun _ => rfl) l kd hk]
 simp [intC, gD, hk]
def iC (n : Int) : AV := i64 n
theorem rep_map (n : Nat) (v : Int) : List.replicate n (i64 v) = (List.replicate n v).map iC := by simp [iC]
theorem set_at {α : Type} (f : α → AV) (H : List α) {k : Nat} (hk : k < H.length) (v : α) : (H.map f).take k ++ [f v] ++ (H.map f).drop (k + 1) = (H.set k v).map f := by
 rw [← List.map_take, ← List.map_drop, List.set_eq_take_append_cons_drop, if_pos hk]
 simp
theorem set_cell (c : List AV) {k : Nat} (hk : k < c.length) (v : AV) : c.take k ++ [v] ++ c.drop (k + 1) = c.set k v := by
 rw [List.set_eq_take_append_cons_drop, if_pos hk]
 simp
structure RowsO {α : Type} (f : α → List AV) (sz : Nat) (h : Hp) (E : Nat) (c : List AV) (fs : Nat → List α) : Prop where
 get : ∀ (i : Nat) (a : AV), c[i]? = some a → SlO f sz h a (fs i) ∧ ∀ x, idOf a = some x → E < x.1
 sep : ∀ (i j : Nat) (a b : AV) (x : Id), c[i]? = some a → c[j]? = some b → i ≠ j → idOf a = some x → idOf b ≠ some x
theorem RowsO.keep {α : Type} {f : α → List AV} {sz : Nat} {h g : Hp} {E : Nat} {c : List AV} {fs : Nat → List α} (r : RowsO f sz h E c fs) (hk : ∀ x, E < x.1 → x.1 ≤ h.ep → g.hp x = h.hp x) (he : h.ep ≤ g.ep) : RowsO f sz g E c fs :=
 ⟨fun i a hi => ⟨(r.get i a hi).1.keep (fun x hx => hk x ((r.get i a hi).2 x hx) ((r.get i a hi).1.id_le hx)) he, (r.get i a hi).2⟩, r.sep⟩
theorem RowsO.ext {α : Type} {f : α → List AV} {sz : Nat} {h g : Hp} {E : Nat} {c : List AV} {fs : Nat → List α} (r : RowsO f sz h E c fs) (he : Ext h g) : RowsO f sz g E c fs := r.keep (fun x _ hx => he.2 x hx) he.1
theorem RowsO.app {α : Type} {f : α → List AV} {sz : Nat} {h g : Hp} {E : Nat} {c : List AV} {fs : Nat → List α} (r : RowsO f sz h E c fs) {k : Nat} {a : AV} (hk : c[k]? = some a) {id : Id} (hid : h.ep < id.1) (hE : E ≤ h.ep) (e : α)
 (hg : g.hp id = some ⟨true, (fs k).flatMap f ++ f e⟩) (hi : id.1 ≤ g.ep) (he : h.ep ≤ g.ep) (ho : ∀ x, E < x.1 → x.1 ≤ h.ep → idOf a ≠ some x → g.hp x = h.hp x) :
 RowsO f sz g E (c.set k (.sl id 0 ((fs k).length + 1) sz)) (fun i => if i = k then fs k ++ [e] else fs i) := by
 have hkl : k < c.length := (List.getElem?_eq_some_iff.1 hk).1
 have new : ∀ (i : Nat) (b : AV), (c.set k (.sl id 0 ((fs k).length + 1) sz))[i]? = some b → (i = k ∧ b = .sl id 0 ((fs k).length + 1) sz) ∨ (i ≠ k ∧ c[i]? = some b) := by
  intro i b hb
  rw [List.getElem?_set] at hb
  by_cases e1 : k = i
  · subst e1
    rw [if_pos rfl, if_pos hkl] at hb
    cases hb
    exact .inl ⟨rfl, rfl⟩
  · rw [if_neg e1] at hb
    exact .inr ⟨Ne.symm e1, hb⟩
 refine ⟨fun i b hb => ?_, fun i j b d x hb hd hij hx => ?_⟩
 · rcases new i b hb with ⟨rfl, rfl⟩ | ⟨h1, h2⟩
   · refine ⟨⟨.inr ⟨id, by simp, ?_, hi⟩⟩, fun x hx => by simp [idOf] at hx; subst hx; omega⟩
     rw [hg]
     simp
   · obtain ⟨g1, g2⟩ := r.get i b h2
     refine ⟨?_, g2⟩
     rw [if_neg h1]
     exact g1.keep (fun x hx => ho x (g2 x hx) (g1.id_le hx) (r.sep i k b a x h2 hk h1 hx)) he
 · rcases new i b hb with ⟨rfl, rfl⟩ | ⟨h1, h2⟩ <;> rcases new j d hd with ⟨rfl, rfl⟩ | ⟨h3, h4⟩
   · exact absurd rfl hij
   · simp [idOf] at hx
     subst hx
     intro h
     have := (r.get j d h4).1.id_le h
     omega
   · intro h
     simp [idOf] at h
     subst h
     have := (r.get i b h2).1.id_le hx
     omega
   · exact r.sep i j b d x h2 h4 hij hx
theorem sepV_old {a : AV} {i : Id} {o : Nat} {E : Nat} (ha : ∀ x, idOf a = some x → x.1 ≤ E) (hi : E < i.1) : sepV (.ptr i o) a = True := by
 simp only [sepV, eq_iff_iff, iff_true]
 split
 · rename_i x y h1 h2
   intro e
   have := ha y h2
   simp [idOf] at h1
   rw [h1, e] at hi
   omega
 · trivial
theorem i64w {x y : Int} (h : -9223372036854775808 ≤ x ∧ x ≤ 9223372036854775807 ∧ x = y) : (.lit (.int .i64 (IntKind.wrap .i64 x)) : AV) = i64 y := by rw [qS h.1 h.2.1, h.2.2]
inductive Es (h : Hp) : Hp → Prop
 | a {g : Hp} (e : Ext h g) : Es h g.tick
 | b {g : Hp} {x y : Nat} {c : List AV} (e : Ext h g) (k : h.ep < x) : Es h (g.push (x, y) c)
 | c {g : Hp} {x y : Nat} {c : List AV} (e : Ext h g) (k : h.ep < x) : Es h (g.put (x, y) c)
 | d {g : Hp} {x y : Nat} (e : Ext h g) (k : h.ep < x) : Es h (g.kill (x, y))
 | f {g : Hp} {a : AV} (e : Ext h g) (k : ∀ x, idOf a = some x → h.ep < x.1) : Es h (Hx.killA g a)
 | s {g : Hp} {id : Id} {b : MB} (e : Ext h g) : Es h (g.setm id b)
theorem Eg {h g : Hp} (e : Es h g) : Ext h g := by
 cases e with
 | a e => exact Ext.tick e
 | b e k => exact Ext.push e k _
 | c e k => exact Ext.put e k _
 | d e k => exact Ext.kill e k
 | f e k => exact Ext.killA e k
 | s e => exact e
theorem yP {x y : Int} (h : x = y) : (.lit (.int .i64 x) : AV) = i64 y := by rw [h]
theorem yY {P : Program} {l : List yU} {s : List (Nat × Nat)} {b c : ACode} {Q : AEx → St → Prop} {env : Nat → AV} {h : Hp} (k : qY h → awp P (.seq (.seq (.ops l s) b) c) Q ⟨env, h⟩) : awp P (.seq (.seq (.ops l s) b) c) Q ⟨env, h⟩ := fun hf => k hf hf
theorem yX {P : Program} {l : List yU} {s : List (Nat × Nat)} {b c d : ACode} {Q : AEx → St → Prop} {env : Nat → AV} {h : Hp} (k : qY h → awp P (.seq (.seq (.seq (.ops l s) b) c) d) Q ⟨env, h⟩) : awp P (.seq (.seq (.seq (.ops l s) b) c) d) Q ⟨env, h⟩ := fun hf => k hf hf
theorem ed_0 (e : Edg) : (edC e)[0]? = some (i64 e.f) := rfl
theorem ed_1 (e : Edg) : (edC e)[1]? = some (i64 e.t) := rfl
theorem ed_2 (e : Edg) : (edC e)[2]? = some (i64 e.l) := rfl
theorem ed_3 (e : Edg) : (edC e)[3]? = some (i64 e.d) := rfl
theorem ed_drop (e : Edg) : (edC e).drop 5 = [] := rfl
attribute [push_cast] qD wG lenV_nil yZ op_0 one_sl ed_0 ed_1 ed_2 ed_3 edC_take wJ edC_one ed_drop killA_ep
end Go.Proofs.Hx
set_option linter.unusedVariables false
set_option linter.unusedSimpArgs false
namespace Go.Proofs.Hx
open Go Go.Proofs
attribute [local irreducible] yR awp opK goV goM qB yW qE yT HV HVF HC
def refA (s : Shp) : List AV := [.lit (.string s.nm), i64 s.cl, bl s.d, bl s.a, bl s.b, bl s.n, bl s.im]
theorem refA_len (s : Shp) : (refA s).length = 7 := rfl
theorem refA_one (s : Shp) : (refA s).all one = true := rfl
theorem refA_1 (s : Shp) : (refA s)[1]? = some (i64 s.cl) := rfl
theorem refA_2 (s : Shp) : (refA s)[2]? = some (bl s.d) := rfl
theorem refA_3 (s : Shp) : (refA s)[3]? = some (bl s.a) := rfl
theorem refA_4 (s : Shp) : (refA s)[4]? = some (bl s.b) := rfl
theorem refA_5 (s : Shp) : (refA s)[5]? = some (bl s.n) := rfl
theorem refA_6 (s : Shp) : (refA s)[6]? = some (bl s.im) := rfl
theorem refA_drop (s : Shp) : (refA s).drop 7 = [] := rfl
attribute [push_cast] refA_len refA_one refA_1 refA_2 refA_3 refA_4 refA_5 refA_6 refA_drop
section
variable {κ β : Type} [DecidableEq κ]
def wP : List (κ × β) → κ → Option β
 | [], _ => none
 | p :: r, k => if p.1 = k then some p.2 else wP r k
def putL : List (κ × β) → κ → β → List (κ × β)
 | [], k, v => [(k, v)]
 | p :: r, k, v => if p.1 = k then (k, v) :: r else p :: putL r k v
theorem lookL_put (k k' : κ) (v : β) : ∀ l : List (κ × β), wP (putL l k v) k' = if k' = k then some v else wP l k'
 | [] => by
   by_cases e : k' = k
   · subst e; simp [putL, wP]
   · rw [if_neg e]; simp only [putL, wP]; rw [if_neg fun h => e h.symm]
 | p :: r => by
   by_cases h : p.1 = k
   · simp only [putL, if_pos h, wP]
     by_cases e : k' = k
     · subst e; simp
     · rw [if_neg fun h => e h.symm, if_neg e, if_neg fun h2 => e (h2.symm.trans h)]
   · simp only [putL, if_neg h, wP, lookL_put k k' v r]
     by_cases e2 : p.1 = k'
     · rw [if_pos e2, if_pos e2, if_neg fun e => h (e2.trans e)]
     · rw [if_neg e2, if_neg e2]
def idxL : List (κ × β) → κ → Option Nat
 | [], _ => none
 | p :: r, k => if p.1 = k then some 0 else (idxL r k).map (· + 1)
variable {g : Bool} {ls : List (Nat × Nat)} {sz : Nat} {kf : κ → AV} {vf : β → AV} {kc : κ → List AV}
def entL (kf : κ → AV) (vf : β → AV) (l : List (κ × β)) : List (AV × AV) := l.map fun p => (kf p.1, vf p.2)
theorem find_L (h1 : ∀ k, keyC g sz (kf k) = some (kc k)) (h2 : ∀ k k', YQ (kc k) (kc k') ls = some (decide (k = k'))) (k : κ) : ∀ l : List (κ × β), WU ls sz (keyC g sz) (kc k) (entL kf vf l) = some (idxL l k)
 | [] => rfl
 | p :: r => by
   have ih := find_L h1 h2 k r
   simp only [entL, List.map_cons, WU, h1, Option.bind_some, h2, idxL]
   by_cases e : k = p.1
   · subst e; simp
   · rw [dF e]
     have e' : ¬ p.1 = k := fun h => e h.symm
     simp only [e', Bool.false_eq_true, if_false]
     rw [show List.map (fun p => (kf p.1, vf p.2)) r = entL kf vf r from rfl, ih]
     rfl
theorem look_L (h1 : ∀ k, keyC g sz (kf k) = some (kc k)) (h2 : ∀ k k', YQ (kc k) (kc k') ls = some (decide (k = k'))) (z : AV) (k : κ) (l : List (κ × β)) : lookE g ls sz z (entL kf vf l) (kf k) = some (match wP l k with | some v => vf v | none => z) := by
 unfold lookE
 rw [h1, Option.bind_some, find_L h1 h2, Option.bind_some]
 have key : ∀ l : List (κ × β), (match idxL l k with | none => some z | some i => ((entL kf vf l)[i]?).map fun e => e.2) = some (match wP l k with | some v => vf v | none => z) := by
  intro l
  induction l with
  | nil => rfl
  | cons p r ih =>
    simp only [idxL, wP]
    by_cases e : p.1 = k
    · simp [e, entL]
    · simp only [if_neg e]
      cases hi : idxL r k with
      | none => rw [hi] at ih; simpa using ih
      | some i => rw [hi] at ih; simpa [entL] using ih
 exact key l
theorem put_L (h1 : ∀ k, keyC g sz (kf k) = some (kc k)) (h2 : ∀ k k', YQ (kc k) (kc k') ls = some (decide (k = k'))) (k : κ) (v : β) (l : List (κ × β)) : putE g ls sz (entL kf vf l) (kf k) (vf v) = some (entL kf vf (putL l k v)) := by
 unfold putE
 rw [h1, Option.bind_some, find_L h1 h2, Option.bind_some]
 have key : ∀ l : List (κ × β), (match idxL l k with | none => some (entL kf vf l ++ [(kf k, vf v)]) | some i => some ((entL kf vf l).set i (kf k, vf v))) = some (entL kf vf (putL l k v)) := by
  intro l
  induction l with
  | nil => rfl
  | cons p r ih =>
    simp only [idxL, putL]
    by_cases e : p.1 = k
    · simp [e, entL]
    · simp only [if_neg e]
      cases hi : idxL r k with
      | none => rw [hi] at ih; simp only [Option.map_none, entL, List.map_cons, List.cons_append, oI, List.cons.injEq, true_and] at ih ⊢; exact ih
      | some i => rw [hi] at ih; simp only [Option.map_some, entL, List.map_cons, List.set_cons_succ, oI, List.cons.injEq, true_and] at ih ⊢; exact ih
 exact key l
end
def YM (p : Int × Int) : AV := .agg [i64 p.1, i64 p.2]
def oneV (n : Int) : AV := .agg [i64 n]
theorem spot_keyC (p : Int × Int) : keyC true 2 (YM p) = some [i64 p.1, i64 p.2] := rfl
theorem spot_eq (p q : Int × Int) : YQ [i64 p.1, i64 p.2] [i64 q.1, i64 q.2] [(0, 0), (1, 0)] = some (decide (p = q)) := by
 simp only [YQ, List.getElem?_cons_zero, List.getElem?_cons_succ, scEq, if_true, Option.bind_some, Option.map_some, oI, Bool.and_true]
 obtain ⟨a, b⟩ := p
 obtain ⟨c, d⟩ := q
 by_cases h1 : a = c <;> by_cases h2 : b = d <;> simp [h1, h2]
theorem WM (l : List ((Int × Int) × Int)) (c y : Int) : lookE true [(0, 0), (1, 0)] 2 (.agg [.lit (.int .i64 0)]) (entL YM oneV l) (.agg [.lit (.int .i64 c), .lit (.int .i64 y)]) = some (.agg [.lit (.int .i64 ((wP l (c, y)).getD 0))]) := by
 have := look_L (kf := YM) (vf := oneV) (kc := fun p => [i64 p.1, i64 p.2]) spot_keyC spot_eq (.agg [.lit (.int .i64 0)]) (c, y) l
 exact this.trans (by cases wP l (c, y) <;> rfl)
theorem spot_put (l : List ((Int × Int) × Int)) (c y v : Int) : putE true [(0, 0), (1, 0)] 2 (entL YM oneV l) (.agg [.lit (.int .i64 c), .lit (.int .i64 y)]) (.agg [.lit (.int .i64 v)]) = some (entL YM oneV (putL l (c, y) v)) :=
 put_L (kf := YM) (vf := oneV) (kc := fun p => [i64 p.1, i64 p.2]) spot_keyC spot_eq (c, y) v l
structure Iss where
 cy : Int
 at_ : Int
 o : Opn
 g0 : Int
 g1 : Bool
 g2 : Int
 g3 : Bool
def isC (x : Iss) : List AV := [i64 x.cy, i64 x.at_, .lit (.int .i8 x.o.k), u8 x.o.d, u8 x.o.a, u8 x.o.b, i64 x.o.im, i64 x.g0, bl x.g1, i64 x.g2, bl x.g3]
theorem isC_len (x : Iss) : (isC x).length = 11 := rfl
theorem isC_take (x : Iss) : (isC x).take 11 = isC x := rfl
theorem isC_one (x : Iss) : (isC x).all one = true := rfl
theorem isC_imms (x : Iss) : imms (isC x) = true := rfl
theorem isC_drop0 (x : Iss) : (isC x).drop 11 = [] := rfl
theorem isC_0 (x : Iss) : (isC x)[0]? = some (i64 x.cy) := rfl
theorem isC_2 (x : Iss) : (isC x)[2]? = some (.lit (.int .i8 x.o.k)) := rfl
theorem isC_d2 (x : Iss) : ((isC x).drop 2)[0]? = some (.lit (.int .i8 x.o.k)) := rfl
theorem isC_op (x : Iss) : ((isC x).drop 2).take 5 = opC x.o := rfl
attribute [push_cast] isC_len isC_take isC_one isC_imms isC_drop0 isC_0 isC_2 isC_d2 isC_op
def Iss.fair (x : Iss) : Prop := 0 ≤ x.cy ∧ x.cy ≤ 1048576
instance (x : Iss) : Decidable x.fair := by unfold Iss.fair; infer_instance
def fairP (l : List Iss) (t : Tab) : Prop := YK t ∧ ∀ x ∈ l, x.fair
instance (l : List Iss) (t : Tab) : Decidable (fairP l t) := by unfold fairP; infer_instance
end Go.Proofs.Hx
set_option linter.unusedVariables false
set_option linter.unusedSimpArgs false
namespace Go.Proofs.Hx
open Go Go.Proofs
theorem call_bfi {P : Program} {d : Option Nat} {K : St → Prop} {env : Nat → AV} {h : Hp} {g : Nat} {fs args : List AV} {r : AV} (hv : HV P g (fs ++ args) r) (k : K ⟨putA env d r, h.tick⟩) : qB P d K env h false (.bf g fs) args := by
 refine call_bf ?_
 exact HC.of_HV ⟨_, wA hv.2.1, .inl ⟨hv, .inr hv.2.1⟩⟩ fun _ => k
theorem Ext.setm {h g : Hp} (e : Ext h g) (id : Id) (b : MB) : Ext h (g.setm id b) := e
end Go.Proofs.Hx
set_option linter.unusedVariables false
set_option linter.unusedSimpArgs false
namespace Go.Proofs.Hx
open Go Go.Proofs
attribute [local irreducible] yR awp opK goV goM qB yW qE yT HV HVF HC
theorem f113 (y : Int) : HV Try.prog 113 [.agg [], i64 y] (i64 y) := by
 refine qK qM cf113 (by simp) rfl ?_ rfl
 unfold ac113 re113
 refine yN fun env hE => ?_; have ee := cj3 hE 0 1 4; simp -implicitDefEqProofs only [push_cast] at ee; clear hE
 repeat' (first | ((try clear hf); with_reducible refine yD fun env K hE hK hf => ?_; have n := cj3 hE 0 1 4; simp -implicitDefEqProofs only [push_cast, reduceIte, Nat.reduceEqDiff, ee] at n; clear hE ee; have ee := n; clear n) | (with_reducible first | (refine hK _ _ ?_; clear hK K) | (refine Zi ?_; constructor) | refine yB (by decide) ?_ | refine yH (by assumption) ?_ | refine yJ (by assumption) ?_) | (refine yC rfl ?_) | (simp -implicitDefEqProofs only [push_cast, sevalprocAttr, eq_self, ee]) | (simp (disch := omega) only [yF, yK, yG, yL]) | ((first | refine yE rfl (fun bb => ?_) (fun bb => ?_) | with_reducible refine yI (fun bb => ?_) (fun bb => ?_)) <;> (first | have bp := oT bb | have bp := oF bb | skip) <;> try simp only [bb]) | ((with_reducible refine And.intro ?_ ?_); omega) | (with_reducible refine yM ?_ ?_))
def turnF : AV := .bf 113 [.agg []]
def rsvC (t : Tab) (B : Id) : List AV := [i64 (t.u 0), i64 (t.u 1), i64 (t.u 2), i64 (t.u 3), i64 (t.l 0), i64 (t.l 1), i64 (t.l 2), i64 (t.l 3), i64 (t.b 0), i64 (t.b 1), i64 (t.b 2), i64 (t.b 3), i64 t.d, turnF, bl false, .map B]
theorem rsv_u (t : Tab) (B : Id) {c : Nat} (hc : c < 4) : (rsvC t B)[c]? = some (i64 (t.u c)) := by
 match c, hc with
 | 0, _ | 1, _ | 2, _ | 3, _ => rfl
theorem rsv_b (t : Tab) (B : Id) {c : Nat} (hc : c < 4) : (rsvC t B)[8 + c]? = some (i64 (t.b c)) := by
 match c, hc with
 | 0, _ | 1, _ | 2, _ | 3, _ => rfl
theorem rsv_15 (t : Tab) (B : Id) : (rsvC t B)[15]? = some (.map B) := rfl
structure RsvH (h : Hp) (R B : Id) (t : Tab) (m : List ((Int × Int) × Int)) : Prop where
 hp : h.hp R = some ⟨true, rsvC t B⟩
 mp : h.mp B = some (.ents (entL YM oneV m))
 le : R.1 ≤ h.ep
 be : B.1 ≤ h.ep
theorem RsvH.keep {h g : Hp} {R B : Id} {t : Tab} {m : List ((Int × Int) × Int)} (r : RsvH h R B t m) (h1 : g.hp R = h.hp R) (h2 : g.mp B = h.mp B) (h3 : h.ep ≤ g.ep) : RsvH g R B t m :=
 ⟨h1.trans r.hp, h2.trans r.mp, Nat.le_trans r.le h3, Nat.le_trans r.be h3⟩
theorem RsvH.ext {h g : Hp} {R B : Id} {t : Tab} {m : List ((Int × Int) × Int)} (r : RsvH h R B t m) (he : Ext h g) (h2 : g.mp B = h.mp B) : RsvH g R B t m := r.keep (he.2 R r.le) h2 he.1
theorem f86 {h0 : Hp} (t : Tab) (ht : YK t) : HC Try.prog 86 [.agg (tabC t)] h0 fun r h' => ∃ R B, r = .tup [.ptr R 0, i64 0] ∧ RsvH h' R B t [] ∧ h0.ep < R.1 ∧ h0.ep < B.1 ∧ Ext h0 h' := by
 refine qJ qM cf86 (by simp) fun hF => ?_
 unfold ac86 re86
 refine yN fun env hE => ?_; have ee := cj5 hE 0 1 2 3 4; simp -implicitDefEqProofs only [push_cast] at ee; clear hE
 have hE := tabE_ok ht
 have hd : decide (¬ tabE t = 0) = false := dF (by simpa using hE)
 have hme : ∀ e s, h0.ep < e → h0.mp (e, s) = none := fun e s he => (hF e s he).2
 repeat' (first | ((try clear hf); with_reducible refine yD fun env K hE hK hf => ?_; have n := cj5 hE 0 1 2 3 4; simp -implicitDefEqProofs only [push_cast, reduceIte, Nat.reduceEqDiff, ee] at n; clear hE ee; have ee := n; clear n) | (with_reducible first | (refine hK _ _ ?_; clear hK K) | (refine Zi ?_; constructor) | refine yB (by decide) ?_ | refine yH (by assumption) ?_ | refine yJ (by assumption) ?_) | (refine yC rfl ?_) | (simp -implicitDefEqProofs only [push_cast, sevalprocAttr, eq_self, ee, hF.at, hE, hd, hme]) | (simp (disch := omega) only [yF, yK, yG, yL, hF.at, hme]) | ((first | refine yE rfl (fun bb => ?_) (fun bb => ?_) | with_reducible refine yI (fun bb => ?_) (fun bb => ?_)) <;> (first | have bp := oT bb | have bp := oF bb | skip) <;> try simp only [bb]) | ((with_reducible refine And.intro ?_ ?_); omega) | (refine yO (f56 t) ?_) | (with_reducible refine yM ?_ ?_))
 refine Eq.mpr (goV_congr (r' := some (.agg (rsvC t (h0.ep + 1 + 1 + 1 + 1 + 1 + 1, 13)))) (by rfl)) ?_
 have hl16 : (rsvC t (h0.ep + 1 + 1 + 1 + 1 + 1 + 1, 13)).length = 16 := rfl
 repeat' (first | ((try clear hf); with_reducible refine yD fun env K hE hK hf => ?_; have n := cj5 hE 0 1 2 3 4; simp -implicitDefEqProofs only [push_cast, reduceIte, Nat.reduceEqDiff, ee] at n; clear hE ee; have ee := n; clear n) | (with_reducible first | (refine hK _ _ ?_; clear hK K) | (refine Zi ?_; constructor) | refine yB (by decide) ?_ | refine yH (by assumption) ?_ | refine yJ (by assumption) ?_) | (refine yC rfl ?_) | (simp -implicitDefEqProofs only [push_cast, sevalprocAttr, eq_self, ee, hF.at, hme]) | (simp (disch := omega) only [yF, yK, yG, yL, hF.at, hme]) | ((first | refine yE rfl (fun bb => ?_) (fun bb => ?_) | with_reducible refine yI (fun bb => ?_) (fun bb => ?_)) <;> (first | have bp := oT bb | have bp := oF bb | skip) <;> try simp only [bb]) | ((with_reducible refine And.intro ?_ ?_); omega) | (with_reducible refine yM ?_ ?_))
 refine ⟨(h0.ep + 1 + 1 + 1 + 1 + 1 + 1, 15), (h0.ep + 1 + 1 + 1 + 1 + 1 + 1, 13), rfl, ⟨by simp -implicitDefEqProofs only [push_cast, sevalprocAttr, eq_self], by simp -implicitDefEqProofs only [push_cast, sevalprocAttr, eq_self]; rfl, ?_, ?_⟩, ?_, ?_, (by repeat' (first | exact Ext.refl _ | assumption | omega | (with_reducible (refine Eg ?_; constructor))))⟩
 · simp -implicitDefEqProofs only [push_cast, sevalprocAttr, eq_self]
 · simp -implicitDefEqProofs only [push_cast, sevalprocAttr, eq_self]
 · simp only; omega
 · simp only; omega
def YG (c y : Int) : Nat → List ((Int × Int) × Int)
 | 0 => []
 | k + 1 => YG c y k ++ [((c, y + k), 1)]
theorem UB (c y : Int) : ∀ k, (YG c y k).length = k
 | 0 => rfl
 | k + 1 => by simp [YG, UB c y k]
theorem moreL_none (c y : Int) : ∀ (k : Nat) (z : Int), y + k ≤ z → wP (YG c y k) (c, z) = none
 | 0, _, _ => rfl
 | k + 1, z, h => by
   have app : ∀ l : List ((Int × Int) × Int), wP (l ++ [((c, y + (k : Int)), 1)]) (c, z) = wP l (c, z) := by
    intro l
    induction l with
    | nil => simp only [List.nil_append, wP]; rw [if_neg (by simp; omega)]
    | cons p r ih => simp only [List.cons_append, wP, ih]
   rw [YG, app]
   exact moreL_none c y k z (by omega)
theorem moreL_put (c y : Int) (k : Nat) : putL (YG c y k) (c, y + k) 1 = YG c y (k + 1) := by
 have key : ∀ l : List ((Int × Int) × Int), wP l (c, y + (k : Int)) = none → putL l (c, y + k) 1 = l ++ [((c, y + (k : Int)), 1)] := by
  intro l
  induction l with
  | nil => intro _; rfl
  | cons p r ih =>
    intro h
    simp only [wP] at h
    split at h
    · cases h
    · rename_i hn
      simp only [putL, if_neg hn, List.cons_append, ih h]
 rw [key _ (moreL_none c y k _ (Int.le_refl _))]
 rfl
theorem moreL_at (c y : Int) : ∀ (k : Nat) {j : Nat}, j < k → (YG c y k)[j]? = some ((c, y + j), 1)
 | k + 1, j, h => by
   rw [YG]
   by_cases e : j < k
   · rw [List.getElem?_append_left (by rw [UB]; exact e)]
     exact moreL_at c y k e
   · rw [List.getElem?_append_right (by rw [UB]; omega), UB, show j - k = 0 by omega, show j = k by omega]
     rfl
theorem f88 {h0 : Hp} {R B : Id} {t : Tab} {m : List ((Int × Int) × Int)} {c : Nat} {y : Int} (hr : RsvH h0 R B t m) (ht : YK t) (hc : c < 4) (hy : 0 ≤ y ∧ y ≤ 1000000) :
 HC Try.prog 88 [.ptr R 0, i64 c, i64 y] h0 fun r h' => ∃ M, r = .map M ∧ h'.mp M = some (.ents (entL YM oneV (YG c y (t.b c).toNat))) ∧ RsvH h' R B t m ∧ h0.ep < M.1 ∧ M.1 ≤ h'.ep ∧ Ext h0 h' := by
 refine qJ qM cf88 (by simp) fun hF => ?_
 unfold ac88 re88
 refine yN fun env hE => ?_; have ee := cj11 hE 0 1 2 6 7 8 9 10 24 25 26; simp -implicitDefEqProofs only [push_cast] at ee; clear hE
 have hme : ∀ e s, h0.ep < e → h0.mp (e, s) = none := fun e s he => (hF e s he).2
 have hRb := hr.hp
 have h13 : (rsvC t B)[13]? = some (.bf 113 [.agg []]) := rfl
 have hb8 := rsv_b t B hc
 repeat' (first | ((try clear hf); with_reducible refine yD fun env K hE hK hf => ?_; have n := cj11 hE 0 1 2 6 7 8 9 10 24 25 26; simp -implicitDefEqProofs only [push_cast, reduceIte, Nat.reduceEqDiff, ee] at n; clear hE ee; have ee := n; clear n) | (with_reducible first | (refine hK _ _ ?_; clear hK K) | (refine Zi ?_; constructor) | refine yB (by decide) ?_ | refine yH (by assumption) ?_ | refine yJ (by assumption) ?_) | (refine yC rfl ?_) | (simp -implicitDefEqProofs only [push_cast, sevalprocAttr, eq_self, ee, hF.at, hme, hRb, h13, hb8]) | (simp (disch := omega) only [yF, yK, yG, yL, hF.at, hme, hRb, h13]) | ((first | refine yE rfl (fun bb => ?_) (fun bb => ?_) | with_reducible refine yI (fun bb => ?_) (fun bb => ?_)) <;> (first | have bp := oT bb | have bp := oF bb | skip) <;> try simp only [bb]) | ((with_reducible refine And.intro ?_ ?_); omega) | (refine call_bfi (f113 y) ?_) | (with_reducible refine yM ?_ ?_))
 generalize hE : h0.ep + 1 + 1 + 1 = E at *
 have hbu := ht.1 c hc
 unfold okC at hbu
 obtain ⟨b, hb⟩ : ∃ b : Nat, t.b c = b := ⟨(t.b c).toNat, by omega⟩
 have hBn : B ≠ (E, 11) := fun e => by have := hr.be; rw [e] at this; simp only at this; omega
 refine yN fun env hE => ?_; have n := cj11 hE 0 1 2 6 7 8 9 10 24 25 26; simp -implicitDefEqProofs only [push_cast, reduceIte, Nat.reduceEqDiff, ee] at n; clear hE ee; have ee := n; clear n; have E88_0 := ee; obtain ⟨e0, e1, e2, e6, e7, e8, e9, e10, e24, e25, e26⟩ := ee
 refine qC (fun nn σ => ∃ (k : Nat), nn = b - k ∧ kp [0, 1, 2, 6, 7, 8, 24] σ.env env ∧ σ.env 25 = i64 k ∧ (k ≤ b ∧ σ.h.mp (E, 11) = some (.ents (entL YM oneV (YG c y k))) ∧ RsvH σ.h R B t m ∧ Ext h0 σ.h ∧ E ≤ σ.h.ep)) _ ⟨0, rfl, qP _ _, by refine e25.trans ?_; first | rfl | exact yP (by omega) | exact i64w (by omega), ?_⟩ ?_
 · refine ⟨by omega, by simp -implicitDefEqProofs only [push_cast, sevalprocAttr, eq_self]; rfl, hr.ext (by repeat' (first | exact Ext.refl _ | assumption | omega | (with_reducible (refine Eg ?_; constructor)))) ?_, (by repeat' (first | exact Ext.refl _ | assumption | omega | (with_reducible (refine Eg ?_; constructor)))), (by first | omega | (simp -implicitDefEqProofs only [push_cast, sevalprocAttr, eq_self]; first | done | omega))⟩
   simp only [tick_mp]
   exact YU _ _ hBn
 clear hRb hF hme
 clear e0 e1 e2 e6 e7 e8 e9 e10 e24 e25 e26; rintro nn ⟨env, h⟩ ⟨k, rfl, q, e25, hI⟩; simp only at e25 hI; simp only [kp, and_true, E88_0] at q; have ee : _ ∧ _ := ⟨e25, q⟩; clear e25 q
 obtain ⟨hk, hmp, hr, hx, hep⟩ := hI
 unfold l88_0
 (first | refine yS fun hF => ?_ | refine yY fun hF => ?_ | refine yX fun hF => ?_)
 by_cases hlt : k < b
 · have hd : decide ((k : Int) < t.b c) = true := dT (by omega)
   have hRb := hr.hp
   have hl0 : (wP (YG c y k) ((c : Int), y + k)).getD 0 = 0 := by rw [moreL_none _ _ _ _ (Int.le_refl _)]; rfl
   have hput := moreL_put (c : Int) y k
   have hw : IntKind.i64.wrap (y + k) = y + k := qS (by omega) (by omega)
   repeat' (first | ((try clear hf); with_reducible refine yD fun env K hE hK hf => ?_; have n := cj11 hE 0 1 2 6 7 8 9 10 24 25 26; simp -implicitDefEqProofs only [push_cast, reduceIte, Nat.reduceEqDiff, ee] at n; clear hE ee; have ee := n; clear n) | (with_reducible first | (refine hK _ _ ?_; clear hK K) | (refine Zi ?_; constructor) | refine yB (by decide) ?_ | refine yH (by assumption) ?_ | refine yJ (by assumption) ?_) | (refine yC rfl ?_) | (simp -implicitDefEqProofs only [push_cast, sevalprocAttr, eq_self, ee, hd, hF.at, hRb, h13, hw, hmp, WM, hl0, spot_put, hput]) | (simp (disch := omega) only [yF, yK, yG, yL, hF.at, hRb, h13, hmp, WM, hl0, spot_put, hput]) | ((first | refine yE rfl (fun bb => ?_) (fun bb => ?_) | with_reducible refine yI (fun bb => ?_) (fun bb => ?_)) <;> (first | have bp := oT bb | have bp := oF bb | skip) <;> try simp only [bb]) | ((with_reducible refine And.intro ?_ ?_); omega) | (refine call_bfi (f113 (y + k)) ?_) | (with_reducible refine yM ?_ ?_))
   refine ⟨_, ?_, k + 1, rfl, by simp -implicitDefEqProofs only [kp, push_cast, reduceIte, Nat.reduceEqDiff, ee, E88_0, and_self], by first | rfl | exact yP (by omega) | exact i64w (by omega), ?_⟩
   · omega
   · refine ⟨by omega, rfl, hr.ext (by repeat' (first | exact Ext.refl _ | assumption | omega | (with_reducible (refine Eg ?_; constructor)))) ?_, (by repeat' (first | exact Ext.refl _ | assumption | omega | (with_reducible (refine Eg ?_; constructor)))), by omega⟩
     simp only [tick_mp]
     exact YU _ _ hBn
 · have hd : decide ((k : Int) < t.b c) = false := dF (by omega)
   have hkb : k = (t.b c).toNat := by omega
   rw [hkb] at hmp
   repeat' (first | ((try clear hf); with_reducible refine yD fun env K hE hK hf => ?_; have n := cj11 hE 0 1 2 6 7 8 9 10 24 25 26; simp -implicitDefEqProofs only [push_cast, reduceIte, Nat.reduceEqDiff, ee] at n; clear hE ee; have ee := n; clear n) | (with_reducible first | (refine hK _ _ ?_; clear hK K) | (refine Zi ?_; constructor) | refine yB (by decide) ?_ | refine yH (by assumption) ?_ | refine yJ (by assumption) ?_) | (refine yC rfl ?_) | (simp -implicitDefEqProofs only [push_cast, sevalprocAttr, eq_self, ee, hd]) | (simp (disch := omega) only [yF, yK, yG, yL]) | ((first | refine yE rfl (fun bb => ?_) (fun bb => ?_) | with_reducible refine yI (fun bb => ?_) (fun bb => ?_)) <;> (first | have bp := oT bb | have bp := oF bb | skip) <;> try simp only [bb]) | ((with_reducible refine And.intro ?_ ?_); omega) | (with_reducible refine yM ?_ ?_))
   exact ⟨(E, 11), rfl, hmp, hr.ext (by repeat' (first | exact Ext.refl _ | assumption | omega | (with_reducible (refine Eg ?_; constructor)))) rfl, by simp only; omega, by simp only; omega, (by repeat' (first | exact Ext.refl _ | assumption | omega | (with_reducible (refine Eg ?_; constructor))))⟩
def cntM (m : List ((Int × Int) × Int)) (c y : Int) : Int := (wP m (c, y)).getD 0
def roomP (t : Tab) (m : List ((Int × Int) × Int)) (c : Nat) (y : Int) : Prop := 0 ≤ y ∧ y ≤ 65536 ∧ ∀ j : Nat, (j : Int) < t.b c → cntM m c (y + j) + 1 ≤ t.u c
open Classical in
noncomputable def roomB (t : Tab) (m : List ((Int × Int) × Int)) (c : Nat) (y : Int) : Bool := decide (roomP t m c y)
open Classical in
theorem roomB_t {t : Tab} {m : List ((Int × Int) × Int)} {c : Nat} {y : Int} (h : roomP t m c y) : roomB t m c y = true := by unfold roomB; exact dT h
open Classical in
theorem roomB_f {t : Tab} {m : List ((Int × Int) × Int)} {c : Nat} {y : Int} (h : ¬ roomP t m c y) : roomB t m c y = false := by unfold roomB; exact dF h
theorem nodup_len2 : ∀ (n : Nat) (l : List Nat), l.Nodup → (∀ x ∈ l, x < n) → l.length ≤ n
 | 0, [], _, _ => by simp
 | 0, x :: l, _, h => absurd (h x List.mem_cons_self) (by omega)
 | n + 1, l, hn, h => by
   have h1 : (l.filter (fun x => x != n)).length ≤ n := nodup_len2 n _ (hn.filter _) fun x hx => by
    have := List.mem_filter.1 hx
    have h2 := h x this.1
    have h3 : x ≠ n := by simpa using this.2
    omega
   have h2 : l.length ≤ (l.filter (fun x => x != n)).length + 1 := by
    clear h h1
    induction l with
    | nil => simp
    | cons a l ih =>
      have hn' := List.nodup_cons.1 hn
      simp only [List.filter_cons]
      by_cases e : a = n
      · subst e
        have : l.filter (fun x => x != a) = l := List.filter_eq_self.2 fun x hx => by
         have : x ≠ a := fun e => hn'.1 (e ▸ hx)
         simpa using this
        simp [this]
      · have := ih hn'.2
        simp [e]; omega
   omega
def iterOf : Option MB → Option (Id × Nat × Nat)
 | some (.iter m _ seen st) => (seen.getLast?).map fun p => (m, st, p)
 | _ => none
theorem iterOf_some (m : Id) (s st p : Nat) (seen : List Nat) : iterOf (some (.iter m s (seen ++ [p]) st)) = some (m, st, p) := by simp [iterOf]
def entryV (h : Hp) : AV → Option AV
 | .ptr i 0 => (iterOf (h.mp i)).bind fun q => (WK (h.mp q.1)).bind fun es => if q.2.1 = es.length then (es[q.2.2]?).map fun e => .tup [e.1, e.2] else none
 | _ => none
theorem entryV_ptr (h : Hp) (i : Id) : entryV h (.ptr i 0) = (iterOf (h.mp i)).bind fun q => (WK (h.mp q.1)).bind fun es => if q.2.1 = es.length then (es[q.2.2]?).map fun e => .tup [e.1, e.2] else none := rfl
theorem mop_entry (h : Hp) (x : AV) (id : Id) : mopV .entry [x] h id = (entryV h x).map fun v => (v, h) := by
 cases x with
 | ptr i o =>
   cases o with
   | zero =>
     simp only [mopV, entryV]
     cases hi : h.mp i with
     | none => rfl
     | some b =>
       cases b with
       | ents es => rfl
       | iter m since seen st =>
         simp only [iterOf]
         cases hs : seen.getLast? with
         | none =>
           cases hm : h.mp m with
           | none => simp
           | some b' => cases b' <;> simp
         | some p =>
           simp only [Option.map_some, Option.bind_some]
           cases hm : h.mp m with
           | none => simp [WK]
           | some b' =>
             cases b' with
             | iter => simp [WK]
             | ents es =>
               simp only [WK, Option.bind_some]
               by_cases e : st = es.length
               · simp only [e, if_true]
                 cases es[p]? <;> rfl
               · simp only [e, if_false]; rfl
   | succ o => rfl
 | _ => rfl
theorem opK_ent (P : Program) (d : Option Nat) (K : St → Prop) (env : Nat → AV) (h : Hp) (x : AOpd) : opK P d (.mop .entry [x]) K env h = goV d K env h (entryV h (evA env x)) := by
 simp only [opK, yT, qL, yQ, qI, qA, List.map_cons, List.map_nil, mop_entry, goV]
 cases entryV h (evA env x) <;> rfl
attribute [push_cast] opK_ent entryV_ptr iterOf_some
theorem f87 {h0 : Hp} {R B : Id} {t : Tab} {m : List ((Int × Int) × Int)} {c : Nat} {y : Int} (hr : RsvH h0 R B t m) (ht : YK t) (hc : c < 4) (hm : ∀ c y, -1000000 ≤ cntM m c y ∧ cntM m c y ≤ 1000000) :
 HC Try.prog 87 [.ptr R 0, i64 c, i64 y] h0 fun r h' => r = bl (roomB t m c y) ∧ RsvH h' R B t m ∧ Ext h0 h' := by
 refine qJ qM cf87 (by simp) fun hF => ?_
 unfold ac87 re87
 refine yN fun env hE => ?_; have ee := cj8 hE 0 1 2 6 7 8 38 40; simp -implicitDefEqProofs only [push_cast] at ee; clear hE
 have hRb := hr.hp
 have h14 : (rsvC t B)[14]? = some (bl false) := rfl
 have dc1 : decide ((c : Int) < 0) = false := dF (by omega)
 have dc2 : decide ((4 : Int) ≤ (c : Int)) = false := dF (by omega)
 by_cases hy0 : y < 0
 · have d1 : decide (y < 0) = true := dT hy0
   have hE : roomB t m c y = false := roomB_f fun h => by have := h.1; omega
   repeat' (first | ((try clear hf); with_reducible refine yD fun env K hE hK hf => ?_; have n := cj8 hE 0 1 2 6 7 8 38 40; simp -implicitDefEqProofs only [push_cast, reduceIte, Nat.reduceEqDiff, ee] at n; clear hE ee; have ee := n; clear n) | (with_reducible first | (refine hK _ _ ?_; clear hK K) | (refine Zi ?_; constructor) | refine yB (by decide) ?_ | refine yH (by assumption) ?_ | refine yJ (by assumption) ?_) | (refine yC rfl ?_) | (simp -implicitDefEqProofs only [push_cast, sevalprocAttr, eq_self, ee, dc1, dc2, hRb, h14, d1, hE]) | (simp (disch := omega) only [yF, yK, yG, yL, dc1, dc2, hRb]) | ((first | refine yE rfl (fun bb => ?_) (fun bb => ?_) | with_reducible refine yI (fun bb => ?_) (fun bb => ?_)) <;> (first | have bp := oT bb | have bp := oF bb | skip) <;> try simp only [bb]) | ((with_reducible refine And.intro ?_ ?_); omega) | (with_reducible refine yM ?_ ?_))
   exact ⟨hr.ext (by repeat' (first | exact Ext.refl _ | assumption | omega | (with_reducible (refine Eg ?_; constructor)))) rfl, (by repeat' (first | exact Ext.refl _ | assumption | omega | (with_reducible (refine Eg ?_; constructor))))⟩
 have d1 : decide (y < 0) = false := dF hy0
 by_cases hy1 : 65536 < y
 · have d2 : decide (65536 < y) = true := dT hy1
   have hE : roomB t m c y = false := roomB_f fun h => by have := h.2.1; omega
   repeat' (first | ((try clear hf); with_reducible refine yD fun env K hE hK hf => ?_; have n := cj8 hE 0 1 2 6 7 8 38 40; simp -implicitDefEqProofs only [push_cast, reduceIte, Nat.reduceEqDiff, ee] at n; clear hE ee; have ee := n; clear n) | (with_reducible first | (refine hK _ _ ?_; clear hK K) | (refine Zi ?_; constructor) | refine yB (by decide) ?_ | refine yH (by assumption) ?_ | refine yJ (by assumption) ?_) | (refine yC rfl ?_) | (simp -implicitDefEqProofs only [push_cast, sevalprocAttr, eq_self, ee, dc1, dc2, hRb, h14, d1, d2, hE]) | (simp (disch := omega) only [yF, yK, yG, yL, dc1, dc2, hRb]) | ((first | refine yE rfl (fun bb => ?_) (fun bb => ?_) | with_reducible refine yI (fun bb => ?_) (fun bb => ?_)) <;> (first | have bp := oT bb | have bp := oF bb | skip) <;> try simp only [bb]) | ((with_reducible refine And.intro ?_ ?_); omega) | (with_reducible refine yM ?_ ?_))
   exact ⟨hr.ext (by repeat' (first | exact Ext.refl _ | assumption | omega | (with_reducible (refine Eg ?_; constructor)))) rfl, (by repeat' (first | exact Ext.refl _ | assumption | omega | (with_reducible (refine Eg ?_; constructor))))⟩
 have d2 : decide (65536 < y) = false := dF hy1
 have hbu := ht.1 c hc
 unfold okC at hbu
 obtain ⟨b, hb⟩ : ∃ b : Nat, t.b c = b := ⟨(t.b c).toNat, by omega⟩
 repeat' (first | ((try clear hf); with_reducible refine yD fun env K hE hK hf => ?_; have n := cj8 hE 0 1 2 6 7 8 38 40; simp -implicitDefEqProofs only [push_cast, reduceIte, Nat.reduceEqDiff, ee] at n; clear hE ee; have ee := n; clear n) | (with_reducible first | (refine hK _ _ ?_; clear hK K) | (refine Zi ?_; constructor) | refine yB (by decide) ?_ | refine yH (by assumption) ?_ | refine yJ (by assumption) ?_) | (refine yC rfl ?_) | (simp -implicitDefEqProofs only [push_cast, sevalprocAttr, eq_self, ee, dc1, dc2, hRb, h14, d1, d2]) | (simp (disch := omega) only [yF, yK, yG, yL, dc1, dc2, hRb]) | ((first | refine yE rfl (fun bb => ?_) (fun bb => ?_) | with_reducible refine yI (fun bb => ?_) (fun bb => ?_)) <;> (first | have bp := oT bb | have bp := oF bb | skip) <;> try simp only [bb]) | ((with_reducible refine And.intro ?_ ?_); omega) | (refine qH (HC.mono (f88 (R := R) (B := B) (t := t) (m := m) (c := c) (y := y) (by exact hr.ext (by repeat' (first | exact Ext.refl _ | assumption | omega | (with_reducible (refine Eg ?_; constructor)))) rfl) ht hc ⟨by omega, by omega⟩) ?_); rintro r g ⟨M, rfl, hmM, hr2, hMl, hMe, hgx⟩ hF') | (with_reducible refine yM ?_ ?_))
 have hb' : (t.b c).toNat = b := by omega
 rw [hb'] at hmM
 have hme : ∀ e s, g.ep < e → g.mp (e, s) = none := fun e s he => (hF' e s he).2
 have hlen : (entL YM oneV (YG c y b)).length = b := by simp [entL, UB]
 repeat' (first | ((try clear hf); with_reducible refine yD fun env K hE hK hf => ?_; have n := cj8 hE 0 1 2 6 7 8 38 40; simp -implicitDefEqProofs only [push_cast, reduceIte, Nat.reduceEqDiff, ee] at n; clear hE ee; have ee := n; clear n) | (with_reducible first | (refine hK _ _ ?_; clear hK K) | (refine Zi ?_; constructor) | refine yB (by decide) ?_ | refine yH (by assumption) ?_ | refine yJ (by assumption) ?_) | (refine yC rfl ?_) | (simp -implicitDefEqProofs only [push_cast, sevalprocAttr, eq_self, ee, hF'.at, hmM, hme, hlen]) | (simp (disch := omega) only [yF, yK, yG, yL, hF'.at, hmM, hme]) | ((first | refine yE rfl (fun bb => ?_) (fun bb => ?_) | with_reducible refine yI (fun bb => ?_) (fun bb => ?_)) <;> (first | have bp := oT bb | have bp := oF bb | skip) <;> try simp only [bb]) | ((with_reducible refine And.intro ?_ ?_); omega) | (with_reducible refine yM ?_ ?_))
 generalize hE : g.ep + 1 = E at *
 refine yN fun env hE => ?_; have n := cj8 hE 0 1 2 6 7 8 38 40; simp -implicitDefEqProofs only [push_cast, reduceIte, Nat.reduceEqDiff, ee] at n; clear hE ee; have ee := n; clear n; have E87_0 := ee
 refine qC (fun nn σ => ∃ (seen : List Nat), nn = b - seen.length + 0 ∧ kp [0, 1, 2, 38] σ.env env ∧ (σ.h.mp (E, 38) = some (.iter M b seen b) ∧ σ.h.mp M = some (.ents (entL YM oneV (YG c y b))) ∧ seen.Nodup ∧ (∀ p ∈ seen, p < b) ∧ (∀ p ∈ seen, cntM m c (y + p) + 1 ≤ t.u c) ∧ RsvH σ.h R B t m ∧ Ext h0 σ.h ∧ E ≤ σ.h.ep)) _ ⟨[], rfl, qP _ _, ?_⟩ ?_
 have hgx0 : Ext h0 g := ⟨by have : h0.ep + 1 + 1 + 1 + 1 ≤ g.ep := hgx.1; omega, fun x h => hgx.2 x (by show x.1 ≤ h0.ep + 1 + 1 + 1 + 1; omega)⟩
 have hMe0 : h0.ep < M.1 := by have : h0.ep + 1 + 1 + 1 + 1 < M.1 := hMl; omega
 · have hne1 : M ≠ (E, 38) := fun e => by rw [e] at hMe; simp only at hMe; omega
   have hne2 : B ≠ (E, 38) := fun e => by have := hr2.be; rw [e] at this; simp only at this; omega
   refine ⟨uY _ _ _, ?_, List.nodup_nil, fun _ h => by simp at h, fun _ h => by simp at h, hr2.ext (by repeat' (first | exact Ext.refl _ | assumption | omega | (with_reducible (refine Eg ?_; constructor)))) ?_, (by repeat' (first | exact Ext.refl _ | assumption | omega | (with_reducible (refine Eg ?_; constructor)))), (by first | omega | (simp -implicitDefEqProofs only [push_cast, sevalprocAttr, eq_self]; first | done | omega))⟩
   · show (g.tick.setm _ _).mp M = _
     rw [YU _ _ hne1]; exact hmM
   · exact YU _ _ hne2
 have hne1 : M ≠ (E, 38) := fun e => by rw [e] at hMe; simp only at hMe; omega
 have hne2 : B ≠ (E, 38) := fun e => by have := hr2.be; rw [e] at this; simp only at this; omega
 clear hmM hr2 hgx hF' hme hF hRb
 clear ee; rintro nn ⟨env, h⟩ ⟨seen, rfl, q, hI⟩; simp only at hI; simp only [kp, and_true, E87_0] at q; have ee := q; clear q
 obtain ⟨hit, hmp, hnd, hlt, hok, hr2, hx, hep⟩ := hI
 unfold l87_0
 (first | refine yS fun hF => ?_ | refine yY fun hF => ?_ | refine yX fun hF => ?_)
 repeat' (first | ((try clear hf); with_reducible refine yD fun env K hE hK hf => ?_; have n := cj8 hE 0 1 2 6 7 8 38 40; simp -implicitDefEqProofs only [push_cast, reduceIte, Nat.reduceEqDiff, ee] at n; clear hE ee; have ee := n; clear n) | (with_reducible first | (refine hK _ _ ?_; clear hK K) | (refine Zi ?_; constructor) | refine yB (by decide) ?_ | refine yH (by assumption) ?_ | refine yJ (by assumption) ?_) | (refine yC rfl ?_) | (simp -implicitDefEqProofs only [push_cast, sevalprocAttr, eq_self, ee, hF.at]) | (simp (disch := omega) only [yF, yK, yG, yL, hF.at]) | ((first | refine yE rfl (fun bb => ?_) (fun bb => ?_) | with_reducible refine yI (fun bb => ?_) (fun bb => ?_)) <;> (first | have bp := oT bb | have bp := oF bb | skip) <;> try simp only [bb]) | ((with_reducible refine And.intro ?_ ?_); omega) | (with_reducible refine yM ?_ ?_))
 refine next_of _ hit hmp hlen.symm (fun hall => ?_) fun p e hpe hps => ?_
 · rw [hlen] at hall
   have hE : roomB t m c y = true := roomB_t ⟨by omega, by omega, fun j hj => hok j (hall j (by omega))⟩
   repeat' (first | ((try clear hf); with_reducible refine yD fun env K hE hK hf => ?_; have n := cj8 hE 0 1 2 6 7 8 38 40; simp -implicitDefEqProofs only [push_cast, reduceIte, Nat.reduceEqDiff, ee] at n; clear hE ee; have ee := n; clear n) | (with_reducible first | (refine hK _ _ ?_; clear hK K) | (refine Zi ?_; constructor) | refine yB (by decide) ?_ | refine yH (by assumption) ?_ | refine yJ (by assumption) ?_) | (refine yC rfl ?_) | (simp -implicitDefEqProofs only [push_cast, sevalprocAttr, eq_self, ee, hF.at, hE]) | (simp (disch := omega) only [yF, yK, yG, yL, hF.at]) | ((first | refine yE rfl (fun bb => ?_) (fun bb => ?_) | with_reducible refine yI (fun bb => ?_) (fun bb => ?_)) <;> (first | have bp := oT bb | have bp := oF bb | skip) <;> try simp only [bb]) | ((with_reducible refine And.intro ?_ ?_); omega) | (with_reducible refine yM ?_ ?_))
   exact ⟨hr2.ext (by repeat' (first | exact Ext.refl _ | assumption | omega | (with_reducible (refine Eg ?_; constructor)))) rfl, (by repeat' (first | exact Ext.refl _ | assumption | omega | (with_reducible (refine Eg ?_; constructor))))⟩
 have hpb : p < b := by have := (List.getElem?_eq_some_iff.1 hpe).1; omega
 have he : e = (.agg [i64 c, i64 (y + p)], .agg [i64 1]) := by
  simp only [entL, List.getElem?_map, moreL_at _ _ _ hpb, Option.map_some, oI] at hpe
  exact hpe.symm
 subst he
 have hlen1 : (seen ++ [p]).length ≤ b := nodup_len2 b _ (by
  rw [List.nodup_append]
  exact ⟨hnd, by simp, fun x h y hy e => hps (by simp only [List.mem_singleton] at hy; rw [← hy, ← e]; exact h)⟩) (by intro x hx; simp only [List.mem_append, List.mem_singleton] at hx; rcases hx with h | h; exact hlt x h; omega)
 rw [List.length_append] at hlen1
 have hr3 : RsvH (h.tick.setm (E, 38) (.iter M b (seen ++ [p]) (entL YM oneV (YG c y b)).length)) R B t m := hr2.ext (by repeat' (first | exact Ext.refl _ | assumption | omega | (with_reducible (refine Eg ?_; constructor)))) (YU _ _ hne2)
 have h2m : (h.tick.setm (E, 38) (.iter M b (seen ++ [p]) (entL YM oneV (YG c y b)).length)).mp M = some (.ents (entL YM oneV (YG c y b))) := (YU _ _ hne1).trans hmp
 have h2i : (h.tick.setm (E, 38) (.iter M b (seen ++ [p]) (entL YM oneV (YG c y b)).length)).mp (E, 38) = some (.iter M b (seen ++ [p]) b) := by rw [uY, hlen]
 have h2x : Ext h0 (h.tick.setm (E, 38) (.iter M b (seen ++ [p]) (entL YM oneV (YG c y b)).length)) := (by repeat' (first | exact Ext.refl _ | assumption | omega | (with_reducible (refine Eg ?_; constructor))))
 have h2e : (h.tick.setm (E, 38) (.iter M b (seen ++ [p]) (entL YM oneV (YG c y b)).length)).ep = h.ep + 1 := rfl
 have h2f : qY (h.tick.setm (E, 38) (.iter M b (seen ++ [p]) (entL YM oneV (YG c y b)).length)) := fun x s hxe => by
  have hxe' : h.ep + 1 < x := hxe
  refine ⟨(hF x s (by omega)).1, ?_⟩
  rw [YU _ _ (fun e => by cases e; omega)]
  exact (hF x s (by omega)).2
 generalize h.tick.setm (E, 38) (.iter M b (seen ++ [p]) (entL YM oneV (YG c y b)).length) = h2 at *
 clear hF
 have hRb2 := hr3.hp
 have hBm := hr3.mp
 have h15 := rsv_15 t B
 have hu := rsv_u t B hc
 have hRn : ∀ s, R ≠ (h2.ep + 1, s) := fun s e => by have := hr3.le; rw [e] at this; simp only at this; omega
 have hpR : ∀ (w : Hp) (s : Nat) (cs : List AV), (w.put (h2.ep + 1, s) cs).hp R = w.hp R := fun w s cs => YD _ _ _ _ (hRn s)
 have hqR : ∀ (w : Hp) (s : Nat) (cs : List AV), (w.push (h2.ep + 1, s) cs).hp R = w.hp R := fun w s cs => WI _ _ _ _ (hRn s)
 have hlk : (wP m ((c : Int), y + p)).getD 0 = cntM m c (y + p) := rfl
 have hcb := hm c (y + p)
 have hw : IntKind.i64.wrap (1 + cntM m c (y + p)) = cntM m c (y + p) + 1 := by rw [qS (by omega) (by omega)]; omega
 have hw' : IntKind.i64.wrap (cntM m c (y + p) + 1) = cntM m c (y + p) + 1 := qS (by omega) (by omega)
 have hec : (entL YM oneV (YG c y b))[p]? = some (.agg [i64 c, i64 (y + p)], .agg [i64 1]) := hpe
 have hr4 : ∀ w : Hp, (∀ x : Id, x.1 ≤ h2.ep → w.hp x = h2.hp x) → w.mp B = h2.mp B → h2.ep ≤ w.ep → RsvH w R B t m ∧ Ext h0 w := fun w h1 h2' h3 => ⟨hr3.keep (h1 R hr3.le) h2' h3, Nat.le_trans h2x.1 h3, fun x hx => (h1 x (Nat.le_trans hx h2x.1)).trans (h2x.2 x hx)⟩
 have hold : ∀ (a b d e : List AV) (x : Id), x.1 ≤ h2.ep → ((((h2.tick.push (h2.ep + 1, 7) a).push (h2.ep + 1, 8) b).put (h2.ep + 1, 7) d).put (h2.ep + 1, 8) e).hp x = h2.hp x := fun a b d e x hx => by
  rw [YD _ _ _ _ (fun e => by rw [e] at hx; simp only at hx; omega), YD _ _ _ _ (fun e => by rw [e] at hx; simp only at hx; omega), WI _ _ _ _ (fun e => by rw [e] at hx; simp only at hx; omega), WI _ _ _ _ (fun e => by rw [e] at hx; simp only at hx; omega)]
  rfl
 by_cases hroom : t.u c < cntM m c (y + p) + 1
 · have hd : decide (t.u c < cntM m c (y + p) + 1) = true := dT hroom
   have hE : roomB t m c y = false := roomB_f fun hh => by have := hh.2.2 p (by omega); omega
   repeat' (first | ((try clear hf); with_reducible refine yD fun env K hE hK hf => ?_; have n := cj8 hE 0 1 2 6 7 8 38 40; simp -implicitDefEqProofs only [push_cast, reduceIte, Nat.reduceEqDiff, ee] at n; clear hE ee; have ee := n; clear n) | (with_reducible first | (refine hK _ _ ?_; clear hK K) | (refine Zi ?_; constructor) | refine yB (by decide) ?_ | refine yH (by assumption) ?_ | refine yJ (by assumption) ?_) | (refine yC rfl ?_) | (simp -implicitDefEqProofs only [push_cast, sevalprocAttr, eq_self, ee, h2f.at, h2m, h2i, hlen, hec, hpR, hqR, hRb2, hBm, h15, hu, WM, hlk, hw, hw', hd, hE]) | (simp (disch := omega) only [yF, yK, yG, yL, h2f.at, h2m, h2i, hec, hpR, hqR, hRb2, hBm, hu, WM]) | ((first | refine yE rfl (fun bb => ?_) (fun bb => ?_) | with_reducible refine yI (fun bb => ?_) (fun bb => ?_)) <;> (first | have bp := oT bb | have bp := oF bb | skip) <;> try simp only [bb]) | ((with_reducible refine And.intro ?_ ?_); omega) | (with_reducible refine yM ?_ ?_))
   exact hr4 _ (hold _ _ _ _) rfl (by simp only [qG, put_ep, YV]; omega)
 · have hd : decide (t.u c < cntM m c (y + p) + 1) = false := dF hroom
   repeat' (first | ((try clear hf); with_reducible refine yD fun env K hE hK hf => ?_; have n := cj8 hE 0 1 2 6 7 8 38 40; simp -implicitDefEqProofs only [push_cast, reduceIte, Nat.reduceEqDiff, ee] at n; clear hE ee; have ee := n; clear n) | (with_reducible first | (refine hK _ _ ?_; clear hK K) | (refine Zi ?_; constructor) | refine yB (by decide) ?_ | refine yH (by assumption) ?_ | refine yJ (by assumption) ?_) | (refine yC rfl ?_) | (simp -implicitDefEqProofs only [push_cast, sevalprocAttr, eq_self, ee, h2f.at, h2m, h2i, hlen, hec, hpR, hqR, hRb2, hBm, h15, hu, WM, hlk, hw, hw', hd]) | (simp (disch := omega) only [yF, yK, yG, yL, h2f.at, h2m, h2i, hec, hpR, hqR, hRb2, hBm, hu, WM]) | ((first | refine yE rfl (fun bb => ?_) (fun bb => ?_) | with_reducible refine yI (fun bb => ?_) (fun bb => ?_)) <;> (first | have bp := oT bb | have bp := oF bb | skip) <;> try simp only [bb]) | ((with_reducible refine And.intro ?_ ?_); omega) | (with_reducible refine yM ?_ ?_))
   have hrw := hr4 _ (hold [.lit (.int .i64 0), .lit (.int .i64 0)] [.lit (.int .i64 0)] [i64 c, i64 (y + p)] [i64 1]) rfl (by simp only [qG, put_ep, YV]; omega)
   refine ⟨_, ?_, seen ++ [p], rfl, by simp -implicitDefEqProofs only [kp, push_cast, reduceIte, Nat.reduceEqDiff, ee, E87_0, and_self], ?_⟩
   · rw [List.length_append]; simp only [List.length_singleton] at *; omega
   · refine ⟨rfl, ?_, ?_, ?_, hrw.1.keep rfl rfl (Nat.le_succ _), hrw.2.tick, by omega⟩
     · rw [List.nodup_append]
       exact ⟨hnd, by simp, fun x h y hy e => hps (by simp only [List.mem_singleton] at hy; rw [← hy, ← e]; exact h)⟩
     · intro x hx
       simp only [List.mem_append, List.mem_singleton] at hx
       rcases hx with hx | hx
       · exact hlt x hx
       · omega
     · intro x hx
       simp only [List.mem_append, List.mem_singleton] at hx
       rcases hx with hx | hx
       · exact hok x hx
       · subst hx; omega
theorem cntM_put (m : List ((Int × Int) × Int)) (c y v : Int) (c' y' : Int) : cntM (putL m (c, y) v) c' y' = if c' = c ∧ y' = y then v else cntM m c' y' := by
 unfold cntM
 rw [lookL_put]
 by_cases e : c' = c ∧ y' = y
 · rw [if_pos (by rw [e.1, e.2]), if_pos e]; rfl
 · rw [if_neg (fun h => e (by simpa using h)), if_neg e]
open Classical in
def tookP (t : Tab) (m : List ((Int × Int) × Int)) (c : Nat) (y : Int) (m' : List ((Int × Int) × Int)) : Prop :=
 ∀ c' y', cntM m' c' y' = cntM m c' y' + if c' = (c : Int) ∧ y ≤ y' ∧ y' < y + t.b c then 1 else 0
theorem f54 {h0 : Hp} {R B : Id} {t : Tab} {m : List ((Int × Int) × Int)} {c : Nat} {y : Int} (hr : RsvH h0 R B t m) (ht : YK t) (hc : c < 4) (hm : ∀ c y, -1000000 ≤ cntM m c y ∧ cntM m c y ≤ 1000000) :
 HC Try.prog 54 [.ptr R 0, i64 c, i64 y] h0 fun r h' => r = bl (roomB t m c y) ∧ (∃ m', RsvH h' R B t m' ∧ (roomP t m c y → tookP t m c y m') ∧ (¬ roomP t m c y → m' = m)) ∧ Ext h0 h' := by
 refine qJ qM cf54 (by simp) fun hF => ?_
 unfold ac54 re54
 refine yN fun env hE => ?_; have ee := cj8 hE 0 1 2 6 7 8 18 20; simp -implicitDefEqProofs only [push_cast] at ee; clear hE
 have hbu := ht.1 c hc
 unfold okC at hbu
 obtain ⟨b, hb⟩ : ∃ b : Nat, t.b c = b := ⟨(t.b c).toNat, by omega⟩
 by_cases hroom : roomP t m c y
 · have hE := roomB_t hroom
   have hroomP := hroom
   obtain ⟨hy0, hy1, hroom'⟩ := hroom
   repeat' (first | ((try clear hf); with_reducible refine yD fun env K hE hK hf => ?_; have n := cj8 hE 0 1 2 6 7 8 18 20; simp -implicitDefEqProofs only [push_cast, reduceIte, Nat.reduceEqDiff, ee] at n; clear hE ee; have ee := n; clear n) | (with_reducible first | (refine hK _ _ ?_; clear hK K) | (refine Zi ?_; constructor) | refine yB (by decide) ?_ | refine yH (by assumption) ?_ | refine yJ (by assumption) ?_) | (refine yC rfl ?_) | (simp -implicitDefEqProofs only [push_cast, sevalprocAttr, eq_self, ee, hE]) | (simp (disch := omega) only [yF, yK, yG, yL]) | ((first | refine yE rfl (fun bb => ?_) (fun bb => ?_) | with_reducible refine yI (fun bb => ?_) (fun bb => ?_)) <;> (first | have bp := oT bb | have bp := oF bb | skip) <;> try simp only [bb]) | ((with_reducible refine And.intro ?_ ?_); omega) | (refine qH (HC.mono (f87 (R := R) (B := B) (t := t) (m := m) (c := c) (y := y) (by exact hr.ext (by repeat' (first | exact Ext.refl _ | assumption | omega | (with_reducible (refine Eg ?_; constructor)))) rfl) ht hc hm) ?_); rintro r g ⟨rfl, hr1, hgx⟩ hF1) | (refine qH (HC.mono (f88 (R := R) (B := B) (t := t) (m := m) (c := c) (y := y) (by exact hr1.ext (by repeat' (first | exact Ext.refl _ | assumption | omega | (with_reducible (refine Eg ?_; constructor)))) rfl) ht hc ⟨by omega, by omega⟩) ?_); rintro r g1 ⟨M, rfl, hmM, hr2, hMl, hMe, hgx1⟩ hF') | (with_reducible refine yM ?_ ?_))
   have hg0 : Ext h0 g := ⟨by have : h0.ep + 1 + 1 + 1 ≤ g.ep := hgx.1; omega, fun x h => hgx.2 x (by show x.1 ≤ h0.ep + 1 + 1 + 1; omega)⟩
   have hg1 : Ext h0 g1 := hg0.tr ⟨by have : g.ep + 1 + 1 ≤ g1.ep := hgx1.1; omega, fun x h => hgx1.2 x (by show x.1 ≤ g.ep + 1 + 1; omega)⟩
   have hMe0 : g.ep < M.1 := by have : g.ep + 1 + 1 < M.1 := hMl; omega
   have hBM : M ≠ B := fun e => by have := hr1.be; rw [← e] at this; omega
   have hb' : (t.b c).toNat = b := by omega
   rw [hb'] at hmM
   have hme : ∀ e s, g1.ep < e → g1.mp (e, s) = none := fun e s he => (hF' e s he).2
   have hlen : (entL YM oneV (YG c y b)).length = b := by simp [entL, UB]
   repeat' (first | ((try clear hf); with_reducible refine yD fun env K hE hK hf => ?_; have n := cj8 hE 0 1 2 6 7 8 18 20; simp -implicitDefEqProofs only [push_cast, reduceIte, Nat.reduceEqDiff, ee] at n; clear hE ee; have ee := n; clear n) | (with_reducible first | (refine hK _ _ ?_; clear hK K) | (refine Zi ?_; constructor) | refine yB (by decide) ?_ | refine yH (by assumption) ?_ | refine yJ (by assumption) ?_) | (refine yC rfl ?_) | (simp -implicitDefEqProofs only [push_cast, sevalprocAttr, eq_self, ee, hF'.at, hmM, hme, hlen]) | (simp (disch := omega) only [yF, yK, yG, yL, hF'.at, hmM, hme]) | ((first | refine yE rfl (fun bb => ?_) (fun bb => ?_) | with_reducible refine yI (fun bb => ?_) (fun bb => ?_)) <;> (first | have bp := oT bb | have bp := oF bb | skip) <;> try simp only [bb]) | ((with_reducible refine And.intro ?_ ?_); omega) | (with_reducible refine yM ?_ ?_))
   generalize hEE : g1.ep + 1 = E at *
   refine yN fun env hE => ?_; have n := cj8 hE 0 1 2 6 7 8 18 20; simp -implicitDefEqProofs only [push_cast, reduceIte, Nat.reduceEqDiff, ee] at n; clear hE ee; have ee := n; clear n; have E54_0 := ee
   refine qC (fun nn σ => ∃ (seen : List Nat) (m' : List ((Int × Int) × Int)), nn = b - seen.length + 0 ∧ kp [0, 1, 2, 6, 18] σ.env env ∧ (σ.h.mp (E, 18) = some (.iter M b seen b) ∧ σ.h.mp M = some (.ents (entL YM oneV (YG c y b))) ∧ seen.Nodup ∧ (∀ p ∈ seen, p < b) ∧ (∀ c' y', cntM m' c' y' = cntM m c' y' + if c' = (c : Int) ∧ ∃ p : Nat, p ∈ seen ∧ y' = y + p then 1 else 0) ∧ RsvH σ.h R B t m' ∧ Ext h0 σ.h ∧ E ≤ σ.h.ep)) _ ⟨[], m, rfl, qP _ _, ?_⟩ ?_
   · have hne1 : M ≠ (E, 18) := fun e => by rw [e] at hMe; simp only at hMe; omega
     have hne2 : B ≠ (E, 18) := fun e => by have := hr2.be; rw [e] at this; simp only at this; omega
     refine ⟨uY _ _ _, ?_, List.nodup_nil, fun _ h => by simp at h, fun _ _ => by simp, hr2.ext (by repeat' (first | exact Ext.refl _ | assumption | omega | (with_reducible (refine Eg ?_; constructor)))) ?_, (by repeat' (first | exact Ext.refl _ | assumption | omega | (with_reducible (refine Eg ?_; constructor)))), (by first | omega | (simp -implicitDefEqProofs only [push_cast, sevalprocAttr, eq_self]; first | done | omega))⟩
     · show (g1.tick.setm _ _).mp M = _
       rw [YU _ _ hne1]; exact hmM
     · exact YU _ _ hne2
   have hne1 : M ≠ (E, 18) := fun e => by rw [e] at hMe; simp only at hMe; omega
   have hne2 : B ≠ (E, 18) := fun e => by have := hr2.be; rw [e] at this; simp only at this; omega
   clear hmM hr2 hgx hF' hme hF hgx1 hr1 hF1
   clear ee; rintro nn ⟨env, h⟩ ⟨seen, m', rfl, q, hI⟩; simp only at hI; simp only [kp, and_true, E54_0] at q; have ee := q; clear q
   obtain ⟨hit, hmp, hnd, hlt, hcnt, hr2, hx, hep⟩ := hI
   unfold l54_0
   (first | refine yS fun hF => ?_ | refine yY fun hF => ?_ | refine yX fun hF => ?_)
   repeat' (first | ((try clear hf); with_reducible refine yD fun env K hE hK hf => ?_; have n := cj8 hE 0 1 2 6 7 8 18 20; simp -implicitDefEqProofs only [push_cast, reduceIte, Nat.reduceEqDiff, ee] at n; clear hE ee; have ee := n; clear n) | (with_reducible first | (refine hK _ _ ?_; clear hK K) | (refine Zi ?_; constructor) | refine yB (by decide) ?_ | refine yH (by assumption) ?_ | refine yJ (by assumption) ?_) | (refine yC rfl ?_) | (simp -implicitDefEqProofs only [push_cast, sevalprocAttr, eq_self, ee, hF.at]) | (simp (disch := omega) only [yF, yK, yG, yL, hF.at]) | ((first | refine yE rfl (fun bb => ?_) (fun bb => ?_) | with_reducible refine yI (fun bb => ?_) (fun bb => ?_)) <;> (first | have bp := oT bb | have bp := oF bb | skip) <;> try simp only [bb]) | ((with_reducible refine And.intro ?_ ?_); omega) | (with_reducible refine yM ?_ ?_))
   refine next_of _ hit hmp hlen.symm (fun hall => ?_) fun p e hpe hps => ?_
   · rw [hlen] at hall
     repeat' (first | ((try clear hf); with_reducible refine yD fun env K hE hK hf => ?_; have n := cj8 hE 0 1 2 6 7 8 18 20; simp -implicitDefEqProofs only [push_cast, reduceIte, Nat.reduceEqDiff, ee] at n; clear hE ee; have ee := n; clear n) | (with_reducible first | (refine hK _ _ ?_; clear hK K) | (refine Zi ?_; constructor) | refine yB (by decide) ?_ | refine yH (by assumption) ?_ | refine yJ (by assumption) ?_) | (refine yC rfl ?_) | (simp -implicitDefEqProofs only [push_cast, sevalprocAttr, eq_self, ee, hF.at, hE]) | (simp (disch := omega) only [yF, yK, yG, yL, hF.at]) | ((first | refine yE rfl (fun bb => ?_) (fun bb => ?_) | with_reducible refine yI (fun bb => ?_) (fun bb => ?_)) <;> (first | have bp := oT bb | have bp := oF bb | skip) <;> try simp only [bb]) | ((with_reducible refine And.intro ?_ ?_); omega) | (with_reducible refine yM ?_ ?_))
     refine ⟨⟨m', hr2.ext (by repeat' (first | exact Ext.refl _ | assumption | omega | (with_reducible (refine Eg ?_; constructor)))) rfl, fun _ c' y' => ?_, fun h => absurd hroomP h⟩, (by repeat' (first | exact Ext.refl _ | assumption | omega | (with_reducible (refine Eg ?_; constructor))))⟩
     rw [hcnt c' y']
     congr 1
     by_cases hcc : c' = (c : Int) ∧ y ≤ y' ∧ y' < y + t.b c
     · rw [if_pos hcc, if_pos ⟨hcc.1, (y' - y).toNat, hall _ (by omega), by omega⟩]
     · rw [if_neg hcc, if_neg fun ⟨h1, p, h2, h3⟩ => hcc ⟨h1, by omega, by have := hlt p h2; omega⟩]
   have hpb : p < b := by have := (List.getElem?_eq_some_iff.1 hpe).1; omega
   have he : e = (.agg [i64 c, i64 (y + p)], .agg [i64 1]) := by
    simp only [entL, List.getElem?_map, moreL_at _ _ _ hpb, Option.map_some, oI] at hpe
    exact hpe.symm
   subst he
   have hnd2 : (seen ++ [p]).Nodup := by
    rw [List.nodup_append]
    exact ⟨hnd, by simp, fun x h y hy e => hps (by simp only [List.mem_singleton] at hy; rw [← hy, ← e]; exact h)⟩
   have hlt2 : ∀ x ∈ seen ++ [p], x < b := by intro x hx; simp only [List.mem_append, List.mem_singleton] at hx; rcases hx with h | h; exact hlt x h; omega
   have hlen1 : (seen ++ [p]).length ≤ b := nodup_len2 b _ hnd2 hlt2
   rw [List.length_append] at hlen1
   have hr3 : RsvH (h.tick.setm (E, 18) (.iter M b (seen ++ [p]) (entL YM oneV (YG c y b)).length)) R B t m' := hr2.ext (by repeat' (first | exact Ext.refl _ | assumption | omega | (with_reducible (refine Eg ?_; constructor)))) (YU _ _ hne2)
   have h2m : (h.tick.setm (E, 18) (.iter M b (seen ++ [p]) (entL YM oneV (YG c y b)).length)).mp M = some (.ents (entL YM oneV (YG c y b))) := (YU _ _ hne1).trans hmp
   have h2i : (h.tick.setm (E, 18) (.iter M b (seen ++ [p]) (entL YM oneV (YG c y b)).length)).mp (E, 18) = some (.iter M b (seen ++ [p]) b) := by rw [uY, hlen]
   have h2x : Ext h0 (h.tick.setm (E, 18) (.iter M b (seen ++ [p]) (entL YM oneV (YG c y b)).length)) := (by repeat' (first | exact Ext.refl _ | assumption | omega | (with_reducible (refine Eg ?_; constructor))))
   have h2e : (h.tick.setm (E, 18) (.iter M b (seen ++ [p]) (entL YM oneV (YG c y b)).length)).ep = h.ep + 1 := rfl
   have h2f : qY (h.tick.setm (E, 18) (.iter M b (seen ++ [p]) (entL YM oneV (YG c y b)).length)) := fun x s hxe => by
    have hxe' : h.ep + 1 < x := hxe
    refine ⟨(hF x s (by omega)).1, ?_⟩
    rw [YU _ _ (fun e => by cases e; omega)]
    exact (hF x s (by omega)).2
   generalize h.tick.setm (E, 18) (.iter M b (seen ++ [p]) (entL YM oneV (YG c y b)).length) = h2 at *
   clear hF
   have hRb2 := hr3.hp
   have hBm := hr3.mp
   have h15 := rsv_15 t B
   have hRn : ∀ s, R ≠ (h2.ep + 1, s) := fun s e => by have := hr3.le; rw [e] at this; simp only at this; omega
   have hpR : ∀ (w : Hp) (s : Nat) (cs : List AV), (w.put (h2.ep + 1, s) cs).hp R = w.hp R := fun w s cs => YD _ _ _ _ (hRn s)
   have hqR : ∀ (w : Hp) (s : Nat) (cs : List AV), (w.push (h2.ep + 1, s) cs).hp R = w.hp R := fun w s cs => WI _ _ _ _ (hRn s)
   have hlk : (wP m' ((c : Int), y + p)).getD 0 = cntM m' c (y + p) := rfl
   have hcn : cntM m' c (y + p) = cntM m c (y + p) := by
    rw [hcnt, if_neg]; · omega
    rintro ⟨_, q, hq, hqe⟩
    exact hps (by rw [show p = q by omega]; exact hq)
   have hcb := hm c (y + p)
   have hw : IntKind.i64.wrap (1 + cntM m' c (y + p)) = cntM m' c (y + p) + 1 := by rw [qS (by omega) (by omega)]; omega
   have hw' : IntKind.i64.wrap (cntM m' c (y + p) + 1) = cntM m' c (y + p) + 1 := qS (by omega) (by omega)
   have hec : (entL YM oneV (YG c y b))[p]? = some (.agg [i64 c, i64 (y + p)], .agg [i64 1]) := hpe
   have hold : ∀ (a b d e : List AV) (x : Id), x.1 ≤ h2.ep → ((((h2.tick.push (h2.ep + 1, 7) a).push (h2.ep + 1, 8) b).put (h2.ep + 1, 7) d).put (h2.ep + 1, 8) e).hp x = h2.hp x := fun a b d e x hx => by
    rw [YD _ _ _ _ (fun e => by rw [e] at hx; simp only at hx; omega), YD _ _ _ _ (fun e => by rw [e] at hx; simp only at hx; omega), WI _ _ _ _ (fun e => by rw [e] at hx; simp only at hx; omega), WI _ _ _ _ (fun e => by rw [e] at hx; simp only at hx; omega)]
    rfl
   repeat' (first | ((try clear hf); with_reducible refine yD fun env K hE hK hf => ?_; have n := cj8 hE 0 1 2 6 7 8 18 20; simp -implicitDefEqProofs only [push_cast, reduceIte, Nat.reduceEqDiff, ee] at n; clear hE ee; have ee := n; clear n) | (with_reducible first | (refine hK _ _ ?_; clear hK K) | (refine Zi ?_; constructor) | refine yB (by decide) ?_ | refine yH (by assumption) ?_ | refine yJ (by assumption) ?_) | (refine yC rfl ?_) | (simp -implicitDefEqProofs only [push_cast, sevalprocAttr, eq_self, ee, h2f.at, h2m, h2i, hlen, hec, hpR, hqR, hRb2, hBm, h15, WM, spot_put, hlk, hw, hw']) | (simp (disch := omega) only [yF, yK, yG, yL, h2f.at, h2m, h2i, hec, hpR, hqR, hRb2, hBm, WM, spot_put]) | ((first | refine yE rfl (fun bb => ?_) (fun bb => ?_) | with_reducible refine yI (fun bb => ?_) (fun bb => ?_)) <;> (first | have bp := oT bb | have bp := oF bb | skip) <;> try simp only [bb]) | ((with_reducible refine And.intro ?_ ?_); omega) | (with_reducible refine yM ?_ ?_))
   refine ⟨_, ?_, seen ++ [p], putL m' ((c : Int), y + p) (cntM m' c (y + p) + 1), rfl, by simp -implicitDefEqProofs only [kp, push_cast, reduceIte, Nat.reduceEqDiff, ee, E54_0, and_self], ?_⟩
   · rw [List.length_append]; simp only [List.length_singleton] at *; omega
   · generalize hv : putL m' ((c : Int), y + p) (cntM m' c (y + p) + 1) = mm
     have hcnt2 : ∀ c' y', cntM mm c' y' = cntM m c' y' + if c' = (c : Int) ∧ ∃ q : Nat, q ∈ seen ++ [p] ∧ y' = y + q then 1 else 0 := fun c' y' => by
      rw [← hv, cntM_put]
      by_cases e : c' = (c : Int) ∧ y' = y + p
      · rw [if_pos e, if_pos ⟨e.1, p, by simp, e.2⟩, e.1, e.2, hcn]
      · rw [if_neg e, hcnt]
        congr 1
        by_cases e2 : c' = (c : Int) ∧ ∃ q : Nat, q ∈ seen ∧ y' = y + q
        · obtain ⟨e3, q, e4, e5⟩ := e2
          rw [if_pos ⟨e3, q, e4, e5⟩, if_pos ⟨e3, q, by simp [e4], e5⟩]
        · rw [if_neg e2, if_neg]
          rintro ⟨e3, q, e4, e5⟩
          simp only [List.mem_append, List.mem_singleton] at e4
          rcases e4 with e4 | e4
          · exact e2 ⟨e3, q, e4, e5⟩
          · exact e ⟨e3, by rw [← e4]; exact e5⟩
     refine ⟨(YU _ _ hne2.symm).trans h2i, (YU _ _ hBM).trans h2m, hnd2, hlt2, hcnt2, ⟨(hold _ _ _ _ R hr3.le).trans hRb2, uY _ _ _, Nat.le_trans hr3.le (Nat.le_trans (Nat.le_succ _) (Nat.le_succ _)), Nat.le_trans hr3.be (Nat.le_trans (Nat.le_succ _) (Nat.le_succ _))⟩, ⟨Nat.le_trans h2x.1 (Nat.le_trans (Nat.le_succ _) (Nat.le_succ _)), fun x hx => (hold _ _ _ _ x (Nat.le_trans hx h2x.1)).trans (h2x.2 x hx)⟩, by omega⟩
 · have hE := roomB_f hroom
   repeat' (first | ((try clear hf); with_reducible refine yD fun env K hE hK hf => ?_; have n := cj8 hE 0 1 2 6 7 8 18 20; simp -implicitDefEqProofs only [push_cast, reduceIte, Nat.reduceEqDiff, ee] at n; clear hE ee; have ee := n; clear n) | (with_reducible first | (refine hK _ _ ?_; clear hK K) | (refine Zi ?_; constructor) | refine yB (by decide) ?_ | refine yH (by assumption) ?_ | refine yJ (by assumption) ?_) | (refine yC rfl ?_) | (simp -implicitDefEqProofs only [push_cast, sevalprocAttr, eq_self, ee, hE]) | (simp (disch := omega) only [yF, yK, yG, yL]) | ((first | refine yE rfl (fun bb => ?_) (fun bb => ?_) | with_reducible refine yI (fun bb => ?_) (fun bb => ?_)) <;> (first | have bp := oT bb | have bp := oF bb | skip) <;> try simp only [bb]) | ((with_reducible refine And.intro ?_ ?_); omega) | (refine qH (HC.mono (f87 (R := R) (B := B) (t := t) (m := m) (c := c) (y := y) (by exact hr.ext (by repeat' (first | exact Ext.refl _ | assumption | omega | (with_reducible (refine Eg ?_; constructor)))) rfl) ht hc hm) ?_); rintro r g ⟨rfl, hr1, hgx⟩ hF1) | (with_reducible refine yM ?_ ?_))
   have hg0 : Ext h0 g := ⟨by have : h0.ep + 1 + 1 + 1 ≤ g.ep := hgx.1; omega, fun x h => hgx.2 x (by show x.1 ≤ h0.ep + 1 + 1 + 1; omega)⟩
   exact ⟨⟨m, hr1.ext (by repeat' (first | exact Ext.refl _ | assumption | omega | (with_reducible (refine Eg ?_; constructor)))) rfl, fun h => absurd h hroom, fun _ => rfl⟩, (by repeat' (first | exact Ext.refl _ | assumption | omega | (with_reducible (refine Eg ?_; constructor))))⟩
def mx (a b : Int) : Int := if b > a then b else a
def UX (H : List Int) (a : Int) (x : Edg) : Int := mx a (x.l + H.getD x.t.toNat 0)
def hOne (lat : Int) (E : List Edg) (H : List Int) : Int := E.foldl (UX H) lat
def outE (E : List Edg) (i : Nat) : List Edg := E.filter fun e => decide (e.f = (i : Int))
def hM (l : List Opn) (t : Tab) (E : List Edg) : Nat → List Int
 | 0 => List.replicate l.length 0
 | m + 1 => (hM l t E m).set (l.length - 1 - m) (hOne (latS t (opAt l (l.length - 1 - m))) (outE E (l.length - 1 - m)) (hM l t E m))
def edOK (n : Nat) (e : Edg) : Prop := 0 ≤ e.f ∧ e.f < e.t ∧ e.t < n ∧ 0 ≤ e.l ∧ e.l ≤ 8
theorem uN {l : List Opn} {t : Tab} (ht : YK t) : ∀ j, ∀ e ∈ YP l t j, edOK j e := by
 have key : ∀ (i j : Nat), i < j → ∀ e ∈ ijE l t i j, edOK (j + 1) e := by
  intro i j hij e he
  have h1 := latS_ok ht (opAt l i)
  have h2 := latS_ok ht (opAt l j)
  have h3 := ht.1 2 (by omega)
  unfold okC at h3
  unfold ijE at he
  rw [List.mem_append] at he
  rcases he with he | he
  · split at he
    · simp only [List.mem_singleton] at he; subst he
      unfold edOK; simp only; omega
    · simp at he
  · unfold pairE at he
    simp only [List.mem_append] at he
    rcases he with ((he | he) | he) | he <;> (split at he <;> (try (simp at he; done)))
    all_goals
     simp only [List.mem_singleton] at he; subst he
     unfold edOK; simp only
     refine ⟨by omega, by omega, by omega, ?_, ?_⟩ <;> (repeat' split) <;> omega
 have key2 : ∀ (j i : Nat), i ≤ j → ∀ e ∈ toE l t j i, edOK (j + 1) e := by
  intro j i
  induction i with
  | zero => intro _ e he; simp [toE] at he
  | succ i ih =>
    intro hi e he
    simp only [toE, List.mem_append] at he
    rcases he with he | he
    · exact ih (by omega) e he
    · exact key i j (by omega) e he
 intro j
 induction j with
 | zero => intro e he; simp [YP] at he
 | succ j ih =>
   intro e he
   simp only [YP, List.mem_append] at he
   rcases he with he | he
   · have := ih e he
     unfold edOK at this ⊢
     omega
   · exact key2 j j (Nat.le_refl _) e he
theorem hM_len (l : List Opn) (t : Tab) (E : List Edg) (m : Nat) : (hM l t E m).length = l.length := by
 induction m with
 | zero => simp [hM]
 | succ m ih => simp [hM, ih]
theorem hM_bnd {l : List Opn} {t : Tab} {E : List Edg} (ht : YK t) (hE : ∀ e ∈ E, edOK l.length e) (m : Nat) : ∀ k, 0 ≤ (hM l t E m).getD k 0 ∧ (hM l t E m).getD k 0 ≤ 8 * m := by
 induction m with
 | zero => intro k; simp [hM, gD, List.getElem?_replicate]; split <;> simp
 | succ m ih =>
   have h1 := latS_ok ht (opAt l (l.length - 1 - m))
   have key : ∀ (L : List Edg) (a : Int), (∀ e ∈ L, edOK l.length e) → 0 ≤ a → a ≤ 8 * (m + 1 : Nat) → 0 ≤ L.foldl (UX (hM l t E m)) a ∧ L.foldl (UX (hM l t E m)) a ≤ 8 * (m + 1 : Nat) := by
    intro L
    induction L with
    | nil => intro a _ h0 h1; exact ⟨h0, h1⟩
    | cons x L ihL =>
      intro a hL h0 h1
      have hx := hL x (List.mem_cons_self ..)
      have := ih x.t.toNat
      unfold edOK at hx
      rw [List.foldl_cons]
      refine ihL _ (fun e he => hL e (List.mem_cons_of_mem _ he)) ?_ ?_ <;> (unfold UX mx; split <;> omega)
   have h2 := key (outE E (l.length - 1 - m)) (latS t (opAt l (l.length - 1 - m))) (fun e he => hE e (List.mem_filter.1 he).1) (by omega) (by omega)
   intro k
   simp only [hM, gD, List.getElem?_set, hM_len]
   split
   · split
     · simpa [hOne] using h2
     · simp; omega
   · have := ih k
     rw [gD] at this
     omega
theorem outE_len (E : List Edg) (k i : Nat) : (outE (E.take k) i).length ≤ k := by
 have := List.length_filter_le (fun e : Edg => decide (e.f = (i : Int))) (E.take k)
 simp [outE] at this ⊢; omega
theorem outE_next (E : List Edg) (k i : Nat) (x : Edg) (hx : x.f = i) (h : E.take (k + 1) = E.take k ++ [x]) : outE (E.take (k + 1)) = fun j => if j = i then outE (E.take k) i ++ [x] else outE (E.take k) j := by
 funext j
 rw [h]
 simp only [outE, List.filter_append]
 by_cases hj : j = i
 · subst hj; simp [hx]
 · rw [if_neg hj]
   have : ¬ (i : Int) = (j : Int) := by omega
   simp [hx, this]
def wH (l : List Opn) (t : Tab) : List Int := hM l t (YP l t l.length) l.length
set_option maxHeartbeats 1000000 in
theorem f82 {h0 : Hp} {l : List Opn} {t : Tab} (hl : ∀ o ∈ l, o.ok) (hR : errR l t = 0) :
 HC Try.prog 82 [.row (l.map opC), .agg (tabC t)] h0 fun r h' => ∃ id, r = .tup [.sl id 0 l.length 1, i64 0] ∧ h'.hp id = some ⟨true, (wH l t).map iC⟩ ∧ h0.ep < id.1 ∧ id.1 ≤ h'.ep ∧ Ext h0 h' := by
 refine qJ qM cf82 (by simp) fun hF => ?_
 unfold ac82 re82
 refine yN fun env hE => ?_; have ee := cj21 hE 0 1 3 4 5 6 7 8 10 11 12 13 16 29 30 31 32 77 78 79 80; simp -implicitDefEqProofs only [push_cast] at ee; clear hE
 obtain ⟨ht, hn, hop⟩ := wX hR
 have hE := uN (l := l) ht l.length
 have hEl := uZ l t l.length l.length (Nat.le_refl _)
 generalize hEq : YP l t l.length = E at hE hEl
 have hmul : 5 * l.length * l.length ≤ 5 * 1024 * 1024 := Nat.mul_le_mul (by omega) (by omega)
 repeat' (first | ((try clear hf); with_reducible refine yD fun env K hE hK hf => ?_; have n := cj21 hE 0 1 3 4 5 6 7 8 10 11 12 13 16 29 30 31 32 77 78 79 80; simp -implicitDefEqProofs only [push_cast, reduceIte, Nat.reduceEqDiff, ee] at n; clear hE ee; have ee := n; clear n) | (with_reducible first | (refine hK _ _ ?_; clear hK K) | (refine Zi ?_; constructor) | refine yB (by decide) ?_ | refine yH (by assumption) ?_ | refine yJ (by assumption) ?_) | (refine yC rfl ?_) | (simp -implicitDefEqProofs only [push_cast, sevalprocAttr, eq_self, ee, hF.at, qD, rep1]) | (simp (disch := omega) only [yF, yK, yG, yL, hF.at, rep1]) | (refine yE rfl (fun bb => ?_) (fun bb => ?_) <;> simp only [bb]) | (with_reducible refine yI (fun bb => ?_) (fun bb => ?_)) | ((with_reducible refine And.intro ?_ ?_); omega) | (refine qH (HC.mono (of_all hl) ?_); rintro r h1 ⟨hx, hr⟩ hF; rcases hr with ⟨hr, _⟩ | ⟨_, out, hr, hO⟩; exact absurd hR hr; subst hr; rw [hEq] at hO; have hOl := hO.slo.len) | (with_reducible refine yM ?_ ?_))
 have hlt : h0.ep + 1 + 1 ≤ h1.ep := by have := hx.1; rw [qG, YV, qG, qG] at this; omega
 have hbT : h1.hp (h0.ep + 1 + 1, 3) = some ⟨true, tabC t⟩ := by
  have := hx.2 (h0.ep + 1 + 1, 3) (by rw [qG, YV, qG, qG]; simp)
  rw [this, qN, YF]
 repeat' (first | ((try clear hf); with_reducible refine yD fun env K hE hK hf => ?_; have n := cj21 hE 0 1 3 4 5 6 7 8 10 11 12 13 16 29 30 31 32 77 78 79 80; simp -implicitDefEqProofs only [push_cast, reduceIte, Nat.reduceEqDiff, ee] at n; clear hE ee; have ee := n; clear n) | (with_reducible first | (refine hK _ _ ?_; clear hK K) | (refine Zi ?_; constructor) | refine yB (by decide) ?_ | refine yH (by assumption) ?_ | refine yJ (by assumption) ?_) | (refine yC rfl ?_) | (simp -implicitDefEqProofs only [push_cast, sevalprocAttr, eq_self, ee, hOl]) | (simp (disch := omega) only [yF, yK, yG, yL, hOl]) | (refine yE rfl (fun bb => ?_) (fun bb => ?_) <;> simp only [bb]) | (with_reducible refine yI (fun bb => ?_) (fun bb => ?_)) | ((with_reducible refine And.intro ?_ ?_); omega) | (with_reducible refine yM ?_ ?_))
 generalize hH8 : (h1.ep + 1 + 1 + 1, 28) = H8 at *
 obtain ⟨H8e, H8s⟩ := H8
 have h8e : H8e = h1.ep + 1 + 1 + 1 := by cases hH8; rfl
 refine yN fun env hE => ?_; have n := cj21 hE 0 1 3 4 5 6 7 8 10 11 12 13 16 29 30 31 32 77 78 79 80; simp -implicitDefEqProofs only [push_cast, reduceIte, Nat.reduceEqDiff, ee] at n; clear hE ee; have ee := n; clear n; have E82_0 := ee; obtain ⟨e0, e1, e3, e4, e5, e6, e7, e8, e10, e11, e12, e13, e16, e29, e30, e31, e32, e77, e78, e79, e80⟩ := ee
 refine qC (fun nn σ => ∃ (k : Nat) (c : List AV), nn = E.length - k ∧ kp [0, 1, 3, 4, 5, 6, 7, 8, 29, 30] σ.env env ∧ σ.env 31 = i64 k ∧ (k ≤ E.length ∧ σ.h.hp (H8e, H8s) = some ⟨true, c⟩ ∧ c.length = l.length ∧ RowsO edC 5 σ.h H8e c (outE (E.take k)) ∧ Ext h1 σ.h ∧ H8e ≤ σ.h.ep)) _ ⟨0, List.replicate l.length AV.nil, rfl, qP _ _, by refine e31.trans ?_; first | rfl | exact yP (by omega) | exact i64w (by omega), ?_⟩ ?_
 · refine ⟨by omega, by simp -implicitDefEqProofs only [push_cast, sevalprocAttr, eq_self], by simp, ⟨fun i a hi => ?_, fun i j a b x hi hj hij hx => ?_⟩, (by repeat' (first | exact Ext.refl _ | assumption | omega | (with_reducible (refine Eg ?_; constructor)))), by simp -implicitDefEqProofs only [push_cast, sevalprocAttr, eq_self]; omega⟩
   · rw [List.getElem?_replicate] at hi
     split at hi
     · cases hi; exact ⟨SlO.nil _ _ _, fun x hx => by simp [idOf] at hx⟩
     · cases hi
   · rw [List.getElem?_replicate] at hi
     split at hi
     · cases hi; simp [idOf] at hx
     · cases hi
 clear e0 e1 e3 e4 e5 e6 e7 e8 e10 e11 e12 e13 e16 e29 e30 e31 e32 e77 e78 e79 e80; rintro nn ⟨env, h2⟩ ⟨k, c, rfl, q, e31, hI⟩; simp only at e31 hI; simp only [kp, and_true, E82_0] at q; have ee : _ ∧ _ := ⟨e31, q⟩; clear e31 q
 obtain ⟨hk, hb8, hcl, hrw, hx8, he8⟩ := hI
 unfold l82_0
 (first | refine yS fun hF => ?_ | refine yY fun hF => ?_ | refine yX fun hF => ?_)
 by_cases hlt : k < E.length
 · have hd : decide ((k : Int) < (E.length : Int)) = true := by simp; omega
   obtain ⟨oe, os, hoe, hob, hol⟩ := hO.slo.blk (by omega)
   subst hoe
   replace hob := (hx8.2 _ hol).trans hob
   have hle8 := hx8.1
   have hfl := UJ wJ E
   have hft := flat_take wJ E hlt
   have hle : k * 5 + 5 ≤ (E.flatMap edC).length := by rw [hfl]; omega
   have hxo := hE _ (List.getElem_mem hlt)
   have htk : E.take (k + 1) = E.take k ++ [E[k]] := by rw [List.take_succ_eq_append_getElem hlt]
   generalize E[k] = x at *
   obtain ⟨x1, x2, x3, x4, x5⟩ := hxo
   obtain ⟨i, hi⟩ : ∃ i : Nat, x.f = i := ⟨x.f.toNat, by omega⟩
   have hca : c[i]? = some (c.getD i .nil) := by rw [gD, List.getElem?_eq_getElem (by omega)]; rfl
   generalize c.getD i .nil = a at hca
   obtain ⟨hra, hrx⟩ := hrw.get i a hca
   have hb40 : ((outE (E.take k) i).length + 1 + ((outE (E.take k) i).length + 1) / 4 + 512) * 40 ≤ 281474976710656 := by have := outE_len E k i; omega
   have hk8 : ∀ g, (killA g a).hp (H8e, H8s) = g.hp (H8e, H8s) := fun g => killA_ne _ _ (fun e => by have := hrx _ e; simp at this)
   have hset : ∀ v, c.take i ++ [v] ++ c.drop (i + 1) = c.set i v := fun v => set_cell c (by omega : i < c.length) v
   have hsp : sepV (.ptr (h2.ep + 1 + 1, 10) 0) a = True := sepV_old (E := h2.ep) (fun x hx => hra.id_le hx) (by show h2.ep < h2.ep + 1 + 1; omega)
   repeat' (first | ((try clear hf); with_reducible refine yD fun env K hE hK hf => ?_; have n := cj21 hE 0 1 3 4 5 6 7 8 10 11 12 13 16 29 30 31 32 77 78 79 80; simp -implicitDefEqProofs only [push_cast, reduceIte, Nat.reduceEqDiff, ee] at n; clear hE ee; have ee := n; clear n) | (with_reducible first | (refine hK _ _ ?_; clear hK K) | (refine Zi ?_; constructor) | refine yB (by decide) ?_ | refine yH (by assumption) ?_ | refine yJ (by assumption) ?_) | (refine yC rfl ?_) | (simp -implicitDefEqProofs only [push_cast, sevalprocAttr, eq_self, ee, hd, hF.at, yV, hob, hft, hb8, hca, hi, hk8, hset, one_sl, hsp]) | (simp (disch := omega) only [yF, yK, yG, yL, hF.at, yV, hca, hi, hk8, hset, one_sl, hsp]) | (refine yE rfl (fun bb => ?_) (fun bb => ?_) <;> simp only [bb]) | (with_reducible refine yI (fun bb => ?_) (fun bb => ?_)) | ((with_reducible refine And.intro ?_ ?_); omega) | (refine goM_of _ _ ((hra.ext (by repeat' (first | exact Ext.refl _ | assumption | omega | (with_reducible (refine Eg ?_; constructor))))).app wJ _ (by decide) (edC_one _) hb40) ?_) | (with_reducible refine yM ?_ ?_))
   have hgrow : ∀ x, idOf a = some x → h1.ep < x.1 := fun x hx => by have := hrx x hx; omega
   refine ⟨_, ?_, k + 1, c.set i (.sl (h2.ep + 1 + 1 + 1, 45) 0 ((outE (E.take k) i).length + 1) 5), rfl, by simp -implicitDefEqProofs only [kp, push_cast, reduceIte, Nat.reduceEqDiff, ee, E82_0, and_self], by first | rfl | exact yP (by omega) | exact i64w (by omega), ?_⟩
   · omega
   · refine ⟨by omega, rfl, by simpa using hcl, ?_, (by repeat' (first | exact Ext.refl _ | assumption | omega | (with_reducible (refine Eg ?_; constructor)))), (by first | omega | (simp -implicitDefEqProofs only [push_cast, sevalprocAttr, eq_self]; first | done | omega))⟩
     rw [outE_next E k i x hi htk]
     refine hrw.app hca (by show h2.ep < h2.ep + 1 + 1 + 1; omega) (by omega) x ?_ ?_ ?_ ?_
     · simp -implicitDefEqProofs (disch := omega) only [yF, yK, yG, yL, qN, YF]
     · exact (by first | omega | (simp -implicitDefEqProofs only [push_cast, sevalprocAttr, eq_self]; first | done | omega))
     · exact (by first | omega | (simp -implicitDefEqProofs only [push_cast, sevalprocAttr, eq_self]; first | done | omega))
     · rintro ⟨xe, xs⟩ hx1 hx2 hx3
       simp only at hx1 hx2
       have hk9 : ∀ g, (killA g a).hp (xe, xs) = g.hp (xe, xs) := fun g => killA_ne _ _ hx3
       simp -implicitDefEqProofs (disch := omega) only [yF, yK, yG, yL, qN, hk9]
 · have hd : decide ((k : Int) < (E.length : Int)) = false := by simp; omega
   obtain rfl : k = E.length := by omega
   rw [List.take_length] at hrw
   have hle8 := hx8.1
   repeat' (first | ((try clear hf); with_reducible refine yD fun env K hE hK hf => ?_; have n := cj21 hE 0 1 3 4 5 6 7 8 10 11 12 13 16 29 30 31 32 77 78 79 80; simp -implicitDefEqProofs only [push_cast, reduceIte, Nat.reduceEqDiff, ee] at n; clear hE ee; have ee := n; clear n) | (with_reducible first | (refine hK _ _ ?_; clear hK K) | (refine Zi ?_; constructor) | refine yB (by decide) ?_ | refine yH (by assumption) ?_ | refine yJ (by assumption) ?_) | (refine yC rfl ?_) | (simp -implicitDefEqProofs only [push_cast, sevalprocAttr, eq_self, ee, hd, hF.at, qD, rep1, rep_map]) | (simp (disch := omega) only [yF, yK, yG, yL, hF.at, rep1, rep_map]) | (refine yE rfl (fun bb => ?_) (fun bb => ?_) <;> simp only [bb]) | (with_reducible refine yI (fun bb => ?_) (fun bb => ?_)) | ((with_reducible refine And.intro ?_ ?_); omega) | (with_reducible refine yM ?_ ?_))
   generalize hH11 : (h2.ep + 1 + 1, 50) = H11 at *
   obtain ⟨H11e, H11s⟩ := H11
   have h11e : H11e = h2.ep + 1 + 1 := by cases hH11; rfl
   refine yN fun env hE => ?_; have n := cj21 hE 0 1 3 4 5 6 7 8 10 11 12 13 16 29 30 31 32 77 78 79 80; simp -implicitDefEqProofs only [push_cast, reduceIte, Nat.reduceEqDiff, ee] at n; clear hE ee; have ee := n; clear n; have E82_2 := ee; obtain ⟨e0, e1, e3, e4, e5, e6, e7, e8, e10, e11, e12, e13, e16, e29, e30, e31, e32, e77, e78, e79, e80⟩ := ee
   refine qC (fun nn σ => ∃ (m : Nat), nn = l.length - m ∧ kp [0, 1, 3, 4, 5, 6, 7, 8, 10, 11, 29, 30, 31, 32] σ.env env ∧ σ.env 12 = i64 ((l.length : Int) - 1 - m) ∧ (m ≤ l.length ∧ σ.h.hp (H11e, H11s) = some ⟨true, (hM l t E m).map iC⟩ ∧ Ext h2 σ.h ∧ H11e ≤ σ.h.ep)) _ ⟨0, rfl, qP _ _, by refine e12.trans ?_; first | rfl | exact yP (by omega) | exact i64w (by omega), ?_⟩ ?_
   · refine ⟨by omega, by simp -implicitDefEqProofs only [push_cast, sevalprocAttr, eq_self]; rfl, (by repeat' (first | exact Ext.refl _ | assumption | omega | (with_reducible (refine Eg ?_; constructor)))), (by first | omega | (simp -implicitDefEqProofs only [push_cast, sevalprocAttr, eq_self]; first | done | omega))⟩
   clear e0 e1 e3 e4 e5 e6 e7 e8 e10 e11 e12 e13 e16 e29 e30 e31 e32 e77 e78 e79 e80; rintro nn ⟨env, h⟩ ⟨m, rfl, q, e12, hI⟩; simp only at e12 hI; simp only [kp, and_true, E82_2] at q; have ee : _ ∧ _ := ⟨e12, q⟩; clear e12 q
   obtain ⟨hm, hb11, hx11, he11⟩ := hI
   unfold l82_2
   (first | refine yS fun hF => ?_ | refine yY fun hF => ?_ | refine yX fun hF => ?_)
   by_cases hlt : m < l.length
   · have hd : decide ((0 : Int) ≤ (l.length : Int) - 1 - m) = true := by simp; omega
     obtain ⟨i, hi⟩ : ∃ i : Nat, (l.length : Int) - 1 - m = i := ⟨l.length - 1 - m, by omega⟩
     rw [hi] at hd ee
     have hil : i < l.length := by omega
     have hr := wL hil .i64
     have hc := clsN_eq l[i]
     have hc4 := wY l[i]
     have hq := tab_l t hc4
     have hml := hM_len l t E m
     have hmb := hM_bnd (t := t) (E := E) ht hE m
     have hM1 : hM l t E (m + 1) = (hM l t E m).set i (hOne (latS t l[i]) (outE E i) (hM l t E m)) := by
      rw [uI hil, show i = l.length - 1 - m by omega]; rfl
     generalize hM l t E m = Hm at *
     have hset : ∀ v, (Hm.map iC).take i ++ [AV.lit (.int .i64 v)] ++ (Hm.map iC).drop (i + 1) = (Hm.set i v).map iC := fun v => set_at iC Hm (by omega) v
     have hcl1 : (Hm.map iC).length = l.length := by simp [hml]
     have hca : c[i]? = some (c.getD i .nil) := by rw [gD, List.getElem?_eq_getElem (by omega)]; rfl
     generalize c.getD i .nil = a at hca
     have hbT2 := (hx11.2 _ (by simp only; omega)).trans ((hx8.2 _ (by simp only; omega)).trans hbT)
     have hb82 := (hx11.2 _ he8).trans hb8
     have hrw2 := hrw.ext hx11
     obtain ⟨hra, hrx⟩ := hrw2.get i a hca
     have hla := hra.len
     have hra2 := (hrw.get i a hca).1
     have hLE : ∀ e ∈ outE E i, e.f = i ∧ edOK l.length e := fun e he => by
      simp only [outE, List.mem_filter, decide_eq_true_eq] at he
      exact ⟨he.2, hE e he.1⟩
     have hLl0 : (outE E i).length ≤ E.length := by simpa [outE] using List.length_filter_le (fun e : Edg => decide (e.f = (i : Int))) E
     generalize outE E i = L at *
     have hLl : L.length ≤ 10000000 := by omega
     repeat' (first | ((try clear hf); with_reducible refine yD fun env K hE hK hf => ?_; have n := cj21 hE 0 1 3 4 5 6 7 8 10 11 12 13 16 29 30 31 32 77 78 79 80; simp -implicitDefEqProofs only [push_cast, reduceIte, Nat.reduceEqDiff, ee] at n; clear hE ee; have ee := n; clear n) | (with_reducible first | (refine hK _ _ ?_; clear hK K) | (refine Zi ?_; constructor) | refine yB (by decide) ?_ | refine yH (by assumption) ?_ | refine yJ (by assumption) ?_) | (refine yC rfl ?_) | (simp -implicitDefEqProofs only [push_cast, sevalprocAttr, eq_self, ee, hd, hF.at, hr, op_0, hbT2, hb11, hc, hq, hset, hcl1, yV, hb82, hca, hla]) | (simp (disch := omega) only [yF, yK, yG, yL, hF.at, hq, hset, hcl1, yV, hca, hla]) | (refine yE rfl (fun bb => ?_) (fun bb => ?_) <;> simp only [bb]) | (with_reducible refine yI (fun bb => ?_) (fun bb => ?_)) | ((with_reducible refine And.intro ?_ ?_); omega) | (refine yO (f15 _) ?_) | (with_reducible refine yM ?_ ?_))
     refine yN fun env hE => ?_; have n := cj21 hE 0 1 3 4 5 6 7 8 10 11 12 13 16 29 30 31 32 77 78 79 80; simp -implicitDefEqProofs only [push_cast, reduceIte, Nat.reduceEqDiff, ee] at n; clear hE ee; have ee := n; clear n; have E82_1 := ee; obtain ⟨e0, e1, e3, e4, e5, e6, e7, e8, e10, e11, e12, e13, e16, e29, e30, e31, e32, e77, e78, e79, e80⟩ := ee
     refine qC (fun nn σ => ∃ (k : Nat), nn = L.length - k ∧ kp [0, 1, 3, 4, 5, 6, 7, 8, 10, 11, 12, 13, 29, 30, 31, 32, 77, 78] σ.env env ∧ σ.env 79 = i64 k ∧ (k ≤ L.length ∧ σ.h.hp (H11e, H11s) = some ⟨true, (Hm.set i ((L.take k).foldl (UX Hm) (latS t l[i]))).map iC⟩ ∧ Ext h2 σ.h ∧ H11e ≤ σ.h.ep)) _ ⟨0, rfl, qP _ _, by refine e79.trans ?_; first | rfl | exact yP (by omega) | exact i64w (by omega), ?_⟩ ?_
     · refine ⟨by omega, by simp -implicitDefEqProofs only [push_cast, sevalprocAttr, eq_self]; rfl, (by repeat' (first | exact Ext.refl _ | assumption | omega | (with_reducible (refine Eg ?_; constructor)))), (by first | omega | (simp -implicitDefEqProofs only [push_cast, sevalprocAttr, eq_self]; first | done | omega))⟩
     clear e0 e1 e3 e4 e5 e6 e7 e8 e10 e11 e12 e13 e16 e29 e30 e31 e32 e77 e78 e79 e80; rintro nn ⟨env, h⟩ ⟨k, rfl, q, e79, hI⟩; simp only at e79 hI; simp only [kp, and_true, E82_1] at q; have ee : _ ∧ _ := ⟨e79, q⟩; clear e79 q
     obtain ⟨hk, hbk, hxk, hek⟩ := hI
     unfold l82_1
     (first | refine yS fun hF => ?_ | refine yY fun hF => ?_ | refine yX fun hF => ?_)
     by_cases hlt : k < L.length
     · have hd : decide ((k : Int) < (L.length : Int)) = true := by simp; omega
       obtain ⟨oe, os, hoe, hob, hol⟩ := hra2.blk (by omega)
       subst hoe
       replace hob := (hxk.2 _ hol).trans hob
       have hle2 := hxk.1
       have hfl := UJ wJ L
       have hft := flat_take wJ L hlt
       have hle : k * 5 + 5 ≤ (L.flatMap edC).length := by rw [hfl]; omega
       have hxo := hLE _ (List.getElem_mem hlt)
       have hfo : (L.take (k + 1)).foldl (UX Hm) (latS t l[i]) = UX Hm ((L.take k).foldl (UX Hm) (latS t l[i])) L[k] := by
        rw [List.take_succ_eq_append_getElem hlt, List.foldl_append]; rfl
       generalize L[k] = x at *
       obtain ⟨hxf, x1, x2, x3, x4, x5⟩ := hxo
       obtain ⟨j, hj⟩ : ∃ j : Nat, x.t = j := ⟨x.t.toNat, by omega⟩
       have hvb := hmb j
       have hst : ∀ v, UX Hm v x = if x.l + Hm.getD j 0 > v then x.l + Hm.getD j 0 else v := fun v => by unfold UX mx; rw [hj]; rfl
       rw [hst] at hfo
       have hGi : ∀ v, ((Hm.set i v).map iC)[i]? = some (i64 v) := fun v => by rw [List.getElem?_map, List.getElem?_set_self (by omega)]; rfl
       have hGj : ∀ v, ((Hm.set i v).map iC)[j]? = some (i64 (Hm.getD j 0)) := fun v => by
        rw [List.getElem?_map, List.getElem?_set_ne (by omega), gD, List.getElem?_eq_getElem (by omega)]; rfl
       have hGl : ∀ v, ((Hm.set i v).map iC).length = l.length := fun v => by simp [hml]
       have hGs : ∀ v w, ((Hm.set i v).map iC).take i ++ [AV.lit (.int .i64 w)] ++ ((Hm.set i v).map iC).drop (i + 1) = (Hm.set i w).map iC := fun v w => by
        rw [← List.set_set v (b := w)]; exact set_at iC (Hm.set i v) (by simp; omega) w
       repeat' (first | ((try clear hf); with_reducible refine yD fun env K hE hK hf => ?_; have n := cj21 hE 0 1 3 4 5 6 7 8 10 11 12 13 16 29 30 31 32 77 78 79 80; simp -implicitDefEqProofs only [push_cast, reduceIte, Nat.reduceEqDiff, ee] at n; clear hE ee; have ee := n; clear n) | (with_reducible first | (refine hK _ _ ?_; clear hK K) | (refine Zi ?_; constructor) | refine yB (by decide) ?_ | refine yH (by assumption) ?_ | refine yJ (by assumption) ?_) | (refine yC rfl ?_) | (simp -implicitDefEqProofs only [push_cast, sevalprocAttr, eq_self, ee, hd, hF.at, yV, hob, hft, hbk, hj, hGi, hGj, hGl, hGs, yZ]) | (simp (disch := omega) only [yF, yK, yG, yL, hF.at, yV, hbk, hGi, hGj, hGl, hGs, yZ]) | (refine yE rfl (fun bb => ?_) (fun bb => ?_) <;> simp only [bb]) | (with_reducible refine yI (fun bb => ?_) (fun bb => ?_)) | ((with_reducible refine And.intro ?_ ?_); omega) | (with_reducible refine yM ?_ ?_))
       refine ⟨_, ?_, k + 1, rfl, by simp -implicitDefEqProofs only [kp, push_cast, reduceIte, Nat.reduceEqDiff, ee, E82_1, and_self], by first | rfl | exact yP (by omega) | exact i64w (by omega), ?_⟩
       · omega
       · refine ⟨by omega, ?_, (by repeat' (first | exact Ext.refl _ | assumption | omega | (with_reducible (refine Eg ?_; constructor)))), (by first | omega | (simp -implicitDefEqProofs only [push_cast, sevalprocAttr, eq_self]; first | done | omega))⟩
         rw [hfo]
     · have hd : decide ((k : Int) < (L.length : Int)) = false := by simp; omega
       obtain rfl : k = L.length := by omega
       rw [List.take_length] at hbk
       repeat' (first | ((try clear hf); with_reducible refine yD fun env K hE hK hf => ?_; have n := cj21 hE 0 1 3 4 5 6 7 8 10 11 12 13 16 29 30 31 32 77 78 79 80; simp -implicitDefEqProofs only [push_cast, reduceIte, Nat.reduceEqDiff, ee] at n; clear hE ee; have ee := n; clear n) | (with_reducible first | (refine hK _ _ ?_; clear hK K) | (refine Zi ?_; constructor) | refine yB (by decide) ?_ | refine yH (by assumption) ?_ | refine yJ (by assumption) ?_) | (refine yC rfl ?_) | (simp -implicitDefEqProofs only [push_cast, sevalprocAttr, eq_self, ee, hd]) | (simp (disch := omega) only [yF, yK, yG, yL]) | (refine yE rfl (fun bb => ?_) (fun bb => ?_) <;> simp only [bb]) | (with_reducible refine yI (fun bb => ?_) (fun bb => ?_)) | ((with_reducible refine And.intro ?_ ?_); omega) | (with_reducible refine yM ?_ ?_))
       refine ⟨_, ?_, m + 1, rfl, by simp -implicitDefEqProofs only [kp, push_cast, reduceIte, Nat.reduceEqDiff, ee, E82_2, and_self], by first | rfl | exact yP (by omega) | exact i64w (by omega), ?_⟩
       · omega
       · refine ⟨by omega, ?_, (by repeat' (first | exact Ext.refl _ | assumption | omega | (with_reducible (refine Eg ?_; constructor)))), (by first | omega | (simp -implicitDefEqProofs only [push_cast, sevalprocAttr, eq_self]; first | done | omega))⟩
         simp -implicitDefEqProofs only [push_cast, sevalprocAttr, eq_self, hbk]
         rw [hM1]
         rfl
   · have hd : decide ((0 : Int) ≤ (l.length : Int) - 1 - m) = false := by simp; omega
     obtain rfl : m = l.length := by omega
     repeat' (first | ((try clear hf); with_reducible refine yD fun env K hE hK hf => ?_; have n := cj21 hE 0 1 3 4 5 6 7 8 10 11 12 13 16 29 30 31 32 77 78 79 80; simp -implicitDefEqProofs only [push_cast, reduceIte, Nat.reduceEqDiff, ee] at n; clear hE ee; have ee := n; clear n) | (with_reducible first | (refine hK _ _ ?_; clear hK K) | (refine Zi ?_; constructor) | refine yB (by decide) ?_ | refine yH (by assumption) ?_ | refine yJ (by assumption) ?_) | (refine yC rfl ?_) | (simp -implicitDefEqProofs only [push_cast, sevalprocAttr, eq_self, ee, hd]) | (simp (disch := omega) only [yF, yK, yG, yL]) | (refine yE rfl (fun bb => ?_) (fun bb => ?_) <;> simp only [bb]) | (with_reducible refine yI (fun bb => ?_) (fun bb => ?_)) | ((with_reducible refine And.intro ?_ ?_); omega) | (with_reducible refine yM ?_ ?_))
     refine ⟨_, rfl, ?_, ?_, ?_, ?_⟩
     · simp -implicitDefEqProofs only [push_cast, sevalprocAttr, eq_self, hb11]
       unfold wH
       rw [hEq]
     · show h0.ep < H11e
       have := hx8.1
       omega
     · exact (by first | omega | (simp -implicitDefEqProofs only [push_cast, sevalprocAttr, eq_self]; first | done | omega))
     · have hX01 : Ext h0 h1 := Ext.tr (by repeat' (first | exact Ext.refl _ | assumption | omega | (with_reducible (refine Eg ?_; constructor)))) hx
       have hX : Ext h0 h := Ext.tr (Ext.tr hX01 hx8) hx11
       exact (by repeat' (first | exact Ext.refl _ | assumption | omega | (with_reducible (refine Eg ?_; constructor))))
theorem f82'e {h0 : Hp} {l : List Opn} {t : Tab} (hl : ∀ o ∈ l, o.ok) (hR : errR l t ≠ 0) :
 HC Try.prog 82 [.row (l.map opC), .agg (tabC t)] h0 fun r h' => r = .tup [.nil, i64 (errR l t)] ∧ Ext h0 h' := by
 refine qJ qM cf82 (by simp) fun hF => ?_
 unfold ac82 re82
 refine yN fun env hE => ?_; have ee := cj21 hE 0 1 3 4 5 6 7 8 10 11 12 13 16 29 30 31 32 77 78 79 80; simp -implicitDefEqProofs only [push_cast] at ee; clear hE
 have hb2 : decide (errR l t ≠ 0) = true := by simpa using hR
 repeat' (first | ((try clear hf); with_reducible refine yD fun env K hE hK hf => ?_; have n := cj21 hE 0 1 3 4 5 6 7 8 10 11 12 13 16 29 30 31 32 77 78 79 80; simp -implicitDefEqProofs only [push_cast, reduceIte, Nat.reduceEqDiff, ee] at n; clear hE ee; have ee := n; clear n) | (with_reducible first | (refine hK _ _ ?_; clear hK K) | (refine Zi ?_; constructor) | refine yB (by decide) ?_ | refine yH (by assumption) ?_ | refine yJ (by assumption) ?_) | (refine yC rfl ?_) | (simp -implicitDefEqProofs only [push_cast, sevalprocAttr, eq_self, ee, hF.at, qD, rep1, hb2]) | (simp (disch := omega) only [yF, yK, yG, yL, hF.at, rep1]) | (refine yE rfl (fun bb => ?_) (fun bb => ?_) <;> simp only [bb]) | (with_reducible refine yI (fun bb => ?_) (fun bb => ?_)) | ((with_reducible refine And.intro ?_ ?_); omega) | (refine qH (HC.mono (of_all hl) ?_); rintro r h1 ⟨hx, hr⟩ hF; rcases hr with ⟨_, hr⟩ | ⟨hr, _⟩; rotate_left; exact absurd hr hR; subst hr) | (with_reducible refine yM ?_ ?_))
 have hX01 : Ext h0 h1 := Ext.tr (by repeat' (first | exact Ext.refl _ | assumption | omega | (with_reducible (refine Eg ?_; constructor)))) hx
 exact (by repeat' (first | exact Ext.refl _ | assumption | omega | (with_reducible (refine Eg ?_; constructor))))
theorem height_all {h0 : Hp} {l : List Opn} {t : Tab} (hl : ∀ o ∈ l, o.ok) :
 HC Try.prog 82 [.row (l.map opC), .agg (tabC t)] h0 fun r h' => Ext h0 h' ∧ ((errR l t ≠ 0 ∧ r = .tup [.nil, i64 (errR l t)]) ∨ (errR l t = 0 ∧ ∃ id, r = .tup [.sl id 0 l.length 1, i64 0] ∧ h'.hp id = some ⟨true, (wH l t).map iC⟩ ∧ h0.ep < id.1 ∧ id.1 ≤ h'.ep)) := by
 by_cases hR : errR l t = 0
 · exact HC.mono (f82 hl hR) fun r h' ⟨id, h1, h2, h3, h4, h5⟩ => ⟨h5, .inr ⟨hR, id, h1, h2, h3, h4⟩⟩
 · exact HC.mono (f82'e hl hR) fun r h' ⟨h1, h2⟩ => ⟨h2, .inl ⟨hR, h1⟩⟩
theorem f55 (o : Opn) : HV Try.prog 55 [.agg (opC o)] (i64 (clsN o)) := by
 refine qK qM cf55 (by simp) rfl ?_ rfl
 unfold ac55 re55
 refine yN fun env hE => ?_; have ee := cj4 hE 0 1 2 3; simp -implicitDefEqProofs only [push_cast] at ee; clear hE
 have hc := clsN_eq o
 repeat' (first | ((try clear hf); with_reducible refine yD fun env K hE hK hf => ?_; have n := cj4 hE 0 1 2 3; simp -implicitDefEqProofs only [push_cast, reduceIte, Nat.reduceEqDiff, ee] at n; clear hE ee; have ee := n; clear n) | (with_reducible first | (refine hK _ _ ?_; clear hK K) | (refine Zi ?_; constructor) | refine yB (by decide) ?_ | refine yH (by assumption) ?_ | refine yJ (by assumption) ?_) | (refine yC rfl ?_) | (simp -implicitDefEqProofs only [push_cast, sevalprocAttr, eq_self, ee, op_0, hc]) | (simp (disch := omega) only [yF, yK, yG, yL]) | ((first | refine yE rfl (fun bb => ?_) (fun bb => ?_) | with_reducible refine yI (fun bb => ?_) (fun bb => ?_)) <;> (first | have bp := oT bb | have bp := oF bb | skip) <;> try simp only [bb]) | ((with_reducible refine And.intro ?_ ?_); omega) | (refine yO (f15 _) ?_) | (with_reducible refine yM ?_ ?_))
def WP (l : List Opn) (t : Tab) : Bool := l.any fun o => decide (t.u (clsN o) = 0)
theorem lack_args (l : List Opn) (t : Tab) : imms [.row (l.map opC), .agg (tabC t)] = true := by
 simp [imms, imm, uM, wV]
theorem f51 (l : List Opn) (t : Tab) (hl : l.length ≤ 1024) : HV Try.prog 51 [.row (l.map opC), .agg (tabC t)] (bl (WP l t)) := by
 refine qK qM cf51 (by simp) (lack_args l t) ?_ rfl
 unfold ac51 re51
 refine yN fun env hE => ?_; have ee := cj9 hE 0 1 3 4 6 7 8 9 10; simp -implicitDefEqProofs only [push_cast] at ee; clear hE
 repeat' (first | ((try clear hf); with_reducible refine yD fun env K hE hK hf => ?_; have n := cj9 hE 0 1 3 4 6 7 8 9 10; simp -implicitDefEqProofs only [push_cast, reduceIte, Nat.reduceEqDiff, ee] at n; clear hE ee; have ee := n; clear n) | (with_reducible first | (refine hK _ _ ?_; clear hK K) | (refine Zi ?_; constructor) | refine yB (by decide) ?_ | refine yH (by assumption) ?_ | refine yJ (by assumption) ?_) | (refine yC rfl ?_) | (simp -implicitDefEqProofs only [push_cast, sevalprocAttr, eq_self, ee, qD]) | (simp (disch := omega) only [yF, yK, yG, yL]) | ((first | refine yE rfl (fun bb => ?_) (fun bb => ?_) | with_reducible refine yI (fun bb => ?_) (fun bb => ?_)) <;> (first | have bp := oT bb | have bp := oF bb | skip) <;> try simp only [bb]) | ((with_reducible refine And.intro ?_ ?_); omega) | (with_reducible refine yM ?_ ?_))
 refine yN fun env hE => ?_; have n := cj9 hE 0 1 3 4 6 7 8 9 10; simp -implicitDefEqProofs only [push_cast, reduceIte, Nat.reduceEqDiff, ee] at n; clear hE ee; have ee := n; clear n; have E51_0 := ee; obtain ⟨e0, e1, e3, e4, e6, e7, e8, e9, e10⟩ := ee
 refine qC (fun nn σ => ∃ (k : Nat), nn = l.length - k ∧ kp [0, 1, 3, 7, 8] σ.env env ∧ σ.env 9 = i64 k ∧ (k ≤ l.length ∧ (∀ o ∈ l.take k, ¬ t.u (clsN o) = 0) ∧ σ.h.hp (2, 3) = some ⟨true, tabC t⟩ ∧ 2 ≤ σ.h.ep)) _ ⟨0, rfl, qP _ _, by refine e9.trans ?_; first | rfl | exact yP (by omega) | exact i64w (by omega), ?_⟩ ?_
 · refine ⟨by omega, by simp, by simp -implicitDefEqProofs only [push_cast, sevalprocAttr, eq_self], by simp -implicitDefEqProofs only [push_cast, sevalprocAttr, eq_self]⟩
 clear e0 e1 e3 e4 e6 e7 e8 e9 e10; rintro nn ⟨env, h⟩ ⟨k, rfl, q, e9, hI⟩; simp only at e9 hI; simp only [kp, and_true, E51_0] at q; have ee : _ ∧ _ := ⟨e9, q⟩; clear e9 q
 obtain ⟨hk, hno, hb3, hep⟩ := hI
 unfold l51_0
 (first | refine yS fun hF => ?_ | refine yY fun hF => ?_ | refine yX fun hF => ?_)
 by_cases hlt : k < l.length
 · have hd : decide ((k : Int) < (l.length : Int)) = true := dT (by omega)
   have hr := wL hlt .i64
   have hq := tab_u t (wY l[k])
   have hc4 := wY l[k]
   have htk : l.take (k + 1) = l.take k ++ [l[k]] := by rw [List.take_succ_eq_append_getElem hlt]
   have hmem : l[k] ∈ l := List.getElem_mem hlt
   generalize l[k] = o at *
   by_cases h0 : t.u (clsN o) = 0
   · have hd2 : decide (t.u (clsN o) = 0) = true := dT h0
     have hE : WP l t = true := by simp only [WP, List.any_eq_true, decide_eq_true_eq]; exact ⟨o, hmem, h0⟩
     repeat' (first | ((try clear hf); with_reducible refine yD fun env K hE hK hf => ?_; have n := cj9 hE 0 1 3 4 6 7 8 9 10; simp -implicitDefEqProofs only [push_cast, reduceIte, Nat.reduceEqDiff, ee] at n; clear hE ee; have ee := n; clear n) | (with_reducible first | (refine hK _ _ ?_; clear hK K) | (refine Zi ?_; constructor) | refine yB (by decide) ?_ | refine yH (by assumption) ?_ | refine yJ (by assumption) ?_) | (refine yC rfl ?_) | (simp -implicitDefEqProofs only [push_cast, sevalprocAttr, eq_self, ee, hd, hF.at, hr, hb3, hq, hd2, hE]) | (simp (disch := omega) only [yF, yK, yG, yL, hF.at, hq]) | ((first | refine yE rfl (fun bb => ?_) (fun bb => ?_) | with_reducible refine yI (fun bb => ?_) (fun bb => ?_)) <;> (first | have bp := oT bb | have bp := oF bb | skip) <;> try simp only [bb]) | ((with_reducible refine And.intro ?_ ?_); omega) | (refine yO (f55 _) ?_) | (with_reducible refine yM ?_ ?_))
   · have hd2 : decide (t.u (clsN o) = 0) = false := dF h0
     repeat' (first | ((try clear hf); with_reducible refine yD fun env K hE hK hf => ?_; have n := cj9 hE 0 1 3 4 6 7 8 9 10; simp -implicitDefEqProofs only [push_cast, reduceIte, Nat.reduceEqDiff, ee] at n; clear hE ee; have ee := n; clear n) | (with_reducible first | (refine hK _ _ ?_; clear hK K) | (refine Zi ?_; constructor) | refine yB (by decide) ?_ | refine yH (by assumption) ?_ | refine yJ (by assumption) ?_) | (refine yC rfl ?_) | (simp -implicitDefEqProofs only [push_cast, sevalprocAttr, eq_self, ee, hd, hF.at, hr, hb3, hq, hd2]) | (simp (disch := omega) only [yF, yK, yG, yL, hF.at, hq]) | ((first | refine yE rfl (fun bb => ?_) (fun bb => ?_) | with_reducible refine yI (fun bb => ?_) (fun bb => ?_)) <;> (first | have bp := oT bb | have bp := oF bb | skip) <;> try simp only [bb]) | ((with_reducible refine And.intro ?_ ?_); omega) | (refine yO (f55 _) ?_) | (with_reducible refine yM ?_ ?_))
     refine ⟨_, ?_, k + 1, rfl, by simp -implicitDefEqProofs only [kp, push_cast, reduceIte, Nat.reduceEqDiff, ee, E51_0, and_self], by first | rfl | exact yP (by omega) | exact i64w (by omega), ?_⟩
     · omega
     · refine ⟨by omega, ?_⟩
       rw [htk]
       intro x hx
       simp only [List.mem_append, List.mem_singleton] at hx
       rcases hx with hx | hx
       · exact hno x hx
       · subst hx; exact h0
 · have hd : decide ((k : Int) < (l.length : Int)) = false := dF (by omega)
   obtain rfl : k = l.length := by omega
   have hE : WP l t = false := by
    rw [List.take_length] at hno
    simp only [WP, List.any_eq_false, decide_eq_true_eq]
    exact hno
   repeat' (first | ((try clear hf); with_reducible refine yD fun env K hE hK hf => ?_; have n := cj9 hE 0 1 3 4 6 7 8 9 10; simp -implicitDefEqProofs only [push_cast, reduceIte, Nat.reduceEqDiff, ee] at n; clear hE ee; have ee := n; clear n) | (with_reducible first | (refine hK _ _ ?_; clear hK K) | (refine Zi ?_; constructor) | refine yB (by decide) ?_ | refine yH (by assumption) ?_ | refine yJ (by assumption) ?_) | (refine yC rfl ?_) | (simp -implicitDefEqProofs only [push_cast, sevalprocAttr, eq_self, ee, hd, hE]) | (simp (disch := omega) only [yF, yK, yG, yL]) | ((first | refine yE rfl (fun bb => ?_) (fun bb => ?_) | with_reducible refine yI (fun bb => ?_) (fun bb => ?_)) <;> (first | have bp := oT bb | have bp := oF bb | skip) <;> try simp only [bb]) | ((with_reducible refine And.intro ?_ ?_); omega) | (with_reducible refine yM ?_ ?_))
def wC (L : List Edg) (cs : List Int) (y : Int) : Bool := L.all fun e => decide (0 ≤ cs.getD e.f.toNat 0) && decide (cs.getD e.f.toNat 0 + e.l ≤ y)
def inE (E : List Edg) (i : Nat) : List Edg := E.filter fun e => decide (e.t = (i : Int))
def jobC (l : List Opn) (t : Tab) (E : Nat) (R : Id) : List AV := .row (l.map opC) :: (tabC t ++ [.sl (E, 15) 0 l.length 1, .sl (E, 18) 0 l.length 1, .ptr R 0])
theorem jobC_14 (l : List Opn) (t : Tab) (E : Nat) (R : Id) : (jobC l t E R)[14]? = some (.sl (E, 15) 0 l.length 1) := rfl
theorem jobC_15 (l : List Opn) (t : Tab) (E : Nat) (R : Id) : (jobC l t E R)[15]? = some (.sl (E, 18) 0 l.length 1) := rfl
theorem jobC_16 (l : List Opn) (t : Tab) (E : Nat) (R : Id) : (jobC l t E R)[16]? = some (.ptr R 0) := rfl
structure JobH (h : Hp) (E : Nat) (c : List AV) (R B : Id) (l : List Opn) (t : Tab) (ES : List Edg) (cs : List Int) (m : List ((Int × Int) × Int)) : Prop where
 hj : h.hp (E, 20) = some ⟨true, jobC l t E R⟩
 hr : h.hp (E, 15) = some ⟨true, c⟩
 hc : h.hp (E, 18) = some ⟨true, cs.map iC⟩
 lc : c.length = l.length
 ls : cs.length = l.length
 rw : RowsO edC 5 h E c (inE ES)
 rs : RsvH h R B t m
 lR : E < R.1
 lE : E ≤ h.ep
theorem JobH.ext {h g : Hp} {E : Nat} {c : List AV} {R B : Id} {l : List Opn} {t : Tab} {ES : List Edg} {cs : List Int} {m : List ((Int × Int) × Int)} (j : JobH h E c R B l t ES cs m) (he : Ext h g) (hm : g.mp B = h.mp B) : JobH g E c R B l t ES cs m :=
 ⟨(he.2 _ j.lE).trans j.hj, (he.2 _ j.lE).trans j.hr, (he.2 _ j.lE).trans j.hc, j.lc, j.ls, j.rw.ext he, j.rs.ext he hm, j.lR, Nat.le_trans j.lE he.1⟩
theorem f53 {h0 : Hp} {E : Nat} {c : List AV} {R B : Id} {l : List Opn} {t : Tab} {ES : List Edg} {cs : List Int} {m : List ((Int × Int) × Int)} {i : Nat} {y : Int} (j : JobH h0 E c R B l t ES cs m) (hi : i < l.length) (hE : ∀ e ∈ ES, edOK l.length e)
 (hcs : ∀ x ∈ cs, -1 ≤ x ∧ x ≤ 65536) (hEl : ES.length ≤ 10000000) :
 HC Try.prog 53 [.ptr (E, 20) 0, i64 i, i64 y] h0 fun r h' => r = bl (wC (inE ES i) cs y) ∧ JobH h' E c R B l t ES cs m ∧ Ext h0 h' := by
 refine qJ qM cf53 (by simp) fun hF => ?_
 unfold ac53 re53
 refine yN fun env hE => ?_; have ee := cj10 hE 0 1 2 6 8 9 16 17 18 19; simp -implicitDefEqProofs only [push_cast] at ee; clear hE
 have hj := j.hj
 have hr := j.hr
 have hca : c[i]? = some (c.getD i .nil) := by rw [gD, List.getElem?_eq_getElem (by have := j.lc; omega)]; rfl
 have hil : (i : Int) < l.length := by omega
 generalize c.getD i .nil = a at hca
 obtain ⟨hra, hrx⟩ := j.rw.get i a hca
 have hla := hra.len
 have hLl0 : (inE ES i).length ≤ ES.length := by simpa [inE] using List.length_filter_le (fun e : Edg => decide (e.t = (i : Int))) ES
 have h14 := jobC_14 l t E R
 have hLE : ∀ e ∈ inE ES i, edOK l.length e := fun e he => by simp only [inE, List.mem_filter] at he; exact hE e he.1
 generalize hL : inE ES i = L at *
 repeat' (first | ((try clear hf); with_reducible refine yD fun env K hE hK hf => ?_; have n := cj10 hE 0 1 2 6 8 9 16 17 18 19; simp -implicitDefEqProofs only [push_cast, reduceIte, Nat.reduceEqDiff, ee] at n; clear hE ee; have ee := n; clear n) | (with_reducible first | (refine hK _ _ ?_; clear hK K) | (refine Zi ?_; constructor) | refine yB (by decide) ?_ | refine yH (by assumption) ?_ | refine yJ (by assumption) ?_) | (refine yC rfl ?_) | (simp -implicitDefEqProofs only [push_cast, sevalprocAttr, eq_self, ee, hj, h14, hr, hca, hla]) | (simp (disch := omega) only [yF, yK, yG, yL, hca, hla]) | ((first | refine yE rfl (fun bb => ?_) (fun bb => ?_) | with_reducible refine yI (fun bb => ?_) (fun bb => ?_)) <;> (first | have bp := oT bb | have bp := oF bb | skip) <;> try simp only [bb]) | ((with_reducible refine And.intro ?_ ?_); omega) | (with_reducible refine yM ?_ ?_))
 refine yN fun env hE => ?_; have n := cj10 hE 0 1 2 6 8 9 16 17 18 19; simp -implicitDefEqProofs only [push_cast, reduceIte, Nat.reduceEqDiff, ee] at n; clear hE ee; have ee := n; clear n; have E53_0 := ee; obtain ⟨e0, e1, e2, e6, e8, e9, e16, e17, e18, e19⟩ := ee
 refine qC (fun nn σ => ∃ (k : Nat), nn = L.length - k ∧ kp [0, 1, 2, 16, 17] σ.env env ∧ σ.env 18 = i64 k ∧ (k ≤ L.length ∧ (∀ e ∈ L.take k, 0 ≤ cs.getD e.f.toNat 0 ∧ cs.getD e.f.toNat 0 + e.l ≤ y) ∧ JobH σ.h E c R B l t ES cs m ∧ Ext h0 σ.h)) _ ⟨0, rfl, qP _ _, by refine e18.trans ?_; first | rfl | exact yP (by omega) | exact i64w (by omega), ?_⟩ ?_
 · exact ⟨by omega, by simp, j.ext (by repeat' (first | exact Ext.refl _ | assumption | omega | (with_reducible (refine Eg ?_; constructor)))) rfl, (by repeat' (first | exact Ext.refl _ | assumption | omega | (with_reducible (refine Eg ?_; constructor))))⟩
 clear hF hj hr
 clear e0 e1 e2 e6 e8 e9 e16 e17 e18 e19; rintro nn ⟨env, h2⟩ ⟨k, rfl, q, e18, hI⟩; simp only at e18 hI; simp only [kp, and_true, E53_0] at q; have ee : _ ∧ _ := ⟨e18, q⟩; clear e18 q
 obtain ⟨hk, hno, j2, hx⟩ := hI
 unfold l53_0
 (first | refine yS fun hF => ?_ | refine yY fun hF => ?_ | refine yX fun hF => ?_)
 by_cases hlt : k < L.length
 · have hd : decide ((k : Int) < (L.length : Int)) = true := dT (by omega)
   obtain ⟨oe, os, hoe, hob, hol⟩ := hra.blk (by omega)
   subst hoe
   replace hob := (hx.2 _ hol).trans hob
   have hxe := hx.1
   have hfl := UJ wJ L
   have hft := flat_take wJ L hlt
   have hle : k * 5 + 5 ≤ (L.flatMap edC).length := by rw [hfl]; omega
   have hxo := hLE _ (List.getElem_mem hlt)
   have hmem := List.getElem_mem hlt
   have htk : L.take (k + 1) = L.take k ++ [L[k]] := by rw [List.take_succ_eq_append_getElem hlt]
   generalize L[k] = x at *
   obtain ⟨x1, x2, x3, x4, x5⟩ := hxo
   obtain ⟨f, hf⟩ : ∃ f : Nat, x.f = f := ⟨x.f.toNat, by omega⟩
   have hj := j2.hj
   have hc := j2.hc
   have h15 := jobC_15 l t E R
   have hfl2 : f < cs.length := by have := j2.ls; omega
   have hft2 : x.f.toNat = f := by omega
   have hcq : (cs.map iC)[f]? = some (i64 (cs.getD f 0)) := by simp [iC, gD, hfl2]
   have hcb := hcs (cs.getD f 0) (by rw [gD, List.getElem?_eq_getElem hfl2]; exact List.getElem_mem hfl2)
   generalize hv : cs.getD f 0 = v at *
   have hil2 : x.f < l.length := by omega
   rw [← hft2] at hcq
   have hw : IntKind.i64.wrap (v + x.l) = v + x.l := qS (by omega) (by omega)
   by_cases hok : 0 ≤ v ∧ v + x.l ≤ y
   · have d1 : decide (v < 0) = false := dF (by omega)
     have d2 : decide (y < v + x.l) = false := dF (by omega)
     repeat' (first | ((try clear hf); with_reducible refine yD fun env K hE hK hf => ?_; have n := cj10 hE 0 1 2 6 8 9 16 17 18 19; simp -implicitDefEqProofs only [push_cast, reduceIte, Nat.reduceEqDiff, ee] at n; clear hE ee; have ee := n; clear n) | (with_reducible first | (refine hK _ _ ?_; clear hK K) | (refine Zi ?_; constructor) | refine yB (by decide) ?_ | refine yH (by assumption) ?_ | refine yJ (by assumption) ?_) | (refine yC rfl ?_) | (simp -implicitDefEqProofs only [push_cast, sevalprocAttr, eq_self, ee, hd, hF.at, yV, hob, hft, hj, h15, hc, hcq, d1, d2, hw]) | (simp (disch := omega) only [yF, yK, yG, yL, hF.at, yV]) | ((first | refine yE rfl (fun bb => ?_) (fun bb => ?_) | with_reducible refine yI (fun bb => ?_) (fun bb => ?_)) <;> (first | have bp := oT bb | have bp := oF bb | skip) <;> try simp only [bb]) | ((with_reducible refine And.intro ?_ ?_); omega) | (with_reducible refine yM ?_ ?_))
     refine ⟨_, ?_, k + 1, rfl, by simp -implicitDefEqProofs only [kp, push_cast, reduceIte, Nat.reduceEqDiff, ee, E53_0, and_self], by first | rfl | exact yP (by omega) | exact i64w (by omega), ?_⟩
     · omega
     · refine ⟨by omega, ?_, j2.ext (by repeat' (first | exact Ext.refl _ | assumption | omega | (with_reducible (refine Eg ?_; constructor)))) rfl, (by repeat' (first | exact Ext.refl _ | assumption | omega | (with_reducible (refine Eg ?_; constructor))))⟩
       rw [htk]
       intro e he
       simp only [List.mem_append, List.mem_singleton] at he
       rcases he with he | he
       · exact hno e he
       · subst he; rw [hft2, hv]; exact hok
   · have hE : wC L cs y = false := by
      rw [Bool.eq_false_iff]
      intro h
      simp only [wC, List.all_eq_true, Bool.and_eq_true, decide_eq_true_eq] at h
      have := h x hmem
      rw [hft2, hv] at this
      exact hok this
     by_cases hv0 : v < 0
     · have d1 : decide (v < 0) = true := dT hv0
       repeat' (first | ((try clear hf); with_reducible refine yD fun env K hE hK hf => ?_; have n := cj10 hE 0 1 2 6 8 9 16 17 18 19; simp -implicitDefEqProofs only [push_cast, reduceIte, Nat.reduceEqDiff, ee] at n; clear hE ee; have ee := n; clear n) | (with_reducible first | (refine hK _ _ ?_; clear hK K) | (refine Zi ?_; constructor) | refine yB (by decide) ?_ | refine yH (by assumption) ?_ | refine yJ (by assumption) ?_) | (refine yC rfl ?_) | (simp -implicitDefEqProofs only [push_cast, sevalprocAttr, eq_self, ee, hd, hF.at, yV, hob, hft, hj, h15, hc, hcq, d1, hw, hE]) | (simp (disch := omega) only [yF, yK, yG, yL, hF.at, yV]) | ((first | refine yE rfl (fun bb => ?_) (fun bb => ?_) | with_reducible refine yI (fun bb => ?_) (fun bb => ?_)) <;> (first | have bp := oT bb | have bp := oF bb | skip) <;> try simp only [bb]) | ((with_reducible refine And.intro ?_ ?_); omega) | (with_reducible refine yM ?_ ?_))
       exact ⟨j2.ext (by repeat' (first | exact Ext.refl _ | assumption | omega | (with_reducible (refine Eg ?_; constructor)))) rfl, (by repeat' (first | exact Ext.refl _ | assumption | omega | (with_reducible (refine Eg ?_; constructor))))⟩
     · have d1 : decide (v < 0) = false := dF hv0
       have d2 : decide (y < v + x.l) = true := dT (by omega)
       repeat' (first | ((try clear hf); with_reducible refine yD fun env K hE hK hf => ?_; have n := cj10 hE 0 1 2 6 8 9 16 17 18 19; simp -implicitDefEqProofs only [push_cast, reduceIte, Nat.reduceEqDiff, ee] at n; clear hE ee; have ee := n; clear n) | (with_reducible first | (refine hK _ _ ?_; clear hK K) | (refine Zi ?_; constructor) | refine yB (by decide) ?_ | refine yH (by assumption) ?_ | refine yJ (by assumption) ?_) | (refine yC rfl ?_) | (simp -implicitDefEqProofs only [push_cast, sevalprocAttr, eq_self, ee, hd, hF.at, yV, hob, hft, hj, h15, hc, hcq, d1, d2, hw, hE]) | (simp (disch := omega) only [yF, yK, yG, yL, hF.at, yV]) | ((first | refine yE rfl (fun bb => ?_) (fun bb => ?_) | with_reducible refine yI (fun bb => ?_) (fun bb => ?_)) <;> (first | have bp := oT bb | have bp := oF bb | skip) <;> try simp only [bb]) | ((with_reducible refine And.intro ?_ ?_); omega) | (with_reducible refine yM ?_ ?_))
       exact ⟨j2.ext (by repeat' (first | exact Ext.refl _ | assumption | omega | (with_reducible (refine Eg ?_; constructor)))) rfl, (by repeat' (first | exact Ext.refl _ | assumption | omega | (with_reducible (refine Eg ?_; constructor))))⟩
 · have hd : decide ((k : Int) < (L.length : Int)) = false := dF (by omega)
   obtain rfl : k = L.length := by omega
   have hE : wC L cs y = true := by
    rw [List.take_length] at hno
    simp only [wC, List.all_eq_true, Bool.and_eq_true, decide_eq_true_eq]
    exact hno
   repeat' (first | ((try clear hf); with_reducible refine yD fun env K hE hK hf => ?_; have n := cj10 hE 0 1 2 6 8 9 16 17 18 19; simp -implicitDefEqProofs only [push_cast, reduceIte, Nat.reduceEqDiff, ee] at n; clear hE ee; have ee := n; clear n) | (with_reducible first | (refine hK _ _ ?_; clear hK K) | (refine Zi ?_; constructor) | refine yB (by decide) ?_ | refine yH (by assumption) ?_ | refine yJ (by assumption) ?_) | (refine yC rfl ?_) | (simp -implicitDefEqProofs only [push_cast, sevalprocAttr, eq_self, ee, hd, hE]) | (simp (disch := omega) only [yF, yK, yG, yL]) | ((first | refine yE rfl (fun bb => ?_) (fun bb => ?_) | with_reducible refine yI (fun bb => ?_) (fun bb => ?_)) <;> (first | have bp := oT bb | have bp := oF bb | skip) <;> try simp only [bb]) | ((with_reducible refine And.intro ?_ ?_); omega) | (with_reducible refine yM ?_ ?_))
   exact ⟨j2.ext (by repeat' (first | exact Ext.refl _ | assumption | omega | (with_reducible (refine Eg ?_; constructor)))) rfl, (by repeat' (first | exact Ext.refl _ | assumption | omega | (with_reducible (refine Eg ?_; constructor))))⟩
def fset (d : Nat → Int) (k : Nat) (v : Int) : Nat → Int := fun j => if j = k then v else d j
def arrC (n : Nat) (d : Nat → Int) : List AV := (List.range n).map fun k => i64 (d k)
theorem WY (n : Nat) (d : Nat → Int) : (arrC n d).length = n := by simp [arrC]
theorem YJ {n : Nat} (d : Nat → Int) {k : Nat} (hk : k < n) : (arrC n d)[k]? = some (i64 (d k)) := by simp [arrC, hk]
theorem WX {n : Nat} (d : Nat → Int) {k : Nat} (hk : k < n) (v : Int) : (arrC n d).take k ++ [AV.lit (.int .i64 v)] ++ (arrC n d).drop (k + 1) = arrC n (fset d k v) := by
 apply List.ext_getElem?
 intro r
 by_cases hr : r < n
 · rw [YJ _ hr]
   by_cases h1 : r < k
   · rw [List.append_assoc, List.getElem?_append_left (by simp [WY]; omega), List.getElem?_take, if_pos h1, YJ _ hr, fset, if_neg (by omega)]
   · rw [List.append_assoc, List.getElem?_append_right (by simp [WY]; omega)]
     by_cases h2 : r = k
     · subst h2; simp [WY, fset, Nat.min_eq_left (Nat.le_of_lt hk)]
     · rw [fset, if_neg h2, List.getElem?_append_right (by simp [WY]; omega), List.getElem?_drop]
       simp only [List.length_take, WY, List.length_cons, List.length_nil]
       rw [show k + 1 + (r - min k n - (0 + 1)) = r from by omega, YJ _ hr]
 · rw [List.getElem?_eq_none (by simp [WY]; omega), List.getElem?_eq_none (by simp [WY]; omega)]
theorem arrC_congr {n : Nat} {d d' : Nat → Int} (h : ∀ k, k < n → d k = d' k) : arrC n d = arrC n d' := by
 unfold arrC
 apply List.map_congr_left
 intro k hk
 rw [h k (by simpa using hk)]
attribute [push_cast] WY
structure Fr1 (x : Id) (h g : Hp) : Prop where
 ep : h.ep ≤ g.ep
 hp : ∀ y : Id, y.1 ≤ h.ep → y ≠ x → g.hp y = h.hp y
theorem Fr1.refl (x : Id) (h : Hp) : Fr1 x h h := ⟨Nat.le_refl _, fun _ _ _ => rfl⟩
theorem Fr1.trans {x : Id} {a b c : Hp} (h : Fr1 x a b) (k : Fr1 x b c) : Fr1 x a c := ⟨Nat.le_trans h.ep k.ep, fun y hy hn => (k.hp y (Nat.le_trans hy h.ep) hn).trans (h.hp y hy hn)⟩
theorem Fr1.tick {x : Id} {a b : Hp} (h : Fr1 x a b) : Fr1 x a b.tick := ⟨Nat.le_succ_of_le h.ep, h.hp⟩
theorem Fr1.put {x : Id} {a b : Hp} (h : Fr1 x a b) (c : List AV) : Fr1 x a (b.put x c) := ⟨h.ep, fun y hy hn => (YD _ _ _ _ hn).trans (h.hp y hy hn)⟩
theorem Fr1.push {x : Id} {a b : Hp} (h : Fr1 x a b) {e s : Nat} (he : a.ep < e) (c : List AV) : Fr1 x a (b.push (e, s) c) := ⟨h.ep, fun y hy hn => (WI _ _ _ _ (fun e' => by rw [e'] at hy; simp at hy; omega)).trans (h.hp y hy hn)⟩
def WD (d : Nat → Int) (a b m : Nat) : Nat → Int := fun k => if a ≤ k ∧ k < a + m then d (k - a + b) else if b ≤ k ∧ k < b + m then d (k - b + a) else d k
theorem swapS_zero (d : Nat → Int) (a b : Nat) : WD d a b 0 = d := by
 funext k; unfold WD; rw [if_neg (by omega), if_neg (by omega)]
theorem swapS_succ (d : Nat → Int) {a b m k : Nat} (h : a + m ≤ b) (hk : k < m) : fset (fset (WD d a b k) (a + k) (WD d a b k (b + k))) (b + k) (WD d a b k (a + k)) = WD d a b (k + 1) := by
 have h1 : WD d a b k (b + k) = d (b + k) := by unfold WD; rw [if_neg (by omega), if_neg (by omega)]
 have h2 : WD d a b k (a + k) = d (a + k) := by unfold WD; rw [if_neg (by omega), if_neg (by omega)]
 rw [h1, h2]
 funext j
 simp only [WD, fset]
 (repeat' split) <;> first | rfl | (exfalso; omega) | (congr 1; omega)
def SortQ (h0 : Hp) (id : Id) (n : Nat) (d' : (Nat → Int) → Prop) (r : AV) (h' : Hp) : Prop := r = .tup [] ∧ Fr1 id h0 h' ∧ ∃ d, h'.hp id = some ⟨true, arrC n d⟩ ∧ d' d
set_option maxHeartbeats 1000000 in
theorem f169 {h0 : Hp} {id : Id} {n : Nat} {d : Nat → Int} {f : AV} (hb : h0.hp id = some ⟨true, arrC n d⟩) (hi : id.1 ≤ h0.ep) (hn : n ≤ 1000000) {a b m : Nat} (h1 : a + m ≤ b) (h2 : b + m ≤ n) :
 HC Try.prog 169 [.sl id 0 n 1, i64 a, i64 b, i64 m, f] h0 (SortQ h0 id n fun d' => d' = WD d a b m) := by
 refine qJ qM cf169 (by simp) fun hF => ?_
 unfold ac169 re169
 refine yN fun env hE => ?_; have ee := cj5 hE 0 1 2 3 10; simp -implicitDefEqProofs only [push_cast] at ee; clear hE
 obtain ⟨ie, is⟩ := id
 simp only at hi
 repeat' (first | ((try clear hf); with_reducible refine yD fun env K hE hK hf => ?_; have n := cj5 hE 0 1 2 3 10; simp -implicitDefEqProofs only [push_cast, reduceIte, Nat.reduceEqDiff, ee] at n; clear hE ee; have ee := n; clear n) | (with_reducible first | (refine hK _ _ ?_; clear hK K) | (refine Zi ?_; constructor) | refine yB (by decide) ?_ | refine yH (by assumption) ?_ | refine yJ (by assumption) ?_) | (refine yC rfl ?_) | (simp -implicitDefEqProofs only [push_cast, sevalprocAttr, eq_self, ee]) | (simp (disch := omega) only [yF, yK, yG, yL]) | ((first | refine yE rfl (fun bb => ?_) (fun bb => ?_) | with_reducible refine yI (fun bb => ?_) (fun bb => ?_)) <;> (first | have bp := oT bb | have bp := oF bb | skip) <;> try simp only [bb]) | ((with_reducible refine And.intro ?_ ?_); omega) | (with_reducible refine yM ?_ ?_))
 refine yN fun env hE => ?_; have n := cj5 hE 0 1 2 3 10; simp -implicitDefEqProofs only [push_cast, reduceIte, Nat.reduceEqDiff, ee] at n; clear hE ee; have ee := n; clear n; have E169_0 := ee; obtain ⟨e0, e1, e2, e3, e10⟩ := ee
 refine qC (fun nn σ => ∃ (k : Nat), nn = m - k ∧ kp [0, 1, 2, 3] σ.env env ∧ σ.env 10 = i64 k ∧ (k ≤ m ∧ σ.h.hp (ie, is) = some ⟨true, arrC n (WD d a b k)⟩ ∧ Fr1 (ie, is) h0 σ.h)) _ ⟨0, rfl, qP _ _, by refine e10.trans ?_; first | rfl | exact yP (by omega) | exact i64w (by omega), ?_⟩ ?_
 · exact ⟨by omega, by simp -implicitDefEqProofs only [push_cast, sevalprocAttr, eq_self, swapS_zero, hb], (Fr1.refl _ _).tick.tick⟩
 clear e0 e1 e2 e3 e10; rintro nn ⟨env, h⟩ ⟨k, rfl, q, e10, hI⟩; simp only at e10 hI; simp only [kp, and_true, E169_0] at q; have ee : _ ∧ _ := ⟨e10, q⟩; clear e10 q
 obtain ⟨hk, hbk, hx⟩ := hI
 unfold l169_0
 (first | refine yS fun hF => ?_ | refine yY fun hF => ?_ | refine yX fun hF => ?_)
 have hle := hx.ep
 by_cases hlt : k < m
 · have hd : decide ((k : Int) < (m : Int)) = true := dT (by omega)
   have ht1 : ((a : Int) + (k : Int)).toNat = a + k := by omega
   have ht2 : ((b : Int) + (k : Int)).toNat = b + k := by omega
   have ha1 := fun D => YJ (n := n) D (k := a + k) (by omega)
   have ha2 := fun D => YJ (n := n) D (k := b + k) (by omega)
   have hp1 := fun D => WX (n := n) D (k := a + k) (by omega)
   have hp2 := fun D => WX (n := n) D (k := b + k) (by omega)
   repeat' (first | ((try clear hf); with_reducible refine yD fun env K hE hK hf => ?_; have n := cj5 hE 0 1 2 3 10; simp -implicitDefEqProofs only [push_cast, reduceIte, Nat.reduceEqDiff, ee] at n; clear hE ee; have ee := n; clear n) | (with_reducible first | (refine hK _ _ ?_; clear hK K) | (refine Zi ?_; constructor) | refine yB (by decide) ?_ | refine yH (by assumption) ?_ | refine yJ (by assumption) ?_) | (refine yC rfl ?_) | (simp -implicitDefEqProofs only [push_cast, sevalprocAttr, eq_self, ee, hd, hbk, ht1, ht2, ha1, ha2, hp1, hp2]) | (simp (disch := omega) only [yF, yK, yG, yL, hbk, ht1, ht2, ha1, ha2, hp1, hp2]) | ((first | refine yE rfl (fun bb => ?_) (fun bb => ?_) | with_reducible refine yI (fun bb => ?_) (fun bb => ?_)) <;> (first | have bp := oT bb | have bp := oF bb | skip) <;> try simp only [bb]) | ((with_reducible refine And.intro ?_ ?_); omega) | (with_reducible refine yM ?_ ?_))
   refine ⟨_, ?_, k + 1, rfl, by simp -implicitDefEqProofs only [kp, push_cast, reduceIte, Nat.reduceEqDiff, ee, E169_0, and_self], by first | rfl | exact yP (by omega) | exact i64w (by omega), ?_⟩
   · omega
   · refine ⟨by omega, ?_, ?_⟩
     · rw [← swapS_succ d h1 hlt]
     · exact ((hx.tick.tick.put _).put _).tick
 · have hd : decide ((k : Int) < (m : Int)) = false := dF (by omega)
   obtain rfl : k = m := by omega
   repeat' (first | ((try clear hf); with_reducible refine yD fun env K hE hK hf => ?_; have n := cj5 hE 0 1 2 3 10; simp -implicitDefEqProofs only [push_cast, reduceIte, Nat.reduceEqDiff, ee] at n; clear hE ee; have ee := n; clear n) | (with_reducible first | (refine hK _ _ ?_; clear hK K) | (refine Zi ?_; constructor) | refine yB (by decide) ?_ | refine yH (by assumption) ?_ | refine yJ (by assumption) ?_) | (refine yC rfl ?_) | (simp -implicitDefEqProofs only [push_cast, sevalprocAttr, eq_self, ee, hd, hbk]) | (simp (disch := omega) only [yF, yK, yG, yL, hbk]) | ((first | refine yE rfl (fun bb => ?_) (fun bb => ?_) | with_reducible refine yI (fun bb => ?_) (fun bb => ?_)) <;> (first | have bp := oT bb | have bp := oF bb | skip) <;> try simp only [bb]) | ((with_reducible refine And.intro ?_ ?_); omega) | (with_reducible refine yM ?_ ?_))
   exact ⟨rfl, hx.tick, _, hbk, rfl⟩
theorem sepV_new {a : AV} {i : Id} {o : Nat} {E : Nat} (ha : ∀ x, idOf a = some x → E < x.1) (hi : i.1 ≤ E) : sepV (.ptr i o) a = True := by
 simp only [sepV, eq_iff_iff, iff_true]
 split
 · rename_i x y h1 h2
   intro e
   have := ha y h2
   simp [idOf] at h1
   rw [h1, e] at hi
   omega
 · trivial
def jobD (l : List Opn) (t : Tab) (E : Nat) (x : AV) : List AV := .row (l.map opC) :: (tabC t ++ [.sl (E, 15) 0 l.length 1, .sl (E, 18) 0 l.length 1, x])
theorem jobD_14 (l : List Opn) (t : Tab) (E : Nat) (x : AV) : (jobD l t E x)[14]? = some (.sl (E, 15) 0 l.length 1) := rfl
theorem jobD_15 (l : List Opn) (t : Tab) (E : Nat) (x : AV) : (jobD l t E x)[15]? = some (.sl (E, 18) 0 l.length 1) := rfl
theorem jobD_len (l : List Opn) (t : Tab) (E : Nat) (x : AV) : (jobD l t E x).length = 17 := rfl
theorem jobD_one (l : List Opn) (t : Tab) (E : Nat) (x : AV) (hx : one x = true) : (jobD l t E x).all one = true := by
 show (true && (true && (true && (true && (true && (true && (true && (true && (true && (true && (true && (true && (true && (true && (true && (true && (one x && true)))))))))))))))))  = true
 rw [hx]; rfl
theorem jobD_set (l : List Opn) (t : Tab) (E : Nat) (x : AV) (y : AV) : (jobD l t E x).take 16 ++ [y] ++ (jobD l t E x).drop 17 = jobD l t E y := rfl
theorem inE_next (E : List Edg) (k : Nat) (x : Edg) {i : Nat} (hi : x.t = i) (htk : E.take (k + 1) = E.take k ++ [x]) : inE (E.take (k + 1)) = fun j => if j = i then inE (E.take k) i ++ [x] else inE (E.take k) j := by
 funext j
 rw [htk]
 unfold inE
 rw [List.filter_append]
 by_cases e : j = i
 · subst e
   simp [hi]
 · rw [if_neg e]
   have : ¬ (x.t = (j : Int)) := by omega
   simp [this]
set_option maxHeartbeats 1000000 in
theorem f52 {h0 : Hp} {l : List Opn} {t : Tab} (hl : ∀ o ∈ l, o.ok) (hR : errR l t = 0) :
 HC Try.prog 52 [.row (l.map opC), .agg (tabC t)] h0 fun r h' => ∃ E c R B, r = .ptr (E, 20) 0 ∧ h0.ep < E ∧ JobH h' E c R B l t (YP l t l.length) (List.replicate l.length (-1)) [] ∧ Ext h0 h' := by
 refine qJ qM cf52 (by simp) fun hF => ?_
 unfold ac52 re52
 refine yN fun env hE => ?_; have ee := cj15 hE 0 1 3 4 5 6 9 10 27 28 29 30 56 57 58; simp -implicitDefEqProofs only [push_cast] at ee; clear hE
 obtain ⟨ht, hn, hop⟩ := wX hR
 have hE := uN (l := l) ht l.length
 have hEl := uZ l t l.length l.length (Nat.le_refl _)
 generalize hEq : YP l t l.length = E at hE hEl
 have hmul : 5 * l.length * l.length ≤ 5 * 1024 * 1024 := Nat.mul_le_mul (by omega) (by omega)
 repeat' (first | ((try clear hf); with_reducible refine yD fun env K hE hK hf => ?_; have n := cj15 hE 0 1 3 4 5 6 9 10 27 28 29 30 56 57 58; simp -implicitDefEqProofs only [push_cast, reduceIte, Nat.reduceEqDiff, ee] at n; clear hE ee; have ee := n; clear n) | (with_reducible first | (refine hK _ _ ?_; clear hK K) | (refine Zi ?_; constructor) | refine yB (by decide) ?_ | refine yH (by assumption) ?_ | refine yJ (by assumption) ?_) | (refine yC rfl ?_) | (simp -implicitDefEqProofs only [push_cast, sevalprocAttr, eq_self, ee, hF.at, qD, rep1]) | (simp (disch := omega) only [yF, yK, yG, yL, hF.at, rep1]) | ((first | refine yE rfl (fun bb => ?_) (fun bb => ?_) | with_reducible refine yI (fun bb => ?_) (fun bb => ?_)) <;> (first | have bp := oT bb | have bp := oF bb | skip) <;> try simp only [bb]) | ((with_reducible refine And.intro ?_ ?_); omega) | (with_reducible refine yM ?_ ?_))
 refine Eq.mpr (goV_congr (r' := some (.agg (jobD l t (h0.ep + 1 + 1 + 1) (.lit (.pointer none))))) (by rfl)) ?_
 repeat' (first | ((try clear hf); with_reducible refine yD fun env K hE hK hf => ?_; have n := cj15 hE 0 1 3 4 5 6 9 10 27 28 29 30 56 57 58; simp -implicitDefEqProofs only [push_cast, reduceIte, Nat.reduceEqDiff, ee] at n; clear hE ee; have ee := n; clear n) | (with_reducible first | (refine hK _ _ ?_; clear hK K) | (refine Zi ?_; constructor) | refine yB (by decide) ?_ | refine yH (by assumption) ?_ | refine yJ (by assumption) ?_) | (refine yC rfl ?_) | (simp -implicitDefEqProofs only [push_cast, sevalprocAttr, eq_self, ee, hF.at, qD, rep1, jobD_len, jobD_one]) | (simp (disch := omega) only [yF, yK, yG, yL, hF.at, rep1, jobD_len, jobD_one]) | ((first | refine yE rfl (fun bb => ?_) (fun bb => ?_) | with_reducible refine yI (fun bb => ?_) (fun bb => ?_)) <;> (first | have bp := oT bb | have bp := oF bb | skip) <;> try simp only [bb]) | ((with_reducible refine And.intro ?_ ?_); omega) | (refine qH (HC.mono (of_all hl) ?_); rintro r h1 ⟨hx, hr⟩ hF1; rcases hr with ⟨hr, _⟩ | ⟨_, out, hr, hO⟩; exact absurd hR hr; subst hr; rw [hEq] at hO; have hOl := hO.slo.len) | (with_reducible refine yM ?_ ?_))
 generalize hH : h0.ep + 1 + 1 + 1 = H at *
 have hx1 := hx.1
 simp only [qG, YV, hH] at hx1
 have hbT : h1.hp (h0.ep + 1 + 1, 3) = some ⟨true, tabC t⟩ := by
  rw [hx.2 _ (by simp only [qG, YV]; omega)]
  simp -implicitDefEqProofs only [push_cast, sevalprocAttr, eq_self]
 have hb15 : h1.hp (H, 15) = some ⟨true, List.replicate l.length AV.nil⟩ := by
  rw [hx.2 _ (by simp only [qG, YV]; omega)]
  simp -implicitDefEqProofs only [push_cast, sevalprocAttr, eq_self]
 have hb18 : h1.hp (H, 18) = some ⟨true, List.replicate l.length (i64 0)⟩ := by
  rw [hx.2 _ (by simp only [qG, YV]; omega)]
  simp -implicitDefEqProofs only [push_cast, sevalprocAttr, eq_self]
 have hb20 : h1.hp (H, 20) = some ⟨true, jobD l t H (.lit (.pointer none))⟩ := by
  rw [hx.2 _ (by simp only [qG, YV]; omega)]
  simp -implicitDefEqProofs only [push_cast, sevalprocAttr, eq_self]
 have hx0 : Ext h0 h1 := Ext.tr (by repeat (first | exact Ext.refl _ | refine Ext.tick ?_ | refine Ext.push ?_ (by omega) _)) hx
 repeat' (first | ((try clear hf); with_reducible refine yD fun env K hE hK hf => ?_; have n := cj15 hE 0 1 3 4 5 6 9 10 27 28 29 30 56 57 58; simp -implicitDefEqProofs only [push_cast, reduceIte, Nat.reduceEqDiff, ee] at n; clear hE ee; have ee := n; clear n) | (with_reducible first | (refine hK _ _ ?_; clear hK K) | (refine Zi ?_; constructor) | refine yB (by decide) ?_ | refine yH (by assumption) ?_ | refine yJ (by assumption) ?_) | (refine yC rfl ?_) | (simp -implicitDefEqProofs only [push_cast, sevalprocAttr, eq_self, ee, hOl]) | (simp (disch := omega) only [yF, yK, yG, yL, hOl]) | ((first | refine yE rfl (fun bb => ?_) (fun bb => ?_) | with_reducible refine yI (fun bb => ?_) (fun bb => ?_)) <;> (first | have bp := oT bb | have bp := oF bb | skip) <;> try simp only [bb]) | ((with_reducible refine And.intro ?_ ?_); omega) | (with_reducible refine yM ?_ ?_))
 refine yN fun env hE => ?_; have n := cj15 hE 0 1 3 4 5 6 9 10 27 28 29 30 56 57 58; simp -implicitDefEqProofs only [push_cast, reduceIte, Nat.reduceEqDiff, ee] at n; clear hE ee; have ee := n; clear n; have E52_0 := ee; obtain ⟨e0, e1, e3, e4, e5, e6, e9, e10, e27, e28, e29, e30, e56, e57, e58⟩ := ee
 refine qC (fun nn σ => ∃ (k : Nat) (c : List AV), nn = E.length - k ∧ kp [0, 1, 3, 4, 5, 6, 27, 28] σ.env env ∧ σ.env 29 = i64 k ∧ (k ≤ E.length ∧ σ.h.hp (H, 15) = some ⟨true, c⟩ ∧ c.length = l.length ∧ RowsO edC 5 σ.h h1.ep c (inE (E.take k)) ∧ Fr1 (H, 15) h1 σ.h)) _ ⟨0, List.replicate l.length AV.nil, rfl, qP _ _, by refine e29.trans ?_; first | rfl | exact yP (by omega) | exact i64w (by omega), ?_⟩ ?_
 · refine ⟨by omega, hb15, by simp, ⟨fun i a hi => ?_, fun i j a b x hi hj hij hx => ?_⟩, (by repeat (first | assumption | exact Fr1.refl _ _ | refine Fr1.tick ?_ | refine Fr1.put ?_ _ | refine Fr1.push ?_ (by omega) _))⟩
   · rw [List.getElem?_replicate] at hi
     split at hi
     · cases hi; exact ⟨SlO.nil _ _ _, fun x hx => by simp [idOf] at hx⟩
     · cases hi
   · rw [List.getElem?_replicate] at hi
     split at hi
     · cases hi; simp [idOf] at hx
     · cases hi
 have hone : ∀ e, idOf out = some e → 0 < E.length → e ≠ (H, 15) := fun e he hp e2 => by
  obtain ⟨oe, os, hoe, hob, hol⟩ := hO.slo.blk hp
  rw [hoe] at he
  simp only [idOf, oI] at he
  rw [he, e2, hb15] at hob
  have h1 : List.replicate l.length AV.nil = E.flatMap edC := by injection (Option.some.inj hob)
  cases E with
  | nil => simp at hp
  | cons x E' =>
    have : i64 x.f ∈ List.replicate l.length AV.nil := by rw [h1]; simp [edC]
    rw [List.mem_replicate] at this
    exact AV.noConfusion this.2
 clear e0 e1 e3 e4 e5 e6 e9 e10 e27 e28 e29 e30 e56 e57 e58; rintro nn ⟨env, h2⟩ ⟨k, c, rfl, q, e29, hI⟩; simp only at e29 hI; simp only [kp, and_true, E52_0] at q; have ee : _ ∧ _ := ⟨e29, q⟩; clear e29 q
 obtain ⟨hk, hb, hcl, hrw, hfr⟩ := hI
 unfold l52_0
 (first | refine yS fun hF => ?_ | refine yY fun hF => ?_ | refine yX fun hF => ?_)
 have hxe := hfr.ep
 have h14 := jobD_14 l t H (.lit (.pointer none))
 have h15 := jobD_15 l t H (.lit (.pointer none))
 by_cases hlt : k < E.length
 · have hd : decide ((k : Int) < (E.length : Int)) = true := by simp; omega
   obtain ⟨oe, os, hoe, hob, hol⟩ := hO.slo.blk (by omega)
   subst hoe
   have hon := hone (oe, os) rfl (by omega)
   replace hob := (hfr.hp _ hol hon).trans hob
   replace hb20 := (hfr.hp (H, 20) (by simp only; omega) (by simp)).trans hb20
   have hfl := UJ wJ E
   have hft := flat_take wJ E hlt
   have hle : k * 5 + 5 ≤ (E.flatMap edC).length := by rw [hfl]; omega
   have hxo := hE _ (List.getElem_mem hlt)
   have htk : E.take (k + 1) = E.take k ++ [E[k]] := by rw [List.take_succ_eq_append_getElem hlt]
   generalize E[k] = x at *
   obtain ⟨x1, x2, x3, x4, x5⟩ := hxo
   obtain ⟨i, hi⟩ : ∃ i : Nat, x.t = i := ⟨x.t.toNat, by omega⟩
   have hca : c[i]? = some (c.getD i .nil) := by rw [gD, List.getElem?_eq_getElem (by omega)]; rfl
   generalize c.getD i .nil = a at hca
   obtain ⟨hra, hrx⟩ := hrw.get i a hca
   have hb40 : ((inE (E.take k) i).length + 1 + ((inE (E.take k) i).length + 1) / 4 + 512) * 40 ≤ 281474976710656 := by
    have h1 : (inE (E.take k) i).length ≤ (E.take k).length := by simpa [inE] using List.length_filter_le (fun e : Edg => decide (e.t = (i : Int))) (E.take k)
    have h2 := List.length_take_le k E
    omega
   have hk8 : ∀ (g : Hp) (s : Nat), (killA g a).hp (H, s) = g.hp (H, s) := fun g s => killA_ne _ _ (fun e => by have := hrx _ e; simp at this; omega)
   have hsp : sepV (.ptr (h2.ep + 1 + 1, 9) 1) a = True := sepV_old (E := h2.ep) (fun x hx => hra.id_le hx) (by show h2.ep < h2.ep + 1 + 1; omega)
   have hsq : sepV (.ptr (H, 20) 14) a = True := sepV_new hrx (by show H ≤ h1.ep; omega)
   have hset : ∀ v, c.take i ++ [v] ++ c.drop (i + 1) = c.set i v := fun v => set_cell c (by omega : i < c.length) v
   repeat' (first | ((try clear hf); with_reducible refine yD fun env K hE hK hf => ?_; have n := cj15 hE 0 1 3 4 5 6 9 10 27 28 29 30 56 57 58; simp -implicitDefEqProofs only [push_cast, reduceIte, Nat.reduceEqDiff, ee] at n; clear hE ee; have ee := n; clear n) | (with_reducible first | (refine hK _ _ ?_; clear hK K) | (refine Zi ?_; constructor) | refine yB (by decide) ?_ | refine yH (by assumption) ?_ | refine yJ (by assumption) ?_) | (refine yC rfl ?_) | (simp -implicitDefEqProofs only [push_cast, sevalprocAttr, eq_self, ee, hd, hF.at, yV, hob, hft, hb20, h14, hb, hca, hi, hk8, hset, one_sl, hsp, hsq]) | (simp (disch := omega) only [yF, yK, yG, yL, hF.at, yV, hb, hca, hi, hk8, hset, one_sl, hsp, hsq]) | (refine yE rfl (fun bb => ?_) (fun bb => ?_) <;> simp only [bb]) | (with_reducible refine yI (fun bb => ?_) (fun bb => ?_)) | ((with_reducible refine And.intro ?_ ?_); omega) | (refine goM_of _ _ ((hra.ext (by repeat' (first | exact Ext.refl _ | assumption | omega | (with_reducible (refine Eg ?_; constructor))))).app wJ _ (by decide) (edC_one _) hb40) ?_) | (with_reducible refine yM ?_ ?_))
   refine ⟨_, ?_, k + 1, c.set i (.sl (h2.ep + 1 + 1 + 1, 49) 0 ((inE (E.take k) i).length + 1) 5), rfl, by simp -implicitDefEqProofs only [kp, push_cast, reduceIte, Nat.reduceEqDiff, ee, E52_0, and_self], by first | rfl | exact yP (by omega) | exact i64w (by omega), ?_⟩
   · omega
   · have hold : ∀ (p q : List AV) (y : Id), y.1 ≤ h2.ep → y ≠ (H, 15) → idOf a ≠ some y → ((((killA (((h2.tick.tick.push (h2.ep + 1 + 1, 9) p).put (h2.ep + 1 + 1, 9) (edC x)).tick.push (h2.ep + 1 + 1 + 1, 48) (edC x)) a).push (h2.ep + 1 + 1 + 1, 49) (List.flatMap edC (inE (List.take k E) i) ++ edC x)).put (H, 15) q).tick).hp y = h2.hp y := fun p q y hy hn ha => by
      rw [qN, YD _ _ _ _ hn, WI _ _ _ _ (fun e => by rw [e] at hy; simp only at hy; omega), killA_ne _ _ ha, WI _ _ _ _ (fun e => by rw [e] at hy; simp only at hy; omega), qN, YD _ _ _ _ (fun e => by rw [e] at hy; simp only at hy; omega), WI _ _ _ _ (fun e => by rw [e] at hy; simp only at hy; omega)]
      rfl
     refine ⟨by omega, rfl, by simpa using hcl, ?_, (by first | omega | (simp -implicitDefEqProofs only [push_cast, sevalprocAttr, eq_self]; first | done | omega)), fun y hy hn => (hold _ _ y (by omega) hn fun e => by have := hrx _ e; omega).trans (hfr.hp y hy hn)⟩
     rw [inE_next E k x hi htk]
     refine hrw.app hca (by show h2.ep < h2.ep + 1 + 1 + 1; omega) (by omega) x ?_ ?_ ?_ ?_
     · rw [qN, YD _ _ _ _ (by simp), YF]
     · exact (by first | omega | (simp -implicitDefEqProofs only [push_cast, sevalprocAttr, eq_self]; first | done | omega))
     · exact (by first | omega | (simp -implicitDefEqProofs only [push_cast, sevalprocAttr, eq_self]; first | done | omega))
     · rintro ⟨xe, xs⟩ hx1' hx2' hx3'
       simp only at hx1' hx2'
       exact hold _ _ (xe, xs) hx2' (fun e => by cases e; omega) hx3'
 · have hd : decide ((k : Int) < (E.length : Int)) = false := by simp; omega
   obtain rfl : k = E.length := by omega
   rw [List.take_length] at hrw
   have hb18 := (hfr.hp (H, 18) (by simp only; omega) (by simp)).trans hb18
   have hb20 := (hfr.hp (H, 20) (by simp only; omega) (by simp)).trans hb20
   have hbT := (hfr.hp (h0.ep + 1 + 1, 3) (by simp only; omega) (by simp)).trans hbT
   have hl18 := wG (H, 18) 0 l.length 1
   repeat' (first | ((try clear hf); with_reducible refine yD fun env K hE hK hf => ?_; have n := cj15 hE 0 1 3 4 5 6 9 10 27 28 29 30 56 57 58; simp -implicitDefEqProofs only [push_cast, reduceIte, Nat.reduceEqDiff, ee] at n; clear hE ee; have ee := n; clear n) | (with_reducible first | (refine hK _ _ ?_; clear hK K) | (refine Zi ?_; constructor) | refine yB (by decide) ?_ | refine yH (by assumption) ?_ | refine yJ (by assumption) ?_) | (refine yC rfl ?_) | (simp -implicitDefEqProofs only [push_cast, sevalprocAttr, eq_self, ee, hd, hF.at, hb20, h15, hl18]) | (simp (disch := omega) only [yF, yK, yG, yL, hF.at, hl18]) | ((first | refine yE rfl (fun bb => ?_) (fun bb => ?_) | with_reducible refine yI (fun bb => ?_) (fun bb => ?_)) <;> (first | have bp := oT bb | have bp := oF bb | skip) <;> try simp only [bb]) | ((with_reducible refine And.intro ?_ ?_); omega) | (with_reducible refine yM ?_ ?_))
   refine yN fun env hE => ?_; have n := cj15 hE 0 1 3 4 5 6 9 10 27 28 29 30 56 57 58; simp -implicitDefEqProofs only [push_cast, reduceIte, Nat.reduceEqDiff, ee] at n; clear hE ee; have ee := n; clear n; have E52_1 := ee; obtain ⟨e0, e1, e3, e4, e5, e6, e9, e10, e27, e28, e29, e30, e56, e57, e58⟩ := ee
   refine qC (fun nn σ => ∃ (k : Nat), nn = l.length - k ∧ kp [0, 1, 3, 4, 5, 6, 9, 27, 28, 29, 30, 56] σ.env env ∧ σ.env 57 = i64 k ∧ (k ≤ l.length ∧ σ.h.hp (H, 18) = some ⟨true, (List.replicate k (-1) ++ List.replicate (l.length - k) 0).map iC⟩ ∧ Fr1 (H, 18) h2 σ.h)) _ ⟨0, rfl, qP _ _, by refine e57.trans ?_; first | rfl | exact yP (by omega) | exact i64w (by omega), ?_⟩ ?_
   · refine ⟨by omega, ?_, (by repeat (first | assumption | exact Fr1.refl _ _ | refine Fr1.tick ?_ | refine Fr1.put ?_ _ | refine Fr1.push ?_ (by omega) _))⟩
     rw [List.replicate_zero, List.nil_append, ← rep_map]
     exact hb18
   clear e0 e1 e3 e4 e5 e6 e9 e10 e27 e28 e29 e30 e56 e57 e58; rintro nn ⟨env, h3⟩ ⟨k, rfl, q, e57, hI⟩; simp only at e57 hI; simp only [kp, and_true, E52_1] at q; have ee : _ ∧ _ := ⟨e57, q⟩; clear e57 q
   obtain ⟨hk, hb3, hfr3⟩ := hI
   unfold l52_1
   (first | refine yS fun hF => ?_ | refine yY fun hF => ?_ | refine yX fun hF => ?_)
   have hxe3 := hfr3.ep
   have hb20 := (hfr3.hp (H, 20) (by simp only; omega) (by simp)).trans hb20
   have hbT := (hfr3.hp (h0.ep + 1 + 1, 3) (by simp only; omega) (by simp)).trans hbT
   by_cases hlt : k < l.length
   · have hd : decide ((k : Int) < (l.length : Int)) = true := by simp; omega
     have hset : ∀ v, ((List.replicate k (-1) ++ List.replicate (l.length - k) 0).map iC).take k ++ [AV.lit (.int .i64 v)] ++ ((List.replicate k (-1) ++ List.replicate (l.length - k) 0).map iC).drop (k + 1) = ((List.replicate k (-1) ++ List.replicate (l.length - k) 0).set k v).map iC := fun v => set_at iC _ (by simp; omega) v
     have hlen : ((List.replicate k (-1 : Int) ++ List.replicate (l.length - k) 0).map iC).length = l.length := by simp; omega
     repeat' (first | ((try clear hf); with_reducible refine yD fun env K hE hK hf => ?_; have n := cj15 hE 0 1 3 4 5 6 9 10 27 28 29 30 56 57 58; simp -implicitDefEqProofs only [push_cast, reduceIte, Nat.reduceEqDiff, ee] at n; clear hE ee; have ee := n; clear n) | (with_reducible first | (refine hK _ _ ?_; clear hK K) | (refine Zi ?_; constructor) | refine yB (by decide) ?_ | refine yH (by assumption) ?_ | refine yJ (by assumption) ?_) | (refine yC rfl ?_) | (simp -implicitDefEqProofs only [push_cast, sevalprocAttr, eq_self, ee, hd, hF.at, hb20, h15, hb3, hset, hlen]) | (simp (disch := omega) only [yF, yK, yG, yL, hF.at, hset]) | ((first | refine yE rfl (fun bb => ?_) (fun bb => ?_) | with_reducible refine yI (fun bb => ?_) (fun bb => ?_)) <;> (first | have bp := oT bb | have bp := oF bb | skip) <;> try simp only [bb]) | ((with_reducible refine And.intro ?_ ?_); omega) | (with_reducible refine yM ?_ ?_))
     refine ⟨_, ?_, k + 1, rfl, by simp -implicitDefEqProofs only [kp, push_cast, reduceIte, Nat.reduceEqDiff, ee, E52_1, and_self], by first | rfl | exact yP (by omega) | exact i64w (by omega), ?_⟩
     · omega
     · have hsetk : (List.replicate k (-1 : Int) ++ List.replicate (l.length - k) 0).set k (-1) = List.replicate (k + 1) (-1) ++ List.replicate (l.length - (k + 1)) 0 := by
        rw [List.set_append_right _ _ (by simp), List.length_replicate, Nat.sub_self, List.replicate_succ', List.append_assoc]
        congr 1
        rw [show l.length - k = (l.length - (k + 1)) + 1 by omega, List.replicate_succ]
        rfl
       exact ⟨by omega, by rw [hsetk], (((hfr3.tick.tick.tick).put _).tick)⟩
   · have hd : decide ((k : Int) < (l.length : Int)) = false := by simp; omega
     obtain rfl : k = l.length := by omega
     repeat' (first | ((try clear hf); with_reducible refine yD fun env K hE hK hf => ?_; have n := cj15 hE 0 1 3 4 5 6 9 10 27 28 29 30 56 57 58; simp -implicitDefEqProofs only [push_cast, reduceIte, Nat.reduceEqDiff, ee] at n; clear hE ee; have ee := n; clear n) | (with_reducible first | (refine hK _ _ ?_; clear hK K) | (refine Zi ?_; constructor) | refine yB (by decide) ?_ | refine yH (by assumption) ?_ | refine yJ (by assumption) ?_) | (refine yC rfl ?_) | (simp -implicitDefEqProofs only [push_cast, sevalprocAttr, eq_self, ee, hd, hF.at, hb20, hbT]) | (simp (disch := omega) only [yF, yK, yG, yL, hF.at]) | ((first | refine yE rfl (fun bb => ?_) (fun bb => ?_) | with_reducible refine yI (fun bb => ?_) (fun bb => ?_)) <;> (first | have bp := oT bb | have bp := oF bb | skip) <;> try simp only [bb]) | ((with_reducible refine And.intro ?_ ?_); omega) | (refine qH (HC.mono (f86 t ht) ?_); rintro r h4 ⟨R, B, rfl, hrs, hRl, hBl, hx4⟩ hF4) | (with_reducible refine yM ?_ ?_))
     have hx4' : Ext h3 h4 := ⟨by have := hx4.1; simp only [qG] at this; omega, fun y hy => hx4.2 y (by simp only [qG]; omega)⟩
     have hb20' := (hx4'.2 (H, 20) (by simp only; omega)).trans hb20
     have hle : ∀ x, (jobD l t H x).length = 17 := jobD_len l t H
     repeat' (first | ((try clear hf); with_reducible refine yD fun env K hE hK hf => ?_; have n := cj15 hE 0 1 3 4 5 6 9 10 27 28 29 30 56 57 58; simp -implicitDefEqProofs only [push_cast, reduceIte, Nat.reduceEqDiff, ee] at n; clear hE ee; have ee := n; clear n) | (with_reducible first | (refine hK _ _ ?_; clear hK K) | (refine Zi ?_; constructor) | refine yB (by decide) ?_ | refine yH (by assumption) ?_ | refine yJ (by assumption) ?_) | (refine yC rfl ?_) | (simp -implicitDefEqProofs only [push_cast, sevalprocAttr, eq_self, ee, hb20', jobD_set, hle]) | (simp (disch := omega) only [yF, yK, yG, yL, hb20', jobD_set, hle]) | ((first | refine yE rfl (fun bb => ?_) (fun bb => ?_) | with_reducible refine yI (fun bb => ?_) (fun bb => ?_)) <;> (first | have bp := oT bb | have bp := oF bb | skip) <;> try simp only [bb]) | ((with_reducible refine And.intro ?_ ?_); omega) | (with_reducible refine yM ?_ ?_))
     have hall : ∀ y : Id, y.1 ≤ h1.ep → y ≠ (H, 15) → y ≠ (H, 18) → y ≠ (H, 20) → h4.hp y = h1.hp y := fun y h1' h2' h3' h4'' => by
      rw [hx4'.2 y (by omega), hfr3.hp y (by omega) h3', hfr.hp y h1' h2']
     have h4e : h3.ep ≤ h4.ep := hx4'.1
     have hRl' : h3.ep < R.1 := by simp only [qG] at hRl; omega
     have hBl' : h3.ep < B.1 := by simp only [qG] at hBl; omega
     have hn20 : ∀ y : Id, y ≠ (H, 20) → ((h4.tick.put (H, 20) (jobD l t H (.ptr R 0))).tick).hp y = h4.hp y := fun y hy => by rw [qN, YD _ _ _ _ hy, qN]
     have hge : ((h4.tick.put (H, 20) (jobD l t H (.ptr R 0))).tick).ep = h4.ep + 1 + 1 := rfl
     refine ⟨H, c, R, B, rfl, by omega, ⟨by rw [qN, wM]; rfl, ?_, ?_, hcl, by simp, ?_, ?_, by omega, by omega⟩, ⟨by omega, fun y hy => ?_⟩⟩
     · rw [hn20 _ (by simp), hx4'.2 (H, 15) (by simp only; omega), hfr3.hp (H, 15) (by simp only; omega) (by simp)]
       exact hb
     · rw [hn20 _ (by simp), hx4'.2 (H, 18) (by simp only; omega), hb3]
       simp
     · have := hrw.keep (g := (h4.tick.put (H, 20) (jobD l t H (.ptr R 0))).tick) (fun x hx1 hx2 => by
        rw [hn20 _ (fun e => by rw [e] at hx1; simp only at hx1; omega), hx4'.2 x (by omega), hfr3.hp x hx2 (fun e => by rw [e] at hx1; simp only at hx1; omega)]) (by omega)
       exact ⟨fun i a hi => ⟨(this.get i a hi).1, fun x hx => by have := (this.get i a hi).2 x hx; omega⟩, this.sep⟩
     · exact hrs.keep (hn20 _ (fun e => by rw [e] at hRl'; simp only at hRl'; omega)) rfl (by omega)
     · rw [hn20 _ (fun e => by rw [e] at hy; simp only at hy; omega), hall y (by omega) (fun e => by rw [e] at hy; simp only at hy; omega) (fun e => by rw [e] at hy; simp only at hy; omega) (fun e => by rw [e] at hy; simp only at hy; omega)]
       exact hx0.2 y hy
end Go.Proofs.Hx
