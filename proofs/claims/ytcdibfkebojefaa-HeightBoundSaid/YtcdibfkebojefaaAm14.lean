import Derived.Test.YtcdibfkebojefaaAm13
set_option linter.unusedVariables false
set_option linter.unusedSimpArgs false
namespace Go.Proofs.Hx

/-! ### Operations that can change places -/
def aopds : AOp → List AOpd
  | .mv x | .box x | .load _ _ x | .nilchk x | .un _ x | .conv _ x | .fieldAddr _ x | .field _ _ _ x | .ext x _ | .len _ x | .lenStr x => [x]
  | .pick c a b => [c, a, b]
  | .alloc _ => []
  | .build _ ps | .buildSl _ _ _ ps => ps.map (·.2.2)
  | .store _ a x | .bin _ a x | .beq _ a x | .mksl _ _ _ a x | .idxAddr _ _ a x | .idx _ _ _ a x | .append _ _ a x => [a, x]
  | .mkfn _ xs | .maxs xs | .mins xs => xs
  | .slice _ _ x lo hi mx => x :: (lo.toList ++ hi.toList ++ mx.toList)
  | .call _ f as => f :: as
def slotsOf : List AOpd → List Nat
  | [] => []
  | .t i :: l => i :: slotsOf l
  | .c _ :: l => slotsOf l
def readsOf (o : AOper) : List Nat := (match o.guard with | some (s, _) => [s] | none => []) ++ slotsOf (aopds o.op)
/-- 0: its operands alone · 1: it reads the heap at a pointer · 2: it makes memory · 3: it writes · 4: a call that may do anything · 5: a call on values -/
def cls : AOp → Nat
  | .load .. => 1
  | .slice (some _) .. => 1
  | .alloc _ | .box _ | .buildSl .. | .mksl .. => 2
  | .store .. | .append .. => 3
  | .call q _ _ => if q then 5 else 4
  | _ => 0
def slotOf : AOpd → List Nat
  | .t i => [i]
  | .c _ => []
/-- The slot of the pointer that is read at. -/
def ptrSlot : AOp → List Nat
  | .load _ _ x => slotOf x
  | .slice (some _) _ x _ _ _ => slotOf x
  | _ => []
def constOk : AOpd → Bool
  | .t _ => true
  | .c v => (match v with | .ptr .. | .sl .. | .map _ => false | _ => true)
/-- Its pointer, or what it writes, is no reference that stands in the code. -/
def refOk : AOp → Bool
  | .load _ _ x => constOk x
  | .slice (some _) _ x _ _ _ => constOk x
  | .store _ a _ => constOk a
  | .append _ _ a _ => constOk a
  | _ => true
/-- The slot of what is written. -/
def tgtSlot : AOp → List Nat
  | .store _ a _ => slotOf a
  | .append _ _ a _ => slotOf a
  | _ => []
def selfOk (o : AOper) : Bool :=
  (match o.dst with | some d => !(ptrSlot o.op ++ tgtSlot o.op).contains d | none => true) && (!makes o.op || o.dst.isSome) && refOk o.op
def pairsWith (as bs : List Nat) : List (Nat × Nat) := as.flatMap fun a => bs.map fun b => (a, b)
def isApp : AOp → Bool
  | .append .. => true
  | _ => false
/-- It makes memory, whatever happens. -/
def newOk (y : AOper) : Bool := y.guard.isNone && y.dst.isSome && (match y.op with | .buildSl _ len _ _ => len != 0 | .box _ | .alloc _ => true | _ => false)
/-- What must lie apart for two operations to change places; none: they can't. -/
def sepsOf (x y : AOper) : Option (List (Nat × Nat)) :=
  let cx := cls x.op
  let cy := cls y.op
  if cx == 4 || cy == 4 || !selfOk x || !selfOk y then none
  else if cx == 0 || cy == 0 then some []
  else if (cx == 1 || cx == 5) && (cy == 1 || cy == 5) then some []
  else if cx == 1 then some (pairsWith (ptrSlot x.op) (y.dst.toList ++ tgtSlot y.op))
  else if cy == 1 then some (pairsWith (ptrSlot y.op) (x.dst.toList ++ tgtSlot x.op))
  else if cx == 5 && cy == 2 then some []
  else if cx == 2 && cy == 2 then (if x.dst.isSome && y.dst.isSome then some [] else none)
  else if isApp x.op && x.dst.isSome && newOk y then some (pairsWith (tgtSlot x.op) y.dst.toList)
  else none
def apartT (x y : AOper) : Bool :=
  (match x.dst with | some d => !(readsOf y).contains d && y.dst != some d | none => true) &&
  (match y.dst with | some d => !(readsOf x).contains d | none => true)

theorem mem_slots {l : List AOpd} {i : Nat} (h : AOpd.t i ∈ l) : i ∈ slotsOf l := by
  induction l with
  | nil => cases h
  | cons x l ih =>
    cases h with
    | head => simp [slotsOf]
    | tail _ h => cases x <;> simp [slotsOf, ih h]
theorem evA_put {env : Nat → AV} {d : Option Nat} {v : AV} {l : List AOpd} (h : ∀ k, d = some k → k ∉ slotsOf l) : ∀ x ∈ l, evA (putA env d v) x = evA env x := by
  intro x hx
  cases x with
  | c v => rfl
  | t i =>
    cases d with
    | none => rfl
    | some k =>
      have : i ≠ k := fun e => h k rfl (e ▸ mem_slots hx)
      simp [evA, putA, upd, this]

theorem map_congr_mem {α β : Type} {f g : α → β} {l : List α} (h : ∀ x ∈ l, f x = g x) : l.map f = l.map g := List.map_congr_left h

theorem parts_congr {ρ ρ' : AOpd → AV} {ps : List (Nat × Nat × AOpd)} (h : ∀ x ∈ ps.map (·.2.2), ρ x = ρ' x) : (ps.map fun p => (p.1, p.2.1, ρ p.2.2)) = ps.map fun p => (p.1, p.2.1, ρ' p.2.2) :=
  List.map_congr_left fun p hp => by rw [h p.2.2 (List.mem_map.2 ⟨p, hp, rfl⟩)]
theorem opt_congr {ρ ρ' : AOpd → AV} {x : Option AOpd} (h : ∀ y ∈ x.toList, ρ y = ρ' y) : x.map ρ = x.map ρ' := by
  cases x with
  | none => rfl
  | some y => simp [h y (by simp)]

theorem stepV_congr {op : AOp} {ρ ρ' : AOpd → AV} {h : Hp} {id : Id} (e : ∀ x ∈ aopds op, ρ x = ρ' x) : stepV op ρ h id = stepV op ρ' h id := by
  cases op <;> simp only [aopds, List.mem_cons, List.not_mem_nil, or_false, forall_eq_or_imp, forall_eq] at e <;> simp only [stepV, pureV, readV, heapV]
  case build z ps => rw [parts_congr (by simpa using e)]
  case buildSl sz len z ps => rw [parts_congr (by simpa using e)]
  case mkfn f xs => rw [map_congr_mem e]
  case maxs xs => rw [map_congr_mem e]
  case mins xs => rw [map_congr_mem e]
  case slice arr sz x lo hi' mx =>
    obtain ⟨e1, e2⟩ := e
    have l1 := opt_congr (ρ := ρ) (ρ' := ρ') (x := lo) fun y hy => e2 y (by simp [hy])
    have l2 := opt_congr (ρ := ρ) (ρ' := ρ') (x := hi') fun y hy => e2 y (by simp [hy])
    have l3 := opt_congr (ρ := ρ) (ρ' := ρ') (x := mx) fun y hy => e2 y (by simp [hy])
    cases arr <;> simp only [e1, l1, l2, l3]
  all_goals first
    | rfl
    | (simp only [e]; done)
    | (obtain ⟨e1, e2⟩ := e; simp only [e1, e2]; done)
    | (obtain ⟨e1, e2, e3⟩ := e; simp only [e1, e2, e3]; done)

theorem putA_comm {env : Nat → AV} {a b : Option Nat} {u v : AV} (h : ∀ k, a = some k → b ≠ some k) : putA (putA env a u) b v = putA (putA env b v) a u := by
  cases a with
  | none => rfl
  | some i =>
    cases b with
    | none => rfl
    | some j =>
      have hne : i ≠ j := fun e => h i rfl (by rw [e])
      funext k
      simp only [putA, upd]
      by_cases e1 : k = i <;> by_cases e2 : k = j <;> simp [e1, e2]
      · omega
      · intro h'; omega
      · intro h'; omega

section
variable {P : Program}

theorem awpOp_mono {o : AOper} {K K' : St → Prop} {σ : St} (hk : ∀ σ, K σ → K' σ) (h : awpOp P o K σ) : awpOp P o K' σ := by
  unfold awpOp at *
  rw [guardK_wanted] at *
  split at h
  · exact h.elim
  · unfold runOp at *
    split at h
    · unfold callA at *
      split at h
      · split at h
        · rename_i hq
          simp only [hq, if_true]
          obtain ⟨r, h1, h2⟩ := h
          exact ⟨r, h1, hk _ h2⟩
        · rename_i hq
          simp only [hq, Bool.false_eq_true, if_false]
          exact HC.mono h fun r h' hx hf => hk _ (hx hf)
      · exact h.elim
    · unfold ob at *
      split at h
      · exact hk _ h
      · exact h.elim
  · exact hk _ h

/-- What one operation does, where it is no call that may do anything. -/
def Ef (P : Program) (o : AOper) (env : Nat → AV) (h : Hp) (r : AV) (h' : Hp) : Prop :=
  match wantedA o env with
  | none => False
  | some false => r = .tup [] ∧ h' = h
  | some true =>
    match o.op with
    | .call q f args => q = true ∧ (∃ g caps, evA env f = .fn g caps ∧ QCall P g (args.map (evA env) ++ caps) h r) ∧ h' = h
    | op => stepV op (evA env) h (h.ep, o.dst.getD 0) = some (r, h')

theorem Ef.awp {o : AOper} {K : St → Prop} {σ : St} (hcl : cls o.op ≠ 4) : awpOp P o K σ ↔ ∃ r h', Ef P o σ.env σ.h r h' ∧ K ⟨putA σ.env o.dst r, h'⟩ := by
  obtain ⟨dst, op, g⟩ := o
  simp only at hcl
  unfold awpOp Ef
  rw [guardK_wanted]
  cases hw : wantedA ⟨dst, op, g⟩ σ.env with
  | none => simp
  | some b =>
    cases b with
    | false => exact ⟨fun h => ⟨_, _, ⟨rfl, rfl⟩, h⟩, fun ⟨r, h', ⟨e1, e2⟩, h⟩ => by rw [e1, e2] at h; exact h⟩
    | true =>
      simp only [runOp]
      cases op
      case call q f args =>
        simp only [callA]
        have hq : q = true := by
          cases q with
          | true => rfl
          | false => simp [cls] at hcl
        subst hq
        cases hf : evA σ.env f <;> simp
        rename_i g' caps
        constructor
        · rintro ⟨r, h1, h2⟩
          exact ⟨r, σ.h, ⟨⟨_, _, ⟨rfl, rfl⟩, h1⟩, rfl⟩, h2⟩
        · rintro ⟨r, h', ⟨⟨_, _, ⟨rfl, rfl⟩, h1⟩, rfl⟩, h2⟩
          exact ⟨r, h1, h2⟩
      all_goals
        simp only [ob]
        constructor
        · intro h
          split at h
          · rename_i x hs
            obtain ⟨r, h'⟩ := x
            exact ⟨r, h', hs, h⟩
          · exact h.elim
        · rintro ⟨r, h', hs, hk⟩
          rw [hs]
          exact hk

theorem wantedA_congr {o : AOper} {env env' : Nat → AV} (h : ∀ s ∈ readsOf o, env s = env' s) : wantedA o env = wantedA o env' := by
  unfold wantedA
  cases hg : o.guard with
  | none => rfl
  | some p =>
    obtain ⟨s, w⟩ := p
    have := h s (by simp [readsOf, hg])
    simp only [this]

theorem Ef.congr {o : AOper} {env env' : Nat → AV} {h h' : Hp} {r : AV} (e : ∀ s ∈ readsOf o, env s = env' s) (hh : Ef P o env h r h') : Ef P o env' h r h' := by
  have hev : ∀ x ∈ aopds o.op, evA env x = evA env' x := fun x hx => by
    cases x with
    | c v => rfl
    | t i => exact e i (by simp [readsOf, mem_slots hx])
  obtain ⟨dst, op, g⟩ := o
  unfold Ef at *
  rw [← wantedA_congr e]
  cases hw : wantedA ⟨dst, op, g⟩ env with
  | none => rw [hw] at hh; exact hh
  | some b =>
    rw [hw] at hh
    cases b with
    | false => exact hh
    | true =>
      simp only at hev hh ⊢
      cases op
      case call q f args =>
        simp only [aopds] at hev
        have h1 := hev f (by simp)
        have h2 : args.map (evA env') = args.map (evA env) := map_congr_mem fun x hx => (hev x (by simp [hx])).symm
        simp only [← h1, h2]
        exact hh
      all_goals
        simp only at hh ⊢
        rw [← stepV_congr hev]
        exact hh

theorem Ef.cls0 {o : AOper} {env : Nat → AV} {h h' : Hp} {r : AV} (hc : cls o.op = 0) (hh : Ef P o env h r h') : h' = h ∧ ∀ h2, Ef P o env h2 r h2 := by
  obtain ⟨dst, op, g⟩ := o
  unfold Ef at *
  cases hw : wantedA ⟨dst, op, g⟩ env with
  | none => rw [hw] at hh; exact hh.elim
  | some b =>
    rw [hw] at hh
    cases b with
    | false => exact ⟨hh.2, fun h2 => ⟨hh.1, rfl⟩⟩
    | true =>
      simp only at hc hh ⊢
      cases op <;> simp only [cls] at hc <;> try (simp at hc; done)
      case slice arr sz x lo hi' mx =>
        cases arr with
        | some n => simp at hc
        | none =>
          simp only [stepV, readV, heapV] at hh ⊢
          split at hh
          · rename_i r' hp
            cases hh
            exact ⟨rfl, fun h2 => rfl⟩
          · cases hh
      case call q f args => split at hc <;> simp at hc
      all_goals
        simp only [stepV, readV, heapV] at hh ⊢
        split at hh
        · rename_i r' hp
          cases hh
          exact ⟨rfl, fun h2 => rfl⟩
        · cases hh

theorem const_id {v : AV} (h : constOk (.c v) = true) : idOf v = none := by
  cases v <;> first | rfl | simp [constOk] at h

/-- A read: it leaves the heap, and sees its own block alone. -/
theorem Ef.cls1 {o : AOper} {env : Nat → AV} {h h' : Hp} {r : AV} (hc : cls o.op = 1) (hro : refOk o.op = true) (hh : Ef P o env h r h') :
    h' = h ∧ ∀ h2 : Hp, (∀ s ∈ ptrSlot o.op, ∀ id, idOf (env s) = some id → h2.hp id = h.hp id) → Ef P o env h2 r h2 := by
  obtain ⟨dst, op, g⟩ := o
  unfold Ef at *
  cases hw : wantedA ⟨dst, op, g⟩ env with
  | none => rw [hw] at hh; exact hh.elim
  | some b =>
    rw [hw] at hh
    cases b with
    | false => exact ⟨hh.2, fun h2 _ => ⟨hh.1, rfl⟩⟩
    | true =>
      simp only at hc hro hh ⊢
      have at_ : ∀ (x : AOpd) (h2 : Hp) (id : Id) (off : Nat), constOk x = true → (∀ s ∈ slotOf x, ∀ id, idOf (env s) = some id → h2.hp id = h.hp id) → evA env x = .ptr id off → h2.hp id = h.hp id := fun x h2 id off hco hs he => by
        cases x with
        | c v =>
          have := const_id hco
          simp only [evA] at he
          rw [he] at this
          simp [idOf] at this
        | t i => exact hs i (by simp [slotOf]) id (by simp only [evA] at he; rw [he]; rfl)
      cases op <;> simp only [cls] at hc <;> try (simp at hc; done)
      case call q f args => split at hc <;> simp at hc
      case load a n x =>
        simp only [stepV, pureV, heapV, ptrSlot] at hh ⊢
        split at hh
        · rename_i r' hp
          cases hh
          refine ⟨rfl, fun h2 hs => ?_⟩
          have : readV (.load a n x) (evA env) h2 = some r := by
            simp only [readV] at hp ⊢
            split at hp
            · rename_i id off e
              rw [at_ x h2 id off hro hs e]
              exact hp
            · exact hp
            · cases hp
          rw [this]
        · cases hh
      case slice arr sz x lo hi' mx =>
        cases arr with
        | none => simp at hc
        | some n =>
          simp only [stepV, pureV, heapV, ptrSlot] at hh ⊢
          split at hh
          · rename_i r' hp
            cases hh
            refine ⟨rfl, fun h2 hs => ?_⟩
            have : readV (.slice (some n) sz x lo hi' mx) (evA env) h2 = some r := by
              simp only [readV] at hp ⊢
              split at hp
              · rename_i id off e
                rw [at_ x h2 id off hro hs e]
                exact hp
              · cases hp
            rw [this]
          · cases hh

theorem lend_put {h h2 : Hp} (hs : ∀ id blk, h.hp id = some blk → h2.hp id = some blk) : ∀ (d : Nat) (a a' : AV), lend d h a = some a' → lend d h2 a = some a'
  | 0, a, a', e => by simpa [lend] using e
  | d + 1, a, a', e => by
    have ih := lend_put hs d
    have lst : ∀ (xs ys : List AV), mapO (lend d h) xs = some ys → mapO (lend d h2) xs = some ys := by
      intro xs
      induction xs with
      | nil => intro ys hy; simpa [mapO] using hy
      | cons x xs ih2 =>
        intro ys hy
        simp only [mapO] at hy ⊢
        split at hy
        · rename_i y zs h1 h2
          rw [ih _ _ h1, ih2 _ h2]
          exact hy
        · cases hy
    simp only [lend] at e ⊢
    split
    · rename_i hi; rw [if_pos hi] at e; exact e
    · rename_i hi
      rw [if_neg hi] at e
      split at e
      · simp only [Option.map_eq_some_iff] at e ⊢
        obtain ⟨cs, h1, h2⟩ := e
        exact ⟨cs, lst _ _ h1, h2⟩
      · simp only [Option.map_eq_some_iff] at e ⊢
        obtain ⟨cs, h1, h2⟩ := e
        exact ⟨cs, lst _ _ h1, h2⟩
      · simp only [Option.map_eq_some_iff] at e ⊢
        obtain ⟨cs, h1, h2⟩ := e
        exact ⟨cs, lst _ _ h1, h2⟩
      · split at e
        · rename_i blk hb
          simp only [hs _ _ hb]
          split
          · rename_i h0; rw [if_pos h0] at e; exact e
          · rename_i h0
            rw [if_neg h0] at e
            split
            · rename_i h1
              rw [if_pos h1] at e
              simp only [Option.map_eq_some_iff] at e ⊢
              obtain ⟨cs, h2, h3⟩ := e
              exact ⟨cs, lst _ _ h2, h3⟩
            · rename_i h1; rw [if_neg h1] at e; cases e
        · cases e
      · split at e
        · rename_i blk hb
          simp only [hs _ _ hb]
          simp only [Option.map_eq_some_iff] at e ⊢
          obtain ⟨cs, h2, h3⟩ := e
          exact ⟨cs, lst _ _ h2, h3⟩
        · cases e
      · cases e
theorem mapO_lend_put {h h2 : Hp} (hs : ∀ id blk, h.hp id = some blk → h2.hp id = some blk) {d : Nat} : ∀ {xs ys : List AV}, mapO (lend d h) xs = some ys → mapO (lend d h2) xs = some ys
  | [], ys, e => by simpa [mapO] using e
  | x :: xs, ys, e => by
    simp only [mapO] at e ⊢
    split at e
    · rename_i y zs h1 h2
      rw [lend_put hs _ _ _ h1, mapO_lend_put hs h2]
      exact e
    · cases e

/-- A call on values: it leaves the heap, and sees no block that is not there. -/
theorem Ef.cls5 {o : AOper} {env : Nat → AV} {h h' : Hp} {r : AV} (hc : cls o.op = 5) (hh : Ef P o env h r h') :
    h' = h ∧ ∀ h2 : Hp, (∀ id blk, h.hp id = some blk → h2.hp id = some blk) → Ef P o env h2 r h2 := by
  obtain ⟨dst, op, g⟩ := o
  unfold Ef at *
  cases hw : wantedA ⟨dst, op, g⟩ env with
  | none => rw [hw] at hh; exact hh.elim
  | some b =>
    rw [hw] at hh
    cases b with
    | false => exact ⟨hh.2, fun h2 _ => ⟨hh.1, rfl⟩⟩
    | true =>
      simp only at hc hh ⊢
      cases op <;> simp only [cls] at hc <;> try (simp at hc; done)
      case slice arr sz x lo hi' mx => cases arr <;> simp at hc
      case call q f args =>
        obtain ⟨h1, ⟨g', caps, h2, args', h3, h4⟩, h6⟩ := hh
        exact ⟨h6, fun h2' hs => ⟨h1, ⟨g', caps, h2, args', mapO_lend_put hs h3, h4⟩, trivial⟩⟩

/-- An operation that makes memory: it looks at nothing but its own place. -/
theorem Ef.cls2 {o : AOper} {env : Nat → AV} {h h' : Hp} {r : AV} (hc : cls o.op = 2) (hh : Ef P o env h r h') :
    (h' = h ∧ ∀ g : Hp, g.ep = h.ep → ((g.hp (h.ep, o.dst.getD 0)).isNone = true ∨ (h.hp (h.ep, o.dst.getD 0)).isNone = false) → Ef P o env g r g) ∨
    ((h.hp (h.ep, o.dst.getD 0)).isNone = true ∧ idOf r = some (h.ep, o.dst.getD 0) ∧ ∃ cells, h' = h.push (h.ep, o.dst.getD 0) cells ∧ ∀ g : Hp, g.ep = h.ep → (g.hp (h.ep, o.dst.getD 0)).isNone = true → Ef P o env g r (g.push (h.ep, o.dst.getD 0) cells)) := by
  obtain ⟨dst, op, g⟩ := o
  unfold Ef at *
  cases hw : wantedA ⟨dst, op, g⟩ env with
  | none => rw [hw] at hh; exact hh.elim
  | some b =>
    rw [hw] at hh
    cases b with
    | false => exact .inl ⟨hh.2, fun g _ _ => ⟨hh.1, rfl⟩⟩
    | true =>
      simp only at hc hh ⊢
      cases op <;> simp only [cls] at hc <;> try (simp at hc; done)
      case slice arr sz x lo hi' mx => cases arr <;> simp at hc
      case call q f args => split at hc <;> simp at hc
      case alloc z =>
        simp only [stepV, pureV, readV, heapV] at hh ⊢
        split at hh
        · rename_i hn
          simp only [Option.some.injEq, Prod.mk.injEq] at hh
          obtain ⟨rfl, rfl⟩ := hh
          exact .inr ⟨hn, rfl, _, rfl, fun g he hg => by rw [he, if_pos hg]⟩
        · cases hh
      case box x =>
        simp only [stepV, pureV, readV, heapV] at hh ⊢
        split at hh
        · rename_i hn
          simp only [Option.map_eq_some_iff, Prod.mk.injEq] at hh
          obtain ⟨cs, h1, rfl, rfl⟩ := hh
          exact .inr ⟨hn, rfl, _, rfl, fun g he hg => by rw [he, if_pos hg, h1]; rfl⟩
        · cases hh
      case buildSl sz len z ps =>
        simp only [stepV, pureV, readV, heapV] at hh ⊢
        split at hh
        · rename_i hn
          simp only [Option.map_eq_some_iff] at hh
          obtain ⟨cs, h1, e⟩ := hh
          split at e
          · rename_i h0
            cases e
            exact .inl ⟨rfl, fun g he hg => by
              rcases hg with hg | hg
              · rw [he, if_pos hg, h1]; simp [h0]
              · rw [hn] at hg; cases hg⟩
          · rename_i h0
            cases e
            exact .inr ⟨hn, rfl, _, rfl, fun g he hg => by rw [he, if_pos hg, h1]; simp [h0]⟩
        · cases hh
      case mksl =>
        simp only [stepV, pureV, readV, heapV] at hh ⊢
        split at hh
        · rename_i k1 ln k2 cn e1 e2
          split at hh
          · rename_i hcond
            simp only [Option.some.injEq, Prod.mk.injEq] at hh
            obtain ⟨rfl, rfl⟩ := hh
            exact .inr ⟨hcond.1, rfl, _, rfl, fun g he hg => by rw [he, if_pos ⟨hg, hcond.2⟩]⟩
          · cases hh
        · cases hh

theorem Ef.new {o : AOper} {env : Nat → AV} {h h' : Hp} {r : AV} (hn : newOk o = true) (hh : Ef P o env h r h') :
    (h.hp (h.ep, o.dst.getD 0)).isNone = true ∧ idOf r = some (h.ep, o.dst.getD 0) ∧ ∃ cells, h' = h.push (h.ep, o.dst.getD 0) cells ∧ ∀ g : Hp, g.ep = h.ep → (g.hp (h.ep, o.dst.getD 0)).isNone = true → Ef P o env g r (g.push (h.ep, o.dst.getD 0) cells) := by
  obtain ⟨dst, op, g⟩ := o
  simp only [newOk, Bool.and_eq_true] at hn
  obtain ⟨⟨hg, hd⟩, hop⟩ := hn
  have hg' : g = none := by cases g <;> simp_all
  subst hg'
  unfold Ef at *
  simp only [wantedA] at hh ⊢
  cases op <;> simp only at hop <;> try (simp at hop; done)
  case alloc z =>
    simp only [stepV, pureV, readV, heapV] at hh ⊢
    split at hh
    · rename_i hn
      simp only [Option.some.injEq, Prod.mk.injEq] at hh
      obtain ⟨rfl, rfl⟩ := hh
      exact ⟨hn, rfl, _, rfl, fun g he hg => by rw [he, if_pos hg]⟩
    · cases hh
  case box x =>
    simp only [stepV, pureV, readV, heapV] at hh ⊢
    split at hh
    · rename_i hn
      simp only [Option.map_eq_some_iff, Prod.mk.injEq] at hh
      obtain ⟨cs, h1, rfl, rfl⟩ := hh
      exact ⟨hn, rfl, _, rfl, fun g he hg => by rw [he, if_pos hg, h1]; rfl⟩
    · cases hh
  case buildSl sz len z ps =>
    have h0 : ¬ len = 0 := by simpa using hop
    simp only [stepV, pureV, readV, heapV] at hh ⊢
    split at hh
    · rename_i hn
      simp only [Option.map_eq_some_iff] at hh
      obtain ⟨cs, h1, e⟩ := hh
      (try rw [if_neg h0] at e)
      cases e
      exact ⟨hn, rfl, _, rfl, fun g he hg => by rw [he, if_pos hg, h1]; simp [h0]⟩
    · cases hh
/-- An append beside memory that is made. -/
theorem Ef.app {o : AOper} {env : Nat → AV} {h h' : Hp} {r : AV} (ha : isApp o.op = true) (hh : Ef P o env h r h') {id : Id} {cells : List AV} (hn : h.hp id = none) (hid : id ≠ (h.ep, o.dst.getD 0)) :
    Ef P o env (h.push id cells) r (h'.push id cells) ∧ h'.ep = h.ep ∧ (idOf r ≠ some id) := by
  obtain ⟨dst, op, g⟩ := o
  cases op <;> simp only [isApp] at ha <;> try (cases ha; done)
  rename_i sz bytes s v
  unfold Ef at *
  cases hw : wantedA ⟨dst, .append sz bytes s v, g⟩ env with
  | none => rw [hw] at hh; exact hh.elim
  | some b =>
    rw [hw] at hh
    cases b with
    | false => obtain ⟨rfl, rfl⟩ := hh; exact ⟨⟨rfl, rfl⟩, rfl, by simp [idOf]⟩
    | true =>
      simp only [stepV, pureV, readV, heapV] at hh ⊢
      simp only at hid
      have alive : ∀ t blk, h.hp t = some blk → (h.push id cells).hp t = some blk := fun t blk ht => by
        simp only [Hp.push]
        rw [upd_ne _ _ fun e => by rw [e, hn] at ht; cases ht]
        exact ht
      split at hh
      · cases hh
      · rename_i n new hsrc
        have hsrc' : appSrc (h.push id cells) sz (evA env v) = some (n, new) := by
          revert hsrc
          cases evA env v <;> simp only [appSrc] <;> try (intro h; exact h)
          rename_i t off len sz'
          split
          · intro h1
            split at h1
            · rename_i blk hb
              rw [alive _ _ hb]
              exact h1
            · cases h1
          · intro h; exact h
        rw [hsrc']
        simp only
        split at hh
        · rename_i hs
          (try rw [hs])
          (try simp only)
          split at hh
          · rename_i h0
            cases hh
            exact ⟨by rw [if_pos h0], rfl, by simp [idOf]⟩
          · rename_i h0
            split at hh
            · rename_i h1
              cases hh
              refine ⟨?_, rfl, by simp only [idOf, ne_eq, Option.some.injEq]; exact fun e => hid e.symm⟩
              rw [if_neg h0, if_pos h1]
              simp only [Hp.push]
              rw [upd_comm _ _ _ hid]
            · cases hh
        · rename_i t off len sz' hs
          (try rw [hs])
          (try simp only)
          split at hh
          · rename_i blk hb
            rw [alive _ _ hb]
            (try simp only)
            split at hh
            · rename_i h1
              cases hh
              refine ⟨?_, rfl, by simp only [idOf, ne_eq, Option.some.injEq]; exact fun e => hid e.symm⟩
              rw [if_pos h1]
              have htid : id ≠ t := fun e => by rw [← e, hn] at hb; cases hb
              simp only [Hp.push, Hp.kill]
              rw [upd_comm h.hp _ _ htid, upd_comm _ _ _ hid]
            · cases hh
          · cases hh
        · cases hh

theorem Ef.ep3 {o : AOper} {env : Nat → AV} {h h' : Hp} {r : AV} (ha : isApp o.op = true) (hh : Ef P o env h r h') : h'.ep = h.ep := by
  obtain ⟨dst, op, g⟩ := o
  cases op <;> simp only [isApp] at ha <;> try (cases ha; done)
  unfold Ef at hh
  split at hh
  · exact hh.elim
  · rw [hh.2]
  · simp only [stepV, pureV, readV, heapV] at hh
    repeat' split at hh
    all_goals first | (cases hh; rfl) | cases hh
theorem Ef.app_id {o : AOper} {env : Nat → AV} {h h' : Hp} {r : AV} (ha : isApp o.op = true) (hh : Ef P o env h r h') {id : Id} (hid : id ≠ (h.ep, o.dst.getD 0)) : idOf r ≠ some id := by
  obtain ⟨dst, op, g⟩ := o
  cases op <;> simp only [isApp] at ha <;> try (cases ha; done)
  unfold Ef at hh
  split at hh
  · exact hh.elim
  · rw [hh.1]; simp [idOf]
  · simp only [stepV, pureV, readV, heapV] at hh
    repeat' split at hh
    all_goals first | (cases hh; simp [idOf]; done) | (cases hh; simp only [idOf, ne_eq, Option.some.injEq]; exact fun e => hid e.symm) | cases hh

/-- What an operation that makes or writes memory leaves of other blocks. -/
theorem Ef.other {o : AOper} {env : Nat → AV} {h h' : Hp} {r : AV} (hc : cls o.op = 2 ∨ cls o.op = 3) (hro : refOk o.op = true) (hh : Ef P o env h r h') {id : Id} (h1 : idOf r ≠ some id) (h2 : ∀ s ∈ tgtSlot o.op, idOf (env s) ≠ some id) : h'.hp id = h.hp id := by
  rcases hc with hc | hc
  · rcases Ef.cls2 hc hh with ⟨rfl, _⟩ | ⟨_, h3, cells, rfl, _⟩
    · rfl
    · rw [h3] at h1
      simp only [Hp.push]
      exact upd_ne _ _ fun e => h1 (by rw [e])
  · obtain ⟨dst, op, g⟩ := o
    unfold Ef at *
    cases hw : wantedA ⟨dst, op, g⟩ env with
    | none => rw [hw] at hh; exact hh.elim
    | some b =>
      rw [hw] at hh
      cases b with
      | false => rw [hh.2]
      | true =>
        simp only at hc hro hh h2
        have tg : ∀ (x : AOpd) (v : AV) (j : Id), constOk x = true → (∀ s ∈ slotOf x, idOf (env s) ≠ some id) → evA env x = v → idOf v = some j → j ≠ id := fun x v j hco hs he hj e => by
          subst e
          cases x with
          | c u =>
            have := const_id hco
            simp only [evA] at he
            rw [he, hj] at this
            cases this
          | t i => exact hs i (by simp [slotOf]) (by simp only [evA] at he; rw [he]; exact hj)
        cases op <;> simp only [cls] at hc <;> try (simp at hc; done)
        case slice arr sz x lo hi' mx => cases arr <;> simp at hc
        case call q f args => split at hc <;> simp at hc
        case store n a x =>
          simp only [stepV, pureV, readV, heapV, refOk, tgtSlot] at hh hro h2
          split at hh
          · rename_i t off e
            split at hh
            · split at hh
              · split at hh
                · cases hh
                  simp only [Hp.put]
                  exact upd_ne _ _ fun e' => tg a _ t hro h2 e rfl e'.symm
                · cases hh
              · cases hh
            · cases hh
          · cases hh
        case append sz bytes s x =>
          simp only [stepV, pureV, readV, heapV, refOk, tgtSlot] at hh hro h2
          split at hh
          · cases hh
          · split at hh
            · split at hh
              · cases hh; rfl
              · split at hh
                · cases hh
                  simp only [Hp.push]
                  exact upd_ne _ _ fun e' => h1 (by rw [e']; rfl)
                · cases hh
            · rename_i t off len sz' e
              split at hh
              · split at hh
                · cases hh
                  simp only [Hp.push, Hp.kill]
                  rw [upd_ne _ _ fun e' => h1 (by rw [e']; rfl)]
                  exact upd_ne _ _ fun e' => tg s _ t hro h2 e rfl e'.symm
                · cases hh
              · cases hh
            · cases hh
end
end Go.Proofs.Hx
