import Derived.Test.YtcdibfkebojefaaAm7
set_option linter.unusedVariables false
set_option linter.unusedSimpArgs false
namespace Go.Proofs.Hx

/-- What is appended: how many elements, their cells. -/
def appSrc (h : Hp) (sz : Nat) : AV → Option (Nat × List AV)
  | .nil => some (0, [])
  | .row xs => if xs.all fun x => x.length = sz then some (xs.length, xs.flatten) else none
  | .sl id off len sz' => if sz' = sz then (match h.hp id with | some blk => some (len, (blk.cells.drop off).take (len * sz)) | none => none) else none
  | _ => none

/-- Operations that make or write memory. -/
def heapV (o : AOp) (ρ : AOpd → AV) (h : Hp) (id : Id) : Option (AV × Hp) :=
  match o with
  | .alloc z => if (h.hp id).isNone then some (.ptr id 0, h.push id z) else none
  | .box x => if (h.hp id).isNone then (cellsA (ρ x)).map fun cs => (.ptr id 0, h.push id cs) else none
  | .buildSl sz len z ps => if (h.hp id).isNone then (fillA z (ps.map fun p => (p.1, p.2.1, ρ p.2.2))).map fun cs => if len = 0 then (.nil, h) else (.sl id 0 len sz, h.push id cs) else none
  | .mksl sz bytes z l c =>
    match ρ l, ρ c with
    | .lit (.int _ l), .lit (.int _ c) => if (h.hp id).isNone ∧ 0 ≤ l ∧ l ≤ c ∧ c ≤ 281474976710656 ∧ bytes * c ≤ 281474976710656 then some (.sl id 0 l.toNat sz, h.push id (List.replicate l.toNat z).flatten) else none
    | _, _ => none
  | .store n a x =>
    match ρ a with
    | .ptr t off =>
      match h.hp t with
      | some blk => match cellsA (ρ x) with
        | some cs => if blk.wr = true ∧ cs.length = n ∧ cs.all one ∧ off + n ≤ blk.cells.length then some (.undef, h.put t (splice blk.cells off cs)) else none
        | none => none
      | none => none
    | _ => none
  | .append sz bytes s x =>
    match appSrc h sz (ρ x) with
    | none => none
    | some (n, new) =>
      match ρ s with
      | .nil => if n = 0 then some (.nil, h) else if n * bytes ≤ 281474976710656 then some (.sl id 0 n sz, h.push id new) else none
      | .sl t off len sz' =>
        match h.hp t with
        | some blk => if sz' = sz ∧ blk.wr = true ∧ new.all one ∧ (len + n + (len + n) / 4 + 512) * bytes ≤ 281474976710656 then
            some (.sl id 0 (len + n) sz, (h.kill t).push id ((blk.cells.drop off).take (len * sz) ++ new)) else none
        | none => none
      | _ => none
  | _ => none

section
variable {P : Program} {c : Cx}

/-- What an operation on the heap does. -/
def Makes (P : Program) (c : Cx) (id : Id) (x : Sem Value) (r : AV) (h' : Hp) : Prop :=
  ∃ (v : Value) (c' : Cx), x.run P c.w = .ok v c'.w ∧ c'.h = h' ∧ VRep c' v r ∧ Le c c' ∧ HRep c' ∧ Fr c c' ∧ ∀ i, c'.al i → c.al i ∨ i = id

theorem ptr_mk {c' : Cx} {nx : Id} {g : Nat} (h1 : c'.al nx) (h2 : c'.φ nx = (g, 0)) : VRep c' (.pointer (some ⟨g, 0, none⟩)) (.ptr nx 0) := by
  simp only [VRep]; exact ⟨h1, by rw [h2]⟩

theorem alloc_op {q : Bool} {e : TypeId} {ao : AOp} (hc : cOp P q (.alloc e) = some ao) (hH : HRep c) {id : Id} (hn : ¬ c.al id) {ρA : AOpd → AV} {r : AV} {h' : Hp} (hp : heapV ao ρA c.h id = some (r, h')) :
    Makes P c id (Instr.alloc e true (.tuple #[])) r h' := by
  simp only [cOp, Option.map_eq_some_iff] at hc
  obtain ⟨z, h1, rfl⟩ := hc
  simp only [heapV] at hp
  split at hp
  case isFalse => cases hp
  simp only [Option.some.injEq, Prod.mk.injEq] at hp
  obtain ⟨rfl, rfl⟩ := hp
  obtain ⟨i, v, h2, h3, h4⟩ := zeroOf_inv h1
  have hr := toAVs_sound (c := c) h4
  obtain ⟨c', e1, e2, e3, hle, hH', hfr, e4⟩ := push_step hH hn (w' := { c.w with heap := c.w.heap.push (.cells v.cells e) }) (arr := v.cells) (el := e) (cells := z) rfl rfl rfl rfl (by have := hr.length; simp at this; omega)
    (fun i x hx => by obtain ⟨u, h5, h6⟩ := hr.get hx; exact ⟨u, by simpa using h5, h6⟩)
  refine ⟨_, c', ?_, e2, ptr_mk (g := c.w.heap.size) (by rw [e4]; simp) e3, hle, hH', hfr, fun i hi => by rw [e4] at hi; exact hi⟩
  rw [e1]
  simp [Instr.alloc, zeroValue, typeInfo, h2, h3, newVar, newRow]

theorem box_op {q : Bool} {e : TypeId} {x : Operand} {ao : AOp} (hc : cOp P q (.box e x) = some ao) (hH : HRep c) {id : Id} (hn : ¬ c.al id) {ρ : Operand → Value} {ρA : AOpd → AV} (hρ : ∀ x y, cOpd x = some y → VRep c (ρ x) (ρA y)) {r : AV} {h' : Hp} (hp : heapV ao ρA c.h id = some (r, h')) :
    Makes P c id (Instr.box e (ρ x)) r h' := by
  simp only [cOp, Option.map_eq_some_iff] at hc
  obtain ⟨y, h1, rfl⟩ := hc
  simp only [heapV] at hp
  split at hp
  case isFalse => cases hp
  simp only [Option.map_eq_some_iff, Prod.mk.injEq] at hp
  obtain ⟨cs, h2, rfl, rfl⟩ := hp
  have hr := cellsA_sound (hρ x y h1) h2
  obtain ⟨c', e1, e2, e3, hle, hH', hfr, e4⟩ := push_step hH hn (w' := { c.w with heap := c.w.heap.push (.cells (ρ x).cells e) }) (arr := (ρ x).cells) (el := e) (cells := cs) rfl rfl rfl rfl (by have := hr.length; simp at this; omega)
    (fun i x hx => by obtain ⟨u, h5, h6⟩ := hr.get hx; exact ⟨u, by simpa using h5, h6⟩)
  refine ⟨_, c', ?_, e2, ptr_mk (g := c.w.heap.size) (by rw [e4]; simp) e3, hle, hH', hfr, fun i hi => by rw [e4] at hi; exact hi⟩
  rw [e1]
  simp [Instr.box, newVar, newRow]

theorem sl_mk {c' : Cx} {nx : Id} {g len cap sz : Nat} {arr : Array Value} {el : TypeId} {cells : List AV} (h1 : c'.al nx) (h2 : c'.φ nx = (g, 0)) (hb : c'.h.hp nx = some ⟨true, cells⟩) (hl : len * sz ≤ cells.length) (hc : len ≤ cap)
    (hw : c'.w.heap[g]? = some (.cells arr el (0, 0))) (ha : cap * sz ≤ arr.size) : VRep c' (.slice (some ⟨g, 0, none⟩) len cap) (.sl nx 0 len sz) := by
  simp only [VRep]
  refine ⟨h1, .inl ⟨cap, by rw [h2], hc, fun blk hblk => ?_⟩⟩
  rw [hb] at hblk
  cases hblk
  refine ⟨by simpa using hl, arr, el, _, by rw [h2]; exact hw, by rw [h2]; simpa using ha⟩

theorem fillA_length : ∀ {ps : List (Nat × Nat × AV)} {z out : List AV}, fillA z ps = some out → out.length = z.length
  | [], z, out, h => by simp [fillA] at h; rw [h]
  | (off, size, v) :: ps, z, out, h => by
    simp only [fillA] at h
    split at h
    · rename_i cs _
      split at h
      · rename_i hl
        rw [fillA_length h, splice_length (by omega)]
      · cases h
    · cases h

theorem run_zeroValue' {e : TypeId} {i : TypeInfo} {v : Value} (h2 : P.info? e = some i) (h3 : i.zero = some v) (w : World) : (zeroValue e).run P w = .ok v w := by
  simp [zeroValue, typeInfo, h2, h3]

theorem buildSl_op {q : Bool} {t : TypeId} {len : Nat} {ps : Array (Nat × Operand)} {ao : AOp} (hc : cOp P q (.buildSlice t len ps) = some ao) (hH : HRep c) {id : Id} (hn : ¬ c.al id) {ρ : Operand → Value} {ρA : AOpd → AV} (hρ : ∀ x y, cOpd x = some y → VRep c (ρ x) (ρA y)) {r : AV} {h' : Hp}
    (hp : heapV ao ρA c.h id = some (r, h')) : Makes P c id (Instr.buildSlice t len (ps.map fun (i, x) => (i, ρ x))) r h' := by
  simp only [cOp] at hc
  split at hc
  · rename_i e hu
    simp only [Option.bind_eq_some_iff] at hc
    obtain ⟨i, h1, z, h2, hc⟩ := hc
    split at hc
    · rename_i hsz
      simp only [Option.map_eq_some_iff] at hc
      obtain ⟨qs, h3, rfl⟩ := hc
      simp only [heapV] at hp
      split at hp
      case isFalse => cases hp
      simp only [Option.map_eq_some_iff] at hp
      obtain ⟨cs, h4, h5⟩ := hp
      obtain ⟨i', v, g1, g2, g3⟩ := zeroOf_inv h2
      rw [h1] at g1
      cases g1
      have hz := toAVs_sound (c := c) g3
      have hzs : Reps c ((List.range (len * i.size)).map fun k => v.cells.toList.getD (k % z.length) default) ((List.range (len * i.size)).map fun k => z.getD (k % z.length) .undef) := by
        refine Reps.of_get (by simp) fun k a b ha hb => ?_
        simp only [List.getElem?_map, Option.map_eq_some_iff] at ha hb
        obtain ⟨k1, hk1, rfl⟩ := ha
        obtain ⟨k2, hk2, rfl⟩ := hb
        rw [hk1] at hk2
        cases hk2
        rw [List.getD_eq_getElem?_getD, List.getD_eq_getElem?_getD]
        cases hq : z[k1 % z.length]? with
        | none => simp [VRep]
        | some y =>
          obtain ⟨u, h6, h7⟩ := hz.get hq
          simpa [h6] using h7
      have hpr := cParts_rep hρ h3
      obtain ⟨cells, e1, hR, hcsz⟩ := fillA_sound hpr hzs h4
      have hlz := hz.length
      have hz0 : len * i.size = 0 → ((Array.range (len * i.size)).map fun k => (#[] : Array Value)[k % (#[] : Array Value).size]!) = ((List.range (len * i.size)).map fun k => v.cells.toList.getD (k % z.length) default).toArray := fun h0 => by simp [h0]
      have hz1 : ((Array.range (len * i.size)).map fun k => v.cells[k % v.cells.size]!) = ((List.range (len * i.size)).map fun k => v.cells.toList.getD (k % z.length) default).toArray := by
        apply Array.ext'
        simp only [Array.toList_map, Array.toList_range]
        apply List.map_congr_left
        intro k _
        have : v.cells.size = z.length := by simpa using hlz
        rw [this, List.getD_eq_getElem?_getD, Array.getElem!_eq_getD, Array.getD_eq_getD_getElem?]
        simp
      obtain ⟨c', f1, f2, f3, hle, hH', hfr, f4⟩ := push_step hH hn (w' := { c.w with heap := c.w.heap.push (.cells cells e) }) (arr := cells) (el := e) (cells := cs) rfl rfl rfl rfl (by have := hR.length; simp at this; omega)
        (fun i x hx => by obtain ⟨u, h5, h6⟩ := hR.get hx; exact ⟨u, by simpa using h5, h6⟩)
      have run : (Instr.buildSlice t len (ps.map fun (i, x) => (i, ρ x))).run P c.w = .ok (.slice (some ⟨c.w.heap.size, 0, none⟩) len len) c'.w := by
        rw [f1]
        unfold Instr.buildSlice
        simp only [Sem.run_bind, run_underlying hu, Result.andThen_ok, run_sizeOf' h1]
        rw [if_neg (by omega)]
        have e1' : Instr.fill (fun k => some (k * i.size, i.size)) ((List.range (len * i.size)).map fun k => v.cells.toList.getD (k % z.length) default).toArray (ps.map fun (i, x) => (i, ρ x)).toList = some cells := by
          simpa using e1
        by_cases h0 : len * i.size = 0
        · rw [if_pos h0]
          simp only [Sem.run_bind, Sem.run_pure, Result.andThen_ok, hz0 h0]
          rw [e1']
          simp [newRow]
        · rw [if_neg h0]
          simp only [Sem.run_bind, Sem.run_pure, Result.andThen_ok, run_zeroValue' h1 g2, hz1]
          rw [e1']
          simp [newRow]
      split at h5
      · rename_i hl0
        cases h5
        subst hl0
        -- the old abstract heap, in the new world
        have hle0 : Le c ⟨c'.w, c.S, c.h, c.φ, c.al⟩ := ⟨fun b hb => ⟨hb, (hle.S b hb).2⟩, fun _ h => h, fun _ _ => rfl, fun id hid blk hb => by
          refine ⟨blk, hb, rfl, fun arr el fr ha => ?_⟩
          have hlt : (c.φ id).1 < c.w.heap.size := (Array.getElem?_eq_some_iff.1 ha).1
          exact ⟨arr, by rw [f1]; simp only [Array.getElem?_push]; rw [if_neg (by omega)]; exact ha, rfl⟩⟩
        have hold : ∀ b, b < c.w.heap.size → c'.w.heap[b]? = c.w.heap[b]? := fun b hb => by rw [f1]; simp only [Array.getElem?_push]; rw [if_neg (by omega)]
        refine ⟨_, ⟨c'.w, c.S, c.h, c.φ, c.al⟩, run, rfl, by simp only [VRep]; exact ⟨_, rfl⟩, hle0, ⟨fun b hb => ?_, fun id blk hb => ?_, fun id es hb => ?_, hH.inj⟩, ⟨hfr.os, hfr.tape, hfr.output, hfr.size, fun b hb _ => hold b hb, fun b hb => .inl hb, fun b hb => .inl hb⟩, fun i hi => .inl hi⟩
        · have := hH.slt b hb; have := hfr.size; simp only; omega
        · obtain ⟨a1, ⟨arr, el, a2, a3⟩, a4, a5, a6⟩ := hH.blk id blk hb
          have hlt : (c.φ id).1 < c.w.heap.size := (Array.getElem?_eq_some_iff.1 a2).1
          exact ⟨a1, ⟨arr, el, by rw [hold _ hlt]; exact a2, a3⟩, CRep.mono hle0 _ (hold _ hlt) _ _ a4, a5, a6⟩
        · obtain ⟨a1, a2, a3, ents, cl, a4, a5⟩ := hH.mp id es hb
          have hlt : (c.φ id).1 < c.w.heap.size := (Array.getElem?_eq_some_iff.1 a4).1
          exact ⟨a1, a2, a3, ents, cl, by rw [hold _ hlt]; exact a4, ERep.mono hle0 _ _ a5⟩
      · cases h5
        have hl1 : cs.length = len * i.size := by rw [fillA_length h4]; simp
        refine ⟨_, c', run, f2, ?_, hle, hH', hfr, fun i hi => by rw [f4] at hi; exact hi⟩
        have hnew : c'.w.heap[c.w.heap.size]? = some (.cells cells e (0, 0)) := by rw [f1]; simp
        have hcsl : cells.size = cs.length := by have := hR.length; simpa using this
        exact sl_mk (cells := cs) (by rw [f4]; simp) f3 (by rw [f2]; simp [Hp.push]) (by omega) (Nat.le_refl _) hnew (by omega)
    · cases hc
  · cases hc
end
end Go.Proofs.Hx
