import Derived.Test.YtcdibfkebojefaaAm9
set_option linter.unusedVariables false
set_option linter.unusedSimpArgs false
namespace Go.Proofs.Hx

theorem growBy_le (n : Nat) : ∀ (k c : Nat), c ≤ n + n / 4 + 512 → Builtin.growBy n k c ≤ n + n / 4 + 512
  | 0, c, h => by simpa [Builtin.growBy] using h
  | k + 1, c, h => by
    simp only [Builtin.growBy]
    split
    · exact h
    · exact growBy_le n k _ (by omega)
theorem nextslicecap_le {need cap : Nat} (h : cap < need) : Builtin.nextslicecap need cap ≤ need + need / 4 + 512 := by
  unfold Builtin.nextslicecap
  split
  · omega
  · split
    · omega
    · exact growBy_le _ _ _ (by omega)
theorem nextslicecap_zero {need : Nat} (h : 0 < need) : Builtin.nextslicecap need 0 = need := by
  unfold Builtin.nextslicecap
  rw [if_pos (by omega)]

section
variable {P : Program} {c : Cx}

theorem CRep.append {b : Nat} : ∀ {off : Nat} {xs ys : List AV}, CRep c b off xs → CRep c b (off + xs.length) ys → CRep c b off (xs ++ ys)
  | off, [], ys, _, h => by simpa using h
  | off, x :: xs, ys, h, k => by
    simp only [CRep, List.cons_append] at h ⊢
    refine ⟨h.1, CRep.append h.2 ?_⟩
    rw [show off + 1 + xs.length = off + (x :: xs).length by simp; omega]
    exact k
theorem RRep.flatten {b sz : Nat} : ∀ {off : Nat} {xs : List (List AV)}, RRep c b sz off xs → CRep c b off xs.flatten
  | off, [], _ => by simp [CRep]
  | off, x :: xs, h => by
    simp only [RRep, List.flatten_cons] at h ⊢
    refine CRep.append h.2.1 ?_
    rw [h.1]
    exact RRep.flatten h.2.2
theorem flatten_length {sz : Nat} : ∀ {xs : List (List AV)}, (∀ x ∈ xs, x.length = sz) → xs.flatten.length = xs.length * sz
  | [], _ => by simp
  | x :: xs, h => by
    simp only [List.flatten_cons, List.length_append, List.length_cons]
    rw [h x (by simp), flatten_length fun y hy => h y (by simp [hy]), Nat.add_mul]
    omega

/-- The cells of a source, as values. -/
theorem load_cells {b off : Nat} {cs : List AV} {n : Nat} (h : CRep c b off cs) (hn : cs.length = n) : ∃ vs : List Value, Reps c vs cs ∧ vs.length = n ∧ ∀ w' : World, w'.heap = c.w.heap → (loadCells ⟨b, off, none⟩ n).run P w' = .ok vs.toArray w' := by
  obtain ⟨vs, h1, h2⟩ := h.vals
  have hl : vs.length = n := by rw [h1.length, hn]
  refine ⟨vs, h1, hl, fun w' hw => ?_⟩
  have := run_loadCells_list (P := P) w' ⟨b, off, none⟩ vs (fun j v hv => by rw [add_addr]; have := h2 j v hv; simpa [World.cell?, hw] using this)
  rwa [hl] at this

theorem appSrc_sound (hH : HRep c) {sz : Nat} {x : Value} {xa : AV} {n : Nat} {new : List AV} (hx : VRep c x xa) (h : appSrc c.h sz xa = some (n, new)) :
    new.length = n * sz ∧ (Builtin.lenOf x).run P c.w = .ok n c.w ∧ ∃ vs : List Value, Reps c vs new ∧ ∀ w' : World, w'.heap = c.w.heap → (Builtin.firstCells sz n x).run P w' = .ok vs.toArray w' := by
  unfold appSrc at h
  split at h
  · simp only [Option.some.injEq, Prod.mk.injEq] at h
    obtain ⟨rfl, rfl⟩ := h
    simp only [VRep] at hx
    obtain ⟨a, rfl⟩ := hx
    refine ⟨by simp, rfl, [], by simp [Reps], fun w' _ => ?_⟩
    cases a <;> simp [Builtin.firstCells, loadCells, loadCellsFrom]
  · rename_i xs
    split at h
    · rename_i hall
      simp only [Option.some.injEq, Prod.mk.injEq] at h
      obtain ⟨rfl, rfl⟩ := h
      have hall' : ∀ y ∈ xs, y.length = sz := fun y hy => by simpa using List.all_eq_true.1 hall y hy
      simp only [VRep] at hx
      obtain ⟨addr, cap, rfl, hc, hr⟩ := hx
      refine ⟨flatten_length hall', rfl, ?_⟩
      cases xs with
      | nil =>
        refine ⟨[], by simp [Reps], fun w' _ => ?_⟩
        cases addr <;> simp [Builtin.firstCells, loadCells, loadCellsFrom]
      | cons y ys =>
        obtain ⟨b, off, sz', rfl, hs, hr⟩ := hr (by simp)
        have : sz' = sz := by
          have h1 := (hr.get (i := 0) rfl).1
          have h2 := hall' y (by simp)
          omega
        subst this
        obtain ⟨vs, h1, _, h3⟩ := load_cells (P := P) hr.flatten (flatten_length hall')
        exact ⟨vs, h1, h3⟩
    · cases h
  · rename_i id off len sz'
    split at h
    · rename_i e
      subst e
      split at h
      · rename_i blk hb
        simp only [Option.some.injEq, Prod.mk.injEq] at h
        obtain ⟨rfl, rfl⟩ := h
        simp only [VRep] at hx
        obtain ⟨hid, ⟨cap, rfl, hc, h7⟩ | ⟨rfl, a, rfl⟩⟩ := hx
        · obtain ⟨h8, arr, el, fr, h9, h10⟩ := h7 blk hb
          obtain ⟨_, _, hcr, _⟩ := hH.blk id blk hb
          have hlen : ((blk.cells.drop off).take (len * sz')).length = len * sz' := by simp; omega
          refine ⟨hlen, rfl, ?_⟩
          obtain ⟨vs, h1, _, h3⟩ := load_cells (P := P) ((hcr.drop off).take (len * sz')) hlen
          exact ⟨vs, h1, h3⟩
        · refine ⟨by simp, rfl, [], by simp [Reps], fun w' _ => ?_⟩
          cases a <;> simp [Builtin.firstCells, loadCells, loadCellsFrom]
      · cases h
    · cases h
  · cases h

/-- An append that must grow. -/
theorem append_grow (hH : HRep c) {nid : Id} (hn : ¬ c.al nid) {t u e e' ty : TypeId} {i : TypeInfo} {z : Value} {tys : Array TypeId} {x : Value} {n len cap : Nat} {base : Option Addr} {old new : List AV} {ovs nvs : List Value}
    (h1 : tys[0]? = some t) (h2 : tys[1]? = some u) (hu : P.underlying t = some (.slice e)) (hu' : P.underlying u = some (.slice e')) (hi : P.info? e = some i) (hz : i.zero = some z) (hzs : z.cells.size = i.size) (hby : i.bytes ≠ 0)
    (hlen : (Builtin.lenOf x).run P c.w = .ok n c.w) (hnew : Reps c nvs new) (hfn : ∀ w' : World, w'.heap = c.w.heap → (Builtin.firstCells i.size n x).run P w' = .ok nvs.toArray w') (hnl : new.length = n * i.size)
    (hold : Reps c ovs old) (hfo : ∀ w' : World, w'.heap = c.w.heap → (Builtin.firstCells i.size len (.slice base len cap)).run P w' = .ok ovs.toArray w') (hol : old.length = len * i.size)
    (hgrow : cap < len + n) (hroom : Builtin.nextslicecap (len + n) cap * i.bytes ≤ 281474976710656) :
    ∃ (v : Value) (c' : Cx), (Builtin.append_ tys ty #[.slice base len cap, x]).run P c.w = .ok v c'.w ∧ c'.h = c.h.push nid (old ++ new) ∧ VRep c' v (.sl nid 0 (len + n) i.size) ∧ Le c c' ∧ HRep c' ∧ Fr c c' ∧ ∀ i, c'.al i → c.al i ∨ i = nid := by
  have hq : ∃ t', (choose (.appendCap (len + n) cap e)).run P c.w = .ok (len + n + t') { c.w with drawn := c.w.drawn + 1 } := by
    refine ⟨_, by simp [run_choose, Question.forced, Question.cut]; rfl⟩
  obtain ⟨t', hq⟩ := hq
  -- the same context, one draw later
  let cd : Cx := ⟨{ c.w with drawn := c.w.drawn + 1 }, c.S, c.h, c.φ, c.al⟩
  have hled : Le c cd := ⟨fun b h => ⟨h, rfl⟩, fun _ h => h, fun _ _ => rfl, fun id _ blk h => ⟨blk, h, rfl, fun arr el fr h => ⟨arr, h, rfl⟩⟩⟩
  have hHd : HRep cd := ⟨hH.slt, fun id blk h => by obtain ⟨a1, a2, a3, a4, a5⟩ := hH.blk id blk h; exact ⟨a1, a2, CRep.mono hled _ rfl _ _ a3, a4, a5⟩,
    fun id es h => by obtain ⟨a1, a2, a3, ents, cl, a4, a5⟩ := hH.mp id es h; exact ⟨a1, a2, a3, ents, cl, a4, ERep.mono hled _ _ a5⟩, hH.inj⟩
  have hfrd : Fr c cd := ⟨rfl, rfl, rfl, Nat.le_refl _, fun _ _ _ => rfl, fun _ h => .inl h, fun _ h => .inl h⟩
  let arr : Array Value := ovs.toArray ++ nvs.toArray ++ Builtin.zeroCells z.cells t'
  have harr : arr.size = (len + n + t') * i.size := by
    have := hold.length; have := hnew.length
    simp [arr, Builtin.zeroCells, hzs, Nat.add_mul]; omega
  obtain ⟨c', f1, f2, f3, hle, hH', hfr, f4⟩ := push_step hHd hn (w' := { cd.w with heap := cd.w.heap.push (.cells arr e) }) (arr := arr) (el := e) (cells := old ++ new) rfl rfl rfl rfl
    (by rw [harr]; simp only [List.length_append, hol, hnl, Nat.add_mul]; omega)
    (fun j y hy => by
      have hr := Reps.append hold hnew
      obtain ⟨v, g1, g2⟩ := hr.get hy
      refine ⟨v, ?_, VRep.mono hled v y g2⟩
      have hj : j < (ovs ++ nvs).length := (List.getElem?_eq_some_iff.1 g1).1
      simp only [arr]
      rw [Array.getElem?_append_left (by simpa using hj)]
      simpa using g1)
  have hnewb : c'.w.heap[c.w.heap.size]? = some (.cells arr e (0, 0)) := by rw [f1]; simp [cd]
  refine ⟨.slice (some ⟨c.w.heap.size, 0, none⟩) (len + n) (len + n + t'), c', ?_, f2, ?_, hled.trans hle, hH', hfrd.trans hfr, fun i hi => by rw [f4] at hi; exact hi⟩
  · rw [f1]
    have n1 : ¬ (len + n ≤ cap) := by omega
    have n2 : ¬ (Builtin.nextslicecap (len + n) cap * i.bytes > 2 ^ 48) := by simpa using hroom
    unfold Builtin.append_
    simp only [h1, h2, List.getElem?_toArray, List.getElem?_cons_zero, List.getElem?_cons_succ, Sem.run_bind, run_underlying hu, run_underlying hu', run_sizeOf' hi, Result.andThen_ok, Sem.run_pure]
    simp only [Bool.false_eq_true, if_false, Sem.run_bind, Result.andThen_ok, hlen]
    have run0 : ∀ w : World, (typeInfo e).run P w = .ok i w := fun w => by simp [typeInfo, hi]
    rw [if_neg n1]
    simp only [Sem.run_bind, run0, Result.andThen_ok]
    rw [if_neg (by simp [hby])]
    simp only [Sem.run_bind, run0, Result.andThen_ok]
    rw [if_neg n2]
    simp only [Sem.run_bind, run0, Result.andThen_ok, hq, run_askRoom, Bool.not_false, if_true]
    rw [hfo { heap := c.w.heap, tape := c.w.tape, drawn := c.w.drawn + 1, os := c.w.os, output := c.w.output } rfl]
    simp only [Result.andThen_ok]
    rw [hfn { heap := c.w.heap, tape := c.w.tape, drawn := c.w.drawn + 1, os := c.w.os, output := c.w.output } rfl]
    have e1 : len + n + t' - (len + n) = t' := by omega
    simp only [Result.andThen_ok, run_zeroValue' hi hz, e1]
    simp only [newRow, Sem.run_bind, run_newObj, Result.andThen_ok, Sem.run_pure]
    rfl
  · exact sl_mk (cells := old ++ new) (by rw [f4]; simp) f3 (by rw [f2]; simp [Hp.push, cd]) (by simp only [List.length_append, hol, hnl, Nat.add_mul]; omega) (by omega) hnewb (by omega)

/-- An append that finds room. -/
theorem append_fits (hH : HRep c) {nid : Id} (hn : ¬ c.al nid) {t u e e' ty : TypeId} {i : TypeInfo} {tys : Array TypeId} {x : Value} {id : Id} {n len cap off : Nat} {blk : Blk} {new : List AV} {nvs : List Value}
    (h1 : tys[0]? = some t) (h2 : tys[1]? = some u) (hu : P.underlying t = some (.slice e)) (hu' : P.underlying u = some (.slice e')) (hi : P.info? e = some i)
    (hlen : (Builtin.lenOf x).run P c.w = .ok n c.w) (hnew : Reps c nvs new) (hfn : ∀ w' : World, w'.heap = c.w.heap → (Builtin.firstCells i.size n x).run P w' = .ok nvs.toArray w') (hnl : new.length = n * i.size)
    (hone : new.all one = true) (hb : c.h.hp id = some blk) (hwr : blk.wr = true) (hlc : len ≤ cap) (hblk : off + len * i.size ≤ blk.cells.length)
    (hcap : ∃ arr el fr, c.w.heap[(c.φ id).1]? = some (.cells arr el fr) ∧ (c.φ id).2 + off + cap * i.size ≤ arr.size) (hroom : len + n ≤ cap) :
    ∃ (v : Value) (c' : Cx), (Builtin.append_ tys ty #[.slice (some ⟨(c.φ id).1, (c.φ id).2 + off, none⟩) len cap, x]).run P c.w = .ok v c'.w ∧ c'.h = (c.h.kill id).push nid ((blk.cells.drop off).take (len * i.size) ++ new) ∧ VRep c' v (.sl nid 0 (len + n) i.size) ∧ Le c c' ∧ HRep c' ∧ Fr c c' ∧ ∀ i, c'.al i → c.al i ∨ i = nid := by
  obtain ⟨hid, ⟨arr, el, harr, hal⟩, hcr, _⟩ := hH.blk id blk hb
  obtain ⟨arr0, el0, fr0, e0, hcap⟩ := hcap
  rw [harr] at e0
  simp only [Option.some.injEq, Obj.cells.injEq] at e0
  obtain ⟨rfl, rfl, rfl⟩ := e0
  have hnvs : nvs.length = n * i.size := by rw [hnew.length, hnl]
  have hle2 : len * i.size + n * i.size ≤ cap * i.size := by rw [← Nat.add_mul]; exact mul_le_of hroom
  have hall : ∀ v ∈ nvs, v.oneCell' = true := by
    intro v hv
    obtain ⟨j, hj⟩ := List.getElem?_of_mem hv
    have hjl : j < new.length := by rw [← hnew.length]; exact (List.getElem?_eq_some_iff.1 hj).1
    obtain ⟨u, h5, h6⟩ := hnew.get (List.getElem?_eq_getElem hjl)
    rw [hj] at h5
    cases h5
    exact (one_cell h6 (List.all_eq_true.1 hone _ (List.getElem_mem hjl))).1
  have hst := run_storeCells_at (P := P) (c.φ id).1 ((c.φ id).2 + off + len * i.size) el nvs 0 arr c.w harr (by omega) hall
  simp only [Nat.add_zero] at hst
  have harr' : (arr.toList.take ((c.φ id).2 + off + len * i.size) ++ nvs ++ arr.toList.drop ((c.φ id).2 + off + len * i.size + nvs.length)).toArray = (splice arr.toList ((c.φ id).2 + off + len * i.size) nvs).toArray := rfl
  rw [harr'] at hst
  have hsz' : (splice arr.toList ((c.φ id).2 + off + len * i.size) nvs).toArray.size = arr.size := by simp; rw [splice_length (by simp; omega)]; simp
  have hol : ((blk.cells.drop off).take (len * i.size)).length = len * i.size := by simp; omega
  obtain ⟨c', f1, f2, f3, hle, hH', hfr, f4⟩ := take_step hH hn hb hwr (w' := c.w.setRow (c.φ id).1 (splice arr.toList ((c.φ id).2 + off + len * i.size) nvs).toArray) (arr' := (splice arr.toList ((c.φ id).2 + off + len * i.size) nvs).toArray)
    (cells := (blk.cells.drop off).take (len * i.size) ++ new) (base := (c.φ id).2 + off) harr rfl hsz' (by rw [hsz', List.length_append, hol, hnl]; omega) (fun j y hy => by
      simp only [List.getElem?_toArray]
      rw [splice_get _ _ _ (by simp; omega)]
      rcases Nat.lt_or_ge j (len * i.size) with g | g
      · rw [List.getElem?_append_left (by rw [hol]; exact g), List.getElem?_take, if_pos g, List.getElem?_drop] at hy
        rw [if_pos (by omega)]
        obtain ⟨v, g1, g2⟩ := hcr.get hy
        refine ⟨v, ?_, g2⟩
        have : c.w.cell? ⟨(c.φ id).1, (c.φ id).2 + off + j, none⟩ = some v := by rw [Nat.add_assoc]; exact g1
        simpa [World.cell?, harr] using this
      · rw [List.getElem?_append_right (by rw [hol]; exact g), hol] at hy
        have hj2 : j - len * i.size < new.length := (List.getElem?_eq_some_iff.1 hy).1
        rw [if_neg (by omega), if_pos (by omega), show (c.φ id).2 + off + j - ((c.φ id).2 + off + len * i.size) = j - len * i.size by omega]
        exact hnew.get hy)
  refine ⟨.slice (some ⟨(c.φ id).1, (c.φ id).2 + off, none⟩) (len + n) cap, c', ?_, f2, ?_, hle, hH', hfr, fun i hi => by rw [f4] at hi; exact hi⟩
  · rw [f1]
    unfold Builtin.append_
    simp only [h1, h2, List.getElem?_toArray, List.getElem?_cons_zero, List.getElem?_cons_succ, Sem.run_bind, run_underlying hu, run_underlying hu', run_sizeOf' hi, Result.andThen_ok, Sem.run_pure]
    simp only [Bool.false_eq_true, if_false, Sem.run_bind, Result.andThen_ok, hlen]
    rw [if_pos hroom]
    simp only [Sem.run_bind, Bool.not_false, if_true]
    rw [hfn c.w rfl]
    simp only [Result.andThen_ok, add_addr]
    rw [hst]
    simp
  · simp only [VRep]
    refine ⟨by rw [f4]; simp, .inl ⟨cap, by rw [f3]; simp, hroom, fun bl hbl => ?_⟩⟩
    rw [f2] at hbl
    simp only [Hp.push, Hp.kill, upd_same, Option.some.injEq] at hbl
    subst hbl
    refine ⟨by rw [List.length_append, hol, hnl, Nat.add_mul]; omega, (splice arr.toList ((c.φ id).2 + off + len * i.size) nvs).toArray, el, (0, 0), ?_, ?_⟩
    · rw [f3, f1]; exact setRow_heap _ _ _ _ _ _ harr
    · rw [f3, hsz']; simp only; omega

theorem append_op (hH : HRep c) {nid : Id} (hn : ¬ c.al nid) {tys : Array TypeId} {ty : TypeId} {s x : Operand} {ao : AOp} (hc : cBuiltin P .append [s, x] tys = some ao) {ρ : Operand → Value} {ρA : AOpd → AV} (hρ : ∀ x y, cOpd x = some y → VRep c (ρ x) (ρA y)) {r : AV} {h' : Hp}
    (hp : heapV ao ρA c.h nid = some (r, h')) : Makes P c nid (Builtin.append_ tys ty #[ρ s, ρ x]) r h' := by
  simp only [cBuiltin, Option.bind_eq_some_iff] at hc
  obtain ⟨t, h1, u, h2, sA, h3, xA, h4, hc⟩ := hc
  have hs := hρ s sA h3
  have hx := hρ x xA h4
  split at hc
  · rename_i e e' hu hu'
    simp only [Option.bind_eq_some_iff] at hc
    obtain ⟨i, hi, z, hz, hc⟩ := hc
    split at hc
    · rename_i hcond
      obtain ⟨hzs, hby⟩ := hcond
      simp only [Option.some.injEq] at hc
      subst hc
      simp only [heapV] at hp
      split at hp
      · cases hp
      · rename_i n new hsrc
        obtain ⟨hnl, hlen, nvs, hnew, hfn⟩ := appSrc_sound (P := P) hH hx hsrc
        -- a slice of no room
        have empty : ∀ (a : Option Addr), n ≠ 0 → n * i.bytes ≤ 281474976710656 → ∃ (v : Value) (c' : Cx), (Builtin.append_ tys ty #[.slice a 0 0, ρ x]).run P c.w = .ok v c'.w ∧ c'.h = c.h.push nid new ∧ VRep c' v (.sl nid 0 n i.size) ∧ Le c c' ∧ HRep c' ∧ Fr c c' ∧ ∀ i, c'.al i → c.al i ∨ i = nid := fun a h0 hb => by
          have := append_grow (P := P) (ty := ty) hH hn (x := ρ x) (n := n) (len := 0) (cap := 0) (base := a) (old := []) (new := new) (ovs := []) (nvs := nvs) h1 h2 hu hu' hi hz hzs hby hlen hnew hfn hnl (by simp [Reps])
            (fun w' _ => by cases a <;> simp [Builtin.firstCells, loadCells, loadCellsFrom]) (by simp) (by omega) (by rw [nextslicecap_zero (by omega)]; simpa using hb)
          simpa using this
        have none0 : ∀ (a : Option Addr), n = 0 → (Builtin.append_ tys ty #[.slice a 0 0, ρ x]).run P c.w = .ok (.slice a 0 0) c.w := fun a h0 => by
          subst h0
          unfold Builtin.append_
          simp only [h1, h2, List.getElem?_toArray, List.getElem?_cons_zero, List.getElem?_cons_succ, Sem.run_bind, run_underlying hu, run_underlying hu', run_sizeOf' hi, Result.andThen_ok, Sem.run_pure]
          simp only [Bool.false_eq_true, if_false, Sem.run_bind, Result.andThen_ok, hlen]
          rw [if_pos (by omega)]
          simp only [Sem.run_bind, Bool.not_false, if_true]
          rw [hfn c.w rfl]
          have hn0 : nvs = [] := by have := hnew.length; rw [hnl] at this; simpa using this
          subst hn0
          cases a <;> simp [storeCells]
        split at hp
        · rename_i es
          rw [es] at hs
          simp only [VRep] at hs
          obtain ⟨a, hs⟩ := hs
          rw [hs]
          split at hp
          · rename_i h0
            simp only [Option.some.injEq, Prod.mk.injEq] at hp
            obtain ⟨rfl, rfl⟩ := hp
            exact ⟨_, c, none0 a h0, rfl, by simp only [VRep]; exact ⟨a, rfl⟩, Le.refl c, hH, Fr.refl c, fun _ h => .inl h⟩
          · rename_i h0
            split at hp
            · rename_i hb
              simp only [Option.some.injEq, Prod.mk.injEq] at hp
              obtain ⟨rfl, rfl⟩ := hp
              exact empty a h0 hb
            · cases hp
        · rename_i id off len sz' es
          rw [es] at hs
          split at hp
          · rename_i blk hb
            split at hp
            · rename_i hcond
              obtain ⟨rfl, hwr, hone, hroom⟩ := hcond
              simp only [Option.some.injEq, Prod.mk.injEq] at hp
              obtain ⟨rfl, rfl⟩ := hp
              simp only [VRep] at hs
              obtain ⟨hid, ⟨cap, hs, hlc, h7⟩ | ⟨rfl, a, hs⟩⟩ := hs
              · rw [hs]
                obtain ⟨h8, hcap⟩ := h7 blk hb
                rcases Nat.lt_or_ge cap (len + n) with g | g
                · obtain ⟨_, _, hcr, _⟩ := hH.blk id blk hb
                  have hol : ((blk.cells.drop off).take (len * i.size)).length = len * i.size := by simp; omega
                  obtain ⟨hle, hHk, hfrk⟩ := kill_step hH id
                  obtain ⟨ovs, ho1, _, ho3⟩ := load_cells (P := P) ((hcr.drop off).take (len * i.size)) hol
                  obtain ⟨v, c', g1, g2, g3, g4, g5, g6, g7⟩ := append_grow (P := P) (ty := ty) hHk hn (x := ρ x) (n := n) (len := len) (cap := cap) (base := some ⟨(c.φ id).1, (c.φ id).2 + off, none⟩) (old := (blk.cells.drop off).take (len * i.size)) (new := new) (ovs := ovs) (nvs := nvs)
                    h1 h2 hu hu' hi hz hzs hby hlen (Reps.mono hle _ _ hnew) hfn hnl (Reps.mono hle _ _ ho1) ho3 hol g (by
                      have := nextslicecap_le (need := len + n) (cap := cap) g
                      exact Nat.le_trans (Nat.mul_le_mul_right _ this) hroom)
                  exact ⟨v, c', g1, g2, g3, hle.trans g4, g5, hfrk.trans g6, g7⟩
                · exact append_fits (P := P) (ty := ty) hH hn h1 h2 hu hu' hi hlen hnew hfn hnl hone hb hwr hlc h8 hcap g
              · rw [hs]
                obtain ⟨_, ⟨arr, el, harr, hal⟩, hcr, _⟩ := hH.blk id blk hb
                simp only [Nat.zero_add, Nat.zero_mul, List.take_zero, List.nil_append]
                by_cases h0 : n = 0
                · have hn0 : new = [] := by rw [h0] at hnl; simpa using hnl
                  subst hn0
                  obtain ⟨c', f1, f2, f3, hle, hH', hfr, f4⟩ := take_step hH hn hb hwr (w' := c.w) (arr' := arr) (cells := []) (base := 0) harr (setRow_self c.w _ arr el (0, 0) harr).symm rfl (by simp) (fun j y hy => by simp at hy)
                  refine ⟨_, c', by rw [f1]; exact none0 a h0, f2, ?_, hle, hH', hfr, fun i hi => by rw [f4] at hi; exact hi⟩
                  simp only [VRep]
                  exact ⟨by rw [f4]; simp, .inr ⟨h0, a, rfl⟩⟩
                · obtain ⟨hle, hHk, hfrk⟩ := kill_step hH id
                  have := append_grow (P := P) (ty := ty) hHk hn (x := ρ x) (n := n) (len := 0) (cap := 0) (base := a) (old := []) (new := new) (ovs := []) (nvs := nvs) h1 h2 hu hu' hi hz hzs hby hlen (Reps.mono hle _ _ hnew) hfn hnl (by simp [Reps])
                    (fun w' _ => by cases a <;> simp [Builtin.firstCells, loadCells, loadCellsFrom]) (by simp) (by omega) (by
                      have h9 := nextslicecap_le (need := 0 + n) (cap := 0) (by omega)
                      exact Nat.le_trans (Nat.mul_le_mul_right _ h9) hroom)
                  simp only [Nat.zero_add, List.nil_append] at this
                  obtain ⟨v, c', g1, g2, g3, g4, g5, g6, g7⟩ := this
                  exact ⟨v, c', g1, g2, g3, hle.trans g4, g5, hfrk.trans g6, g7⟩
            · cases hp
          · cases hp
        · cases hp
    · cases hc
  · cases hc
end
end Go.Proofs.Hx
