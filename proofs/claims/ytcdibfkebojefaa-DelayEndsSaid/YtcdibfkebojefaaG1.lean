import Derived.Test.YtcdibfkebojefaaG0
set_option linter.unusedVariables false
set_option linter.unusedSimpArgs false
namespace Go.Proofs.Hx

theorem growBy_le (n : Nat) : ∀ (k c : Nat), c ≤ n + n / 4 + 512 → Builtin.growBy n k c ≤ n + n / 4 + 512
  | 0, c, h => by simpa [Builtin.growBy] using h
  | k + 1, c, h => by
    simp only [Builtin.growBy]
    split
    · exact h
    · exact growBy_le n k _ (by omega)
theorem nextslicecap_le {need cap : Nat} (h : cap < need) : Builtin.nextslicecap need cap ≤ need + need / 4 + 512 := by
  unfold Builtin.nextslicecap
  split
  · omega
  · split
    · omega
    · exact growBy_le _ _ _ (by omega)
theorem nextslicecap_zero {need : Nat} (h : 0 < need) : Builtin.nextslicecap need 0 = need := by
  unfold Builtin.nextslicecap
  rw [if_pos (by omega)]

section
variable {P : Program} {c : Cx}

theorem CRep.append {b : Nat} : ∀ {off : Nat} {xs ys : List AV}, CRep c b off xs → CRep c b (off + xs.length) ys → CRep c b off (xs ++ ys)
  | off, [], ys, _, h => by simpa using h
  | off, x :: xs, ys, h, k => by
    simp only [CRep, List.cons_append] at h ⊢
    refine ⟨h.1, CRep.append h.2 ?_⟩
    rw [show off + 1 + xs.length = off + (x :: xs).length by simp; omega]
    exact k
theorem RRep.flatten {b sz : Nat} : ∀ {off : Nat} {xs : List (List AV)}, RRep c b sz off xs → CRep c b off xs.flatten
  | off, [], _ => by simp [CRep]
  | off, x :: xs, h => by
    simp only [RRep, List.flatten_cons] at h ⊢
    refine CRep.append h.2.1 ?_
    rw [h.1]
    exact RRep.flatten h.2.2
theorem flatten_length {sz : Nat} : ∀ {xs : List (List AV)}, (∀ x ∈ xs, x.length = sz) → xs.flatten.length = xs.length * sz
  | [], _ => by simp
  | x :: xs, h => by
    simp only [List.flatten_cons, List.length_append, List.length_cons]
    rw [h x (by simp), flatten_length fun y hy => h y (by simp [hy]), Nat.add_mul]
    omega

/-- The cells of a source, as values. -/
theorem load_cells {b off : Nat} {cs : List AV} {n : Nat} (h : CRep c b off cs) (hn : cs.length = n) : ∃ vs : List Value, Reps c vs cs ∧ vs.length = n ∧ ∀ w' : World, w'.heap = c.w.heap → (loadCells ⟨b, off, none⟩ n).run P w' = .ok vs.toArray w' := by
  obtain ⟨vs, h1, h2⟩ := h.vals
  have hl : vs.length = n := by rw [h1.length, hn]
  refine ⟨vs, h1, hl, fun w' hw => ?_⟩
  have := run_loadCells_list (P := P) w' ⟨b, off, none⟩ vs (fun j v hv => by rw [add_addr]; have := h2 j v hv; simpa [World.cell?, hw] using this)
  rwa [hl] at this

theorem appSrc_sound (hH : HRep c) {sz : Nat} {x : Value} {xa : AV} {n : Nat} {new : List AV} (hx : VRep c x xa) (h : appSrc c.h sz xa = some (n, new)) :
    new.length = n * sz ∧ (Builtin.lenOf x).run P c.w = .ok n c.w ∧ ∃ vs : List Value, Reps c vs new ∧ ∀ w' : World, w'.heap = c.w.heap → (Builtin.firstCells sz n x).run P w' = .ok vs.toArray w' := by
  unfold appSrc at h
  split at h
  · simp only [Option.some.injEq, Prod.mk.injEq] at h
    obtain ⟨rfl, rfl⟩ := h
    simp only [VRep] at hx
    obtain ⟨a, rfl⟩ := hx
    refine ⟨by simp, rfl, [], by simp [Reps], fun w' _ => ?_⟩
    cases a <;> simp [Builtin.firstCells, loadCells, loadCellsFrom]
  · rename_i xs
    split at h
    · rename_i hall
      simp only [Option.some.injEq, Prod.mk.injEq] at h
      obtain ⟨rfl, rfl⟩ := h
      have hall' : ∀ y ∈ xs, y.length = sz := fun y hy => by simpa using List.all_eq_true.1 hall y hy
      simp only [VRep] at hx
      obtain ⟨addr, cap, rfl, hc, hr⟩ := hx
      refine ⟨flatten_length hall', rfl, ?_⟩
      cases xs with
      | nil =>
        refine ⟨[], by simp [Reps], fun w' _ => ?_⟩
        cases addr <;> simp [Builtin.firstCells, loadCells, loadCellsFrom]
      | cons y ys =>
        obtain ⟨b, off, sz', rfl, hs, hr⟩ := hr (by simp)
        have : sz' = sz := by
          have h1 := (hr.get (i := 0) rfl).1
          have h2 := hall' y (by simp)
          omega
        subst this
        obtain ⟨vs, h1, _, h3⟩ := load_cells (P := P) hr.flatten (flatten_length hall')
        exact ⟨vs, h1, h3⟩
    · cases h
  · rename_i id off len sz'
    split at h
    · rename_i e
      subst e
      split at h
      · rename_i blk hb
        simp only [Option.some.injEq, Prod.mk.injEq] at h
        obtain ⟨rfl, rfl⟩ := h
        simp only [VRep] at hx
        obtain ⟨hid, ⟨cap, rfl, hc, h7⟩ | ⟨rfl, a, rfl⟩⟩ := hx
        · obtain ⟨h8, arr, el, fr, h9, h10⟩ := h7 blk hb
          obtain ⟨_, _, hcr, _⟩ := hH.blk id blk hb
          have hlen : ((blk.cells.drop off).take (len * sz')).length = len * sz' := by simp; omega
          refine ⟨hlen, rfl, ?_⟩
          obtain ⟨vs, h1, _, h3⟩ := load_cells (P := P) ((hcr.drop off).take (len * sz')) hlen
          exact ⟨vs, h1, h3⟩
        · refine ⟨by simp, rfl, [], by simp [Reps], fun w' _ => ?_⟩
          cases a <;> simp [Builtin.firstCells, loadCells, loadCellsFrom]
      · cases h
    · cases h
  · cases h

/-- An append that must grow. -/
theorem append_grow (hH : HRep c) {nid : Id} (hn : ¬ c.al nid) {t u e e' ty : TypeId} {i : TypeInfo} {z : Value} {tys : Array TypeId} {x : Value} {n len cap : Nat} {base : Option Addr} {old new : List AV} {ovs nvs : List Value}
    (h1 : tys[0]? = some t) (h2 : tys[1]? = some u) (hu : P.underlying t = some (.slice e)) (hu' : P.underlying u = some (.slice e')) (hi : P.info? e = some i) (hz : i.zero = some z) (hzs : z.cells.size = i.size) (hby : i.bytes ≠ 0)
    (hlen : (Builtin.lenOf x).run P c.w = .ok n c.w) (hnew : Reps c nvs new) (hfn : ∀ w' : World, w'.heap = c.w.heap → (Builtin.firstCells i.size n x).run P w' = .ok nvs.toArray w') (hnl : new.length = n * i.size)
    (hold : Reps c ovs old) (hfo : ∀ w' : World, w'.heap = c.w.heap → (Builtin.firstCells i.size len (.slice base len cap)).run P w' = .ok ovs.toArray w') (hol : old.length = len * i.size)
    (hgrow : cap < len + n) (hroom : Builtin.nextslicecap (len + n) cap * i.bytes ≤ 281474976710656) :
    ∃ (v : Value) (c' : Cx), (Builtin.append_ tys ty #[.slice base len cap, x]).run P c.w = .ok v c'.w ∧ c'.h = c.h.push nid (old ++ new) ∧ VRep c' v (.sl nid 0 (len + n) i.size) ∧ Le c c' ∧ HRep c' ∧ Fr c c' ∧ ∀ i, c'.al i → c.al i ∨ i = nid := by
  have hq : ∃ t', (choose (.appendCap (len + n) cap e)).run P c.w = .ok (len + n + t') { c.w with drawn := c.w.drawn + 1 } := by
    refine ⟨_, by simp [run_choose, Question.forced, Question.cut]; rfl⟩
  obtain ⟨t', hq⟩ := hq
  -- the same context, one draw later
  let cd : Cx := ⟨{ c.w with drawn := c.w.drawn + 1 }, c.S, c.h, c.φ, c.al⟩
  have hled : Le c cd := ⟨fun b h => ⟨h, rfl⟩, fun _ h => h, fun _ _ => rfl, fun id _ blk h => ⟨blk, h, rfl, fun arr el fr h => ⟨arr, h, rfl⟩⟩⟩
  have hHd : HRep cd := ⟨hH.slt, fun id blk h => by obtain ⟨a1, a2, a3, a4, a5⟩ := hH.blk id blk h; exact ⟨a1, a2, CRep.mono hled _ rfl _ _ a3, a4, a5⟩,
    fun id es h => by obtain ⟨a1, a2, a3, ob, a4, a5⟩ := hH.mp id es h; exact ⟨a1, a2, a3, ob, a4, MRep.mono hled a5⟩, hH.inj⟩
  have hfrd : Fr c cd := ⟨rfl, rfl, rfl, Nat.le_refl _, fun _ _ _ => rfl, fun _ h => .inl h, fun _ h => .inl h⟩
  let arr : Array Value := ovs.toArray ++ nvs.toArray ++ Builtin.zeroCells z.cells t'
  have harr : arr.size = (len + n + t') * i.size := by
    have := hold.length; have := hnew.length
    simp [arr, Builtin.zeroCells, hzs, Nat.add_mul]; omega
  obtain ⟨c', f1, f2, f3, hle, hH', hfr, f4⟩ := push_step hHd hn (w' := { cd.w with heap := cd.w.heap.push (.cells arr e) }) (arr := arr) (el := e) (cells := old ++ new) rfl rfl rfl rfl
    (by rw [harr]; simp only [List.length_append, hol, hnl, Nat.add_mul]; omega)
    (fun j y hy => by
      have hr := Reps.append hold hnew
      obtain ⟨v, g1, g2⟩ := hr.get hy
      refine ⟨v, ?_, VRep.mono hled v y g2⟩
      have hj : j < (ovs ++ nvs).length := (List.getElem?_eq_some_iff.1 g1).1
      simp only [arr]
      rw [Array.getElem?_append_left (by simpa using hj)]
      simpa using g1)
  have hnewb : c'.w.heap[c.w.heap.size]? = some (.cells arr e (0, 0)) := by rw [f1]; simp [cd]
  refine ⟨.slice (some ⟨c.w.heap.size, 0, none⟩) (len + n) (len + n + t'), c', ?_, f2, ?_, hled.trans hle, hH', hfrd.trans hfr, fun i hi => by rw [f4] at hi; exact hi⟩
  · rw [f1]
    have n1 : ¬ (len + n ≤ cap) := by omega
    have n2 : ¬ (Builtin.nextslicecap (len + n) cap * i.bytes > 2 ^ 48) := by simpa using hroom
    unfold Builtin.append_
    simp only [h1, h2, List.getElem?_toArray, List.getElem?_cons_zero, List.getElem?_cons_succ, Sem.run_bind, run_underlying hu, run_underlying hu', YC hi, Result.andThen_ok, Sem.run_pure]
    simp only [Bool.false_eq_true, if_false, Sem.run_bind, Result.andThen_ok, hlen]
    have run0 : ∀ w : World, (typeInfo e).run P w = .ok i w := fun w => by simp [typeInfo, hi]
    rw [if_neg n1]
    simp only [Sem.run_bind, run0, Result.andThen_ok]
    rw [if_neg (by simp [hby])]
    simp only [Sem.run_bind, run0, Result.andThen_ok]
    rw [if_neg n2]
    simp only [Sem.run_bind, run0, Result.andThen_ok, hq, run_askRoom, Bool.not_false, if_true]
    rw [hfo { heap := c.w.heap, tape := c.w.tape, drawn := c.w.drawn + 1, os := c.w.os, output := c.w.output } rfl]
    simp only [Result.andThen_ok]
    rw [hfn { heap := c.w.heap, tape := c.w.tape, drawn := c.w.drawn + 1, os := c.w.os, output := c.w.output } rfl]
    have e1 : len + n + t' - (len + n) = t' := by omega
    simp only [Result.andThen_ok, run_zeroValue' hi hz, e1]
    simp only [newRow, Sem.run_bind, run_newObj, Result.andThen_ok, Sem.run_pure]
    rfl
  · exact sl_mk (cells := old ++ new) (by rw [f4]; simp) f3 (by rw [f2]; simp [Hp.push, cd]) (by simp only [List.length_append, hol, hnl, Nat.add_mul]; omega) (by omega) hnewb (by omega)

/-- An append that finds room. -/
theorem append_fits (hH : HRep c) {nid : Id} (hn : ¬ c.al nid) {t u e e' ty : TypeId} {i : TypeInfo} {tys : Array TypeId} {x : Value} {id : Id} {n len cap off : Nat} {blk : Blk} {new : List AV} {nvs : List Value}
    (h1 : tys[0]? = some t) (h2 : tys[1]? = some u) (hu : P.underlying t = some (.slice e)) (hu' : P.underlying u = some (.slice e')) (hi : P.info? e = some i)
    (hlen : (Builtin.lenOf x).run P c.w = .ok n c.w) (hnew : Reps c nvs new) (hfn : ∀ w' : World, w'.heap = c.w.heap → (Builtin.firstCells i.size n x).run P w' = .ok nvs.toArray w') (hnl : new.length = n * i.size)
    (hone : new.all one = true) (hb : c.h.hp id = some blk) (hwr : blk.wr = true) (hlc : len ≤ cap) (hblk : off + len * i.size ≤ blk.cells.length)
    (hcap : ∃ arr el fr, c.w.heap[(c.φ id).1]? = some (.cells arr el fr) ∧ (c.φ id).2 + off + cap * i.size ≤ arr.size) (hroom : len + n ≤ cap) :
    ∃ (v : Value) (c' : Cx), (Builtin.append_ tys ty #[.slice (some ⟨(c.φ id).1, (c.φ id).2 + off, none⟩) len cap, x]).run P c.w = .ok v c'.w ∧ c'.h = (c.h.kill id).push nid ((blk.cells.drop off).take (len * i.size) ++ new) ∧ VRep c' v (.sl nid 0 (len + n) i.size) ∧ Le c c' ∧ HRep c' ∧ Fr c c' ∧ ∀ i, c'.al i → c.al i ∨ i = nid := by
  obtain ⟨hid, ⟨arr, el, harr, hal⟩, hcr, _⟩ := hH.blk id blk hb
  obtain ⟨arr0, el0, fr0, e0, hcap⟩ := hcap
  rw [harr] at e0
  simp only [Option.some.injEq, Obj.cells.injEq] at e0
  obtain ⟨rfl, rfl, rfl⟩ := e0
  have hnvs : nvs.length = n * i.size := by rw [hnew.length, hnl]
  have hle2 : len * i.size + n * i.size ≤ cap * i.size := by rw [← Nat.add_mul]; exact mul_le_of hroom
  have hall : ∀ v ∈ nvs, v.oneCell' = true := by
    intro v hv
    obtain ⟨j, hj⟩ := List.getElem?_of_mem hv
    have hjl : j < new.length := by rw [← hnew.length]; exact (List.getElem?_eq_some_iff.1 hj).1
    obtain ⟨u, h5, h6⟩ := hnew.get (List.getElem?_eq_getElem hjl)
    rw [hj] at h5
    cases h5
    exact (one_cell h6 (List.all_eq_true.1 hone _ (List.getElem_mem hjl))).1
  have hst := run_storeCells_at (P := P) (c.φ id).1 ((c.φ id).2 + off + len * i.size) el nvs 0 arr c.w harr (by omega) hall
  simp only [Nat.add_zero] at hst
  have harr' : (arr.toList.take ((c.φ id).2 + off + len * i.size) ++ nvs ++ arr.toList.drop ((c.φ id).2 + off + len * i.size + nvs.length)).toArray = (splice arr.toList ((c.φ id).2 + off + len * i.size) nvs).toArray := rfl
  rw [harr'] at hst
  have hsz' : (splice arr.toList ((c.φ id).2 + off + len * i.size) nvs).toArray.size = arr.size := by simp; rw [splice_length (by simp; omega)]; simp
  have hol : ((blk.cells.drop off).take (len * i.size)).length = len * i.size := by simp; omega
  obtain ⟨c', f1, f2, f3, hle, hH', hfr, f4⟩ := take_step hH hn hb hwr (w' := c.w.setRow (c.φ id).1 (splice arr.toList ((c.φ id).2 + off + len * i.size) nvs).toArray) (arr' := (splice arr.toList ((c.φ id).2 + off + len * i.size) nvs).toArray)
    (cells := (blk.cells.drop off).take (len * i.size) ++ new) (base := (c.φ id).2 + off) harr rfl hsz' (by rw [hsz', List.length_append, hol, hnl]; omega) (fun j y hy => by
      simp only [List.getElem?_toArray]
      rw [splice_get _ _ _ (by simp; omega)]
      rcases Nat.lt_or_ge j (len * i.size) with g | g
      · rw [List.getElem?_append_left (by rw [hol]; exact g), List.getElem?_take, if_pos g, List.getElem?_drop] at hy
        rw [if_pos (by omega)]
        obtain ⟨v, g1, g2⟩ := hcr.get hy
        refine ⟨v, ?_, g2⟩
        have : c.w.cell? ⟨(c.φ id).1, (c.φ id).2 + off + j, none⟩ = some v := by rw [Nat.add_assoc]; exact g1
        simpa [World.cell?, harr] using this
      · rw [List.getElem?_append_right (by rw [hol]; exact g), hol] at hy
        have hj2 : j - len * i.size < new.length := (List.getElem?_eq_some_iff.1 hy).1
        rw [if_neg (by omega), if_pos (by omega), show (c.φ id).2 + off + j - ((c.φ id).2 + off + len * i.size) = j - len * i.size by omega]
        exact hnew.get hy)
  refine ⟨.slice (some ⟨(c.φ id).1, (c.φ id).2 + off, none⟩) (len + n) cap, c', ?_, f2, ?_, hle, hH', hfr, fun i hi => by rw [f4] at hi; exact hi⟩
  · rw [f1]
    unfold Builtin.append_
    simp only [h1, h2, List.getElem?_toArray, List.getElem?_cons_zero, List.getElem?_cons_succ, Sem.run_bind, run_underlying hu, run_underlying hu', YC hi, Result.andThen_ok, Sem.run_pure]
    simp only [Bool.false_eq_true, if_false, Sem.run_bind, Result.andThen_ok, hlen]
    rw [if_pos hroom]
    simp only [Sem.run_bind, Bool.not_false, if_true]
    rw [hfn c.w rfl]
    simp only [Result.andThen_ok, add_addr]
    rw [hst]
    simp
  · simp only [VRep]
    refine ⟨by rw [f4]; simp, .inl ⟨cap, by rw [f3]; simp, hroom, fun bl hbl => ?_⟩⟩
    rw [f2] at hbl
    simp only [Hp.push, Hp.kill, upd_same, Option.some.injEq] at hbl
    subst hbl
    refine ⟨by rw [List.length_append, hol, hnl, Nat.add_mul]; omega, (splice arr.toList ((c.φ id).2 + off + len * i.size) nvs).toArray, el, (0, 0), ?_, ?_⟩
    · rw [f3, f1]; exact setRow_heap _ _ _ _ _ _ harr
    · rw [f3, hsz']; simp only; omega

theorem append_op (hH : HRep c) {nid : Id} (hn : ¬ c.al nid) {tys : Array TypeId} {ty : TypeId} {s x : Operand} {ao : AOp} (hc : cBuiltin P .append [s, x] tys = some ao) {ρ : Operand → Value} {ρA : AOpd → AV} (hρ : ∀ x y, cOpd x = some y → VRep c (ρ x) (ρA y)) {r : AV} {h' : Hp}
    (hp : yY ao ρA c.h nid = some (r, h')) : Makes P c nid (Builtin.append_ tys ty #[ρ s, ρ x]) r h' := by
  simp only [cBuiltin, Option.bind_eq_some_iff] at hc
  obtain ⟨t, h1, u, h2, sA, h3, xA, h4, hc⟩ := hc
  have hs := hρ s sA h3
  have hx := hρ x xA h4
  split at hc
  · rename_i e e' hu hu'
    simp only [Option.bind_eq_some_iff] at hc
    obtain ⟨i, hi, z, hz, hc⟩ := hc
    split at hc
    · rename_i hcond
      obtain ⟨hzs, hby⟩ := hcond
      simp only [Option.some.injEq] at hc
      subst hc
      simp only [yY] at hp
      split at hp
      · cases hp
      · rename_i n new hsrc
        obtain ⟨hnl, hlen, nvs, hnew, hfn⟩ := appSrc_sound (P := P) hH hx hsrc
        -- a slice of no room
        have empty : ∀ (a : Option Addr), n ≠ 0 → n * i.bytes ≤ 281474976710656 → ∃ (v : Value) (c' : Cx), (Builtin.append_ tys ty #[.slice a 0 0, ρ x]).run P c.w = .ok v c'.w ∧ c'.h = c.h.push nid new ∧ VRep c' v (.sl nid 0 n i.size) ∧ Le c c' ∧ HRep c' ∧ Fr c c' ∧ ∀ i, c'.al i → c.al i ∨ i = nid := fun a h0 hb => by
          have := append_grow (P := P) (ty := ty) hH hn (x := ρ x) (n := n) (len := 0) (cap := 0) (base := a) (old := []) (new := new) (ovs := []) (nvs := nvs) h1 h2 hu hu' hi hz hzs hby hlen hnew hfn hnl (by simp [Reps])
            (fun w' _ => by cases a <;> simp [Builtin.firstCells, loadCells, loadCellsFrom]) (by simp) (by omega) (by rw [nextslicecap_zero (by omega)]; simpa using hb)
          simpa using this
        have none0 : ∀ (a : Option Addr), n = 0 → (Builtin.append_ tys ty #[.slice a 0 0, ρ x]).run P c.w = .ok (.slice a 0 0) c.w := fun a h0 => by
          subst h0
          unfold Builtin.append_
          simp only [h1, h2, List.getElem?_toArray, List.getElem?_cons_zero, List.getElem?_cons_succ, Sem.run_bind, run_underlying hu, run_underlying hu', YC hi, Result.andThen_ok, Sem.run_pure]
          simp only [Bool.false_eq_true, if_false, Sem.run_bind, Result.andThen_ok, hlen]
          rw [if_pos (by omega)]
          simp only [Sem.run_bind, Bool.not_false, if_true]
          rw [hfn c.w rfl]
          have hn0 : nvs = [] := by have := hnew.length; rw [hnl] at this; simpa using this
          subst hn0
          cases a <;> simp [storeCells]
        split at hp
        · rename_i es
          rw [es] at hs
          simp only [VRep] at hs
          obtain ⟨a, hs⟩ := hs
          rw [hs]
          split at hp
          · rename_i h0
            simp only [Option.some.injEq, Prod.mk.injEq] at hp
            obtain ⟨rfl, rfl⟩ := hp
            exact ⟨_, c, none0 a h0, rfl, by simp only [VRep]; exact ⟨a, rfl⟩, Le.refl c, hH, Fr.refl c, fun _ h => .inl h⟩
          · rename_i h0
            split at hp
            · rename_i hb
              simp only [Option.some.injEq, Prod.mk.injEq] at hp
              obtain ⟨rfl, rfl⟩ := hp
              exact empty a h0 hb
            · cases hp
        · rename_i id off len sz' es
          rw [es] at hs
          split at hp
          · rename_i blk hb
            split at hp
            · rename_i hcond
              obtain ⟨rfl, hwr, hone, hroom⟩ := hcond
              simp only [Option.some.injEq, Prod.mk.injEq] at hp
              obtain ⟨rfl, rfl⟩ := hp
              simp only [VRep] at hs
              obtain ⟨hid, ⟨cap, hs, hlc, h7⟩ | ⟨rfl, a, hs⟩⟩ := hs
              · rw [hs]
                obtain ⟨h8, hcap⟩ := h7 blk hb
                rcases Nat.lt_or_ge cap (len + n) with g | g
                · obtain ⟨_, _, hcr, _⟩ := hH.blk id blk hb
                  have hol : ((blk.cells.drop off).take (len * i.size)).length = len * i.size := by simp; omega
                  obtain ⟨hle, hHk, hfrk⟩ := kill_step hH id
                  obtain ⟨ovs, ho1, _, ho3⟩ := load_cells (P := P) ((hcr.drop off).take (len * i.size)) hol
                  obtain ⟨v, c', g1, g2, g3, g4, g5, g6, g7⟩ := append_grow (P := P) (ty := ty) hHk hn (x := ρ x) (n := n) (len := len) (cap := cap) (base := some ⟨(c.φ id).1, (c.φ id).2 + off, none⟩) (old := (blk.cells.drop off).take (len * i.size)) (new := new) (ovs := ovs) (nvs := nvs)
                    h1 h2 hu hu' hi hz hzs hby hlen (Reps.mono hle _ _ hnew) hfn hnl (Reps.mono hle _ _ ho1) ho3 hol g (by
                      have := nextslicecap_le (need := len + n) (cap := cap) g
                      exact Nat.le_trans (Nat.mul_le_mul_right _ this) hroom)
                  exact ⟨v, c', g1, g2, g3, hle.trans g4, g5, hfrk.trans g6, g7⟩
                · exact append_fits (P := P) (ty := ty) hH hn h1 h2 hu hu' hi hlen hnew hfn hnl hone hb hwr hlc h8 hcap g
              · rw [hs]
                obtain ⟨_, ⟨arr, el, harr, hal⟩, hcr, _⟩ := hH.blk id blk hb
                simp only [Nat.zero_add, Nat.zero_mul, List.take_zero, List.nil_append]
                by_cases h0 : n = 0
                · have hn0 : new = [] := by rw [h0] at hnl; simpa using hnl
                  subst hn0
                  obtain ⟨c', f1, f2, f3, hle, hH', hfr, f4⟩ := take_step hH hn hb hwr (w' := c.w) (arr' := arr) (cells := []) (base := 0) harr (setRow_self c.w _ arr el (0, 0) harr).symm rfl (by simp) (fun j y hy => by simp at hy)
                  refine ⟨_, c', by rw [f1]; exact none0 a h0, f2, ?_, hle, hH', hfr, fun i hi => by rw [f4] at hi; exact hi⟩
                  simp only [VRep]
                  exact ⟨by rw [f4]; simp, .inr ⟨h0, a, rfl⟩⟩
                · obtain ⟨hle, hHk, hfrk⟩ := kill_step hH id
                  have := append_grow (P := P) (ty := ty) hHk hn (x := ρ x) (n := n) (len := 0) (cap := 0) (base := a) (old := []) (new := new) (ovs := []) (nvs := nvs) h1 h2 hu hu' hi hz hzs hby hlen (Reps.mono hle _ _ hnew) hfn hnl (by simp [Reps])
                    (fun w' _ => by cases a <;> simp [Builtin.firstCells, loadCells, loadCellsFrom]) (by simp) (by omega) (by
                      have h9 := nextslicecap_le (need := 0 + n) (cap := 0) (by omega)
                      exact Nat.le_trans (Nat.mul_le_mul_right _ h9) hroom)
                  simp only [Nat.zero_add, List.nil_append] at this
                  obtain ⟨v, c', g1, g2, g3, g4, g5, g6, g7⟩ := this
                  exact ⟨v, c', g1, g2, g3, hle.trans g4, g5, hfrk.trans g6, g7⟩
            · cases hp
          · cases hp
        · cases hp
    · cases hc
  · cases hc
end
end Go.Proofs.Hx

set_option linter.unusedVariables false
set_option linter.unusedSimpArgs false
namespace Go.Proofs.Hx
open Go.ChangeMaps (setBlock)
section
variable {P : Program} {c : Cx}
theorem keyLs_inv {kt : TypeId} {g : Bool} {ls : List (Nat × Nat)} {sz : Nat} (h : keyLs P kt = some (g, ls, sz)) :
    (g = false ∧ ls = [(0, 0)] ∧ sz = 1 ∧ ∃ kk, P.underlying kt = some (.int kk)) ∨
    (g = true ∧ eqLv P 8 kt = some ls ∧ (∃ i, P.info? kt = some i ∧ i.size = sz) ∧ (∀ p ∈ ls, p.2 = 0) ∧ (∀ j, j < sz → ∃ p ∈ ls, p.1 = j) ∧
      ∃ fs, P.underlying kt = some (.struct fs) ∧ ∀ f ∈ fs.toList, (∃ kk, P.underlying f.type = some (.int kk)) ∧ f.offset < sz ∧ f.name ≠ "_") := by
  unfold keyLs at h
  split at h
  · rename_i kk hu
    cases h
    exact .inl ⟨rfl, rfl, rfl, kk, hu⟩
  · rename_i fs hu
    simp only [Option.bind_eq_some_iff] at h
    obtain ⟨ls', h1, i, h2, h3⟩ := h
    split at h3
    · rename_i hc
      cases h3
      simp only [Bool.and_eq_true, List.all_eq_true, beq_iff_eq, List.any_eq_true, List.mem_range] at hc
      refine .inr ⟨rfl, h1, ⟨i, h2, rfl⟩, fun p hp => hc.1.2 p hp, fun j hj => hc.2 j hj, fs, hu, fun f hf => ?_⟩
      have := hc.1.1 f hf
      split at this
      · rename_i kk hk
        simp only [Bool.and_eq_true, decide_eq_true_eq, bne_iff_ne, ne_eq] at this
        exact ⟨⟨kk, hk⟩, this⟩
      · cases this
    · cases h3
  · cases h
theorem isAgg_int {t : TypeId} {kk : IntKind} (h : P.underlying t = some (.int kk)) : isAggT P t = some false := by simp [isAggT, h]
/-- A key that is one. -/
theorem checkKey_run {kt : TypeId} {g : Bool} {ls : List (Nat × Nat)} {sz : Nat} (h : keyLs P kt = some (g, ls, sz)) {k : Value} {ka : AV} (hka : VRep c k ka) {ks : List AV} (hks : keyC g sz ka = some ks) (e : Bool) : (Instr.checkKey e 10000 kt k).run P c.w = .ok () c.w := by
  rcases keyLs_inv h with ⟨rfl, _, _, kk, hu⟩ | ⟨rfl, _, _, _, _, fs, hu, hf⟩
  · rw [show (10000 : Nat) = 9999 + 1 from rfl, Instr.checkKey]
    simp only [Sem.run_bind, run_underlying hu, Result.andThen_ok]
    rfl
  · unfold keyC at hks
    split at hks
    · rename_i cs
      split at hks
      · rename_i hlen
        simp only [Bool.true_and, beq_iff_eq] at hlen
        cases hks
        simp only [VRep] at hka
        obtain ⟨arr, rfl, hr⟩ := hka
        rw [show (10000 : Nat) = 9998 + 1 + 1 from rfl, Instr.checkKey]
        simp only [Sem.run_bind, run_underlying hu, Result.andThen_ok]
        rw [← Array.forIn_toList]
        generalize fs.toList = L at hf
        clear hu
        induction L with
        | nil => simp
        | cons f L ih =>
          obtain ⟨⟨kk, hk⟩, hoff, hn⟩ := hf f (by simp)
          have hlt : f.offset < arr.size := by have := hr.length; simp at this; omega
          have hp : (part f.type arr f.offset).run P c.w = .ok arr[f.offset] c.w := by
            obtain ⟨i, hi⟩ := info_of_underlying hk
            have hag : (isAgg f.type).run P c.w = .ok false c.w := by simp [isAgg, run_underlying hk]
            simp [part, hag, hlt]
          have hc2 : (Instr.checkKey e (9998 + 1) f.type arr[f.offset]).run P c.w = .ok () c.w := by
            rw [Instr.checkKey]
            simp only [Sem.run_bind, run_underlying hk, Result.andThen_ok]
            rfl
          simp only [List.forIn_cons, Sem.run_bind, hn, ne_eq, not_false_eq_true, if_true, Result.andThen_ok, hp, hc2, Sem.run_pure]
          exact ih (fun y hy => hf y (by simp [hy]))
      · cases hks
    · split at hks <;> first | (rename_i hh; simp at hh; done) | cases hks
    · cases hks
/-- Two keys, compared. -/
theorem key_equal {kt : TypeId} {ls : List (Nat × Nat)} {sz : Nat} (h : keyLs P kt = some (true, ls, sz)) {k k' : Value} {ka ka' : AV} (hka : VRep c k ka) (hka' : VRep c k' ka') {ks ks' : List AV} (hks : keyC true sz ka = some ks) (hks' : keyC true sz ka' = some ks') {b : Bool} (hb : eqAll ks ks' ls = some b) :
    (Op.equal kt k k').run P c.w = .ok b c.w := by
  rcases keyLs_inv h with ⟨h0, _⟩ | ⟨_, h1, _, _, _, fs, hu, _⟩
  · cases h0
  · have inv : ∀ {v : Value} {a : AV} {cs : List AV}, VRep c v a → keyC true sz a = some cs → ∃ arr, v = .agg arr ∧ Reps c arr.toList cs := fun {v a cs} hv hk => by
      unfold keyC at hk
      split at hk
      · split at hk
        · cases hk; simpa [VRep] using hv
        · cases hk
      · simp at hk
      · cases hk
    obtain ⟨va, rfl, r1⟩ := inv hka hks
    obtain ⟨ua, rfl, r2⟩ := inv hka' hks'
    exact eqIn_struct (d := 8) (D := 10000) (by decide) hu h1 r1 r2 hb
theorem findAsking_sound {kt : TypeId} {ls : List (Nat × Nat)} {sz : Nat} (h : keyLs P kt = some (true, ls, sz)) {k : Value} {ka : AV} (hka : VRep c k ka) {ks : List AV} (hks : keyC true sz ka = some ks) :
    ∀ (es : List MapEntry) (xs : List (AV × AV)) (i0 : Nat) (r : Option Nat), ERep c es xs → findE ls sz (keyC true sz) ks xs = some r →
      (r = none ∧ (Instr.findAsking kt k es i0).run P c.w = .ok none c.w) ∨ ∃ i e, r = some i ∧ es[i]? = some e ∧ (Instr.findAsking kt k es i0).run P c.w = .ok (some (i0 + i, e.val)) c.w
  | [], [], i0, r, _, hr => by simp [findE] at hr; subst hr; exact .inl ⟨rfl, rfl⟩
  | e :: es, x :: xs, i0, r, he, hr => by
    simp only [ERep] at he
    simp only [findE, Option.bind_eq_some_iff] at hr
    obtain ⟨ks', h1, b, h2, h3⟩ := hr
    have hq := key_equal h hka he.1.1 hks h1 h2
    cases b with
    | true =>
      simp only [if_true] at h3
      cases h3
      exact .inr ⟨0, e, rfl, rfl, by simp [Instr.findAsking, hq]⟩
    | false =>
      simp only [Bool.false_eq_true, if_false, Option.map_eq_some_iff] at h3
      obtain ⟨r', h4, rfl⟩ := h3
      rcases findAsking_sound h hka hks es xs (i0 + 1) r' he.2 h4 with ⟨rfl, h5⟩ | ⟨i, e', rfl, h5, h6⟩
      · exact .inl ⟨rfl, by simp [Instr.findAsking, hq, h5]⟩
      · exact .inr ⟨i + 1, e', rfl, by simpa using h5, by simp only [Instr.findAsking, Sem.run_bind, hq, Result.andThen_ok, Bool.false_eq_true, if_false, h6]; rw [show i0 + 1 + i = i0 + (i + 1) by omega]⟩
  | [], _ :: _, _, _, he, _ => by simp [ERep] at he
  | _ :: _, [], _, _, he, _ => by simp [ERep] at he
theorem findNow_sound {kk : IntKind} {sz : Nat} {k : Value} {ka : AV} (hka : VRep c k ka) {ks : List AV} (hks : keyC false sz ka = some ks) :
    ∀ (es : List MapEntry) (xs : List (AV × AV)) (i0 : Nat) (r : Option Nat), ERep c es xs → findE [(0, 0)] sz (keyC false sz) ks xs = some r →
      (r = none ∧ Instr.findNow (.int kk) k es i0 = some none) ∨ ∃ i e, r = some i ∧ es[i]? = some e ∧ Instr.findNow (.int kk) k es i0 = some (some (i0 + i, e.val))
  | [], [], i0, r, _, hr => by simp [findE] at hr; subst hr; exact .inl ⟨rfl, rfl⟩
  | e :: es, x :: xs, i0, r, he, hr => by
    simp only [ERep] at he
    simp only [findE, Option.bind_eq_some_iff] at hr
    obtain ⟨ks', h1, b, h2, h3⟩ := hr
    have inv : ∀ {v : Value} {a : AV} {cs : List AV}, VRep c v a → keyC false sz a = some cs → cs = [.lit v] := fun {v a cs} hv hk => by
      unfold keyC at hk
      split at hk
      · simp at hk
      · simp only [Bool.false_eq_true, if_false, Option.some.injEq] at hk
        subst hk
        rw [hv.lit]
      · cases hk
    rw [inv hka hks, inv he.1.1 h1] at h2
    have hs : Instr.sameNow (.int kk) k e.key = some b := by
      simp only [eqAll, List.getElem?_cons_zero, Option.bind_eq_some_iff, Option.map_eq_some_iff, Option.some.injEq] at h2
      obtain ⟨b1, h6, b2, rfl, rfl⟩ := h2
      rw [Bool.and_true]
      revert h6
      cases k <;> cases e.key <;> simp [scEq, Instr.sameNow]
    cases b with
    | true =>
      simp only [if_true] at h3
      cases h3
      exact .inr ⟨0, e, rfl, rfl, by simp [Instr.findNow, hs]⟩
    | false =>
      simp only [Bool.false_eq_true, if_false, Option.map_eq_some_iff] at h3
      obtain ⟨r', h4, rfl⟩ := h3
      rcases findNow_sound (kk := kk) hka hks es xs (i0 + 1) r' he.2 h4 with ⟨rfl, h5⟩ | ⟨i, e', rfl, h5, h6⟩
      · exact .inl ⟨rfl, by simp [Instr.findNow, hs, h5]⟩
      · exact .inr ⟨i + 1, e', rfl, by simpa using h5, by simp only [Instr.findNow, hs, h6]; rw [show i0 + 1 + i = i0 + (i + 1) by omega]⟩
  | [], _ :: _, _, _, he, _ => by simp [ERep] at he
  | _ :: _, [], _, _, he, _ => by simp [ERep] at he
theorem findKey_sound {kt : TypeId} {g : Bool} {ls : List (Nat × Nat)} {sz : Nat} (h : keyLs P kt = some (g, ls, sz)) {k : Value} {ka : AV} (hka : VRep c k ka) {ks : List AV} (hks : keyC g sz ka = some ks) {es : List MapEntry} {xs : List (AV × AV)} {r : Option Nat} (he : ERep c es xs) (hr : findE ls sz (keyC g sz) ks xs = some r) :
    (r = none ∧ (Instr.findKey kt k es).run P c.w = .ok none c.w) ∨ ∃ i e, r = some i ∧ es[i]? = some e ∧ (Instr.findKey kt k es).run P c.w = .ok (some (i, e.val)) c.w := by
  rcases keyLs_inv h with ⟨rfl, rfl, _, kk, hu⟩ | ⟨rfl, _, _, _, _, fs, hu, hf⟩
  · rcases findNow_sound (kk := kk) hka hks es xs 0 r he hr with ⟨h1, h2⟩ | ⟨i, e, h1, h2, h3⟩
    · exact .inl ⟨h1, by simp [Instr.findKey, run_underlying hu, h2]⟩
    · exact .inr ⟨i, e, h1, h2, by simp [Instr.findKey, run_underlying hu, h3]⟩
  · rw [run_findKey_eq c.w (by rw [hu])]
    rcases findAsking_sound h hka hks es xs 0 r he hr with h1 | ⟨i, e, h1, h2, h3⟩
    · exact .inl h1
    · exact .inr ⟨i, e, h1, h2, by rw [Nat.zero_add] at h3; exact h3⟩
theorem ERep.get {es : List MapEntry} {xs : List (AV × AV)} : ERep c es xs → ∀ {i : Nat} {e : MapEntry}, es[i]? = some e → ∃ x, xs[i]? = some x ∧ VRep c e.key x.1 ∧ VRep c e.val x.2 := by
  induction es generalizing xs with
  | nil => intro _ i e h; simp at h
  | cons y es ih =>
    intro hr i e h
    cases xs with
    | nil => simp [ERep] at hr
    | cons x xs =>
      simp only [ERep] at hr
      cases i with
      | zero => simp at h; subst h; exact ⟨x, rfl, hr.1⟩
      | succ i =>
        obtain ⟨x', hx⟩ := ih hr.2 (i := i) (by simpa using h)
        exact ⟨x', by simpa using hx⟩
theorem ERep.length : ∀ {es : List MapEntry} {xs : List (AV × AV)}, ERep c es xs → es.length = xs.length
  | [], [], _ => rfl
  | _ :: _, _ :: _, h => by simp only [ERep] at h; simp [ERep.length h.2]
  | [], _ :: _, h => by simp [ERep] at h
  | _ :: _, [], h => by simp [ERep] at h
theorem ERep.of_get : ∀ {es : List MapEntry} {xs : List (AV × AV)}, es.length = xs.length → (∀ (i : Nat) e x, es[i]? = some e → xs[i]? = some x → VRep c e.key x.1 ∧ VRep c e.val x.2) → ERep c es xs
  | [], [], _, _ => by simp [ERep]
  | e :: es, x :: xs, hl, h => by
    simp only [ERep]
    exact ⟨h 0 e x rfl rfl, ERep.of_get (by simpa using hl) fun i a b ha hb => h (i + 1) a b (by simpa using ha) (by simpa using hb)⟩
  | [], _ :: _, h, _ => by simp at h
  | _ :: _, [], h, _ => by simp at h
/-- A map, where it lies. -/
theorem map_at (hH : HRep c) {m : Id} {xs : List (AV × AV)} (h : c.h.mp m = some (.ents xs)) : ∃ ents : Array MapEntry, c.w.heap[(c.φ m).1]? = some (.map ents ents.size) ∧ ERep c ents.toList xs ∧ ∀ (i : Nat) e, ents[i]? = some e → e.born = i := by
  obtain ⟨_, _, _, o, h4, h5⟩ := hH.mp m _ h
  cases o <;> simp only [MRep] at h5
  rename_i ents clock
  obtain ⟨h6, rfl, h7⟩ := h5
  exact ⟨ents, h4, h6, h7⟩
theorem zeroAV_run {t : TypeId} {z : AV} (h : zeroAV P t = some z) : ∃ v, (zeroValue t).run P c.w = .ok v c.w ∧ VRep c v z := by
  simp only [zeroAV, Option.bind_eq_some_iff] at h
  obtain ⟨i, h1, v, h2, h3⟩ := h
  refine ⟨v, run_zeroValue' h1 h2 c.w, ?_⟩
  split at h3
  · rename_i cs
    simp only [Option.map_eq_some_iff] at h3
    obtain ⟨xs, h4, rfl⟩ := h3
    simp only [VRep]
    exact ⟨cs, rfl, toAVs_sound h4⟩
  · exact toAV_sound h3
theorem look_op {t : TypeId} {m k : Operand} {ao : AOp} {q : Bool} (hc : cOp P q (.lookup t m k false) = some ao) (hH : HRep c) {ρ : Operand → Value} {ρA : AOpd → AV} (hρ : ∀ x y, cOpd x = some y → VRep c (ρ x) (ρA y)) {K : MK} {xs : List AOpd} (ha : ao = .mop K xs) {id : Id} {r : AV} {h' : Hp} (hp : mopV K (xs.map ρA) c.h id = some (r, h')) :
    h' = c.h ∧ Gives P c (Instr.lookup t (ρ m) (ρ k) false) r := by
  simp only [cOp, Bool.false_eq_true, if_false] at hc
  split at hc
  · rename_i kt et hu
    simp only [Option.bind_eq_some_iff, Option.map_eq_some_iff] at hc
    obtain ⟨⟨g, ls, sz⟩, h1, z, h2, mA, h3, kA, h4, h5⟩ := hc
    subst ha
    cases h5
    simp only [List.map_cons, List.map_nil] at hp
    have hm := hρ m mA h3
    have hk := hρ k kA h4
    generalize ρA kA = ka at hp hk
    cases hma : ρA mA <;> rw [hma] at hp hm <;> simp only [mopV, reduceCtorEq] at hp
    rename_i mi
    simp only [VRep] at hm
    split at hp
    · rename_i es hes
      obtain ⟨ents, q1, q2, q3⟩ := map_at hH hes
      simp only [Option.bind_eq_some_iff] at hp
      obtain ⟨ks, p1, r', p2, p3⟩ := hp
      have hck := checkKey_run h1 hk p1
      have hget : (getObj (c.φ mi).1).run P c.w = .ok (.map ents ents.size) c.w := MapKept.run_getObj_map q1
      rcases findKey_sound h1 hk p1 q2 p2 with ⟨rfl, f1⟩ | ⟨i, e, rfl, f0, f1⟩
      · simp only [Option.some.injEq, Prod.mk.injEq] at p3
        obtain ⟨rfl, rfl⟩ := p3
        obtain ⟨v, z1, z2⟩ := zeroAV_run (c := c) h2
        exact ⟨rfl, v, by simp [Instr.lookup, run_underlying hu, hm.2, hget, hck, f1, z1], z2⟩
      · obtain ⟨x, x1, x2, x3⟩ := q2.get f0
        simp only [x1, Option.map_some, Option.some.injEq, Prod.mk.injEq] at p3
        obtain ⟨rfl, rfl⟩ := p3
        exact ⟨rfl, e.val, by simp [Instr.lookup, run_underlying hu, hm.2, hget, hck, f1], x3⟩
    · cases hp
  · cases hc
/-- The same bits. -/
theorem same_bits {kt : TypeId} {g : Bool} {ls : List (Nat × Nat)} {sz : Nat} (h : keyLs P kt = some (g, ls, sz)) {k k' : Value} {ka ka' : AV} (hka : VRep c k ka) (hka' : VRep c k' ka') {ks ks' : List AV} (hks : keyC g sz ka = some ks) (hks' : keyC g sz ka' = some ks') (hb : eqAll ks' ks ls = some true) :
    Instr.sameBits 10000 k k' = true := by
  have one : ∀ {u v : Value}, scEq 0 v u = some true → ∀ n, Instr.sameBits (n + 1) u v = true := fun {u v} hh n => by
    cases u <;> cases v <;> simp only [scEq, reduceCtorEq] at hh
    split at hh
    · rename_i e
      subst e
      simp only [Option.some.injEq, beq_iff_eq] at hh
      subst hh
      simp [Instr.sameBits]
    · cases hh
  have all : ∀ (l : List (Nat × Nat)) , eqAll ks' ks l = some true → ∀ p ∈ l, ∃ u v, ks'[p.1]? = some (.lit u) ∧ ks[p.1]? = some (.lit v) ∧ scEq p.2 u v = some true := by
    intro l
    induction l with
    | nil => intro _ p hp; cases hp
    | cons q l ih =>
      intro he p hp
      obtain ⟨o, gg⟩ := q
      simp only [eqAll] at he
      split at he
      · rename_i u v e1 e2
        simp only [Option.bind_eq_some_iff, Option.map_eq_some_iff] at he
        obtain ⟨b1, h3, b2, h4, h5⟩ := he
        simp only [Bool.and_eq_true] at h5
        obtain ⟨rfl, rfl⟩ := h5
        rcases List.mem_cons.1 hp with rfl | hp
        · exact ⟨u, v, e1, e2, h3⟩
        · exact ih h4 p hp
      · cases he
  rcases keyLs_inv h with ⟨rfl, rfl, rfl, kk, hu⟩ | ⟨rfl, _, _, h0, hcov, fs, hu, hf⟩
  · have inv : ∀ {v : Value} {a : AV} {cs : List AV}, VRep c v a → keyC false 1 a = some cs → cs = [.lit v] := fun {v a cs} hv hk => by
      unfold keyC at hk
      split at hk
      · simp at hk
      · simp only [Bool.false_eq_true, if_false, Option.some.injEq] at hk
        subst hk
        rw [hv.lit]
      · cases hk
    obtain ⟨u, v, e1, e2, e3⟩ := all _ hb (0, 0) (by simp)
    rw [inv hka' hks'] at e1
    rw [inv hka hks] at e2
    simp only [List.getElem?_cons_zero, Option.some.injEq, AV.lit.injEq] at e1 e2
    subst e1 e2
    exact one e3 9999
  · have inv : ∀ {v : Value} {a : AV} {cs : List AV}, VRep c v a → keyC true sz a = some cs → ∃ arr, v = .agg arr ∧ Reps c arr.toList cs ∧ cs.length = sz := fun {v a cs} hv hk => by
      unfold keyC at hk
      split at hk
      · split at hk
        · rename_i hl
          simp only [Bool.true_and, beq_iff_eq] at hl
          cases hk
          simp only [VRep] at hv
          obtain ⟨arr, e, hr⟩ := hv
          exact ⟨arr, e, hr, hl⟩
        · cases hk
      · simp at hk
      · cases hk
    obtain ⟨va, rfl, r1, l1⟩ := inv hka hks
    obtain ⟨ua, rfl, r2, l2⟩ := inv hka' hks'
    have s1 : va.size = sz := by have := r1.length; simp at this; omega
    have s2 : ua.size = sz := by have := r2.length; simp at this; omega
    rw [show (10000 : Nat) = 9998 + 1 + 1 from rfl]
    simp only [Instr.sameBits, Bool.and_eq_true, beq_iff_eq, List.all_eq_true]
    refine ⟨by rw [s1, s2], fun p hp => ?_⟩
    obtain ⟨j, hj⟩ := List.mem_iff_getElem?.1 hp
    rw [List.getElem?_zip_eq_some] at hj
    have hjs : j < sz := by have := (List.getElem?_eq_some_iff.1 hj.1).1; simp at this; omega
    obtain ⟨q, hq, rfl⟩ := hcov j hjs
    obtain ⟨u, v, e1, e2, e3⟩ := all _ hb q hq
    rw [h0 q hq] at e3
    obtain ⟨u', f1, f2⟩ := r2.get e1
    obtain ⟨v', f3, f4⟩ := r1.get e2
    rw [f1] at hj
    rw [f3] at hj
    have g1 := f2.lit
    have g2 := f4.lit
    simp only [Option.some.injEq] at hj
    rw [← hj.1, ← hj.2, g1, g2]
    exact one e3 9998
theorem put_op {t : TypeId} {m k v : Operand} {ao : AOp} {q : Bool} (hc : cOp P q (.mapUpdate t m k v) = some ao) (hH : HRep c) {ρ : Operand → Value} {ρA : AOpd → AV} (hρ : ∀ x y, cOpd x = some y → VRep c (ρ x) (ρA y)) {K : MK} {xs : List AOpd} (ha : ao = .mop K xs) {id : Id} {r : AV} {h' : Hp} (hp : mopV K (xs.map ρA) c.h id = some (r, h')) :
    r = .undef ∧ ∃ c' : Cx, (Instr.mapUpdate t (ρ m) (ρ k) (ρ v)).run P c.w = .ok () c'.w ∧ c'.h = h' ∧ Le c c' ∧ HRep c' ∧ Fr c c' ∧ c'.al = c.al := by
  simp only [cOp] at hc
  split at hc
  · rename_i kt et hu
    simp only [Option.bind_eq_some_iff, Option.map_eq_some_iff] at hc
    obtain ⟨⟨g, ls, sz⟩, h1, mA, h3, kA, h4, vA, h6, h5⟩ := hc
    subst ha
    cases h5
    simp only [List.map_cons, List.map_nil] at hp
    have hm := hρ m mA h3
    have hk := hρ k kA h4
    have hv := hρ v vA h6
    generalize ρA kA = ka at hp hk
    generalize ρA vA = va at hp hv
    cases hma : ρA mA <;> rw [hma] at hp hm <;> simp only [mopV, reduceCtorEq] at hp
    rename_i mi
    simp only [VRep] at hm
    split at hp
    · rename_i es hes
      obtain ⟨ents, q1, q2, q3⟩ := map_at hH hes
      simp only [Option.bind_eq_some_iff] at hp
      obtain ⟨ks, p1, r', p2, p3⟩ := hp
      have hck := checkKey_run h1 hk p1
      have hget : (getObj (c.φ mi).1).run P c.w = .ok (.map ents ents.size) c.w := MapKept.run_getObj_map q1
      have hlen := q2.length
      simp only [Array.length_toList] at hlen
      have hset : ∀ (w : World) (o' : Obj), w = c.w → (setObj (c.φ mi).1 o').run P w = .ok () (setBlock w (c.φ mi).1 o') := fun w o' hw => by
        subst hw
        simp [setObj, Sem.run, q1, setBlock]
      rcases findKey_sound h1 hk p1 q2 p2 with ⟨rfl, f1⟩ | ⟨i, e, rfl, f0, f1⟩
      · simp only [Option.some.injEq, Prod.mk.injEq] at p3
        obtain ⟨rfl, rfl⟩ := p3
        obtain ⟨c', g1, g2, g3, g4, g5, g6⟩ := setm_step hH hes (w' := setBlock c.w (c.φ mi).1 (.map (ents.push { key := ρ k, val := ρ v, born := ents.size }) (ents.size + 1))) (o := .map (ents.push { key := ρ k, val := ρ v, born := ents.size }) (ents.size + 1)) (b := .ents (es ++ [(ka, va)])) rfl rfl rfl rfl
          ⟨by
            rw [Array.toList_push]
            refine ERep.of_get (by simp [hlen]) fun j e x hj hx => ?_
            by_cases hlt : j < ents.size
            · rw [List.getElem?_append_left (by simpa using hlt)] at hj
              rw [List.getElem?_append_left (by omega)] at hx
              obtain ⟨x', x1, x2⟩ := q2.get hj
              rw [x1] at hx; cases hx; exact x2
            · rw [List.getElem?_append_right (by simp; omega)] at hj
              rw [List.getElem?_append_right (by omega)] at hx
              have hj0 : j - ents.size = 0 := by
                have := (List.getElem?_eq_some_iff.1 hj).1
                simp at this; omega
              simp only [Array.length_toList, hj0, List.getElem?_cons_zero, Option.some.injEq] at hj
              rw [← hlen, hj0] at hx
              simp only [List.getElem?_cons_zero, Option.some.injEq] at hx
              subst hj hx
              exact ⟨hk, hv⟩, by simp, fun j e hj => by
              rw [Array.getElem?_push] at hj
              split at hj
              · rename_i e0; cases hj; exact e0.symm
              · exact q3 j e hj⟩
        refine ⟨rfl, c', ?_, g2, g3, g4, g5, g6⟩
        rw [g1]
        simp [Instr.mapUpdate, run_underlying hu, hm.2, hget, hck, f1, hset c.w _ rfl]
      · simp only [Option.some.injEq, Prod.mk.injEq] at p3
        obtain ⟨rfl, rfl⟩ := p3
        obtain ⟨x, x1, x2, x3⟩ := q2.get f0
        have hi : i < ents.size := by have := (List.getElem?_eq_some_iff.1 f0).1; simpa using this
        -- the key that stays is the new one
        have hkey : ∃ ks', keyC g sz x.1 = some ks' ∧ eqAll ks ks' ls = some true := by
          clear f1 f0 q1 hget hset q3 hes hlen hi x2 x3
          have : ∀ (xs : List (AV × AV)) (i : Nat), findE ls sz (keyC g sz) ks xs = some (some i) → ∀ x, xs[i]? = some x → ∃ ks', keyC g sz x.1 = some ks' ∧ eqAll ks ks' ls = some true := by
            intro xs
            induction xs with
            | nil => intro i h; simp [findE] at h
            | cons y ys ih =>
              intro i h x hx
              simp only [findE, Option.bind_eq_some_iff] at h
              obtain ⟨ks', y1, b, y2, y3⟩ := h
              cases b with
              | true => simp only [if_true] at y3; cases y3; simp at hx; subst hx; exact ⟨ks', y1, y2⟩
              | false =>
                simp only [Bool.false_eq_true, if_false, Option.map_eq_some_iff] at y3
                obtain ⟨r', y4, y5⟩ := y3
                obtain ⟨w, rfl, rfl⟩ := y5
                exact ih w y4 x (by simpa using hx)
          exact this es i p2 x x1
        obtain ⟨ks', k1, k2⟩ := hkey
        have hsb := same_bits h1 x2 hk k1 p1 k2
        have hstay : (Instr.keyThatStays e.key (ρ k)).run P c.w = .ok (ρ k) c.w := by simp [Instr.keyThatStays, hsb]
        obtain ⟨c', g1, g2, g3, g4, g5, g6⟩ := setm_step hH hes (w' := setBlock c.w (c.φ mi).1 (.map (ents.modify i fun e => { e with key := ρ k, val := ρ v }) ents.size)) (o := .map (ents.modify i fun e => { e with key := ρ k, val := ρ v }) ents.size) (b := .ents (es.set i (ka, va))) rfl rfl rfl rfl
          ⟨by
            refine ERep.of_get (by simp [hlen]) fun j e' x' hj hx => ?_
            rw [Array.getElem?_toList, Array.getElem?_modify] at hj
            rw [List.getElem?_set] at hx
            by_cases hij : i = j
            · subst hij
              rw [if_pos rfl] at hj hx
              rw [if_pos (by omega)] at hx
              simp only [Option.map_eq_some_iff] at hj
              obtain ⟨e0, _, rfl⟩ := hj
              cases hx
              exact ⟨hk, hv⟩
            · rw [if_neg hij] at hj hx
              obtain ⟨x0, y1, y2⟩ := q2.get (i := j) (e := e') (by simpa using hj)
              rw [y1] at hx; cases hx; exact y2, by simp, fun j e' hj => by
            rw [Array.getElem?_modify] at hj
            split at hj
            · simp only [Option.map_eq_some_iff] at hj
              obtain ⟨e0, z1, rfl⟩ := hj
              exact q3 j e0 z1
            · exact q3 j e' hj⟩
        refine ⟨rfl, c', ?_, g2, g3, g4, g5, g6⟩
        rw [g1]
        have f0' : ents[i]? = some e := by simpa using f0
        simp [Instr.mapUpdate, run_underlying hu, hm.2, hget, hck, f1, f0', hstay, hset c.w _ rfl]
    · cases hp
  · cases hc
theorem mkmap_op {t : TypeId} {rs : Option Operand} {ao : AOp} {q : Bool} (hc : cOp P q (.makeMap t rs) = some ao) (hH : HRep c) {id : Id} (hn : ¬ c.al id) {ρ : Operand → Value} {ρA : AOpd → AV} {K : MK} {xs : List AOpd} (ha : ao = .mop K xs) {r : AV} {h' : Hp} (hp : mopV K (xs.map ρA) c.h id = some (r, h')) :
    Makes P c id (Instr.makeMap t (rs.map ρ)) r h' := by
  simp only [cOp] at hc
  split at hc
  · rename_i hr
    cases rs with
    | some _ => simp at hr
    | none =>
      subst ha
      cases hc
      simp only [List.map_nil, mopV] at hp
      split at hp
      · simp only [Option.some.injEq, Prod.mk.injEq] at hp
        obtain ⟨rfl, rfl⟩ := hp
        obtain ⟨c', e1, e2, e3, e4, e5, e6, e7⟩ := newm_step hH hn (w' := c.w.alloc (.map #[] 0)) (o := .map #[] 0) (b := .ents []) rfl rfl rfl rfl ⟨by simp [ERep], by simp, fun i e h => by simp at h⟩
        refine ⟨.map (some c.w.heap.size), c', by rw [e1]; rfl, e2, ?_, e4, e5, e6, fun i hi => by rw [e7] at hi; exact hi⟩
        simp only [VRep]
        exact ⟨by rw [e7]; simp, by rw [e3]⟩
      · cases hp
  · cases hc
theorem range_op {t : TypeId} {x : Operand} {ao : AOp} {q : Bool} (hc : cOp P q (.range t x) = some ao) (hH : HRep c) {id : Id} (hn : ¬ c.al id) {ρ : Operand → Value} {ρA : AOpd → AV} (hρ : ∀ x y, cOpd x = some y → VRep c (ρ x) (ρA y)) {K : MK} {xs : List AOpd} (ha : ao = .mop K xs) {r : AV} {h' : Hp} (hp : mopV K (xs.map ρA) c.h id = some (r, h')) :
    Makes P c id (Instr.range t (ρ x)) r h' := by
  simp only [cOp] at hc
  split at hc
  · rename_i kt et hu
    simp only [Option.map_eq_some_iff] at hc
    obtain ⟨xA, h1, h2⟩ := hc
    subst ha
    cases h2
    simp only [List.map_cons, List.map_nil] at hp
    have hm := hρ x xA h1
    cases hma : ρA xA <;> rw [hma] at hp hm <;> simp only [mopV, reduceCtorEq] at hp
    rename_i mi
    simp only [VRep] at hm
    split at hp
    · rename_i es hes
      split at hp
      · simp only [Option.some.injEq, Prod.mk.injEq] at hp
        obtain ⟨rfl, rfl⟩ := hp
        obtain ⟨ents, q1, q2, q3⟩ := map_at hH hes
        have hlen := q2.length
        simp only [Array.length_toList] at hlen
        obtain ⟨c', e1, e2, e3, e4, e5, e6, e7⟩ := newm_step hH hn (w' := c.w.alloc (.mapIter (some (c.φ mi).1) ents.size #[] ents.size)) (o := .mapIter (some (c.φ mi).1) ents.size #[] ents.size) (b := .iter mi es.length [] es.length) rfl rfl rfl rfl
          ⟨⟨hm.1, rfl⟩, hlen, rfl, hlen, Nat.le_refl _, rfl⟩
        refine ⟨.pointer (some ⟨c.w.heap.size, 0, none⟩), c', ?_, e2, ptr_mk (by rw [e7]; simp) e3, e4, e5, e6, fun i hi => by rw [e7] at hi; exact hi⟩
        rw [e1, hm.2]
        exact run_range_map c.w t kt et _ ents ents.size hu q1
      · cases hp
    · cases hp
  · cases hc
theorem iter_at (hH : HRep c) {i m : Id} {since st : Nat} {seen : List Nat} (h : c.h.mp i = some (.iter m since seen st)) : (c.φ i).2 = 0 ∧ since ≤ st ∧ ∃ sa : Array Nat, sa.toList = seen ∧ c.w.heap[(c.φ i).1]? = some (.mapIter (some (c.φ m).1) since sa st) ∧ c.al m := by
  obtain ⟨_, _, _, o, h4, h5⟩ := hH.mp i _ h
  cases o <;> simp only [MRep] at h5
  rename_i mm s1 sa st'
  cases mm <;> simp only at h5
  obtain ⟨⟨h6, h7⟩, rfl, h8, rfl, h9, h10⟩ := h5
  exact ⟨h10, h9, sa, h8, by rw [h4, h7], h6⟩
theorem born_nodup {ents : Array MapEntry} (h : ∀ (i : Nat) e, ents[i]? = some e → e.born = i) : (ents.toList.map (·.born)).Nodup := by
  have : ents.toList.map (·.born) = List.range ents.size := by
    apply List.ext_getElem?
    intro i
    by_cases hi : i < ents.size
    · rw [List.getElem?_map, List.getElem?_range hi]
      have := h i ents[i] (by simp [hi])
      simp [hi, this]
    · rw [List.getElem?_eq_none (by simp; omega), List.getElem?_eq_none (by simp; omega)]
  rw [this]
  exact List.nodup_range
theorem entry_op {x : Operand} {ao : AOp} {q : Bool} (hc : cOp P q (.entry x) = some ao) (hH : HRep c) {ρ : Operand → Value} {ρA : AOpd → AV} (hρ : ∀ x y, cOpd x = some y → VRep c (ρ x) (ρA y)) {K : MK} {xs : List AOpd} (ha : ao = .mop K xs) {id : Id} {r : AV} {h' : Hp} (hp : mopV K (xs.map ρA) c.h id = some (r, h')) :
    h' = c.h ∧ Gives P c (Instr.entry (ρ x)) r := by
  simp only [cOp, Option.map_eq_some_iff] at hc
  obtain ⟨xA, h1, h2⟩ := hc
  subst ha
  cases h2
  simp only [List.map_cons, List.map_nil] at hp
  have hm := hρ x xA h1
  cases hma : ρA xA <;> rw [hma] at hp hm <;> simp only [mopV, reduceCtorEq] at hp
  rename_i ii off
  cases off with
  | succ _ => simp [mopV] at hp
  | zero =>
    simp only [mopV] at hp
    split at hp
    · rename_i m since seen st hit
      split at hp
      · rename_i es hes
        split at hp
        · rename_i hst
          simp only [Option.bind_eq_some_iff, Option.map_eq_some_iff, Prod.mk.injEq] at hp
          obtain ⟨p, p1, e, p2, rfl, rfl⟩ := hp
          obtain ⟨ents, q1, q2, q3⟩ := map_at hH hes
          obtain ⟨o0, o1, sa, o2, o3, _⟩ := iter_at hH hit
          have hlen := q2.length
          simp only [Array.length_toList] at hlen
          have hpl : p < es.length := (List.getElem?_eq_some_iff.1 p2).1
          obtain ⟨x', x1, x2, x3⟩ := q2.get (i := p) (e := ents[p]'(by omega)) (by simp)
          rw [x1] at p2
          cases p2
          have hb : (ents[p]'(by omega)).born = p := q3 p _ (by simp)
          have hsa : sa = sa.pop.push p := by
            have : sa.back? = some p := by rw [← Array.getLast?_toList, o2]; exact p1
            rw [Array.back?_eq_some_iff] at this
            obtain ⟨ys, rfl⟩ := this
            simp
          have hv : ρ x = .pointer (some ⟨(c.φ ii).1, 0, none⟩) := by
            simp only [VRep] at hm
            rw [hm.2, o0]
          refine ⟨rfl, .tuple #[(ents[p]'(by omega)).key, (ents[p]'(by omega)).val], ?_, ?_⟩
          · rw [hv]
            refine run_entry_at c.w _ (c.φ m).1 since sa.pop ents ents.size _ ?_ q1 (by simp) (born_nodup q3)
            rw [hb, ← hsa, o3, hst, hlen]
          · simp only [VRep]
            exact ⟨_, rfl, by simp only [Reps]; exact ⟨x2, x3, trivial⟩⟩
        · cases hp
      · cases hp
    · cases hp
/-- The next entry. -/
theorem next_op {x : Operand} {s : Bool} {ao : AOp} {q : Bool} (hc : cOp P q (.next x s) = some ao) (hH : HRep c) {ρ : Operand → Value} {ρA : AOpd → AV} (hρ : ∀ x y, cOpd x = some y → VRep c (ρ x) (ρA y)) {xs : List AOpd} {K' : MK} (ha : ao = .mop K' xs) {ty : TypeId} {K : AV → Hp → Prop} (hp : nextA (xs.map ρA) c.h K) :
    s = false ∧ K' = .next ∧ ∃ (v : Value) (c' : Cx) (r : AV), (Instr.next (ρ x) false ty).run P c.w = .ok v c'.w ∧ K r c'.h ∧ VRep c' v r ∧ Le c c' ∧ HRep c' ∧ Fr c c' ∧ c'.al = c.al ∧ c'.h.ep = c.h.ep := by
  simp only [cOp] at hc
  split at hc
  · cases hc
  rename_i hs
  have hs : s = false := by simpa using hs
  simp only [Option.map_eq_some_iff] at hc
  obtain ⟨xA, h1, h2⟩ := hc
  subst ha
  cases h2
  refine ⟨hs, rfl, ?_⟩
  simp only [List.map_cons, List.map_nil] at hp
  have hm := hρ x xA h1
  cases hma : ρA xA <;> rw [hma] at hp hm <;> simp only [nextA] at hp
  rename_i ii off
  cases off with
  | succ _ => simp [nextA] at hp
  | zero =>
    simp only [nextA] at hp
    split at hp
    · rename_i m since seen st hit
      split at hp
      · rename_i es hes
        obtain ⟨hsin, hp1, hp2⟩ := hp
        obtain ⟨ents, q1, q2, q3⟩ := map_at hH hes
        obtain ⟨o0, o1, sa, o2, o3, o4⟩ := iter_at hH hit
        have hlen := q2.length
        simp only [Array.length_toList] at hlen
        have hv : ρ x = .pointer (some ⟨(c.φ ii).1, 0, none⟩) := by
          simp only [VRep] at hm
          rw [hm.2, o0]
        have hold : ∀ y ∈ ents.toList, y.born < since := fun y hy => by
          obtain ⟨j, hj⟩ := List.mem_iff_getElem?.1 hy
          have hb := q3 j y (by simpa using hj)
          have := (List.getElem?_eq_some_iff.1 hj).1
          simp only [Array.length_toList] at this
          omega
        rw [hv]
        rcases run_next_at (P := P) c.w ty _ _ since st sa ents ents.size o3 q1 hold o1 with ⟨g1, g2⟩ | ⟨e, g1, w1, g2, g3⟩
        · refine ⟨_, c, _, g2, hp1 fun p hpl => ?_, ?_, Le.refl c, hH, Fr.refl c, rfl, rfl⟩
          · have hin : ¬ (ents[p]'(by omega)) ∈ (leftOf ents sa) := fun hmem => by
              have := Array.size_pos_of_mem hmem
              omega
            have hb : (ents[p]'(by omega)).born = p := q3 p _ (by simp)
            simp only [leftOf, Array.mem_filter, Array.getElem_mem, true_and, hb] at hin
            rw [← o2]
            simpa using hin
          · simp only [VRep]
            exact ⟨_, rfl, by simp only [Reps]; exact ⟨by simp [VRep], trivial⟩⟩
        · simp only [leftOf, Array.toList_filter, List.mem_filter, Array.mem_toList_iff] at g1
          obtain ⟨g4, g5⟩ := g1
          obtain ⟨p, hpl, hpe⟩ := Array.mem_iff_getElem.1 g4
          have hb : e.born = p := q3 p e (by rw [← hpe]; simp)
          obtain ⟨x', x1, x2, x3⟩ := q2.get (i := p) (e := e) (by rw [← hpe]; simp)
          have hns : p ∉ seen := fun hmem => by
            rw [hb] at g5
            rw [← o2] at hmem
            simp at g5
            exact g5 (by simpa using hmem)
          have hw1 : w1.heap = c.w.heap ∧ w1.os = c.w.os ∧ w1.tape = c.w.tape ∧ w1.output = c.w.output := by rcases g2 with rfl | rfl <;> exact ⟨rfl, rfl, rfl, rfl⟩
          obtain ⟨c', e1, e2, e3, e4, e5, e6⟩ := setm_step hH hit (w' := setBlock w1 (c.φ ii).1 (.mapIter (some (c.φ m).1) since (sa.push e.born) ents.size)) (o := .mapIter (some (c.φ m).1) since (sa.push e.born) ents.size) (b := .iter m since (seen ++ [p]) es.length)
            (by simp [setBlock, hw1.1]) hw1.2.1 hw1.2.2.1 hw1.2.2.2 ⟨⟨o4, rfl⟩, rfl, by simp [o2, hb], hlen, by omega, o0⟩
          refine ⟨_, c', _, by rw [e1]; exact g3, by rw [e2]; exact hp2 p x' x1 hns, ?_, e3, e4, e5, e6, by rw [e2]; rfl⟩
          simp only [VRep]
          exact ⟨_, rfl, by simp only [Reps]; exact ⟨by simp [VRep], VRep.mono e3 _ _ x2, VRep.mono e3 _ _ x3, trivial⟩⟩
      · exact hp.elim
    · exact hp.elim
theorem mopV_ep {k : MK} {xs : List AV} {h h' : Hp} {id : Id} {r : AV} (hp : mopV k xs h id = some (r, h')) : h'.ep = h.ep := by
  unfold mopV at hp
  split at hp
  · split at hp <;> cases hp; rfl
  · split at hp
    · simp only [Option.bind_eq_some_iff] at hp
      obtain ⟨_, _, r', _, hp⟩ := hp
      cases r' with
      | none => cases hp; rfl
      | some i => simp only [Option.map_eq_some_iff, Prod.mk.injEq] at hp; obtain ⟨_, _, _, rfl⟩ := hp; rfl
    · cases hp
  · split at hp
    · simp only [Option.bind_eq_some_iff] at hp
      obtain ⟨_, _, r', _, hp⟩ := hp
      cases r' <;> cases hp <;> rfl
    · cases hp
  · split at hp
    · split at hp <;> cases hp; rfl
    · cases hp
  · split at hp
    · split at hp
      · split at hp
        · simp only [Option.bind_eq_some_iff, Option.map_eq_some_iff, Prod.mk.injEq] at hp
          obtain ⟨_, _, _, _, _, rfl⟩ := hp; rfl
        · cases hp
      · cases hp
    · cases hp
  · cases hp
/-- The map that an operation writes. -/
def tgtM (k : MK) (xs : List AV) (id : Id) : Option Id :=
  match k with
  | .mk | .range => some id
  | .put .. => match xs with | .map m :: _ => some m | _ => none
  | _ => none
theorem mopV_tgt {k : MK} {xs : List AV} {h h' : Hp} {id : Id} {r : AV} (hp : mopV k xs h id = some (r, h')) : (tgtM k xs id = none ∧ h' = h) ∨ ∃ t b, tgtM k xs id = some t ∧ h'.mp t = some b ∧ h' = h.setm t b := by
  have sm : ∀ t b, (h.setm t b).mp t = some b := fun t b => by simp [Hp.setm]
  unfold mopV at hp
  split at hp
  · split at hp <;> cases hp; exact .inr ⟨_, _, rfl, sm _ _, rfl⟩
  · split at hp
    · simp only [Option.bind_eq_some_iff] at hp
      obtain ⟨_, _, r', _, hp⟩ := hp
      cases r' with
      | none => cases hp; exact .inl ⟨rfl, rfl⟩
      | some i => simp only [Option.map_eq_some_iff, Prod.mk.injEq] at hp; obtain ⟨_, _, _, rfl⟩ := hp; exact .inl ⟨rfl, rfl⟩
    · cases hp
  · split at hp
    · simp only [Option.bind_eq_some_iff] at hp
      obtain ⟨_, _, r', _, hp⟩ := hp
      cases r' <;> cases hp <;> exact .inr ⟨_, _, rfl, sm _ _, rfl⟩
    · cases hp
  · split at hp
    · split at hp <;> cases hp; exact .inr ⟨_, _, rfl, sm _ _, rfl⟩
    · cases hp
  · split at hp
    · split at hp
      · split at hp
        · simp only [Option.bind_eq_some_iff, Option.map_eq_some_iff, Prod.mk.injEq] at hp
          obtain ⟨_, _, _, _, _, rfl⟩ := hp; exact .inl ⟨rfl, rfl⟩
        · cases hp
      · cases hp
    · cases hp
  · cases hp
end
end Go.Proofs.Hx

set_option linter.unusedVariables false
set_option linter.unusedSimpArgs false
namespace Go.Proofs.Hx

structure yB where
  dst : Option Nat
  op : AOp
  guard : Option (Nat × Bool)

inductive ACode where
  | skip
  | ops (l : List yB) (seps : List (Nat × Nat))
  | seq (a b : ACode)
  | cond (c : AOpd) (a b : ACode)
  | block (id : Nat) (c : ACode)
  | loop (c : ACode)
  | exit (id : Nat)
  | ret

inductive AEx where
  | normal
  | exit (id : Nat)
  | ret
/-- From this number on an exit is a jump to a label. -/
def gB : Nat := 1000000
def AEx.toExit : AEx → Exit
  | .normal => .normal
  | .exit id => if id < gB then .exit id else .goto (id - gB)
  | .ret => .ret

structure St where
  env : Nat → AV
  h : Hp

def putA (env : Nat → AV) (dst : Option Nat) (v : AV) : Nat → AV :=
  match dst with
  | some d => upd env d v
  | none => env

/-! ### Lending and freezing: what lies in the abstract heap as a value -/
def mapO {α β : Type} (f : α → Option β) : List α → Option (List β)
  | [] => some []
  | x :: xs => match f x, mapO f xs with | some y, some ys => some (y :: ys) | _, _ => none
def YN {α : Type} (sz : Nat) (cells : List α) (len : Nat) : List (List α) := (List.range len).map fun i => (cells.drop (i * sz)).take sz
mutual
/-- It holds no reference into the abstract heap. -/
def imm : AV → Bool
  | .undef | .lit _ | .nil => true
  | .agg cs | .tup cs | .ip cs | .fn _ cs => imms cs
  | .row xs => immss xs
  | .sl .. | .ptr .. | .map _ | .bf .. => false
def imms : List AV → Bool
  | [] => true
  | x :: xs => imm x && imms xs
def immss : List (List AV) → Bool
  | [] => true
  | x :: xs => imms x && immss xs
end
def lend : Nat → Hp → AV → Option AV
  | 0, _, a => if imm a then some a else none
  | d + 1, h, a =>
    if imm a then some a else
    match a with
    | .agg cs => (mapO (lend d h) cs).map .agg
    | .tup cs => (mapO (lend d h) cs).map .tup
    | .fn f cs => (mapO (lend d h) cs).map (.fn f)
    | .sl id off len sz => match h.hp id with
      | some blk => if len = 0 then some (.row []) else if off + len * sz ≤ blk.cells.length then (mapO (lend d h) ((blk.cells.drop off).take (len * sz))).map fun cells => .row (YN sz cells len) else none
      | none => none
    | .ptr id off => match h.hp id with
      | some blk => (mapO (lend d h) (blk.cells.drop off)).map .ip
      | none => none
    | _ => none

def emp : Hp := ⟨fun _ => none, fun _ => none, 0⟩
/-- Only values. -/
def Cx0 (w : World) (S : Nat → Prop) : Cx := ⟨w, S, emp, fun _ => (0, 0), fun _ => False⟩

mutual
theorem imm_tr {c c' : Cx} (hS : ∀ b, c.S b → c'.S b ∧ c'.w.heap[b]? = c.w.heap[b]?) (v : Value) : ∀ a : AV, imm a = true → VRep c v a → VRep c' v a
  | .undef, _, _ => trivial
  | .lit u, _, hv => by simpa [VRep] using hv
  | .nil, _, hv => by simpa [VRep] using hv
  | .agg cs, hi, hv => by
    simp only [VRep] at hv ⊢
    simp only [imm] at hi
    obtain ⟨arr, e, hr⟩ := hv
    exact ⟨arr, e, imms_tr hS _ cs hi hr⟩
  | .tup cs, hi, hv => by
    simp only [VRep] at hv ⊢
    simp only [imm] at hi
    obtain ⟨arr, e, hr⟩ := hv
    exact ⟨arr, e, imms_tr hS _ cs hi hr⟩
  | .fn f cs, hi, hv => by
    simp only [VRep] at hv ⊢
    simp only [imm] at hi
    obtain ⟨arr, e, hr⟩ := hv
    exact ⟨arr, e, imms_tr hS _ cs hi hr⟩
  | .ip cs, hi, hv => by
    simp only [VRep] at hv ⊢
    simp only [imm] at hi
    obtain ⟨b, off, e, hs, hr⟩ := hv
    exact ⟨b, off, e, (hS b hs).1, immsC_tr hS b (hS b hs).2 off cs hi hr⟩
  | .row xs, hi, hv => by
    simp only [VRep] at hv ⊢
    simp only [imm] at hi
    obtain ⟨addr, cap, e, hc, hr⟩ := hv
    refine ⟨addr, cap, e, hc, fun hx => ?_⟩
    obtain ⟨b, off, sz, e1, hs, hr⟩ := hr hx
    exact ⟨b, off, sz, e1, (hS b hs).1, immss_tr hS b sz (hS b hs).2 off xs hi hr⟩
  | .sl .., hi, _ => by simp [imm] at hi
  | .ptr .., hi, _ => by simp [imm] at hi
  | .map _, hi, _ => by simp [imm] at hi
  | .bf .., hi, _ => by simp [imm] at hi
theorem imms_tr {c c' : Cx} (hS : ∀ b, c.S b → c'.S b ∧ c'.w.heap[b]? = c.w.heap[b]?) : ∀ (vs : List Value) (as : List AV), imms as = true → Reps c vs as → Reps c' vs as
  | [], [], _, _ => by simp [Reps]
  | v :: vs, x :: xs, hi, hr => by
    simp only [Reps] at hr ⊢
    simp only [imms, Bool.and_eq_true] at hi
    exact ⟨imm_tr hS v x hi.1 hr.1, imms_tr hS vs xs hi.2 hr.2⟩
  | [], _ :: _, _, hr => by simp [Reps] at hr
  | _ :: _, [], _, hr => by simp [Reps] at hr
theorem immsC_tr {c c' : Cx} (hS : ∀ b, c.S b → c'.S b ∧ c'.w.heap[b]? = c.w.heap[b]?) (b : Nat) (hs : c'.w.heap[b]? = c.w.heap[b]?) : ∀ (off : Nat) (as : List AV), imms as = true → CRep c b off as → CRep c' b off as
  | _, [], _, _ => by simp [CRep]
  | off, x :: xs, hi, hr => by
    simp only [CRep] at hr ⊢
    simp only [imms, Bool.and_eq_true] at hi
    obtain ⟨⟨v, e, hv⟩, hr⟩ := hr
    exact ⟨⟨v, by rw [cell_of_heap hs]; exact e, imm_tr hS v x hi.1 hv⟩, immsC_tr hS b hs (off + 1) xs hi.2 hr⟩
theorem immss_tr {c c' : Cx} (hS : ∀ b, c.S b → c'.S b ∧ c'.w.heap[b]? = c.w.heap[b]?) (b sz : Nat) (hs : c'.w.heap[b]? = c.w.heap[b]?) : ∀ (off : Nat) (as : List (List AV)), immss as = true → RRep c b sz off as → RRep c' b sz off as
  | _, [], _, _ => by simp [RRep]
  | off, x :: xs, hi, hr => by
    simp only [RRep] at hr ⊢
    simp only [immss, Bool.and_eq_true] at hi
    exact ⟨hr.1, immsC_tr hS b hs off x hi.1 hr.2.1, immss_tr hS b sz hs (off + sz) xs hi.2 hr.2.2⟩
end

theorem mapO_length {α β : Type} {f : α → Option β} : ∀ {xs : List α} {ys : List β}, mapO f xs = some ys → ys.length = xs.length
  | [], ys, h => by simp [mapO] at h; subst h; rfl
  | x :: xs, ys, h => by
    simp only [mapO] at h
    split at h
    · rename_i y zs _ h2
      cases h
      simp [mapO_length h2]
    · cases h
theorem mapO_get {α β : Type} {f : α → Option β} : ∀ {xs : List α} {ys : List β}, mapO f xs = some ys → ∀ {i : Nat} {y : β}, ys[i]? = some y → ∃ x, xs[i]? = some x ∧ f x = some y
  | [], ys, h, i, y, hy => by simp [mapO] at h; subst h; simp at hy
  | x :: xs, ys, h, i, y, hy => by
    simp only [mapO] at h
    split at h
    · rename_i y' zs h1 h2
      cases h
      cases i with
      | zero => simp at hy; subst hy; exact ⟨x, rfl, h1⟩
      | succ i => simp at hy; simpa using mapO_get h2 hy
    · cases h
theorem imms_of_get : ∀ {as : List AV}, (∀ (i : Nat) x, as[i]? = some x → imm x = true) → imms as = true
  | [], _ => rfl
  | x :: xs, h => by simp only [imms, Bool.and_eq_true]; exact ⟨h 0 x rfl, imms_of_get fun i y hy => h (i + 1) y (by simpa using hy)⟩
theorem imms_get : ∀ {as : List AV}, imms as = true → ∀ {i : Nat} {x : AV}, as[i]? = some x → imm x = true
  | [], _, _, _, h => by simp at h
  | y :: ys, h, 0, x, hx => by simp only [imms, Bool.and_eq_true] at h; simp at hx; subst hx; exact h.1
  | y :: ys, h, i + 1, x, hx => by simp only [imms, Bool.and_eq_true] at h; simp at hx; exact imms_get h.2 hx
theorem qV : ∀ {as : List (List AV)}, (∀ (i : Nat) x, as[i]? = some x → imms x = true) → immss as = true
  | [], _ => rfl
  | x :: xs, h => by simp only [immss, Bool.and_eq_true]; exact ⟨h 0 x rfl, qV fun i y hy => h (i + 1) y (by simpa using hy)⟩

theorem lend_sound {c : Cx} (hH : HRep c) {S0 : Nat → Prop} (hS : ∀ b, c.S b → S0 b) (hA : ∀ id blk, c.h.hp id = some blk → S0 (c.φ id).1) : ∀ (d : Nat) (v : Value) (a a' : AV), lend d c.h a = some a' → VRep c v a → VRep (Cx0 c.w S0) v a' ∧ imm a' = true
  | d, v, a, a', h, hv => by
    have tr : imm a = true → VRep (Cx0 c.w S0) v a := fun hi => imm_tr (c := c) (c' := Cx0 c.w S0) (fun b hb => ⟨hS b hb, rfl⟩) v a hi hv
    cases d with
    | zero =>
      simp only [lend] at h
      split at h
      · cases h; exact ⟨tr (by assumption), by assumption⟩
      · cases h
    | succ d =>
      have ih := lend_sound hH hS hA d
      have lst : ∀ (vs : List Value) (as as' : List AV), mapO (lend d c.h) as = some as' → Reps c vs as → Reps (Cx0 c.w S0) vs as' ∧ imms as' = true := fun vs as as' h hr => by
        refine ⟨Reps.of_get (by rw [hr.length, mapO_length h]) fun i u x hu hx => ?_, imms_of_get fun i x hx => ?_⟩
        · obtain ⟨y, hy, e⟩ := mapO_get h hx
          obtain ⟨u', h1, h2⟩ := hr.get hy
          rw [hu] at h1
          cases h1
          exact (ih u y x e h2).1
        · obtain ⟨y, hy, e⟩ := mapO_get h hx
          obtain ⟨u', h1, h2⟩ := hr.get hy
          exact (ih u' y x e h2).2
      have cel : ∀ (b off : Nat) (as as' : List AV), mapO (lend d c.h) as = some as' → CRep c b off as → CRep (Cx0 c.w S0) b off as' ∧ imms as' = true := fun b off as as' h hr => by
        refine ⟨CRep.of_get fun i x hx => ?_, imms_of_get fun i x hx => ?_⟩
        · obtain ⟨y, hy, e⟩ := mapO_get h hx
          obtain ⟨u', h1, h2⟩ := hr.get hy
          exact ⟨u', h1, (ih u' y x e h2).1⟩
        · obtain ⟨y, hy, e⟩ := mapO_get h hx
          obtain ⟨u', h1, h2⟩ := hr.get hy
          exact (ih u' y x e h2).2
      simp only [lend] at h
      split at h
      · cases h; exact ⟨tr (by assumption), by assumption⟩
      · split at h
        · rename_i cs
          simp only [Option.map_eq_some_iff] at h
          obtain ⟨cs', h1, rfl⟩ := h
          simp only [VRep] at hv ⊢
          obtain ⟨arr, e, hr⟩ := hv
          exact ⟨⟨arr, e, (lst _ _ _ h1 hr).1⟩, by simp only [imm]; exact (lst _ _ _ h1 hr).2⟩
        · rename_i cs
          simp only [Option.map_eq_some_iff] at h
          obtain ⟨cs', h1, rfl⟩ := h
          simp only [VRep] at hv ⊢
          obtain ⟨arr, e, hr⟩ := hv
          exact ⟨⟨arr, e, (lst _ _ _ h1 hr).1⟩, by simp only [imm]; exact (lst _ _ _ h1 hr).2⟩
        · rename_i f cs
          simp only [Option.map_eq_some_iff] at h
          obtain ⟨cs', h1, rfl⟩ := h
          simp only [VRep] at hv ⊢
          obtain ⟨arr, e, hr⟩ := hv
          exact ⟨⟨arr, e, (lst _ _ _ h1 hr).1⟩, by simp only [imm]; exact (lst _ _ _ h1 hr).2⟩
        · rename_i id off len sz _
          simp only [VRep] at hv
          obtain ⟨hid, hv⟩ := hv
          split at h
          · rename_i blk hb
            obtain ⟨_, _, hcr, _⟩ := hH.blk id blk hb
            split at h
            · rename_i h0
              cases h
              subst h0
              refine ⟨?_, rfl⟩
              simp only [VRep]
              rcases hv with ⟨cap, rfl, hc, h7⟩ | ⟨_, a, rfl⟩
              · exact ⟨_, cap, rfl, by simp, fun hh => absurd rfl hh⟩
              · exact ⟨a, 0, rfl, by simp, fun hh => absurd rfl hh⟩
            · rename_i h0
              split at h
              · rename_i hl
                simp only [Option.map_eq_some_iff] at h
                obtain ⟨cells, h1, rfl⟩ := h
                have hlc : cells.length = len * sz := by rw [mapO_length h1]; simp; omega
                rcases hv with ⟨cap, rfl, hc, h7⟩ | ⟨h0', _⟩
                · obtain ⟨h8, h9⟩ := cel _ _ _ _ h1 ((hcr.drop off).take (len * sz))
                  refine ⟨?_, ?_⟩
                  · simp only [VRep]
                    refine ⟨some ⟨(c.φ id).1, (c.φ id).2 + off, none⟩, cap, by simp [YN], by simpa [YN] using hc, fun _ => ⟨_, _, sz, rfl, hA id blk hb, RRep.of_get fun i x hx => ?_⟩⟩
                    simp only [YN, List.getElem?_map, Option.map_eq_some_iff] at hx
                    obtain ⟨k, hk, rfl⟩ := hx
                    have hk' : k = i ∧ i < len := by
                      rw [List.getElem?_eq_some_iff] at hk
                      obtain ⟨hlt, hk⟩ := hk
                      simp at hk hlt
                      omega
                    obtain ⟨rfl, hlt⟩ := hk'
                    have hle : k * sz + sz ≤ len * sz := by
                      have := mul_le_of (a := k + 1) (b := len) (s := sz) (by omega)
                      rwa [Nat.add_mul, Nat.one_mul] at this
                    exact ⟨by simp; omega, (h8.drop (k * sz)).take sz⟩
                  · simp only [imm]
                    refine qV fun i x hx => imms_of_get fun j y hy => ?_
                    simp only [YN, List.getElem?_map, Option.map_eq_some_iff] at hx
                    obtain ⟨k, hk, rfl⟩ := hx
                    rw [List.getElem?_take] at hy
                    split at hy
                    · rw [List.getElem?_drop] at hy
                      exact imms_get h9 hy
                    · cases hy
                · exact absurd h0' h0
              · cases h
          · cases h
        · rename_i id off _
          simp only [VRep] at hv
          obtain ⟨hid, rfl⟩ := hv
          split at h
          · rename_i blk hb
            simp only [Option.map_eq_some_iff] at h
            obtain ⟨cells, h1, rfl⟩ := h
            obtain ⟨_, _, hcr, _⟩ := hH.blk id blk hb
            obtain ⟨h8, h9⟩ := cel _ _ _ _ h1 (hcr.drop off)
            exact ⟨by simp only [VRep]; exact ⟨_, _, rfl, hA id blk hb, h8⟩, by simp only [imm]; exact h9⟩
          · cases h
        · cases h

/-- Without anything that was lent before. -/
def atom : AV → Bool
  | .undef | .lit _ => true
  | _ => false
def lendF : Nat → Hp → AV → Option AV
  | 0, _, a => if atom a then some a else none
  | d + 1, h, a =>
    if atom a then some a else
    match a with
    | .nil => some (.row [])
    | .agg cs => (mapO (lendF d h) cs).map .agg
    | .tup cs => (mapO (lendF d h) cs).map .tup
    | .fn f cs => (mapO (lendF d h) cs).map (.fn f)
    | .sl id off len sz => match h.hp id with
      | some blk => if blk.wr = true then (if len = 0 then some (.row []) else if off + len * sz ≤ blk.cells.length then (mapO (lendF d h) ((blk.cells.drop off).take (len * sz))).map fun cells => .row (YN sz cells len) else none) else none
      | none => none
    | .ptr id off => match h.hp id with
      | some blk => if blk.wr = true then (mapO (lendF d h) (blk.cells.drop off)).map .ip else none
      | none => none
    | _ => none
theorem lendF_sound {c : Cx} (hH : HRep c) {S0 : Nat → Prop} (hA : ∀ id blk, c.h.hp id = some blk → blk.wr = true → S0 (c.φ id).1) : ∀ (d : Nat) (v : Value) (a a' : AV), lendF d c.h a = some a' → VRep c v a → VRep (Cx0 c.w S0) v a' ∧ imm a' = true
  | d, v, a, a', h, hv => by
    have tr : atom a = true → VRep (Cx0 c.w S0) v a ∧ imm a = true := fun hi => by
      cases a <;> simp only [atom, Bool.false_eq_true] at hi
      · exact ⟨trivial, rfl⟩
      · exact ⟨by simpa [VRep] using hv, rfl⟩
    cases d with
    | zero =>
      simp only [lendF] at h
      split at h
      · cases h; exact tr (by assumption)
      · cases h
    | succ d =>
      have ih := lendF_sound hH hA d
      have lst : ∀ (vs : List Value) (as as' : List AV), mapO (lendF d c.h) as = some as' → Reps c vs as → Reps (Cx0 c.w S0) vs as' ∧ imms as' = true := fun vs as as' h hr => by
        refine ⟨Reps.of_get (by rw [hr.length, mapO_length h]) fun i u x hu hx => ?_, imms_of_get fun i x hx => ?_⟩
        · obtain ⟨y, hy, e⟩ := mapO_get h hx
          obtain ⟨u', h1, h2⟩ := hr.get hy
          rw [hu] at h1
          cases h1
          exact (ih u y x e h2).1
        · obtain ⟨y, hy, e⟩ := mapO_get h hx
          obtain ⟨u', h1, h2⟩ := hr.get hy
          exact (ih u' y x e h2).2
      have cel : ∀ (b off : Nat) (as as' : List AV), mapO (lendF d c.h) as = some as' → CRep c b off as → CRep (Cx0 c.w S0) b off as' ∧ imms as' = true := fun b off as as' h hr => by
        refine ⟨CRep.of_get fun i x hx => ?_, imms_of_get fun i x hx => ?_⟩
        · obtain ⟨y, hy, e⟩ := mapO_get h hx
          obtain ⟨u', h1, h2⟩ := hr.get hy
          exact ⟨u', h1, (ih u' y x e h2).1⟩
        · obtain ⟨y, hy, e⟩ := mapO_get h hx
          obtain ⟨u', h1, h2⟩ := hr.get hy
          exact (ih u' y x e h2).2
      simp only [lendF] at h
      split at h
      · cases h; exact tr (by assumption)
      · split at h
        · cases h
          simp only [VRep] at hv
          obtain ⟨a, rfl⟩ := hv
          exact ⟨by simp only [VRep]; exact ⟨a, 0, rfl, by simp, fun hh => absurd rfl hh⟩, rfl⟩
        · rename_i cs
          simp only [Option.map_eq_some_iff] at h
          obtain ⟨cs', h1, rfl⟩ := h
          simp only [VRep] at hv ⊢
          obtain ⟨arr, e, hr⟩ := hv
          exact ⟨⟨arr, e, (lst _ _ _ h1 hr).1⟩, by simp only [imm]; exact (lst _ _ _ h1 hr).2⟩
        · rename_i cs
          simp only [Option.map_eq_some_iff] at h
          obtain ⟨cs', h1, rfl⟩ := h
          simp only [VRep] at hv ⊢
          obtain ⟨arr, e, hr⟩ := hv
          exact ⟨⟨arr, e, (lst _ _ _ h1 hr).1⟩, by simp only [imm]; exact (lst _ _ _ h1 hr).2⟩
        · rename_i f cs
          simp only [Option.map_eq_some_iff] at h
          obtain ⟨cs', h1, rfl⟩ := h
          simp only [VRep] at hv ⊢
          obtain ⟨arr, e, hr⟩ := hv
          exact ⟨⟨arr, e, (lst _ _ _ h1 hr).1⟩, by simp only [imm]; exact (lst _ _ _ h1 hr).2⟩
        · rename_i id off len sz _
          simp only [VRep] at hv
          obtain ⟨hid, hv⟩ := hv
          split at h
          · rename_i blk hb
            obtain ⟨_, _, hcr, _⟩ := hH.blk id blk hb
            by_cases hwr : blk.wr = true
            rotate_left
            · rw [if_neg hwr] at h; cases h
            rw [if_pos hwr] at h
            split at h
            · rename_i h0
              cases h
              subst h0
              refine ⟨?_, rfl⟩
              simp only [VRep]
              rcases hv with ⟨cap, rfl, hc, h7⟩ | ⟨_, a, rfl⟩
              · exact ⟨_, cap, rfl, by simp, fun hh => absurd rfl hh⟩
              · exact ⟨a, 0, rfl, by simp, fun hh => absurd rfl hh⟩
            · rename_i h0
              split at h
              · rename_i hl
                simp only [Option.map_eq_some_iff] at h
                obtain ⟨cells, h1, rfl⟩ := h
                have hlc : cells.length = len * sz := by rw [mapO_length h1]; simp; omega
                rcases hv with ⟨cap, rfl, hc, h7⟩ | ⟨h0', _⟩
                · obtain ⟨h8, h9⟩ := cel _ _ _ _ h1 ((hcr.drop off).take (len * sz))
                  refine ⟨?_, ?_⟩
                  · simp only [VRep]
                    refine ⟨some ⟨(c.φ id).1, (c.φ id).2 + off, none⟩, cap, by simp [YN], by simpa [YN] using hc, fun _ => ⟨_, _, sz, rfl, hA id blk hb hwr, RRep.of_get fun i x hx => ?_⟩⟩
                    simp only [YN, List.getElem?_map, Option.map_eq_some_iff] at hx
                    obtain ⟨k, hk, rfl⟩ := hx
                    have hk' : k = i ∧ i < len := by
                      rw [List.getElem?_eq_some_iff] at hk
                      obtain ⟨hlt, hk⟩ := hk
                      simp at hk hlt
                      omega
                    obtain ⟨rfl, hlt⟩ := hk'
                    have hle : k * sz + sz ≤ len * sz := by
                      have := mul_le_of (a := k + 1) (b := len) (s := sz) (by omega)
                      rwa [Nat.add_mul, Nat.one_mul] at this
                    exact ⟨by simp; omega, (h8.drop (k * sz)).take sz⟩
                  · simp only [imm]
                    refine qV fun i x hx => imms_of_get fun j y hy => ?_
                    simp only [YN, List.getElem?_map, Option.map_eq_some_iff] at hx
                    obtain ⟨k, hk, rfl⟩ := hx
                    rw [List.getElem?_take] at hy
                    split at hy
                    · rw [List.getElem?_drop] at hy
                      exact imms_get h9 hy
                    · cases hy
                · exact absurd h0' h0
              · cases h
          · cases h
        · rename_i id off _
          simp only [VRep] at hv
          obtain ⟨hid, rfl⟩ := hv
          split at h
          · rename_i blk hb
            obtain ⟨_, _, hcr, _⟩ := hH.blk id blk hb
            by_cases hwr : blk.wr = true
            rotate_left
            · rw [if_neg hwr] at h; cases h
            rw [if_pos hwr] at h
            simp only [Option.map_eq_some_iff] at h
            obtain ⟨cells, h1, rfl⟩ := h
            obtain ⟨h8, h9⟩ := cel _ _ _ _ h1 (hcr.drop off)
            exact ⟨by simp only [VRep]; exact ⟨_, _, rfl, hA id blk hb hwr, h8⟩, by simp only [imm]; exact h9⟩
          · cases h
        · cases h

end Go.Proofs.Hx

set_option linter.unusedVariables false
set_option linter.unusedSimpArgs false
namespace Go.Proofs.Hx

/-! ### Contracts -/
def okFn (P : Program) (f : Nat) : Prop := ∃ fn b, P.funcs[f]? = some fn ∧ fn.name ≠ "runtime.NumGoroutine" ∧ fn.body = some b

/-- No block was made in a later epoch. -/
def EB (c : Cx) : Prop := ∀ id, c.al id → id.1 ≤ c.h.ep
/-- What is made behind 'c' is made in later epochs. -/
structure Later (c c' : Cx) : Prop where
  ep : c.h.ep ≤ c'.h.ep
  al : ∀ id, c'.al id → c.al id ∨ c.h.ep < id.1

/-- Nothing lies in an epoch to come. -/
def qZ (h : Hp) : Prop := ∀ e s, h.ep < e → h.hp (e, s) = none ∧ h.mp (e, s) = none
theorem fresh_of {c : Cx} (hH : HRep c) (hEB : EB c) : qZ c.h := fun e s hlt => by
  have key : ¬ c.al (e, s) := fun h => by have := hEB _ h; simp at this; omega
  refine ⟨?_, ?_⟩
  · cases hb : c.h.hp (e, s) with
    | none => rfl
    | some blk => exact (key (hH.blk _ _ hb).1).elim
  · cases hb : c.h.mp (e, s) with
    | none => rfl
    | some es => exact (key (hH.mp _ _ hb).1).elim

/-- A function's contract over the abstract heap. -/
def HC (P : Program) (f : Nat) (args : List AV) (h : Hp) (K : AV → Hp → Prop) : Prop :=
  okFn P f ∧ ∀ (c : Cx) (vs : Array Value), c.h = h → HRep c → EB c → Reps c vs.toList args →
    Calls P f vs c.w fun e w' => ∃ v c' r, e = .returned v ∧ c'.w = w' ∧ VRep c' v r ∧ Le c c' ∧ HRep c' ∧ Fr c c' ∧ EB c' ∧ Later c c' ∧ K r c'.h

/-- What a call that works on values alone leaves as it was. -/
structure FrW (w w' : World) : Prop where
  os : w'.os = w.os
  tape : w'.tape = w.tape
  output : w'.output = w.output
  size : w.heap.size ≤ w'.heap.size
  block : ∀ b, b < w.heap.size → w'.heap[b]? = w.heap[b]?

/-- A function's contract over values. -/
def HV (P : Program) (f : Nat) (args : List AV) (r : AV) : Prop :=
  okFn P f ∧ imms args = true ∧ imm r = true ∧ ∀ (w : World) (S : Nat → Prop) (vs : Array Value), (∀ b, S b → b < w.heap.size) → Reps (Cx0 w S) vs.toList args →
    Calls P f vs w fun e w' => ∃ v, e = .returned v ∧ VRep (Cx0 w' fun b => S b ∨ (w.heap.size ≤ b ∧ b < w'.heap.size)) v r ∧ FrW w w'

/-- A function's contract over values, whose answer lies in memory of its own. -/
def HVF (P : Program) (f : Nat) (args : List AV) (r : AV) : Prop :=
  okFn P f ∧ imms args = true ∧ imm r = true ∧ ∀ (w : World) (S : Nat → Prop) (vs : Array Value), (∀ b, S b → b < w.heap.size) → Reps (Cx0 w S) vs.toList args →
    Calls P f vs w fun e w' => ∃ v, e = .returned v ∧ VRep (Cx0 w' fun b => w.heap.size ≤ b ∧ b < w'.heap.size) v r ∧ FrW w w'
theorem HVF.hv {P : Program} {f : Nat} {args : List AV} {r : AV} (h : HVF P f args r) : HV P f args r :=
  ⟨h.1, h.2.1, h.2.2.1, fun w S vs hS hr => (h.2.2.2 w S vs hS hr).mono fun e w' ⟨v, h1, h2, h3⟩ => ⟨v, h1, imm_tr (c := Cx0 w' fun b => w.heap.size ≤ b ∧ b < w'.heap.size) (c' := Cx0 w' fun b => S b ∨ (w.heap.size ≤ b ∧ b < w'.heap.size)) (fun b hb => ⟨Or.inr hb, rfl⟩) v r h.2.2.1 h2, h3⟩⟩

/-- No slices in it: it stays what it is whatever becomes of memory. -/
def flat : AV → Bool
  | .undef | .lit _ | .nil => true
  | .tup vs => vs.all fun | .lit _ => true | _ => false
  | .agg vs => vs.all fun | .lit _ => true | _ => false
  | _ => false

/-! ### The weakest precondition -/
def ob {α : Type} (o : Option α) (k : α → Prop) : Prop :=
  match o with
  | some a => k a
  | none => False
/-- A guarded operation: carried out, or not. -/
def guardK (g : Option (Nat × Bool)) (env : Nat → AV) (k1 k0 : Prop) : Prop :=
  match g with
  | none => k1
  | some (s, w) => match env s with | .lit (.bool b) => (b = w → k1) ∧ (b = !w → k0) | .tup [] => k0 | _ => False
def qJ (op : AOp) (ρ : AOpd → AV) (h : Hp) (id : Id) : Option (AV × Hp) :=
  match yR op ρ with
  | some r => some (r, h)
  | none => match qI op ρ h with
    | some r => some (r, h)
    | none => yY op ρ h id

def fuelL : Nat := 8
/-- A call that works on values: its contract gives what it answers. -/
def QCall (P : Program) (f : Nat) (args : List AV) (h : Hp) (r : AV) : Prop :=
  ∃ args', mapO (lend fuelL h) args = some args' ∧ ((HV P f args' r ∧ (flat r = true ∨ imms args = true)) ∨ HVF P f args' r)

def callA (P : Program) (q : Bool) (f : AV) (args : List AV) (h : Hp) (K : AV → Hp → Prop) : Prop :=
  match f with
  | .fn g caps => if q then ∃ r, QCall P g (args ++ caps) h r ∧ K r h else HC P g (args ++ caps) h fun r h' => qZ h' → K r h'.tick
  | .bf g fs => if q then False else HC P g (fs ++ args) h fun r h' => qZ h' → K r h'.tick
  | _ => False

def yW (P : Program) (dst : Option Nat) (op : AOp) (K : St → Prop) (σ : St) : Prop :=
  match op with
  | .call q f args => callA P q (evA σ.env f) (args.map (evA σ.env)) σ.h fun r h' => K ⟨putA σ.env dst r, h'⟩
  | .mop .next xs => nextA (xs.map (evA σ.env)) σ.h fun r h' => K ⟨putA σ.env dst r, h'⟩
  | op => ob (qJ op (evA σ.env) σ.h (σ.h.ep, dst.getD 0)) fun x => K ⟨putA σ.env dst x.1, x.2⟩
def qH (P : Program) (o : yB) (K : St → Prop) (σ : St) : Prop :=
  guardK o.guard σ.env (yW P o.dst o.op K σ) (K ⟨putA σ.env o.dst (.tup []), σ.h⟩)

def yS (P : Program) : List yB → (St → Prop) → St → Prop
  | [], K, σ => K σ
  | o :: l, K, σ => qH P o (yS P l K) σ

def idOf : AV → Option Id
  | .ptr id _ | .sl id .. | .map id => some id
  | _ => none
/-- Not of one block. -/
def sepV (x y : AV) : Prop :=
  match idOf x, idOf y with
  | some i, some j => i ≠ j
  | _, _ => True
def sepAll : List (Nat × Nat) → (Nat → AV) → Prop
  | [], _ => True
  | (a, b) :: r, env => sepV (env a) (env b) ∧ sepAll r env

def seqK (P : Program) (k : St → Prop) (Q : AEx → St → Prop) : AEx → St → Prop
  | .normal, σ => k σ
  | e, σ => Q e σ
def YG (id : Nat) (Q : AEx → St → Prop) : AEx → St → Prop
  | .exit id', σ => if id' = id then Q .normal σ else Q (.exit id') σ
  | e, σ => Q e σ

def awp (P : Program) : ACode → (AEx → St → Prop) → St → Prop
  | .skip, Q, σ => Q .normal σ
  | .ops l seps, Q, σ => qZ σ.h → yS P l (fun σ' => sepAll seps σ'.env ∧ Q .normal σ') ⟨σ.env, σ.h.tick⟩
  | .seq a b, Q, σ => awp P a (seqK P (awp P b Q) Q) σ
  | .cond c a b, Q, σ => match evA σ.env c with | .lit (.bool t) => (t = true → awp P a Q σ) ∧ (t = false → awp P b Q σ) | _ => False
  | .block id c, Q, σ => awp P c (YG id Q) σ
  | .loop c, Q, σ => ∃ (I : Nat → St → Prop), (∃ n, I n σ) ∧ ∀ n σ, I n σ → awp P c (seqK P (fun σ' => ∃ m, m < n ∧ I m σ') Q) σ
  | .exit id, Q, σ => Q (.exit id) σ
  | .ret, Q, σ => Q .ret σ

/-! ### The compiler, on -/
def dstOk (N : Nat) : Option Nat → Bool
  | some d => decide (d < N)
  | none => true
def cOper (P : Program) (q : Bool) (N : Nat) (ops : Array Oper) (o : Oper) : Option yB :=
  match cOp P q o.op with
  | none => none
  | some op =>
    if dstOk N o.dst = true then
      match o.guard with
      | none => some ⟨o.dst, op, none⟩
      | some (j, want) => match (ops[j]?).bind (·.dst) with
        | some s => if s < N then some ⟨o.dst, op, some (s, want)⟩ else none
        | none => none
    else none

/-- The relation between the abstract state and the real one; 'D': the slots that this region has written. -/
def RS (N : Nat) (c0 : Cx) (D : Nat → Prop) (σ : St) (a : Act) (w : World) : Prop :=
  ∃ c : Cx, c.w = w ∧ c.h = σ.h ∧ HRep c ∧ (∀ i, VRep c (a.tmps.getD i undef) (σ.env i)) ∧ a.tmps.size = N ∧ a.defers = [] ∧ Le c0 c ∧ Fr c0 c ∧ Later c0 c ∧
    c0.h.ep < c.h.ep ∧ ∀ id, c.al id → id.1 < c.h.ep ∨ (id.1 = c.h.ep ∧ D id.2)

section
variable {P : Program}

theorem env_rep {c : Cx} {a : Act} {env : Nat → AV} (h : ∀ i, VRep c (a.tmps.getD i undef) (env i)) : ∀ x y, cOpd x = some y → VRep c (a.eval x) (evA env y) := by
  intro x y hxy
  cases x with
  | tmp t => simp only [cOpd, Option.some.injEq] at hxy; subst hxy; exact h t
  | const v => simp only [cOpd, Option.map_eq_some_iff] at hxy; obtain ⟨z, h1, rfl⟩ := hxy; exact toAV_sound h1
  | func f => simp only [cOpd, Option.some.injEq] at hxy; subst hxy; simp only [evA, VRep, Act.eval]; exact ⟨#[], rfl, by simp [Reps]⟩
  | global g => simp [cOpd] at hxy

theorem put_rep {c : Cx} {a : Act} {env : Nat → AV} {dst : Option Nat} {v : Value} {r : AV} (h : ∀ i, VRep c (a.tmps.getD i undef) (env i)) (hv : VRep c v r) (hd : ∀ d, dst = some d → d < a.tmps.size) :
    ∀ i, VRep c ((a.put dst v).tmps.getD i undef) (putA env dst r i) := by
  intro i
  cases dst with
  | none => exact h i
  | some d =>
    have hd := hd d rfl
    simp only [Act.put, putA, upd]
    by_cases e : i = d
    · subst e
      rw [if_pos rfl]
      simpa [hd] using hv
    · rw [if_neg e]
      have := h i
      have he : (a.tmps.setIfInBounds d v).getD i undef = a.tmps.getD i undef := by
        simp [Array.getElem?_setIfInBounds_ne (Ne.symm e)]
      rw [he]
      exact this

theorem put_size (a : Act) (dst : Option Nat) (v : Value) : (a.put dst v).tmps.size = a.tmps.size := by cases dst <;> simp [Act.put]
theorem put_defers (a : Act) (dst : Option Nat) (v : Value) : (a.put dst v).defers = a.defers := by cases dst <;> rfl

/-- One operation in the state: what is to be shown of it. -/
theorem RS.step {N : Nat} {c0 c c' : Cx} {D : Nat → Prop} {σ : St} {a : Act} {dst : Option Nat} {v : Value} {r : AV} (hE : ∀ i, VRep c (a.tmps.getD i undef) (σ.env i)) (hN : a.tmps.size = N) (hD : a.defers = []) (h0 : Le c0 c) (f0 : Fr c0 c) (l0 : Later c0 c) (hlt : c0.h.ep < c.h.ep)
    (hd : ∀ d, dst = some d → d < N) (hle : Le c c') (hH' : HRep c') (hfr : Fr c c') (hv : VRep c' v r) (hlt' : c.h.ep ≤ c'.h.ep) (hal1 : ∀ id, c'.al id → c.al id ∨ c.h.ep ≤ id.1) (hal2 : ∀ id, c'.al id → id.1 < c'.h.ep ∨ (id.1 = c'.h.ep ∧ D id.2)) :
    RS N c0 D ⟨putA σ.env dst r, c'.h⟩ (a.put dst v) c'.w :=
  ⟨c', rfl, rfl, hH', put_rep (fun i => VRep.mono hle _ _ (hE i)) hv (by rw [hN]; exact hd), by rw [put_size, hN], by rw [put_defers, hD], h0.trans hle, f0.trans hfr,
    ⟨Nat.le_trans l0.ep hlt', fun id h => by
      rcases hal1 id h with h | h
      · exact l0.al id h
      · exact .inr (Nat.lt_of_lt_of_le hlt h)⟩, Nat.lt_of_lt_of_le hlt hlt', hal2⟩

/-- What the guard says. -/
def YI (o : yB) (env : Nat → AV) : Option Bool :=
  match o.guard with
  | none => some true
  | some (s, want) => match env s with | .lit (.bool b) => some (b == want) | .tup [] => some false | _ => none

theorem guardK_wanted {o : yB} {env : Nat → AV} {k1 k0 : Prop} : guardK o.guard env k1 k0 ↔ match YI o env with | none => False | some true => k1 | some false => k0 := by
  unfold guardK YI
  cases o.guard with
  | none => rfl
  | some p =>
    obtain ⟨s, w⟩ := p
    simp only
    cases env s <;> try rfl
    · rename_i u
      cases u <;> try rfl
      rename_i b
      cases b <;> cases w <;> simp
    · rename_i u
      cases u <;> rfl

theorem guard_want {N : Nat} {q : Bool} {ops : Array Oper} {o : Oper} {ao : yB} {c : Cx} {a : Act} {env : Nat → AV} (hc : cOper P q N ops o = some ao) (hE : ∀ i, VRep c (a.tmps.getD i undef) (env i)) (hN : a.tmps.size = N) {b : Bool}
    (hw : YI ao env = some b) : Region.wanted o (yielded ops a.tmps) = b := by
  unfold cOper at hc
  split at hc
  · cases hc
  · split at hc
    · split at hc
      · rename_i hg
        cases hc
        simp only [YI, Option.some.injEq] at hw
        subst hw
        simp [Region.wanted, hg]
      · rename_i j want hg
        split at hc
        · rename_i s hs
          split at hc
          · rename_i hsN
            cases hc
            simp only [YI] at hw
            split at hw
            · rename_i t ht
              simp only [Option.some.injEq] at hw
              subst hw
              have := hE s
              rw [ht] at this
              have hv := this.lit
              have hy : yielded ops a.tmps j = some t := by
                unfold yielded
                rw [hs]
                have hlt : s < a.tmps.size := hN ▸ hsN
                have e : a.tmps[s]? = some (.bool t) := by
                  rw [Array.getElem?_eq_getElem hlt]
                  simpa [hlt] using hv
                simp [e]
              simp only [Region.wanted, hg, hy]
              cases t <;> cases want <;> rfl
            · rename_i ht
              simp only [Option.some.injEq] at hw
              subst hw
              have := hE s
              rw [ht] at this
              simp only [VRep] at this
              obtain ⟨arr, hv, hr⟩ := this
              have hy : yielded ops a.tmps j = none := by
                unfold yielded
                rw [hs]
                have hlt : s < a.tmps.size := hN ▸ hsN
                have e : a.tmps[s]? = some (.tuple arr) := by
                  rw [Array.getElem?_eq_getElem hlt]
                  simpa [hlt] using hv
                simp [e]
              simp only [Region.wanted, hg, hy]
              cases want <;> rfl
            · cases hw
          · cases hc
        · cases hc
    · cases hc

theorem dst_ok {N : Nat} {q : Bool} {ops : Array Oper} {o : Oper} {ao : yB} (hc : cOper P q N ops o = some ao) : cOp P q o.op = some ao.op ∧ ao.dst = o.dst ∧ ∀ d, o.dst = some d → d < N := by
  unfold cOper at hc
  split at hc
  · cases hc
  · rename_i op hop
    split at hc
    · rename_i hd
      have hd' : ∀ d, o.dst = some d → d < N := fun d h => by rw [h] at hd; simpa [dstOk] using hd
      split at hc
      · cases hc; exact ⟨hop, rfl, hd'⟩
      · split at hc
        · split at hc
          · cases hc; exact ⟨hop, rfl, hd'⟩
          · cases hc
        · cases hc
    · cases hc

theorem execOp_call {ρ : Operand → Value} {o : Oper} {cl : Call} {f : Operand} (ho : o.op = .call cl) (hf : cl.callee = .value f) {g : Nat} {cap : Array Value} (hv : ρ f = .func (.func g) #[] cap) (hok : okFn P g) (w : World) :
    (execOp ρ o).run P w = .ok (.enter g (cl.args.map ρ ++ cap)) w := by
  obtain ⟨dst, op, type, pos, after, guard⟩ := o
  obtain ⟨callee, args, tys⟩ := cl
  simp only at ho hf
  subst ho hf
  obtain ⟨fn, b, h1, h2, h3⟩ := hok
  simp [execOp, resolve, hv, Deferred.ofValue, Go.invoke, callFunc, h1, h2, h3]

/-- A call on values, carried out in the caller's context. -/
theorem qcall_sound {c : Cx} (hH : HRep c) {g : Nat} {args : List AV} {r : AV} (hq : QCall P g args c.h r) {vs : Array Value} (hr : Reps c vs.toList args) :
    okFn P g ∧ Calls P g vs c.w fun e w' => ∃ v c', e = .returned v ∧ c'.w = w' ∧ c'.h = c.h ∧ VRep c' v r ∧ Le c c' ∧ HRep c' ∧ Fr c c' ∧ c'.al = c.al := by
  obtain ⟨args', hl, hq⟩ := hq
  refine ⟨by rcases hq with ⟨h, _⟩ | h <;> exact h.1, ?_⟩
  have hblt : ∀ id blk, c.h.hp id = some blk → (c.φ id).1 < c.w.heap.size := fun id blk hb => by
    obtain ⟨_, ⟨arr, el, h1, _⟩, _⟩ := hH.blk id blk hb
    exact (Array.getElem?_eq_some_iff.1 h1).1
  have hmlt : ∀ id es, c.h.mp id = some es → (c.φ id).1 < c.w.heap.size := fun id es hb => by
    obtain ⟨_, _, _, ob, h1, _⟩ := hH.mp id es hb
    exact (Array.getElem?_eq_some_iff.1 h1).1
  -- the context behind the call, for a set of blocks that stay
  have ctx : ∀ (w' : World) (S' : Nat → Prop), FrW c.w w' → (∀ b, c.S b → S' b) → (∀ b, S' b → c.S b ∨ (c.w.heap.size ≤ b ∧ b < w'.heap.size)) →
      Le c ⟨w', S', c.h, c.φ, c.al⟩ ∧ HRep ⟨w', S', c.h, c.φ, c.al⟩ ∧ Fr c ⟨w', S', c.h, c.φ, c.al⟩ := by
    intro w' S' hfr h1 h2
    have hle : Le c ⟨w', S', c.h, c.φ, c.al⟩ := ⟨fun b hb => ⟨h1 b hb, hfr.block b (hH.slt b hb)⟩, fun _ h => h, fun _ _ => rfl, fun id _ blk hb => ⟨blk, hb, rfl, fun arr el fr ha => ⟨arr, by
      rw [hfr.block _ (hblt id blk hb)]; exact ha, rfl⟩⟩⟩
    refine ⟨hle, ⟨fun b hb => ?_, fun id blk hb => ?_, fun id es hb => ?_, hH.inj⟩, ⟨hfr.os, hfr.tape, hfr.output, hfr.size, fun b hb _ => hfr.block b hb, fun b hb => .inl hb, fun b hb => ?_⟩⟩
    · rcases h2 b hb with h | h
      · exact Nat.lt_of_lt_of_le (hH.slt b h) hfr.size
      · exact h.2
    · obtain ⟨a1, ⟨arr, el, a2, a3⟩, a4, a5, a6⟩ := hH.blk id blk hb
      have he := hfr.block _ (hblt id blk hb)
      refine ⟨a1, ⟨arr, el, by rw [he]; exact a2, a3⟩, CRep.mono hle _ he _ _ a4, fun hw hs => ?_, fun hw => h1 _ (a6 hw)⟩
      rcases h2 _ hs with h | h
      · exact a5 hw h
      · have h' : c.w.heap.size ≤ (c.φ id).1 := h.1
        have := hblt id blk hb; omega
    · obtain ⟨a1, a2, a3, ob, a4, a5⟩ := hH.mp id es hb
      have he := hfr.block _ (hmlt id es hb)
      refine ⟨a1, a2, fun hs => ?_, ob, by rw [he]; exact a4, MRep.mono hle a5⟩
      rcases h2 _ hs with h | h
      · exact a3 h
      · have h' : c.w.heap.size ≤ (c.φ id).1 := h.1
        have := hmlt id es hb; omega
    · rcases h2 b hb with h | h
      · exact .inl h
      · exact .inr (.inr h.1)
  have hrepL : Reps (Cx0 c.w fun b => b < c.w.heap.size) vs.toList args' := by
    refine Reps.of_get (by rw [hr.length, mapO_length hl]) fun i u x hu hx => ?_
    obtain ⟨y, hy, e⟩ := mapO_get hl hx
    obtain ⟨u', h1, h2⟩ := hr.get hy
    rw [hu] at h1
    cases h1
    exact (lend_sound hH (S0 := fun b => b < c.w.heap.size) hH.slt (fun id blk hb => hblt id blk hb) _ _ _ _ e h2).1
  rcases hq with ⟨⟨hok, hia, hir, hv⟩, hcase⟩ | ⟨hok, hia, hir, hv⟩
  rotate_left
  · refine (hv c.w (fun b => b < c.w.heap.size) vs (fun b h => h) hrepL).mono fun e w' hh => ?_
    obtain ⟨v, he, hvr, hfr⟩ := hh
    obtain ⟨h1, h2, h3⟩ := ctx w' (fun b => c.S b ∨ (c.w.heap.size ≤ b ∧ b < w'.heap.size)) hfr (fun b h => .inl h) (fun b h => h)
    exact ⟨v, ⟨w', fun b => c.S b ∨ (c.w.heap.size ≤ b ∧ b < w'.heap.size), c.h, c.φ, c.al⟩, he, rfl, rfl, imm_tr (c := Cx0 w' fun b => c.w.heap.size ≤ b ∧ b < w'.heap.size) (c' := ⟨w', fun b => c.S b ∨ (c.w.heap.size ≤ b ∧ b < w'.heap.size), c.h, c.φ, c.al⟩) (fun b h => ⟨.inr h, rfl⟩) _ _ hir hvr, h1, h2, h3, rfl⟩
  rcases hcase with hflat | himm
  · -- lent
    have hrep : Reps (Cx0 c.w fun b => b < c.w.heap.size) vs.toList args' := by
      refine Reps.of_get (by rw [hr.length, mapO_length hl]) fun i u x hu hx => ?_
      obtain ⟨y, hy, e⟩ := mapO_get hl hx
      obtain ⟨u', h1, h2⟩ := hr.get hy
      rw [hu] at h1
      cases h1
      exact (lend_sound hH (S0 := fun b => b < c.w.heap.size) hH.slt (fun id blk hb => hblt id blk hb) _ _ _ _ e h2).1
    refine (hv c.w (fun b => b < c.w.heap.size) vs (fun b h => h) hrep).mono fun e w' hh => ?_
    obtain ⟨v, he, hvr, hfr⟩ := hh
    obtain ⟨h1, h2, h3⟩ := ctx w' c.S hfr (fun b h => h) (fun b h => .inl h)
    refine ⟨v, ⟨w', c.S, c.h, c.φ, c.al⟩, he, rfl, rfl, ?_, h1, h2, h3, rfl⟩
    -- flat values
    have fl : ∀ (us : List Value) (xs : List AV), (xs.all fun | .lit _ => true | _ => false) = true → Reps (Cx0 w' fun b => b < c.w.heap.size ∨ (c.w.heap.size ≤ b ∧ b < w'.heap.size)) us xs → Reps ⟨w', c.S, c.h, c.φ, c.al⟩ us xs := by
      intro us xs hx hr
      refine Reps.of_get hr.length fun i u x hu hxi => ?_
      obtain ⟨u', h4, h5⟩ := hr.get hxi
      rw [hu] at h4
      cases h4
      have := List.all_eq_true.1 hx x (List.mem_of_getElem? hxi)
      cases x <;> simp at this
      simpa [VRep] using h5
    cases r <;> simp only [flat, Bool.false_eq_true] at hflat
    case undef => trivial
    case lit u => simpa [VRep] using hvr
    case nil => simpa [VRep] using hvr
    case tup xs => simp only [VRep] at hvr ⊢; obtain ⟨arr, e, hr⟩ := hvr; exact ⟨arr, e, fl _ _ hflat hr⟩
    case agg xs => simp only [VRep] at hvr ⊢; obtain ⟨arr, e, hr⟩ := hvr; exact ⟨arr, e, fl _ _ hflat hr⟩
  · -- nothing lent
    have same : args' = args := by
      have : ∀ (xs ys : List AV), imms xs = true → mapO (lend fuelL c.h) xs = some ys → ys = xs := by
        intro xs
        induction xs with
        | nil => intro ys _ h; simp [mapO] at h; exact h
        | cons x xs ih =>
          intro ys hi h
          simp only [imms, Bool.and_eq_true] at hi
          simp only [mapO] at h
          split at h
          · rename_i y zs h1 h2
            cases h
            have : y = x := by
              unfold fuelL at h1
              rw [show (8 : Nat) = 7 + 1 from rfl] at h1
              simp only [lend, hi.1, if_true, Option.some.injEq] at h1
              exact h1.symm
            rw [this, ih zs hi.2 h2]
          · cases h
      exact this args args' himm hl
    subst same
    have hrep : Reps (Cx0 c.w c.S) vs.toList args' := imms_tr (c := c) (c' := Cx0 c.w c.S) (fun b h => ⟨h, rfl⟩) _ _ hia hr
    refine (hv c.w c.S vs hH.slt hrep).mono fun e w' hh => ?_
    obtain ⟨v, he, hvr, hfr⟩ := hh
    obtain ⟨h1, h2, h3⟩ := ctx w' (fun b => c.S b ∨ (c.w.heap.size ≤ b ∧ b < w'.heap.size)) hfr (fun b h => .inl h) (fun b h => h)
    exact ⟨v, ⟨w', fun b => c.S b ∨ (c.w.heap.size ≤ b ∧ b < w'.heap.size), c.h, c.φ, c.al⟩, he, rfl, rfl, imm_tr (c := Cx0 w' fun b => c.S b ∨ (c.w.heap.size ≤ b ∧ b < w'.heap.size)) (c' := ⟨w', fun b => c.S b ∨ (c.w.heap.size ≤ b ∧ b < w'.heap.size), c.h, c.φ, c.al⟩) (fun b h => ⟨h, rfl⟩) _ _ hir hvr, h1, h2, h3, rfl⟩

/-- A contract over values serves as one over the abstract heap. -/
theorem HC.of_HV {f : Nat} {args : List AV} {h : Hp} {r : AV} {K : AV → Hp → Prop} (hq : QCall P f args h r) (hk : K r h) : HC P f args h K := by
  have hok : okFn P f := by obtain ⟨_, _, ⟨h1, _⟩ | h1⟩ := hq <;> exact h1.1
  refine ⟨hok, fun c vs hc hH hEB hr => ?_⟩
  subst hc
  refine (qcall_sound hH hq hr).2.mono fun e w' hh => ?_
  obtain ⟨v, c', h1, h2, h3, h4, h5, h6, h7, h8⟩ := hh
  exact ⟨v, c', r, h1, h2, h4, h5, h6, h7, fun id h => by rw [h8] at h; rw [h3]; exact hEB id h, ⟨by rw [h3]; exact Nat.le_refl _, fun id h => by rw [h8] at h; exact .inl h⟩, by rw [h3]; exact hk⟩
theorem HC.mono {f : Nat} {args : List AV} {h : Hp} {K K' : AV → Hp → Prop} (hh : HC P f args h K) (hk : ∀ r h', K r h' → K' r h') : HC P f args h K' := by
  refine ⟨hh.1, fun c vs hc hH hEB hr => (hh.2 c vs hc hH hEB hr).mono fun e w' hx => ?_⟩
  obtain ⟨v, c', r, h1, h2, h3, h4, h5, h6, h7, h8, h9⟩ := hx
  exact ⟨v, c', r, h1, h2, h3, h4, h5, h6, h7, h8, hk _ _ h9⟩
end
end Go.Proofs.Hx

set_option linter.unusedVariables false
set_option linter.unusedSimpArgs false
namespace Go.Proofs.Hx

def aTag : AOp → Nat
  | .mv _ => 0 | .pick .. => 1 | .alloc _ => 2 | .box _ => 3 | .build .. => 4 | .buildSl .. => 5 | .load .. => 6 | .store .. => 7 | .nilchk _ => 8 | .bin .. => 9 | .beq .. => 9 | .aeq .. => 9 | .peq .. => 9
  | .un .. => 10 | .conv .. => 11 | .mkfn .. => 12 | .mkbf .. => 12 | .mksl .. => 13 | .slice .. => 14 | .fieldAddr .. => 15 | .field .. => 16 | .idxAddr .. => 17 | .idx .. => 18 | .ext .. => 19
  | .call .. => 20 | .len .. => 20 | .lenStr _ => 20 | .append .. => 20 | .maxs _ => 20 | .mins _ => 20
  | .mop .mk _ => 21 | .mop (.look ..) _ => 22 | .mop (.put ..) _ => 23 | .mop .range _ => 24 | .mop .next _ => 25 | .mop .entry _ => 26
def oTag : Op → Nat
  | .move _ => 0 | .assign _ => 0 | .pick .. => 1 | .alloc _ => 2 | .box .. => 3 | .build .. => 4 | .buildSlice .. => 5 | .load .. => 6 | .store .. => 7 | .nilCheck _ => 8 | .binOp .. => 9
  | .unOp .. => 10 | .convert .. => 11 | .makeFunc .. => 12 | .makeSlice .. => 13 | .slice .. => 14 | .fieldAddr .. => 15 | .field .. => 16 | .indexAddr .. => 17 | .index .. => 18 | .extract .. => 19
  | .call _ => 20 | .makeMap .. => 21 | .lookup .. => 22 | .mapUpdate .. => 23 | .range .. => 24 | .next .. => 25 | .entry _ => 26 | _ => 99

theorem tagO {α : Type} {x : Option α} {f : α → AOp} {ao : AOp} {n : Nat} (h : x.map f = some ao) (hf : ∀ a, aTag (f a) = n) : aTag ao = n := by
  cases x with
  | none => cases h
  | some a => simp at h; subst h; exact hf a
theorem tagB {α : Type} {x : Option α} {f : α → Option AOp} {ao : AOp} {n : Nat} (h : x.bind f = some ao) (hf : ∀ a, f a = some ao → aTag ao = n) : aTag ao = n := by
  cases x with
  | none => cases h
  | some a => exact hf a h

theorem cBuiltin_tag {P : Program} {b : Builtin} {as : List Operand} {tys : Array TypeId} {ao : AOp} (h : cBuiltin P b as tys = some ao) : aTag ao = 20 := by
  unfold cBuiltin at h
  split at h
  · refine tagB h fun _ h => tagB h fun _ h => ?_
    split at h <;> first | (cases h; rfl) | cases h
  · refine tagB h fun _ h => tagB h fun _ h => tagB h fun _ h => tagB h fun _ h => ?_
    split at h
    · refine tagB h fun _ h => tagB h fun _ h => ?_
      split at h <;> first | (cases h; rfl) | cases h
    · cases h
  · exact tagO h fun _ => rfl
  · exact tagO h fun _ => rfl
  · cases h

theorem cOp_tag {P : Program} {q : Bool} {op : Op} {ao : AOp} (h : cOp P q op = some ao) : aTag ao = oTag op := by
  cases op <;> simp only [cOp, reduceCtorEq] at h <;> simp only [oTag]
  case move => exact tagO h fun _ => rfl
  case assign => exact tagO h fun _ => rfl
  case pick => exact tagB h fun _ h => tagB h fun _ h => tagO h fun _ => rfl
  case alloc => exact tagO h fun _ => rfl
  case box => exact tagO h fun _ => rfl
  case build => exact tagB h fun _ h => tagB h fun _ h => tagO h fun _ => rfl
  case buildSlice =>
    split at h
    · refine tagB h fun _ h => tagB h fun _ h => ?_
      split at h
      · exact tagO h fun _ => rfl
      · cases h
    · cases h
  case load => exact tagB h fun _ h => tagB h fun _ h => tagO h fun _ => rfl
  case store => exact tagB h fun _ h => tagB h fun _ h => tagO h fun _ => rfl
  case nilCheck => exact tagO h fun _ => rfl
  case binOp =>
    refine tagB h fun _ h => tagB h fun _ h => ?_
    split at h
    · split at h <;> first | (cases h; rfl) | cases h
    · split at h
      · cases h
      · split at h <;> first | exact tagO h fun _ => rfl | cases h
    · split at h <;> first | (cases h; rfl) | cases h
    · cases h; rfl
  case unOp => exact tagO h fun _ => rfl
  case convert =>
    split at h
    · exact tagO h fun _ => rfl
    · cases h
  case makeFunc fn first caps =>
    cases fn <;> simp only [cOp, reduceCtorEq] at h
    split at h
    · exact tagO h fun _ => rfl
    · split at h
      · exact tagO h fun _ => rfl
      · cases h
  case makeMap => split at h <;> cases h; rfl
  case lookup =>
    split at h
    · cases h
    · split at h
      · exact tagB h fun _ h => tagB h fun _ h => tagB h fun _ h => tagO h fun _ => rfl
      · cases h
  case mapUpdate =>
    split at h
    · exact tagB h fun _ h => tagB h fun _ h => tagB h fun _ h => tagO h fun _ => rfl
    · cases h
  case range =>
    split at h
    · exact tagO h fun _ => rfl
    · cases h
  case next =>
    split at h
    · cases h
    · exact tagO h fun _ => rfl
  case entry => exact tagO h fun _ => rfl
  case makeSlice =>
    split at h
    · refine tagB h fun _ h => tagB h fun _ h => tagB h fun _ h => tagB h fun _ h => ?_
      split at h
      · cases h; rfl
      · cases h
    · cases h
  case slice =>
    refine tagB h fun _ h => tagB h fun _ h => tagB h fun _ h => tagB h fun _ h => ?_
    split at h
    · exact tagO h fun _ => rfl
    · exact tagO h fun _ => rfl
    · cases h
  case fieldAddr =>
    split at h
    · refine tagB h fun _ h => tagB h fun _ h => ?_
      split at h
      · cases h
      · exact tagO h fun _ => rfl
    · cases h
  case field =>
    split at h
    · exact tagB h fun _ h => tagB h fun _ h => tagB h fun _ h => tagO h fun _ => rfl
    · cases h
  case indexAddr =>
    refine tagB h fun _ h => tagB h fun _ h => ?_
    split at h
    · exact tagO h fun _ => rfl
    · exact tagO h fun _ => rfl
    · cases h
  case index =>
    refine tagB h fun _ h => tagB h fun _ h => ?_
    split at h
    · exact tagB h fun _ h => tagO h fun _ => rfl
    · cases h
  case extract => exact tagO h fun _ => rfl
  case call cl =>
    split at h
    · exact tagB h fun _ h => tagO h fun _ => rfl
    · exact cBuiltin_tag h
    · cases h

/-- It makes a block (for its slot). -/
def makes : AOp → Bool
  | .alloc _ | .box _ | .buildSl .. | .mksl .. | .append .. | .mop .mk _ | .mop .range _ => true
  | _ => false

section
variable {P : Program}

/-- Another epoch: nothing else. -/
theorem tick_ctx {c : Cx} (hH : HRep c) (n : Nat) : Le c ⟨c.w, c.S, { c.h with ep := n }, c.φ, c.al⟩ ∧ HRep ⟨c.w, c.S, { c.h with ep := n }, c.φ, c.al⟩ ∧ Fr c ⟨c.w, c.S, { c.h with ep := n }, c.φ, c.al⟩ := by
  have hle : Le c ⟨c.w, c.S, { c.h with ep := n }, c.φ, c.al⟩ := ⟨fun b h => ⟨h, rfl⟩, fun _ h => h, fun _ _ => rfl, fun id _ blk h => ⟨blk, h, rfl, fun arr el fr h => ⟨arr, h, rfl⟩⟩⟩
  refine ⟨hle, ⟨hH.slt, fun id blk h => ?_, fun id es h => ?_, hH.inj⟩, ⟨rfl, rfl, rfl, Nat.le_refl _, fun _ _ _ => rfl, fun _ h => .inl h, fun _ h => .inl h⟩⟩
  · obtain ⟨a1, a2, a3, a4, a5⟩ := hH.blk id blk h
    exact ⟨a1, a2, CRep.mono hle _ rfl _ _ a3, a4, a5⟩
  · obtain ⟨a1, a2, a3, ob, a4, a5⟩ := hH.mp id es h
    exact ⟨a1, a2, a3, ob, a4, MRep.mono hle a5⟩

/-- Any operation but a call. -/
theorem step_sound {c : Cx} {q : Bool} {o : Oper} {ao : AOp} {id : Id} (hc : cOp P q o.op = some ao) (hH : HRep c) (hn : makes ao = true → ¬ c.al id) {ρ : Operand → Value} {ρA : AOpd → AV} (hρ : ∀ x y, cOpd x = some y → VRep c (ρ x) (ρA y)) {r : AV} {h' : Hp}
    (hs : qJ ao ρA c.h id = some (r, h')) : h'.ep = c.h.ep ∧ ∃ (c' : Cx) (nxt : Next) (v : Value), (execOp ρ o).run P c.w = .ok nxt c'.w ∧ (nxt = .value v ∨ nxt = .skip ∧ v = undef) ∧ c'.h = h' ∧ VRep c' v r ∧ Le c c' ∧ HRep c' ∧ Fr c c' ∧
      ∀ i, c'.al i → c.al i ∨ (makes ao = true ∧ i = id) := by
  unfold qJ at hs
  split at hs
  · rename_i r' hp
    cases hs
    obtain ⟨v, h1, h2⟩ := pure_sound hc hρ hp
    exact ⟨rfl, c, _, v, h1, .inl rfl, rfl, h2, Le.refl c, hH, Fr.refl c, fun _ h => .inl h⟩
  · split at hs
    · rename_i r' hp
      cases hs
      have htag := cOp_tag hc
      obtain ⟨dst, op, type, pos, after, guard⟩ := o
      simp only at htag hc
      cases ao <;> simp only [qI, reduceCtorEq] at hp <;> simp only [aTag] at htag
      case load g n x =>
        cases op <;> simp only [oTag] at htag <;> try (simp at htag; done)
        obtain ⟨v, h1, h2⟩ := load_op hc hH hρ (by simp only [qI]; exact hp)
        exact ⟨rfl, c, .value v, v, by simp [execOp, h1], .inl rfl, rfl, h2, Le.refl c, hH, Fr.refl c, fun _ h => .inl h⟩
      case slice arr sz x lo hi' mx =>
        cases op <;> simp only [oTag] at htag <;> try (simp at htag; done)
        obtain ⟨v, h1, h2⟩ := sliceArr_op hc hH hρ (by simp only [qI]; exact hp)
        exact ⟨rfl, c, .value v, v, by simp [execOp, h1], .inl rfl, rfl, h2, Le.refl c, hH, Fr.refl c, fun _ h => .inl h⟩
    · have htag := cOp_tag hc
      have hep : h'.ep = c.h.ep := by
        cases ao <;> simp only [yY, reduceCtorEq] at hs
        case alloc => split at hs <;> cases hs; rfl
        case box =>
          split at hs
          · simp only [Option.map_eq_some_iff, Prod.mk.injEq] at hs
            obtain ⟨_, _, _, rfl⟩ := hs; rfl
          · cases hs
        case buildSl =>
          split at hs
          · simp only [Option.map_eq_some_iff] at hs
            obtain ⟨_, _, hs⟩ := hs
            split at hs <;> cases hs <;> rfl
          · cases hs
        case mksl =>
          split at hs
          · split at hs <;> cases hs; rfl
          · cases hs
        case store =>
          split at hs
          · split at hs
            · split at hs
              · split at hs <;> cases hs; rfl
              · cases hs
            · cases hs
          · cases hs
        case append =>
          split at hs
          · cases hs
          · split at hs
            · split at hs
              · cases hs; rfl
              · split at hs <;> cases hs; rfl
            · split at hs
              · split at hs <;> cases hs; rfl
              · cases hs
            · cases hs
        case mop k xs => exact mopV_ep hs
      refine ⟨hep, ?_⟩
      obtain ⟨dst, op, type, pos, after, guard⟩ := o
      simp only at htag hc
      have fin : ∀ {x : Sem Value}, makes ao = true → Makes P c id x r h' → ∃ (c' : Cx) (nxt : Next) (v : Value), ((do pure (Next.value (← x)) : Sem Next)).run P c.w = .ok nxt c'.w ∧ (nxt = .value v ∨ nxt = .skip ∧ v = undef) ∧ c'.h = h' ∧ VRep c' v r ∧ Le c c' ∧ HRep c' ∧ Fr c c' ∧ ∀ i, c'.al i → c.al i ∨ (makes ao = true ∧ i = id) := by
        intro x hm ⟨v, c', h1, h2, h3, h4, h5, h6, h7⟩
        exact ⟨c', .value v, v, by simp [h1], .inl rfl, h2, h3, h4, h5, h6, fun i hi => (h7 i hi).imp (fun h => h) fun h => ⟨hm, h⟩⟩
      cases ao <;> (first | (simp only [yY, reduceCtorEq] at hs; done) | skip) <;> (try simp only [aTag] at htag)
      case mop k xs _ _ =>
        have hs : mopV k (xs.map ρA) c.h id = some (r, h') := hs
        cases k <;> simp only [aTag] at htag <;> cases op <;> simp only [oTag] at htag <;> try (simp at htag; done)
        case mk.makeMap => exact fin rfl (mkmap_op hc hH (hn rfl) rfl hs)
        case look.lookup t m k ok =>
          cases ok with
          | true => simp [cOp] at hc
          | false =>
            obtain ⟨rfl, v, h1, h2⟩ := look_op hc hH hρ rfl hs
            exact ⟨c, .value v, v, by simp [execOp, h1], .inl rfl, rfl, h2, Le.refl c, hH, Fr.refl c, fun _ h => .inl h⟩
        case put.mapUpdate =>
          obtain ⟨hr, c', h1, h2, h3, h4, h5, h6⟩ := put_op hc hH hρ rfl hs
          exact ⟨c', .skip, undef, by simp [execOp, h1], .inr ⟨rfl, rfl⟩, h2, by rw [hr]; trivial, h3, h4, h5, fun i hi => by rw [h6] at hi; exact .inl hi⟩
        case range.range => exact fin rfl (range_op hc hH (hn rfl) hρ rfl hs)
        case next.next => simp [mopV] at hs
        case entry.entry =>
          obtain ⟨rfl, v, h1, h2⟩ := entry_op hc hH hρ rfl hs
          exact ⟨c, .value v, v, by simp [execOp, h1], .inl rfl, rfl, h2, Le.refl c, hH, Fr.refl c, fun _ h => .inl h⟩
      case alloc z =>
        cases op <;> simp only [oTag] at htag <;> try (simp at htag; done)
        exact fin rfl (alloc_op hc hH (hn rfl) hs)
      case box x =>
        cases op <;> simp only [oTag] at htag <;> try (simp at htag; done)
        exact fin rfl (box_op hc hH (hn rfl) hρ hs)
      case buildSl =>
        cases op <;> simp only [oTag] at htag <;> try (simp at htag; done)
        exact fin rfl (buildSl_op hc hH (hn rfl) hρ hs)
      case mksl =>
        cases op <;> simp only [oTag] at htag <;> try (simp at htag; done)
        exact fin rfl (mksl_op hc hH (hn rfl) hρ hs)
      case store =>
        cases op <;> simp only [oTag] at htag <;> try (simp at htag; done)
        obtain ⟨hr, c', h1, h2, h3, h4, h5, h6⟩ := store_op hc hH hρ hs
        exact ⟨c', .skip, undef, by simp [execOp, h1], .inr ⟨rfl, rfl⟩, h2, by rw [hr]; trivial, h3, h4, h5, fun i hi => by rw [h6] at hi; exact .inl hi⟩
      case append =>
        cases op <;> simp only [oTag] at htag <;> try (simp at htag; done)
        rename_i cl
        obtain ⟨callee, args, tys⟩ := cl
        simp only [cOp] at hc
        split at hc
        · simp only [Option.bind_eq_some_iff, Option.map_eq_some_iff, reduceCtorEq, and_false, exists_false] at hc
        · rename_i b hcal
          have hc' := hc
          unfold cBuiltin at hc
          split at hc
          · simp only [Option.bind_eq_some_iff] at hc
            obtain ⟨_, _, _, _, hc⟩ := hc
            split at hc <;> simp at hc
          · rename_i s x hargs
            obtain rfl : args = #[s, x] := by cases args; simp_all
            have hm := append_op (ty := type) hH (hn rfl) hc' hρ hs
            obtain ⟨v, c', h1, h2, h3, h4, h5, h6, h7⟩ := hm
            exact ⟨c', .value v, v, by simp [execOp, resolve, Go.invoke, Go.builtin, h1], .inl rfl, h2, h3, h4, h5, h6, fun i hi => (h7 i hi).imp (fun h => h) fun h => ⟨rfl, h⟩⟩
          · simp only [Option.map_eq_some_iff, reduceCtorEq, and_false, exists_false] at hc
          · simp only [Option.map_eq_some_iff, reduceCtorEq, and_false, exists_false] at hc
          · cases hc
        · cases hc

theorem execOp_callB {ρ : Operand → Value} {o : Oper} {cl : Call} {f : Operand} (ho : o.op = .call cl) (hf : cl.callee = .value f) {g : Nat} {fs : Array Value} (hv : ρ f = .func (.func g) fs #[]) (hok : okFn P g) (w : World) :
    (execOp ρ o).run P w = .ok (.enter g (fs ++ cl.args.map ρ)) w := by
  obtain ⟨dst, op, type, pos, after, guard⟩ := o
  obtain ⟨callee, args, tys⟩ := cl
  simp only at ho hf
  subst ho hf
  obtain ⟨fn, b, h1, h2, h3⟩ := hok
  simp [execOp, resolve, hv, Deferred.ofValue, Go.invoke, callFunc, h1, h2, h3]
/-- The slots for which blocks were made. -/
def Dn (D : Nat → Prop) (ao : yB) (s : Nat) : Prop := D s ∨ (makes ao.op = true ∧ ao.dst = some s)

/-- One operation of a region. -/
theorem op_sound {N : Nat} {q : Bool} {ops : Array Oper} {i : Nat} {o : Oper} {ao : yB} (hi : ops[i]? = some o) (hc : cOper P q N ops o = some ao) {c0 : Cx} {D : Nat → Prop} (hmk : makes ao.op = true → ∃ d, ao.dst = some d ∧ ¬ D d) {σ : St} {a : Act} {w : World} {K : St → Prop} (h : qH P ao K σ) (hR : RS N c0 D σ a w)
    (Q : Exit → Act → World → Prop) : wpOp P ops Q i (fun a' w' => ∃ σ', K σ' ∧ RS N c0 (Dn D ao) σ' a' w') a w := by
  obtain ⟨c, hw, hh, hH, hE, hN, hD, h0, f0, l0, hlt, hal⟩ := hR
  subst hw
  obtain ⟨hop, hdst, hd⟩ := dst_ok hc
  unfold wpOp
  simp only [hi]
  unfold qH at h
  rw [guardK_wanted] at h
  split at h
  · exact h.elim
  · rename_i hwant
    rw [guard_want hc hE hN hwant]
    simp only [if_true]
    refine .inl ?_
    have hρ := env_rep hE
    unfold Oper.wp
    unfold yW at h
    split at h
    · rename_i q' f as hao
      have htag := cOp_tag hop
      rw [hao] at hop htag
      obtain ⟨dst, op, type, pos, after, guard⟩ := o
      simp only [aTag] at htag
      simp only at hop hdst hd
      cases op <;> simp only [oTag] at htag <;> try (simp at htag; done)
      rename_i cl
      obtain ⟨callee, args, tys⟩ := cl
      simp only [cOp] at hop
      split at hop
      · rename_i fo
        simp only [Option.bind_eq_some_iff, Option.map_eq_some_iff] at hop
        obtain ⟨fA, h1, asA, h2, h3⟩ := hop
        injection h3 with e1 e2 e3
        subst e1 e2 e3
        have hf := hρ fo fA h1
        unfold callA at h
        split at h
        · rename_i g caps hg
          rw [hg] at hf
          simp only [VRep] at hf
          obtain ⟨carr, hfv, hcr⟩ := hf
          have hargs : Reps c (args.map a.eval ++ carr).toList (asA.map (evA σ.env) ++ caps) := by
            simpa using Reps.append (cOpds_rep hρ h2) hcr
          rw [hdst] at h
          cases q with
          | true =>
            simp only [if_true] at h
            obtain ⟨r, hq, hk⟩ := h
            rw [← hh] at hq
            obtain ⟨hok, hcalls⟩ := qcall_sound hH hq hargs
            rw [execOp_call (cl := ⟨.value fo, args, tys⟩) (f := fo) rfl rfl hfv hok]
            rw [Oper.upon_enter]
            refine hcalls.mono fun e w' hx => ?_
            obtain ⟨v, c', rfl, rfl, h6, h7, h8, h9, h10, h11⟩ := hx
            rw [← hh] at hk
            refine ⟨_, hk, ?_⟩
            rw [← h6]
            exact RS.step hE hN hD h0 f0 l0 hlt hd h8 h9 h10 h7 (by rw [h6]; exact Nat.le_refl _) (fun id h => by rw [h11] at h; exact .inl h) (fun id h => by
              rw [h11] at h; rw [h6]; exact (hal id h).imp (fun h => h) fun h => ⟨h.1, .inl h.2⟩)
          | false =>
            simp only [Bool.false_eq_true, if_false] at h
            rw [execOp_call (cl := ⟨.value fo, args, tys⟩) (f := fo) rfl rfl hfv h.1]
            rw [Oper.upon_enter]
            have hEB : EB c := fun id h => by rcases hal id h with h | h <;> omega
            refine (h.2 c _ hh hH hEB hargs).mono fun e w' hx => ?_
            obtain ⟨v, c', r, rfl, rfl, h5, h6, h7, h8, h9, h10, h11⟩ := hx
            obtain ⟨t1, t2, t3⟩ := tick_ctx h7 (c'.h.ep + 1)
            refine ⟨_, h11 (fresh_of h7 h9), ?_⟩
            exact RS.step (c' := ⟨c'.w, c'.S, { c'.h with ep := c'.h.ep + 1 }, c'.φ, c'.al⟩) hE hN hD h0 f0 l0 hlt hd (h6.trans t1) t2 (h8.trans t3) (VRep.mono t1 _ _ h5) (Nat.le_succ_of_le h10.ep)
              (fun id h => (h10.al id h).imp (fun h => h) fun h => Nat.le_of_lt h) (fun id h => .inl (Nat.lt_succ_of_le (h9 id h)))
        · rename_i g fs hg
          rw [hg] at hf
          simp only [VRep] at hf
          obtain ⟨carr, hfv, hcr⟩ := hf
          have hargs : Reps c (carr ++ args.map a.eval).toList (fs ++ asA.map (evA σ.env)) := by
            simpa using Reps.append hcr (cOpds_rep hρ h2)
          rw [hdst] at h
          cases q with
          | true => exact absurd h (by simp)
          | false =>
            have h : HC P g (fs ++ asA.map (evA σ.env)) σ.h fun r h' => qZ h' → K ⟨putA σ.env dst r, h'.tick⟩ := h
            rw [execOp_callB (cl := ⟨.value fo, args, tys⟩) (f := fo) rfl rfl hfv h.1]
            rw [Oper.upon_enter]
            have hEB : EB c := fun id h => by rcases hal id h with h | h <;> omega
            refine (h.2 c _ hh hH hEB hargs).mono fun e w' hx => ?_
            obtain ⟨v, c', r, rfl, rfl, h5, h6, h7, h8, h9, h10, h11⟩ := hx
            obtain ⟨t1, t2, t3⟩ := tick_ctx h7 (c'.h.ep + 1)
            refine ⟨_, h11 (fresh_of h7 h9), ?_⟩
            exact RS.step (c' := ⟨c'.w, c'.S, { c'.h with ep := c'.h.ep + 1 }, c'.φ, c'.al⟩) hE hN hD h0 f0 l0 hlt hd (h6.trans t1) t2 (h8.trans t3) (VRep.mono t1 _ _ h5) (Nat.le_succ_of_le h10.ep)
              (fun id h => (h10.al id h).imp (fun h => h) fun h => Nat.le_of_lt h) (fun id h => .inl (Nat.lt_succ_of_le (h9 id h)))
        · exact h.elim
      · rename_i b hcal
        have := cBuiltin_tag hop
        exfalso
        unfold cBuiltin at hop
        split at hop
        · simp only [Option.bind_eq_some_iff] at hop
          obtain ⟨_, _, _, _, hop⟩ := hop
          split at hop <;> simp at hop
        · simp only [Option.bind_eq_some_iff] at hop
          obtain ⟨_, _, _, _, _, _, _, _, hop⟩ := hop
          split at hop
          · simp only [Option.bind_eq_some_iff] at hop
            obtain ⟨_, _, _, _, hop⟩ := hop
            split at hop <;> simp at hop
          · cases hop
        · simp only [Option.map_eq_some_iff, reduceCtorEq, and_false, exists_false] at hop
        · simp only [Option.map_eq_some_iff, reduceCtorEq, and_false, exists_false] at hop
        · cases hop
      · cases hop
    · rename_i xs hao
      have htag := cOp_tag hop
      have hop' := hop
      rw [hao] at hop htag
      obtain ⟨dst, op, type, pos, after, guard⟩ := o
      simp only [aTag] at htag
      simp only at hop hdst hd
      cases op <;> simp only [oTag] at htag <;> try (simp at htag; done)
      rename_i it s
      rw [← hh] at h
      obtain ⟨rfl, _, v, c', r, h1, h2, h3, h4, h5, h6, h7, h8⟩ := next_op (ty := type) hop hH hρ rfl h
      have hex : (execOp a.eval ⟨dst, .next it false, type, pos, after, guard⟩).run P c.w = .ok (.value v) c'.w := by simp [execOp, h1]
      rw [hex]
      rw [hdst] at h2
      refine ⟨_, h2, ?_⟩
      exact RS.step (D := Dn D ao) hE hN hD h0 f0 l0 hlt hd h4 h5 h6 h3 (by rw [h8]; exact Nat.le_refl _) (fun id h => by rw [h7] at h; exact .inl h) (fun id h => by
        rw [h7] at h; rw [h8]; exact (hal id h).imp (fun h => h) fun h => ⟨h.1, .inl h.2⟩)
    · unfold ob at h
      split at h
      · rename_i x hs
        obtain ⟨r, h'⟩ := x
        rw [← hh] at hs
        have hn : makes ao.op = true → ¬ c.al (c.h.ep, ao.dst.getD 0) := fun hm hcal => by
          obtain ⟨d, e1, e2⟩ := hmk hm
          rw [e1] at hcal
          rcases hal _ hcal with h | h
          · exact absurd h (Nat.lt_irrefl _)
          · exact e2 h.2
        obtain ⟨hep, c', nxt, v, h1, h2, h3, h4, h5, h6, h7, h8⟩ := step_sound hop hH hn hρ hs
        rw [h1]
        have hRS := RS.step (D := Dn D ao) hE hN hD h0 f0 l0 hlt hd h5 h6 h7 h4 (by rw [h3, hep]; exact Nat.le_refl _) (fun id h => (h8 id h).imp (fun h => h) fun h => by rw [h.2]; exact Nat.le_refl _) (fun id h => by
          rw [h3, hep]
          rcases h8 id h with h | ⟨hm, h⟩
          · exact (hal id h).imp (fun h => h) fun h => ⟨h.1, .inl h.2⟩
          · obtain ⟨d, e1, e2⟩ := hmk hm
            rw [h]
            exact .inr ⟨rfl, .inr ⟨hm, by rw [e1]; rfl⟩⟩)
        simp only at h
        rw [hdst, ← h3] at h
        rcases h2 with rfl | ⟨rfl, rfl⟩
        · exact ⟨_, h, hRS⟩
        · exact ⟨_, h, hRS⟩
      · exact h.elim
  · rename_i hwant
    rw [guard_want hc hE hN hwant]
    simp only [Bool.false_eq_true, if_false]
    refine ⟨_, h, ?_⟩
    rw [hdst, ← hh]
    exact RS.step hE hN hD h0 f0 l0 hlt hd (Le.refl c) hH (Fr.refl c) (by simp only [VRep]; exact ⟨#[], rfl, by simp [Reps]⟩) (Nat.le_refl _) (fun id h => .inl h) (fun id h => (hal id h).imp (fun h => h) fun h => ⟨h.1, .inl h.2⟩)
end
end Go.Proofs.Hx

set_option linter.unusedVariables false
set_option linter.unusedSimpArgs false
namespace Go.Proofs.Hx

/-! ### Operations that can change places -/
def aopds : AOp → List AOpd
  | .mv x | .box x | .load _ _ x | .nilchk x | .un _ x | .conv _ x | .fieldAddr _ x | .field _ _ _ x | .ext x _ | .len _ x | .lenStr x => [x]
  | .pick c a b => [c, a, b]
  | .alloc _ => []
  | .build _ ps | .buildSl _ _ _ ps => ps.map (·.2.2)
  | .store _ a x | .bin _ a x | .beq _ a x | .aeq _ _ a x | .peq _ a x | .mksl _ _ _ a x | .idxAddr _ _ a x | .idx _ _ _ a x | .append _ _ a x => [a, x]
  | .mkfn _ xs | .maxs xs | .mins xs | .mkbf _ xs | .mop _ xs => xs
  | .slice _ _ x lo hi mx => x :: (lo.toList ++ hi.toList ++ mx.toList)
  | .call _ f as => f :: as
def slotsOf : List AOpd → List Nat
  | [] => []
  | .t i :: l => i :: slotsOf l
  | .c _ :: l => slotsOf l
def readsOf (o : yB) : List Nat := (match o.guard with | some (s, _) => [s] | none => []) ++ slotsOf (aopds o.op)
/-- 0: its operands alone · 1: it reads the heap at a pointer · 2: it makes memory · 3: it writes · 4: a call that may do anything · 5: a call on values -/
def cls : AOp → Nat
  | .load .. => 1
  | .slice (some _) .. => 1
  | .alloc _ | .box _ | .buildSl .. | .mksl .. => 2
  | .store .. | .append .. => 3
  | .call q _ _ => if q then 5 else 4
  | .mop (.look ..) _ => 6
  | .mop (.put ..) _ => 7
  | .mop .. => 4
  | _ => 0
def slotOf : AOpd → List Nat
  | .t i => [i]
  | .c _ => []
/-- The slot of the pointer that is read at. -/
def ptrSlot : AOp → List Nat
  | .load _ _ x => slotOf x
  | .slice (some _) _ x _ _ _ => slotOf x
  | _ => []
def constOk : AOpd → Bool
  | .t _ => true
  | .c v => (match v with | .ptr .. | .sl .. | .map _ => false | _ => true)
/-- Its pointer, or what it writes, is no reference that stands in the code. -/
def refOk : AOp → Bool
  | .load _ _ x => constOk x
  | .slice (some _) _ x _ _ _ => constOk x
  | .store _ a _ => constOk a
  | .append _ _ a _ => constOk a
  | _ => true
/-- The slot of what is written. -/
def tgtSlot : AOp → List Nat
  | .store _ a _ => slotOf a
  | .append _ _ a _ => slotOf a
  | _ => []
def selfOk (o : yB) : Bool :=
  (match o.dst with | some d => !(ptrSlot o.op ++ tgtSlot o.op).contains d | none => true) && (!makes o.op || o.dst.isSome) && refOk o.op
def pairsWith (as bs : List Nat) : List (Nat × Nat) := as.flatMap fun a => bs.map fun b => (a, b)
def isApp : AOp → Bool
  | .append .. => true
  | _ => false
/-- It makes memory, whatever happens. -/
def newOk (y : yB) : Bool := y.guard.isNone && y.dst.isSome && (match y.op with | .buildSl _ len _ _ => len != 0 | .box _ | .alloc _ => true | _ => false)
/-- What must lie apart for two operations to change places; none: they can't. -/
def sepsOf (x y : yB) : Option (List (Nat × Nat)) :=
  let cx := cls x.op
  let cy := cls y.op
  if cx == 4 || cy == 4 || !selfOk x || !selfOk y then none
  else if cx == 0 || cy == 0 then some []
  else if cx == 7 || cy == 7 then none
  else if cx == 6 || cy == 6 then some []
  else if (cx == 1 || cx == 5) && (cy == 1 || cy == 5) then some []
  else if cx == 1 then some (pairsWith (ptrSlot x.op) (y.dst.toList ++ tgtSlot y.op))
  else if cy == 1 then some (pairsWith (ptrSlot y.op) (x.dst.toList ++ tgtSlot x.op))
  else if cx == 5 && cy == 2 then some []
  else if cx == 2 && cy == 2 then (if x.dst.isSome && y.dst.isSome then some [] else none)
  else if isApp x.op && x.dst.isSome && newOk y then some (pairsWith (tgtSlot x.op) y.dst.toList)
  else none
def apartT (x y : yB) : Bool :=
  (match x.dst with | some d => !(readsOf y).contains d && y.dst != some d | none => true) &&
  (match y.dst with | some d => !(readsOf x).contains d | none => true)

theorem mem_slots {l : List AOpd} {i : Nat} (h : AOpd.t i ∈ l) : i ∈ slotsOf l := by
  induction l with
  | nil => cases h
  | cons x l ih =>
    cases h with
    | head => simp [slotsOf]
    | tail _ h => cases x <;> simp [slotsOf, ih h]
theorem evA_put {env : Nat → AV} {d : Option Nat} {v : AV} {l : List AOpd} (h : ∀ k, d = some k → k ∉ slotsOf l) : ∀ x ∈ l, evA (putA env d v) x = evA env x := by
  intro x hx
  cases x with
  | c v => rfl
  | t i =>
    cases d with
    | none => rfl
    | some k =>
      have : i ≠ k := fun e => h k rfl (e ▸ mem_slots hx)
      simp [evA, putA, upd, this]

theorem map_congr_mem {α β : Type} {f g : α → β} {l : List α} (h : ∀ x ∈ l, f x = g x) : l.map f = l.map g := List.map_congr_left h

theorem parts_congr {ρ ρ' : AOpd → AV} {ps : List (Nat × Nat × AOpd)} (h : ∀ x ∈ ps.map (·.2.2), ρ x = ρ' x) : (ps.map fun p => (p.1, p.2.1, ρ p.2.2)) = ps.map fun p => (p.1, p.2.1, ρ' p.2.2) :=
  List.map_congr_left fun p hp => by rw [h p.2.2 (List.mem_map.2 ⟨p, hp, rfl⟩)]
theorem opt_congr {ρ ρ' : AOpd → AV} {x : Option AOpd} (h : ∀ y ∈ x.toList, ρ y = ρ' y) : x.map ρ = x.map ρ' := by
  cases x with
  | none => rfl
  | some y => simp [h y (by simp)]

theorem stepV_congr {op : AOp} {ρ ρ' : AOpd → AV} {h : Hp} {id : Id} (e : ∀ x ∈ aopds op, ρ x = ρ' x) : qJ op ρ h id = qJ op ρ' h id := by
  cases op <;> simp only [aopds, List.mem_cons, List.not_mem_nil, or_false, forall_eq_or_imp, forall_eq] at e <;> simp only [qJ, yR, qI, yY]
  case build z ps => rw [parts_congr (by simpa using e)]
  case buildSl sz len z ps => rw [parts_congr (by simpa using e)]
  case mkfn f xs => rw [map_congr_mem e]
  case maxs xs => rw [map_congr_mem e]
  case mkbf f xs => rw [map_congr_mem e]
  case mop k xs => rw [map_congr_mem e]
  case mins xs => rw [map_congr_mem e]
  case slice arr sz x lo hi' mx =>
    obtain ⟨e1, e2⟩ := e
    have l1 := opt_congr (ρ := ρ) (ρ' := ρ') (x := lo) fun y hy => e2 y (by simp [hy])
    have l2 := opt_congr (ρ := ρ) (ρ' := ρ') (x := hi') fun y hy => e2 y (by simp [hy])
    have l3 := opt_congr (ρ := ρ) (ρ' := ρ') (x := mx) fun y hy => e2 y (by simp [hy])
    cases arr <;> simp only [e1, l1, l2, l3]
  all_goals first
    | rfl
    | (simp only [e]; done)
    | (obtain ⟨e1, e2⟩ := e; simp only [e1, e2]; done)
    | (obtain ⟨e1, e2, e3⟩ := e; simp only [e1, e2, e3]; done)

theorem putA_comm {env : Nat → AV} {a b : Option Nat} {u v : AV} (h : ∀ k, a = some k → b ≠ some k) : putA (putA env a u) b v = putA (putA env b v) a u := by
  cases a with
  | none => rfl
  | some i =>
    cases b with
    | none => rfl
    | some j =>
      have hne : i ≠ j := fun e => h i rfl (by rw [e])
      funext k
      simp only [putA, upd]
      by_cases e1 : k = i <;> by_cases e2 : k = j <;> simp [e1, e2]
      · omega
      · intro h'; omega
      · intro h'; omega

section
variable {P : Program}

theorem nextA_mono {x : List AV} {h : Hp} {K K' : AV → Hp → Prop} (hk : ∀ r h, K r h → K' r h) (hn : nextA x h K) : nextA x h K' := by
  unfold nextA at *
  split at hn
  · split at hn
    · split at hn
      · exact ⟨hn.1, fun h => hk _ _ (hn.2.1 h), fun p e h1 h2 => hk _ _ (hn.2.2 p e h1 h2)⟩
      · exact hn.elim
    · exact hn.elim
  · exact hn.elim
theorem awpOp_mono {o : yB} {K K' : St → Prop} {σ : St} (hk : ∀ σ, K σ → K' σ) (h : qH P o K σ) : qH P o K' σ := by
  unfold qH at *
  rw [guardK_wanted] at *
  split at h
  · exact h.elim
  · unfold yW at *
    split at h
    · unfold callA at *
      split at h
      · split at h
        · rename_i hq
          simp only [hq, if_true]
          obtain ⟨r, h1, h2⟩ := h
          exact ⟨r, h1, hk _ h2⟩
        · rename_i hq
          simp only [hq, Bool.false_eq_true, if_false]
          exact HC.mono h fun r h' hx hf => hk _ (hx hf)
      · split at h
        · exact h.elim
        · rename_i hq
          simp only [hq, Bool.false_eq_true, if_false]
          exact HC.mono h fun r h' hx hf => hk _ (hx hf)
      · exact h.elim
    · exact nextA_mono (fun r h' hx => hk _ hx) h
    · unfold ob at *
      split at h
      · exact hk _ h
      · exact h.elim
  · exact hk _ h

/-- What one operation does, where it is no call that may do anything. -/
def Ef (P : Program) (o : yB) (env : Nat → AV) (h : Hp) (r : AV) (h' : Hp) : Prop :=
  match YI o env with
  | none => False
  | some false => r = .tup [] ∧ h' = h
  | some true =>
    match o.op with
    | .call q f args => q = true ∧ (∃ g caps, evA env f = .fn g caps ∧ QCall P g (args.map (evA env) ++ caps) h r) ∧ h' = h
    | op => qJ op (evA env) h (h.ep, o.dst.getD 0) = some (r, h')

theorem Ef.awp {o : yB} {K : St → Prop} {σ : St} (hcl : cls o.op ≠ 4) : qH P o K σ ↔ ∃ r h', Ef P o σ.env σ.h r h' ∧ K ⟨putA σ.env o.dst r, h'⟩ := by
  obtain ⟨dst, op, g⟩ := o
  simp only at hcl
  unfold qH Ef
  rw [guardK_wanted]
  cases hw : YI ⟨dst, op, g⟩ σ.env with
  | none => simp
  | some b =>
    cases b with
    | false => exact ⟨fun h => ⟨_, _, ⟨rfl, rfl⟩, h⟩, fun ⟨r, h', ⟨e1, e2⟩, h⟩ => by rw [e1, e2] at h; exact h⟩
    | true =>
      simp only [yW]
      cases op
      case call q f args =>
        simp only [callA]
        have hq : q = true := by
          cases q with
          | true => rfl
          | false => simp [cls] at hcl
        subst hq
        cases hf : evA σ.env f <;> simp
        rename_i g' caps
        constructor
        · rintro ⟨r, h1, h2⟩
          exact ⟨r, σ.h, ⟨⟨_, _, ⟨rfl, rfl⟩, h1⟩, rfl⟩, h2⟩
        · rintro ⟨r, h', ⟨⟨_, _, ⟨rfl, rfl⟩, h1⟩, rfl⟩, h2⟩
          exact ⟨r, h1, h2⟩
      case mop k xs =>
        cases k
        case look g ls sz z =>
          simp only [ob]
          constructor
          · intro h
            split at h
            · rename_i x hs
              obtain ⟨r, h'⟩ := x
              exact ⟨r, h', hs, h⟩
            · exact h.elim
          · rintro ⟨r, h', hs, hk⟩
            rw [hs]
            exact hk
        case put g ls sz =>
          simp only [ob]
          constructor
          · intro h
            split at h
            · rename_i x hs
              obtain ⟨r, h'⟩ := x
              exact ⟨r, h', hs, h⟩
            · exact h.elim
          · rintro ⟨r, h', hs, hk⟩
            rw [hs]
            exact hk
        all_goals exact absurd rfl hcl
      all_goals
        simp only [ob]
        constructor
        · intro h
          split at h
          · rename_i x hs
            obtain ⟨r, h'⟩ := x
            exact ⟨r, h', hs, h⟩
          · exact h.elim
        · rintro ⟨r, h', hs, hk⟩
          rw [hs]
          exact hk

theorem wantedA_congr {o : yB} {env env' : Nat → AV} (h : ∀ s ∈ readsOf o, env s = env' s) : YI o env = YI o env' := by
  unfold YI
  cases hg : o.guard with
  | none => rfl
  | some p =>
    obtain ⟨s, w⟩ := p
    have := h s (by simp [readsOf, hg])
    simp only [this]

theorem Ef.congr {o : yB} {env env' : Nat → AV} {h h' : Hp} {r : AV} (e : ∀ s ∈ readsOf o, env s = env' s) (hh : Ef P o env h r h') : Ef P o env' h r h' := by
  have hev : ∀ x ∈ aopds o.op, evA env x = evA env' x := fun x hx => by
    cases x with
    | c v => rfl
    | t i => exact e i (by simp [readsOf, mem_slots hx])
  obtain ⟨dst, op, g⟩ := o
  unfold Ef at *
  rw [← wantedA_congr e]
  cases hw : YI ⟨dst, op, g⟩ env with
  | none => rw [hw] at hh; exact hh
  | some b =>
    rw [hw] at hh
    cases b with
    | false => exact hh
    | true =>
      simp only at hev hh ⊢
      cases op
      case call q f args =>
        simp only [aopds] at hev
        have h1 := hev f (by simp)
        have h2 : args.map (evA env') = args.map (evA env) := map_congr_mem fun x hx => (hev x (by simp [hx])).symm
        simp only [← h1, h2]
        exact hh
      all_goals
        simp only at hh ⊢
        rw [← stepV_congr hev]
        exact hh

theorem Ef.cls0 {o : yB} {env : Nat → AV} {h h' : Hp} {r : AV} (hc : cls o.op = 0) (hh : Ef P o env h r h') : h' = h ∧ ∀ h2, Ef P o env h2 r h2 := by
  obtain ⟨dst, op, g⟩ := o
  unfold Ef at *
  cases hw : YI ⟨dst, op, g⟩ env with
  | none => rw [hw] at hh; exact hh.elim
  | some b =>
    rw [hw] at hh
    cases b with
    | false => exact ⟨hh.2, fun h2 => ⟨hh.1, rfl⟩⟩
    | true =>
      simp only at hc hh ⊢
      cases op <;> simp only [cls] at hc <;> try (simp at hc; done)
      case slice arr sz x lo hi' mx =>
        cases arr with
        | some n => simp at hc
        | none =>
          simp only [qJ, qI, yY] at hh ⊢
          split at hh
          · rename_i r' hp
            cases hh
            exact ⟨rfl, fun h2 => rfl⟩
          · cases hh
      case call q f args => split at hc <;> simp at hc
      case mop k xs => cases k <;> simp at hc
      all_goals
        simp only [qJ, qI, yY] at hh ⊢
        split at hh
        · rename_i r' hp
          cases hh
          exact ⟨rfl, fun h2 => rfl⟩
        · cases hh

theorem const_id {v : AV} (h : constOk (.c v) = true) : idOf v = none := by
  cases v <;> first | rfl | simp [constOk] at h

/-- A read: it leaves the heap, and sees its own block alone. -/
theorem Ef.cls1 {o : yB} {env : Nat → AV} {h h' : Hp} {r : AV} (hc : cls o.op = 1) (hro : refOk o.op = true) (hh : Ef P o env h r h') :
    h' = h ∧ ∀ h2 : Hp, (∀ s ∈ ptrSlot o.op, ∀ id, idOf (env s) = some id → h2.hp id = h.hp id) → Ef P o env h2 r h2 := by
  obtain ⟨dst, op, g⟩ := o
  unfold Ef at *
  cases hw : YI ⟨dst, op, g⟩ env with
  | none => rw [hw] at hh; exact hh.elim
  | some b =>
    rw [hw] at hh
    cases b with
    | false => exact ⟨hh.2, fun h2 _ => ⟨hh.1, rfl⟩⟩
    | true =>
      simp only at hc hro hh ⊢
      have at_ : ∀ (x : AOpd) (h2 : Hp) (id : Id) (off : Nat), constOk x = true → (∀ s ∈ slotOf x, ∀ id, idOf (env s) = some id → h2.hp id = h.hp id) → evA env x = .ptr id off → h2.hp id = h.hp id := fun x h2 id off hco hs he => by
        cases x with
        | c v =>
          have := const_id hco
          simp only [evA] at he
          rw [he] at this
          simp [idOf] at this
        | t i => exact hs i (by simp [slotOf]) id (by simp only [evA] at he; rw [he]; rfl)
      cases op <;> simp only [cls] at hc <;> try (simp at hc; done)
      case call q f args => split at hc <;> simp at hc
      case mop k xs => cases k <;> simp at hc
      case load a n x =>
        simp only [qJ, yR, yY, ptrSlot] at hh ⊢
        split at hh
        · rename_i r' hp
          cases hh
          refine ⟨rfl, fun h2 hs => ?_⟩
          have : qI (.load a n x) (evA env) h2 = some r := by
            simp only [qI] at hp ⊢
            split at hp
            · rename_i id off e
              rw [at_ x h2 id off hro hs e]
              exact hp
            · exact hp
            · cases hp
          rw [this]
        · cases hh
      case slice arr sz x lo hi' mx =>
        cases arr with
        | none => simp at hc
        | some n =>
          simp only [qJ, yR, yY, ptrSlot] at hh ⊢
          split at hh
          · rename_i r' hp
            cases hh
            refine ⟨rfl, fun h2 hs => ?_⟩
            have : qI (.slice (some n) sz x lo hi' mx) (evA env) h2 = some r := by
              simp only [qI] at hp ⊢
              split at hp
              · rename_i id off e
                rw [at_ x h2 id off hro hs e]
                exact hp
              · cases hp
            rw [this]
          · cases hh

theorem lend_put {h h2 : Hp} (hs : ∀ id blk, h.hp id = some blk → h2.hp id = some blk) : ∀ (d : Nat) (a a' : AV), lend d h a = some a' → lend d h2 a = some a'
  | 0, a, a', e => by simpa [lend] using e
  | d + 1, a, a', e => by
    have ih := lend_put hs d
    have lst : ∀ (xs ys : List AV), mapO (lend d h) xs = some ys → mapO (lend d h2) xs = some ys := by
      intro xs
      induction xs with
      | nil => intro ys hy; simpa [mapO] using hy
      | cons x xs ih2 =>
        intro ys hy
        simp only [mapO] at hy ⊢
        split at hy
        · rename_i y zs h1 h2
          rw [ih _ _ h1, ih2 _ h2]
          exact hy
        · cases hy
    simp only [lend] at e ⊢
    split
    · rename_i hi; rw [if_pos hi] at e; exact e
    · rename_i hi
      rw [if_neg hi] at e
      split at e
      · simp only [Option.map_eq_some_iff] at e ⊢
        obtain ⟨cs, h1, h2⟩ := e
        exact ⟨cs, lst _ _ h1, h2⟩
      · simp only [Option.map_eq_some_iff] at e ⊢
        obtain ⟨cs, h1, h2⟩ := e
        exact ⟨cs, lst _ _ h1, h2⟩
      · simp only [Option.map_eq_some_iff] at e ⊢
        obtain ⟨cs, h1, h2⟩ := e
        exact ⟨cs, lst _ _ h1, h2⟩
      · split at e
        · rename_i blk hb
          simp only [hs _ _ hb]
          split
          · rename_i h0; rw [if_pos h0] at e; exact e
          · rename_i h0
            rw [if_neg h0] at e
            split
            · rename_i h1
              rw [if_pos h1] at e
              simp only [Option.map_eq_some_iff] at e ⊢
              obtain ⟨cs, h2, h3⟩ := e
              exact ⟨cs, lst _ _ h2, h3⟩
            · rename_i h1; rw [if_neg h1] at e; cases e
        · cases e
      · split at e
        · rename_i blk hb
          simp only [hs _ _ hb]
          simp only [Option.map_eq_some_iff] at e ⊢
          obtain ⟨cs, h2, h3⟩ := e
          exact ⟨cs, lst _ _ h2, h3⟩
        · cases e
      · cases e
theorem mapO_lend_put {h h2 : Hp} (hs : ∀ id blk, h.hp id = some blk → h2.hp id = some blk) {d : Nat} : ∀ {xs ys : List AV}, mapO (lend d h) xs = some ys → mapO (lend d h2) xs = some ys
  | [], ys, e => by simpa [mapO] using e
  | x :: xs, ys, e => by
    simp only [mapO] at e ⊢
    split at e
    · rename_i y zs h1 h2
      rw [lend_put hs _ _ _ h1, mapO_lend_put hs h2]
      exact e
    · cases e

/-- A look into a map: it leaves the heap, and sees the maps alone. -/
theorem Ef.cls6 {o : yB} {env : Nat → AV} {h h' : Hp} {r : AV} (hc : cls o.op = 6) (hh : Ef P o env h r h') :
    h' = h ∧ ∀ h2 : Hp, h2.mp = h.mp → Ef P o env h2 r h2 := by
  obtain ⟨dst, op, g⟩ := o
  unfold Ef at *
  cases hw : YI ⟨dst, op, g⟩ env with
  | none => rw [hw] at hh; exact hh.elim
  | some b =>
    rw [hw] at hh
    cases b with
    | false => exact ⟨hh.2, fun h2 _ => ⟨hh.1, rfl⟩⟩
    | true =>
      simp only at hc hh ⊢
      cases op <;> simp only [cls] at hc <;> try (simp at hc; done)
      case slice arr sz x lo hi' mx => cases arr <;> simp at hc
      case call q f args => split at hc <;> simp at hc
      case mop k xs =>
        cases k <;> simp only [cls] at hc <;> try (simp at hc; done)
        rename_i g' ls sz z
        simp only [qJ, yR, qI, yY] at hh ⊢
        unfold mopV at hh ⊢
        split at hh
        · rename_i e _; cases e
        · split at hh
          · rename_i es hes
            simp only [Option.bind_eq_some_iff] at hh
            obtain ⟨ks, p1, r', p2, p3⟩ := hh
            cases r' with
            | none =>
              simp only [Option.some.injEq, Prod.mk.injEq] at p3
              obtain ⟨rfl, rfl⟩ := p3
              exact ⟨rfl, fun h2 hm => by simp only [hm, hes, p1, p2, Option.bind_some]⟩
            | some i =>
              simp only [Option.map_eq_some_iff, Prod.mk.injEq] at p3
              obtain ⟨e, p4, rfl, rfl⟩ := p3
              exact ⟨rfl, fun h2 hm => by simp only [hm, hes, p1, p2, Option.bind_some, p4, Option.map_some]⟩
          · cases hh
        · rename_i e _; cases e
        · rename_i e _; cases e
        · rename_i e _; cases e
        · cases hh
/-- What else leaves the maps. -/
theorem Ef.maps {o : yB} {env : Nat → AV} {h h' : Hp} {r : AV} (hc : cls o.op ≠ 4) (hc7 : cls o.op ≠ 7) (hh : Ef P o env h r h') : h'.mp = h.mp := by
  obtain ⟨dst, op, g⟩ := o
  unfold Ef at hh
  cases hw : YI ⟨dst, op, g⟩ env with
  | none => rw [hw] at hh; exact hh.elim
  | some b =>
    rw [hw] at hh
    cases b with
    | false => rw [hh.2]
    | true =>
      simp only at hc hc7 hh
      cases op
      case call q f args => rw [hh.2.2]
      case mop k xs =>
        cases k
        case look g' ls sz z =>
          have := (Ef.cls6 (P := P) (o := ⟨dst, .mop (.look g' ls sz z) xs, none⟩) (env := env) (h := h) (h' := h') (r := r) rfl (by unfold Ef; simpa [YI] using hh)).1
          rw [this]
        case put => exact absurd rfl hc7
        all_goals exact absurd rfl hc
      all_goals
        simp only [qJ] at hh
        split at hh
        · cases hh; rfl
        · split at hh
          · cases hh; rfl
          · simp only [yY] at hh
            repeat' split at hh
            all_goals first
              | (cases hh; rfl)
              | (cases hh; done)
              | (simp only [Option.map_eq_some_iff, Prod.mk.injEq] at hh; obtain ⟨_, _, _, rfl⟩ := hh; rfl)
              | (simp only [Option.map_eq_some_iff] at hh; obtain ⟨_, _, hh⟩ := hh; split at hh <;> cases hh <;> rfl)

/-- A call on values: it leaves the heap, and sees no block that is not there. -/
theorem Ef.cls5 {o : yB} {env : Nat → AV} {h h' : Hp} {r : AV} (hc : cls o.op = 5) (hh : Ef P o env h r h') :
    h' = h ∧ ∀ h2 : Hp, (∀ id blk, h.hp id = some blk → h2.hp id = some blk) → Ef P o env h2 r h2 := by
  obtain ⟨dst, op, g⟩ := o
  unfold Ef at *
  cases hw : YI ⟨dst, op, g⟩ env with
  | none => rw [hw] at hh; exact hh.elim
  | some b =>
    rw [hw] at hh
    cases b with
    | false => exact ⟨hh.2, fun h2 _ => ⟨hh.1, rfl⟩⟩
    | true =>
      simp only at hc hh ⊢
      cases op <;> simp only [cls] at hc <;> try (simp at hc; done)
      case slice arr sz x lo hi' mx => cases arr <;> simp at hc
      case mop k xs => cases k <;> simp at hc
      case call q f args =>
        obtain ⟨h1, ⟨g', caps, h2, args', h3, h4⟩, h6⟩ := hh
        exact ⟨h6, fun h2' hs => ⟨h1, ⟨g', caps, h2, args', mapO_lend_put hs h3, h4⟩, trivial⟩⟩

/-- An operation that makes memory: it looks at nothing but its own place. -/
theorem Ef.cls2 {o : yB} {env : Nat → AV} {h h' : Hp} {r : AV} (hc : cls o.op = 2) (hh : Ef P o env h r h') :
    (h' = h ∧ ∀ g : Hp, g.ep = h.ep → ((g.hp (h.ep, o.dst.getD 0)).isNone = true ∨ (h.hp (h.ep, o.dst.getD 0)).isNone = false) → Ef P o env g r g) ∨
    ((h.hp (h.ep, o.dst.getD 0)).isNone = true ∧ idOf r = some (h.ep, o.dst.getD 0) ∧ ∃ cells, h' = h.push (h.ep, o.dst.getD 0) cells ∧ ∀ g : Hp, g.ep = h.ep → (g.hp (h.ep, o.dst.getD 0)).isNone = true → Ef P o env g r (g.push (h.ep, o.dst.getD 0) cells)) := by
  obtain ⟨dst, op, g⟩ := o
  unfold Ef at *
  cases hw : YI ⟨dst, op, g⟩ env with
  | none => rw [hw] at hh; exact hh.elim
  | some b =>
    rw [hw] at hh
    cases b with
    | false => exact .inl ⟨hh.2, fun g _ _ => ⟨hh.1, rfl⟩⟩
    | true =>
      simp only at hc hh ⊢
      cases op <;> simp only [cls] at hc <;> try (simp at hc; done)
      case slice arr sz x lo hi' mx => cases arr <;> simp at hc
      case call q f args => split at hc <;> simp at hc
      case mop k xs => cases k <;> simp at hc
      case alloc z =>
        simp only [qJ, yR, qI, yY] at hh ⊢
        split at hh
        · rename_i hn
          simp only [Option.some.injEq, Prod.mk.injEq] at hh
          obtain ⟨rfl, rfl⟩ := hh
          exact .inr ⟨hn, rfl, _, rfl, fun g he hg => by rw [he, if_pos hg]⟩
        · cases hh
      case box x =>
        simp only [qJ, yR, qI, yY] at hh ⊢
        split at hh
        · rename_i hn
          simp only [Option.map_eq_some_iff, Prod.mk.injEq] at hh
          obtain ⟨cs, h1, rfl, rfl⟩ := hh
          exact .inr ⟨hn, rfl, _, rfl, fun g he hg => by rw [he, if_pos hg, h1]; rfl⟩
        · cases hh
      case buildSl sz len z ps =>
        simp only [qJ, yR, qI, yY] at hh ⊢
        split at hh
        · rename_i hn
          simp only [Option.map_eq_some_iff] at hh
          obtain ⟨cs, h1, e⟩ := hh
          split at e
          · rename_i h0
            cases e
            exact .inl ⟨rfl, fun g he hg => by
              rcases hg with hg | hg
              · rw [he, if_pos hg, h1]; simp [h0]
              · rw [hn] at hg; cases hg⟩
          · rename_i h0
            cases e
            exact .inr ⟨hn, rfl, _, rfl, fun g he hg => by rw [he, if_pos hg, h1]; simp [h0]⟩
        · cases hh
      case mksl =>
        simp only [qJ, yR, qI, yY] at hh ⊢
        split at hh
        · rename_i k1 ln k2 cn e1 e2
          split at hh
          · rename_i hcond
            simp only [Option.some.injEq, Prod.mk.injEq] at hh
            obtain ⟨rfl, rfl⟩ := hh
            exact .inr ⟨hcond.1, rfl, _, rfl, fun g he hg => by rw [he, if_pos ⟨hg, hcond.2⟩]⟩
          · cases hh
        · cases hh

theorem Ef.new {o : yB} {env : Nat → AV} {h h' : Hp} {r : AV} (hn : newOk o = true) (hh : Ef P o env h r h') :
    (h.hp (h.ep, o.dst.getD 0)).isNone = true ∧ idOf r = some (h.ep, o.dst.getD 0) ∧ ∃ cells, h' = h.push (h.ep, o.dst.getD 0) cells ∧ ∀ g : Hp, g.ep = h.ep → (g.hp (h.ep, o.dst.getD 0)).isNone = true → Ef P o env g r (g.push (h.ep, o.dst.getD 0) cells) := by
  obtain ⟨dst, op, g⟩ := o
  simp only [newOk, Bool.and_eq_true] at hn
  obtain ⟨⟨hg, hd⟩, hop⟩ := hn
  have hg' : g = none := by cases g <;> simp_all
  subst hg'
  unfold Ef at *
  simp only [YI] at hh ⊢
  cases op <;> simp only at hop <;> try (simp at hop; done)
  case alloc z =>
    simp only [qJ, yR, qI, yY] at hh ⊢
    split at hh
    · rename_i hn
      simp only [Option.some.injEq, Prod.mk.injEq] at hh
      obtain ⟨rfl, rfl⟩ := hh
      exact ⟨hn, rfl, _, rfl, fun g he hg => by rw [he, if_pos hg]⟩
    · cases hh
  case box x =>
    simp only [qJ, yR, qI, yY] at hh ⊢
    split at hh
    · rename_i hn
      simp only [Option.map_eq_some_iff, Prod.mk.injEq] at hh
      obtain ⟨cs, h1, rfl, rfl⟩ := hh
      exact ⟨hn, rfl, _, rfl, fun g he hg => by rw [he, if_pos hg, h1]; rfl⟩
    · cases hh
  case buildSl sz len z ps =>
    have h0 : ¬ len = 0 := by simpa using hop
    simp only [qJ, yR, qI, yY] at hh ⊢
    split at hh
    · rename_i hn
      simp only [Option.map_eq_some_iff] at hh
      obtain ⟨cs, h1, e⟩ := hh
      (try rw [if_neg h0] at e)
      cases e
      exact ⟨hn, rfl, _, rfl, fun g he hg => by rw [he, if_pos hg, h1]; simp [h0]⟩
    · cases hh
/-- An append beside memory that is made. -/
theorem Ef.app {o : yB} {env : Nat → AV} {h h' : Hp} {r : AV} (ha : isApp o.op = true) (hh : Ef P o env h r h') {id : Id} {cells : List AV} (hn : h.hp id = none) (hid : id ≠ (h.ep, o.dst.getD 0)) :
    Ef P o env (h.push id cells) r (h'.push id cells) ∧ h'.ep = h.ep ∧ (idOf r ≠ some id) := by
  obtain ⟨dst, op, g⟩ := o
  cases op <;> simp only [isApp] at ha <;> try (cases ha; done)
  rename_i sz bytes s v
  unfold Ef at *
  cases hw : YI ⟨dst, .append sz bytes s v, g⟩ env with
  | none => rw [hw] at hh; exact hh.elim
  | some b =>
    rw [hw] at hh
    cases b with
    | false => obtain ⟨rfl, rfl⟩ := hh; exact ⟨⟨rfl, rfl⟩, rfl, by simp [idOf]⟩
    | true =>
      simp only [qJ, yR, qI, yY] at hh ⊢
      simp only at hid
      have alive : ∀ t blk, h.hp t = some blk → (h.push id cells).hp t = some blk := fun t blk ht => by
        simp only [Hp.push]
        rw [qD _ _ fun e => by rw [e, hn] at ht; cases ht]
        exact ht
      split at hh
      · cases hh
      · rename_i n new hsrc
        have hsrc' : appSrc (h.push id cells) sz (evA env v) = some (n, new) := by
          revert hsrc
          cases evA env v <;> simp only [appSrc] <;> try (intro h; exact h)
          rename_i t off len sz'
          split
          · intro h1
            split at h1
            · rename_i blk hb
              rw [alive _ _ hb]
              exact h1
            · cases h1
          · intro h; exact h
        rw [hsrc']
        simp only
        split at hh
        · rename_i hs
          (try rw [hs])
          (try simp only)
          split at hh
          · rename_i h0
            cases hh
            exact ⟨by rw [if_pos h0], rfl, by simp [idOf]⟩
          · rename_i h0
            split at hh
            · rename_i h1
              cases hh
              refine ⟨?_, rfl, by simp only [idOf, ne_eq, Option.some.injEq]; exact fun e => hid e.symm⟩
              rw [if_neg h0, if_pos h1]
              simp only [Hp.push]
              rw [upd_comm _ _ _ hid]
            · cases hh
        · rename_i t off len sz' hs
          (try rw [hs])
          (try simp only)
          split at hh
          · rename_i blk hb
            rw [alive _ _ hb]
            (try simp only)
            split at hh
            · rename_i h1
              cases hh
              refine ⟨?_, rfl, by simp only [idOf, ne_eq, Option.some.injEq]; exact fun e => hid e.symm⟩
              rw [if_pos h1]
              have htid : id ≠ t := fun e => by rw [← e, hn] at hb; cases hb
              simp only [Hp.push, Hp.kill]
              rw [upd_comm h.hp _ _ htid, upd_comm _ _ _ hid]
            · cases hh
          · cases hh
        · cases hh

theorem Ef.ep3 {o : yB} {env : Nat → AV} {h h' : Hp} {r : AV} (ha : isApp o.op = true) (hh : Ef P o env h r h') : h'.ep = h.ep := by
  obtain ⟨dst, op, g⟩ := o
  cases op <;> simp only [isApp] at ha <;> try (cases ha; done)
  unfold Ef at hh
  split at hh
  · exact hh.elim
  · rw [hh.2]
  · simp only [qJ, yR, qI, yY] at hh
    repeat' split at hh
    all_goals first | (cases hh; rfl) | cases hh
theorem Ef.app_id {o : yB} {env : Nat → AV} {h h' : Hp} {r : AV} (ha : isApp o.op = true) (hh : Ef P o env h r h') {id : Id} (hid : id ≠ (h.ep, o.dst.getD 0)) : idOf r ≠ some id := by
  obtain ⟨dst, op, g⟩ := o
  cases op <;> simp only [isApp] at ha <;> try (cases ha; done)
  unfold Ef at hh
  split at hh
  · exact hh.elim
  · rw [hh.1]; simp [idOf]
  · simp only [qJ, yR, qI, yY] at hh
    repeat' split at hh
    all_goals first | (cases hh; simp [idOf]; done) | (cases hh; simp only [idOf, ne_eq, Option.some.injEq]; exact fun e => hid e.symm) | cases hh

/-- What an operation that makes or writes memory leaves of other blocks. -/
theorem Ef.other {o : yB} {env : Nat → AV} {h h' : Hp} {r : AV} (hc : cls o.op = 2 ∨ cls o.op = 3) (hro : refOk o.op = true) (hh : Ef P o env h r h') {id : Id} (h1 : idOf r ≠ some id) (h2 : ∀ s ∈ tgtSlot o.op, idOf (env s) ≠ some id) : h'.hp id = h.hp id := by
  rcases hc with hc | hc
  · rcases Ef.cls2 hc hh with ⟨rfl, _⟩ | ⟨_, h3, cells, rfl, _⟩
    · rfl
    · rw [h3] at h1
      simp only [Hp.push]
      exact qD _ _ fun e => h1 (by rw [e])
  · obtain ⟨dst, op, g⟩ := o
    unfold Ef at *
    cases hw : YI ⟨dst, op, g⟩ env with
    | none => rw [hw] at hh; exact hh.elim
    | some b =>
      rw [hw] at hh
      cases b with
      | false => rw [hh.2]
      | true =>
        simp only at hc hro hh h2
        have tg : ∀ (x : AOpd) (v : AV) (j : Id), constOk x = true → (∀ s ∈ slotOf x, idOf (env s) ≠ some id) → evA env x = v → idOf v = some j → j ≠ id := fun x v j hco hs he hj e => by
          subst e
          cases x with
          | c u =>
            have := const_id hco
            simp only [evA] at he
            rw [he, hj] at this
            cases this
          | t i => exact hs i (by simp [slotOf]) (by simp only [evA] at he; rw [he]; exact hj)
        cases op <;> simp only [cls] at hc <;> try (simp at hc; done)
        case slice arr sz x lo hi' mx => cases arr <;> simp at hc
        case call q f args => split at hc <;> simp at hc
        case mop k xs => cases k <;> simp at hc
        case store n a x =>
          simp only [qJ, yR, qI, yY, refOk, tgtSlot] at hh hro h2
          split at hh
          · rename_i t off e
            split at hh
            · split at hh
              · split at hh
                · cases hh
                  simp only [Hp.put]
                  exact qD _ _ fun e' => tg a _ t hro h2 e rfl e'.symm
                · cases hh
              · cases hh
            · cases hh
          · cases hh
        case append sz bytes s x =>
          simp only [qJ, yR, qI, yY, refOk, tgtSlot] at hh hro h2
          split at hh
          · cases hh
          · split at hh
            · split at hh
              · cases hh; rfl
              · split at hh
                · cases hh
                  simp only [Hp.push]
                  exact qD _ _ fun e' => h1 (by rw [e']; rfl)
                · cases hh
            · rename_i t off len sz' e
              split at hh
              · split at hh
                · cases hh
                  simp only [Hp.push, Hp.kill]
                  rw [qD _ _ fun e' => h1 (by rw [e']; rfl)]
                  exact qD _ _ fun e' => tg s _ t hro h2 e rfl e'.symm
                · cases hh
              · cases hh
            · cases hh
end
end Go.Proofs.Hx
