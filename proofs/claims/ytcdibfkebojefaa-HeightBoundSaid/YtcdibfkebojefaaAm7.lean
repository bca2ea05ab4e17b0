import Derived.Test.YtcdibfkebojefaaAm6
set_option linter.unusedVariables false
set_option linter.unusedSimpArgs false
namespace Go.Proofs.Hx
section
variable {P : Program} {c : Cx}

/-- A block is given up. -/
theorem kill_step (hH : HRep c) (id : Id) : Le c ⟨c.w, c.S, c.h.kill id, c.φ, c.al⟩ ∧ HRep ⟨c.w, c.S, c.h.kill id, c.φ, c.al⟩ ∧ Fr c ⟨c.w, c.S, c.h.kill id, c.φ, c.al⟩ := by
  have sub : ∀ i blk, (c.h.kill id).hp i = some blk → c.h.hp i = some blk := fun i blk h => by
    simp only [Hp.kill, upd] at h
    split at h
    · cases h
    · exact h
  have hle : Le c ⟨c.w, c.S, c.h.kill id, c.φ, c.al⟩ :=
    ⟨fun b h => ⟨h, rfl⟩, fun i h => h, fun i _ => rfl, fun i _ blk h => ⟨blk, sub i blk h, rfl, fun arr el fr h => ⟨arr, h, rfl⟩⟩⟩
  refine ⟨hle, ⟨hH.slt, fun i blk h => ?_, fun i es h => ?_, fun i j hi hj hne => ?_⟩, ⟨rfl, rfl, rfl, Nat.le_refl _, fun _ _ _ => rfl, fun b h => .inl ?_, fun _ h => .inl h⟩⟩
  · obtain ⟨h1, h2, h3, h4, h5⟩ := hH.blk i blk (sub i blk h)
    exact ⟨h1, h2, CRep.mono hle _ rfl _ _ h3, h4, h5⟩
  · obtain ⟨h1, h2, h3, ents, cl, h4, h5⟩ := hH.mp i es h
    refine ⟨h1, ?_, h3, ents, cl, h4, ERep.mono hle _ _ h5⟩
    simp only [Hp.kill, upd]
    split
    · rfl
    · exact h2
  · have lv : ∀ k, (c.h.kill id).live k → c.h.live k := fun k h => by
      rcases h with ⟨b, hb⟩ | ⟨es, hb⟩
      · exact .inl ⟨b, sub k b hb⟩
      · exact .inr ⟨es, hb⟩
    exact hH.inj i j (lv i hi) (lv j hj) hne
  · obtain ⟨i, hm, hφ⟩ := h
    refine ⟨i, ?_, hφ⟩
    rcases hm with ⟨blk, hb, hw⟩ | ⟨es, hb⟩
    · exact .inl ⟨blk, sub i blk hb, hw⟩
    · exact .inr ⟨es, hb⟩

/-- A block is written. -/
theorem write_step (hH : HRep c) {id : Id} {blk : Blk} (hb : c.h.hp id = some blk) (hwr : blk.wr = true) {w' : World} {arr arr' : Array Value} {el : TypeId} {cells : List AV}
    (harr : c.w.heap[(c.φ id).1]? = some (.cells arr el (0, 0)))
    (hw : w' = c.w.setRow (c.φ id).1 arr') (hsz : arr'.size = arr.size) (hlen : cells.length = blk.cells.length)
    (hcells : ∀ (i : Nat) x, cells[i]? = some x → ∃ v, arr'[(c.φ id).2 + i]? = some v ∧ VRep c v x) :
    ∃ c' : Cx, c'.w = w' ∧ c'.h = c.h.put id cells ∧ Le c c' ∧ HRep c' ∧ Fr c c' ∧ c'.al = c.al := by
  obtain ⟨hid, ⟨arr0, el0, h0, hl0⟩, hcr, hns, _⟩ := hH.blk id blk hb
  rw [harr] at h0
  have e0 : arr0 = arr := by simp only [Option.some.injEq, Obj.cells.injEq] at h0; exact h0.1.symm
  subst e0
  have hns := hns hwr
  have hnew : w'.heap[(c.φ id).1]? = some (.cells arr' el (0, 0)) := by rw [hw]; exact setRow_heap _ _ _ _ _ _ harr
  have hold : ∀ b, b ≠ (c.φ id).1 → w'.heap[b]? = c.w.heap[b]? := fun b h => by rw [hw]; exact setRow_other _ _ _ _ h
  have hblk : ∀ i bl, c.h.hp i = some bl → i ≠ id → (c.φ i).1 ≠ (c.φ id).1 := fun i bl h hne => hH.inj i id (.inl ⟨bl, h⟩) (.inl ⟨blk, hb⟩) hne
  have hle : Le c ⟨w', c.S, c.h.put id cells, c.φ, c.al⟩ := by
    refine ⟨fun b h => ⟨h, hold b fun e => hns (e ▸ h)⟩, fun i h => h, fun i _ => rfl, fun i hi bl' h => ?_⟩
    simp only [Hp.put, upd] at h
    split at h
    · rename_i e
      subst e
      simp only [Option.some.injEq] at h
      subst h
      refine ⟨blk, hb, hlen.symm, fun a e f ha => ?_⟩
      rw [harr] at ha
      simp only [Option.some.injEq, Obj.cells.injEq] at ha
      obtain ⟨rfl, rfl, rfl⟩ := ha
      exact ⟨arr', hnew, hsz⟩
    · rename_i e
      exact ⟨bl', h, rfl, fun a e' f ha => ⟨a, by rw [hold _ (hblk i bl' h e)]; exact ha, rfl⟩⟩
  refine ⟨⟨w', c.S, c.h.put id cells, c.φ, c.al⟩, rfl, rfl, hle, ⟨fun b h => ?_, fun i bl h => ?_, fun i es h => ?_, fun i j hi hj hne => ?_⟩, ⟨by rw [hw]; rfl, by rw [hw]; rfl, by rw [hw]; rfl, by simp [hw], fun b _ hm => ?_, fun b h => .inl ?_, fun _ h => .inl h⟩, rfl⟩
  · have := hH.slt b h; simpa [hw] using this
  · simp only [Hp.put, upd] at h
    split at h
    · rename_i e
      subst e
      simp only [Option.some.injEq] at h
      subst h
      refine ⟨hid, ⟨arr', el, hnew, by simp only; omega⟩, CRep.of_get fun k x hx => ?_, fun _ => hns, fun h => by cases h⟩
      obtain ⟨v, h1, h2⟩ := hcells k x hx
      exact ⟨v, by simp [World.cell?, hnew, h1], VRep.mono hle v x h2⟩
    · rename_i e
      obtain ⟨h1, ⟨a, el', h2, h3⟩, h4, h5, h6⟩ := hH.blk i bl h
      have he := hold _ (hblk i bl h e)
      exact ⟨h1, ⟨a, el', by rw [he]; exact h2, h3⟩, CRep.mono hle _ he _ _ h4, h5, h6⟩
  · obtain ⟨h1, h2, h3, ents, cl, h4, h5⟩ := hH.mp i es h
    have hne : i ≠ id := fun e => by subst e; rw [hb] at h2; cases h2
    have he : (c.φ i).1 ≠ (c.φ id).1 := hH.inj i id (.inr ⟨es, h⟩) (.inl ⟨blk, hb⟩) hne
    refine ⟨h1, by simp only [Hp.put]; rw [upd_ne _ _ hne]; exact h2, h3, ents, cl, by rw [hold _ he]; exact h4, ERep.mono hle _ _ h5⟩
  · have lv : ∀ k, (c.h.put id cells).live k → c.h.live k := fun k h => by
      rcases h with ⟨b, hb'⟩ | ⟨es, hb'⟩
      · by_cases e : k = id
        · subst e; exact .inl ⟨blk, hb⟩
        · simp only [Hp.put] at hb'; rw [upd_ne _ _ e] at hb'; exact .inl ⟨b, hb'⟩
      · exact .inr ⟨es, hb'⟩
    exact hH.inj i j (lv i hi) (lv j hj) hne
  · refine hold b fun e => hm ⟨id, .inl ⟨blk, hb, hwr⟩, e.symm⟩
  · obtain ⟨i, hm, hφ⟩ := h
    refine ⟨i, ?_, hφ⟩
    rcases hm with ⟨bl, h, hw⟩ | ⟨es, h⟩
    · by_cases e : i = id
      · subst e; exact .inl ⟨blk, hb, hwr⟩
      · simp only [Hp.put] at h; rw [upd_ne _ _ e] at h; exact .inl ⟨bl, h, hw⟩
    · exact .inr ⟨es, h⟩

/-- A block goes on under a new number, from an offset on, written. -/
theorem take_step (hH : HRep c) {nid : Id} (hn : ¬ c.al nid) {id : Id} {blk : Blk} (hb : c.h.hp id = some blk) (hwr : blk.wr = true) {w' : World} {arr arr' : Array Value} {el : TypeId} {cells : List AV} {base : Nat}
    (harr : c.w.heap[(c.φ id).1]? = some (.cells arr el (0, 0)))
    (hw : w' = c.w.setRow (c.φ id).1 arr') (hsz : arr'.size = arr.size) (hlen : base + cells.length ≤ arr'.size)
    (hcells : ∀ (i : Nat) x, cells[i]? = some x → ∃ v, arr'[base + i]? = some v ∧ VRep c v x) :
    ∃ c' : Cx, c'.w = w' ∧ c'.h = (c.h.kill id).push nid cells ∧ c'.φ nid = ((c.φ id).1, base) ∧ Le c c' ∧ HRep c' ∧ Fr c c' ∧ c'.al = fun i => c.al i ∨ i = nid := by
  obtain ⟨hid, ⟨arr0, el0, h0, hl0⟩, hcr, hns, _⟩ := hH.blk id blk hb
  have hns := hns hwr
  have hnew : w'.heap[(c.φ id).1]? = some (.cells arr' el (0, 0)) := by rw [hw]; exact setRow_heap _ _ _ _ _ _ harr
  have hold : ∀ b, b ≠ (c.φ id).1 → w'.heap[b]? = c.w.heap[b]? := fun b h => by rw [hw]; exact setRow_other _ _ _ _ h
  have hblk : ∀ i bl, c.h.hp i = some bl → i ≠ id → (c.φ i).1 ≠ (c.φ id).1 := fun i bl h hne => hH.inj i id (.inl ⟨bl, h⟩) (.inl ⟨blk, hb⟩) hne
  have hmp : ∀ i es, c.h.mp i = some es → i ≠ id ∧ i ≠ nid ∧ (c.φ i).1 ≠ (c.φ id).1 := fun i es h => by
    obtain ⟨h1, h2, _⟩ := hH.mp i es h
    have hne : i ≠ id := fun e => by subst e; rw [hb] at h2; cases h2
    exact ⟨hne, fun e => hn (e ▸ h1), hH.inj i id (.inr ⟨es, h⟩) (.inl ⟨blk, hb⟩) hne⟩
  have sub : ∀ i bl, ((c.h.kill id).push nid cells).hp i = some bl → i ≠ nid → c.h.hp i = some bl ∧ i ≠ id := fun i bl h e => by
    simp only [Hp.push, Hp.kill, upd] at h
    rw [if_neg e] at h
    split at h
    · cases h
    · rename_i e'; exact ⟨h, e'⟩
  have hle : Le c ⟨w', c.S, (c.h.kill id).push nid cells, upd c.φ nid ((c.φ id).1, base), fun i => c.al i ∨ i = nid⟩ := by
    have hfr' : ∀ i, c.al i → i ≠ nid := fun i h e => hn (e ▸ h)
    refine ⟨fun b h => ⟨h, hold b fun e => hns (e ▸ h)⟩, fun i h => .inl h, fun i hi => upd_ne _ _ (hfr' i hi), fun i hi bl' h => ?_⟩
    obtain ⟨h1, h2⟩ := sub i bl' h (hfr' i hi)
    exact ⟨bl', h1, rfl, fun a e' f ha => ⟨a, by rw [hold _ (hblk i bl' h1 h2)]; exact ha, rfl⟩⟩
  refine ⟨⟨w', c.S, (c.h.kill id).push nid cells, upd c.φ nid ((c.φ id).1, base), fun i => c.al i ∨ i = nid⟩, rfl, rfl, by simp, hle, ⟨fun b h => ?_, fun i bl h => ?_, fun i es h => ?_, fun i j hi hj hne => ?_⟩, ⟨by rw [hw]; rfl, by rw [hw]; rfl, by rw [hw]; rfl, by simp [hw], fun b _ hm => ?_, fun b h => .inl ?_, fun _ h => .inl h⟩, rfl⟩
  · have := hH.slt b h; simpa [hw] using this
  · by_cases e : i = nid
    · subst e
      simp only [Hp.push, Hp.kill, upd_same, Option.some.injEq] at h
      subst h
      simp only [upd_same]
      refine ⟨by simp, ⟨arr', el, hnew, hlen⟩, CRep.of_get fun k x hx => ?_, fun _ => hns, fun h => by cases h⟩
      obtain ⟨v, h1, h2⟩ := hcells k x hx
      exact ⟨v, by simp [World.cell?, hnew, h1], VRep.mono hle v x h2⟩
    · obtain ⟨h0, h0'⟩ := sub i bl h e
      obtain ⟨h1, ⟨a, el', h2, h3⟩, h4, h5, h6⟩ := hH.blk i bl h0
      have he := hold _ (hblk i bl h0 h0')
      simp only [upd_ne _ _ e]
      exact ⟨.inl h1, ⟨a, el', by rw [he]; exact h2, h3⟩, CRep.mono hle _ he _ _ h4, h5, h6⟩
  · obtain ⟨h1, h2, h3, ents, cl, h4, h5⟩ := hH.mp i es h
    obtain ⟨g1, g2, g3⟩ := hmp i es h
    simp only [upd_ne _ _ g2]
    refine ⟨.inl h1, by simp only [Hp.push, Hp.kill]; rw [upd_ne _ _ g2, upd_ne _ _ g1]; exact h2, h3, ents, cl, by rw [hold _ g3]; exact h4, ERep.mono hle _ _ h5⟩
  · have lv : ∀ k, ((c.h.kill id).push nid cells).live k → k ≠ nid → c.h.live k ∧ k ≠ id := fun k h e => by
      rcases h with ⟨b, hb'⟩ | ⟨es, hb'⟩
      · obtain ⟨h1, h2⟩ := sub k b hb' e; exact ⟨.inl ⟨b, h1⟩, h2⟩
      · exact ⟨.inr ⟨es, hb'⟩, (hmp k es hb').1⟩
    have lb : c.h.live id := .inl ⟨blk, hb⟩
    by_cases e : i = nid
    · have e' : j ≠ nid := fun h => hne (e.trans h.symm)
      obtain ⟨l1, l2⟩ := lv j hj e'
      simp only [e, upd_same, upd_ne _ _ e']
      exact hH.inj id j lb l1 (Ne.symm l2)
    · obtain ⟨l1, l2⟩ := lv i hi e
      by_cases e' : j = nid
      · simp only [e', upd_same, upd_ne _ _ e]
        exact hH.inj i id l1 lb l2
      · simp only [upd_ne _ _ e, upd_ne _ _ e']
        exact hH.inj i j l1 (lv j hj e').1 hne
  · refine hold b fun e => hm ⟨id, .inl ⟨blk, hb, hwr⟩, e.symm⟩
  · obtain ⟨i, hm, hφ⟩ := h
    by_cases e : i = nid
    · subst e
      simp at hφ
      exact ⟨id, .inl ⟨blk, hb, hwr⟩, hφ⟩
    · simp only [upd_ne _ _ e] at hφ
      refine ⟨i, ?_, hφ⟩
      rcases hm with ⟨bl, h, hw⟩ | ⟨es, h⟩
      · exact .inl ⟨bl, (sub i bl h e).1, hw⟩
      · exact .inr ⟨es, h⟩
end
end Go.Proofs.Hx
