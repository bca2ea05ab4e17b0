import Derived.Test.YtcdibfkebojefaaAm5
set_option linter.unusedVariables false
set_option linter.unusedSimpArgs false
namespace Go.Proofs.Hx

def upd {ι α : Type} [DecidableEq ι] (f : ι → α) (i : ι) (v : α) : ι → α := fun j => if j = i then v else f j
@[simp] theorem upd_same {ι α : Type} [DecidableEq ι] (f : ι → α) (i : ι) (v : α) : upd f i v i = v := by simp [upd]
theorem upd_ne {ι α : Type} [DecidableEq ι] (f : ι → α) {i j : ι} (v : α) (h : j ≠ i) : upd f i v j = f j := by simp [upd, h]
theorem upd_comm {ι α : Type} [DecidableEq ι] (f : ι → α) {i j : ι} (u v : α) (h : i ≠ j) : upd (upd f i u) j v = upd (upd f j v) i u := by
  funext k
  simp only [upd]
  by_cases e1 : k = i <;> by_cases e2 : k = j <;> simp [e1, e2]
  · exact absurd (e1.symm.trans e2) h
  · intro e; exact absurd e.symm (fun e => h e.symm)
  · intro e; exact absurd e.symm (fun e => h e)

def Hp.push (h : Hp) (id : Id) (cells : List AV) : Hp := { h with hp := upd h.hp id (some ⟨true, cells⟩) }
def Hp.kill (h : Hp) (id : Id) : Hp := { h with hp := upd h.hp id none }
def Hp.put (h : Hp) (id : Id) (cells : List AV) : Hp := { h with hp := upd h.hp id (some ⟨true, cells⟩) }
def Hp.tick (h : Hp) : Hp := { h with ep := h.ep + 1 }

theorem splice_get {α : Type} (z : List α) (k : Nat) (us : List α) (h : k + us.length ≤ z.length) (j : Nat) :
    (splice z k us)[j]? = if j < k then z[j]? else if j < k + us.length then us[j - k]? else z[j]? := by
  unfold splice
  have hk : (z.take k).length = k := by simp; omega
  rw [List.append_assoc]
  by_cases h1 : j < k
  · rw [if_pos h1, List.getElem?_append_left (by omega), List.getElem?_take, if_pos h1]
  · rw [if_neg h1, List.getElem?_append_right (by omega), hk]
    by_cases h2 : j < k + us.length
    · rw [if_pos h2, List.getElem?_append_left (by omega)]
    · rw [if_neg h2, List.getElem?_append_right (by omega), List.getElem?_drop]
      congr 1
      omega

section
variable {P : Program} {c : Cx}

/-! ### Reading -/
theorem cell_at (b off : Nat) : (⟨b, off, none⟩ : Addr).add 0 = ⟨b, off, none⟩ := by simp [add_addr]

theorem load_sound {t : TypeId} {g : Bool} {i : TypeInfo} {b off : Nat} {cs : List AV} {r : AV} (hg : isAggT P t = some g) (hi : P.info? t = some i) (hr : CRep c b off cs) (h : partV g 0 i.size cs = some r) :
    Gives P c (loadVar t ⟨b, off, none⟩) r := by
  simp only [isAggT, Option.map_eq_some_iff] at hg
  obtain ⟨d, hu, hd⟩ := hg
  have hag : (isAgg t).run P c.w = .ok g c.w := by
    simp only [isAgg, Sem.run_bind, run_underlying hu, Result.andThen_ok]
    subst hd
    cases d <;> rfl
  unfold partV at h
  cases g with
  | true =>
    simp only [if_true] at h
    split at h
    · rename_i hl
      cases h
      obtain ⟨vs, h1, h2⟩ := (hr.take i.size).vals
      have hlen : vs.length = i.size := by rw [h1.length]; simp; omega
      have := run_loadCells_list (P := P) c.w ⟨b, off, none⟩ vs (fun j v hv => by rw [add_addr]; exact h2 j v hv)
      rw [hlen] at this
      refine ⟨.agg vs.toArray, ?_, ?_⟩
      · simp [loadVar, hag, run_sizeOf' hi, this]
      · simp only [VRep]
        exact ⟨_, rfl, by simpa using h1⟩
    · cases h
  | false =>
    simp only [Bool.false_eq_true, if_false] at h
    obtain ⟨v, h1, h2⟩ := hr.get h
    refine ⟨v, ?_, h2⟩
    simp [loadVar, hag, show c.w.cell? ⟨b, off, none⟩ = some v from h1]

theorem load_op {q : Bool} {t : TypeId} {x : Operand} {ao : AOp} (hc : cOp P q (.load t x) = some ao) (hH : HRep c) {ρ : Operand → Value} {ρA : AOpd → AV} (hρ : ∀ x y, cOpd x = some y → VRep c (ρ x) (ρA y)) {r : AV}
    (hp : readV ao ρA c.h = some r) : Gives P c (Instr.loadAt t (ρ x)) r := by
  simp only [cOp, Option.map_eq_some_iff, Option.bind_eq_some_iff] at hc
  obtain ⟨g, h1, i, h2, y, h3, rfl⟩ := hc
  have hx := hρ x y h3
  simp only [readV] at hp
  split at hp
  · rename_i id off e
    rw [e] at hx
    simp only [VRep] at hx
    split at hp
    · rename_i blk hb
      obtain ⟨_, _, h6, _, _⟩ := hH.blk id blk hb
      rw [hx.2]
      simp only [Gives, Instr.loadAt, Instr.sureAddr, Sem.run_bind, Sem.run_pure, Result.andThen_ok]
      have h7 : CRep c (c.φ id).1 ((c.φ id).2 + off) (blk.cells.drop off) := h6.drop off
      have h8 : partV g 0 i.size (blk.cells.drop off) = some r := by
        unfold partV at hp ⊢
        split at hp
        · rename_i hg
          rw [if_pos hg]
          split at hp
          · rename_i hl
            rw [if_pos (by simp; omega)]
            simpa using hp
          · cases hp
        · rename_i hg
          rw [if_neg hg]
          simpa using hp
      exact load_sound h1 h2 h7 h8
    · cases hp
  · rename_i cs e
    rw [e] at hx
    simp only [VRep] at hx
    obtain ⟨b, off, e1, _, h6⟩ := hx
    rw [e1]
    simp only [Gives, Instr.loadAt, Instr.sureAddr, Sem.run_bind, Sem.run_pure, Result.andThen_ok]
    exact load_sound h1 h2 h6 hp
  · cases hp

theorem sliceArr_op {q : Bool} {t : TypeId} {x : Operand} {lo hi' mx : Option Operand} {ao : AOp} (hc : cOp P q (.slice t x lo hi' mx) = some ao) (hH : HRep c) {ρ : Operand → Value} {ρA : AOpd → AV} (hρ : ∀ x y, cOpd x = some y → VRep c (ρ x) (ρA y)) {r : AV}
    (hp : readV ao ρA c.h = some r) : Gives P c (Instr.sliceAt t (ρ x) (lo.map ρ) (hi'.map ρ) (mx.map ρ)) r := by
  simp only [cOp, Option.bind_eq_some_iff] at hc
  obtain ⟨xA, h1, loA, h2, hiA, h3, mxA, h4, hc⟩ := hc
  split at hc
  · rename_i n e hu
    simp only [Option.map_eq_some_iff] at hc
    obtain ⟨i, h5, rfl⟩ := hc
    have hx := hρ x xA h1
    simp only [readV] at hp
    split at hp
    · rename_i id off e
      rw [e] at hx
      split at hp
      · rename_i blk hb
        split at hp
        · rename_i hl
          exact slice_arr hu h5 hx (cOpt_rep hρ h2) (cOpt_rep hρ h3) (cOpt_rep hρ h4) hH (fun id' off' he blk' hb' => by cases he; rw [hb] at hb'; cases hb'; exact hl) hp
        · cases hp
      · cases hp
    · cases hp
  · simp only [Option.map_eq_some_iff] at hc
    obtain ⟨i, h5, rfl⟩ := hc
    simp [readV] at hp
  · cases hc

/-! ### What the heap's operations do to what it stands for -/
/-- A new block. -/
theorem push_step (hH : HRep c) {nid : Id} (hn : ¬ c.al nid) {w' : World} {arr : Array Value} {el : TypeId} {cells : List AV} (hw : w'.heap = c.w.heap.push (.cells arr el (0, 0))) (ho : w'.os = c.w.os) (ht : w'.tape = c.w.tape) (hout : w'.output = c.w.output)
    (hlen : cells.length ≤ arr.size) (hcells : ∀ (i : Nat) x, cells[i]? = some x → ∃ v, arr[i]? = some v ∧ VRep c v x) :
    ∃ c' : Cx, c'.w = w' ∧ c'.h = c.h.push nid cells ∧ c'.φ nid = (c.w.heap.size, 0) ∧ Le c c' ∧ HRep c' ∧ Fr c c' ∧ c'.al = fun i => c.al i ∨ i = nid := by
  have hold : ∀ b, b < c.w.heap.size → w'.heap[b]? = c.w.heap[b]? := fun b hb => by rw [hw, Array.getElem?_push, if_neg (by omega)]
  have hnew : w'.heap[c.w.heap.size]? = some (.cells arr el (0, 0)) := by rw [hw]; simp
  have hfresh : ∀ id, c.al id → id ≠ nid := fun id hb e => hn (e ▸ hb)
  have hfreshm : ∀ id es, c.h.mp id = some es → id ≠ nid := fun id es hb => hfresh id (hH.mp id es hb).1
  have hblt : ∀ id blk, c.h.hp id = some blk → (c.φ id).1 < c.w.heap.size := fun id blk hb => by
    obtain ⟨_, ⟨arr, el, h1, _⟩, _⟩ := hH.blk id blk hb
    exact (Array.getElem?_eq_some_iff.1 h1).1
  have hmlt : ∀ id es, c.h.mp id = some es → (c.φ id).1 < c.w.heap.size := fun id es hb => by
    obtain ⟨_, _, _, ents, cl, h1, _⟩ := hH.mp id es hb
    exact (Array.getElem?_eq_some_iff.1 h1).1
  refine ⟨⟨w', c.S, c.h.push nid cells, upd c.φ nid (c.w.heap.size, 0), fun i => c.al i ∨ i = nid⟩, rfl, rfl, by simp, ?_, ?_, ?_, rfl⟩
  · -- Le
    refine ⟨fun b hb => ⟨hb, hold b (hH.slt b hb)⟩, fun id h => .inl h, fun id hid => upd_ne _ _ (hfresh id hid), fun id hid blk' hb => ?_⟩
    simp only [Hp.push] at hb
    rw [upd_ne _ _ (hfresh id hid)] at hb
    exact ⟨blk', hb, rfl, fun arr0 el0 fr0 h0 => ⟨arr0, by rw [hold _ (hblt id blk' hb)]; exact h0, rfl⟩⟩
  all_goals
    have hle : Le c ⟨w', c.S, c.h.push nid cells, upd c.φ nid (c.w.heap.size, 0), fun i => c.al i ∨ i = nid⟩ := by
      refine ⟨fun b hb => ⟨hb, hold b (hH.slt b hb)⟩, fun id h => .inl h, fun id hid => upd_ne _ _ (hfresh id hid), fun id hid blk' hb => ?_⟩
      simp only [Hp.push] at hb
      rw [upd_ne _ _ (hfresh id hid)] at hb
      exact ⟨blk', hb, rfl, fun arr0 el0 fr0 h0 => ⟨arr0, by rw [hold _ (hblt id blk' hb)]; exact h0, rfl⟩⟩
  · -- HRep
    have hsz : w'.heap.size = c.w.heap.size + 1 := by rw [hw]; simp
    refine ⟨fun b hb => by have := hH.slt b hb; simp only at *; omega, fun id blk hb => ?_, fun id es hb => ?_, fun id id' h1 h2 hne => ?_⟩
    · simp only [Hp.push] at hb ⊢
      by_cases e : id = nid
      · subst e
        simp only [upd_same, Option.some.injEq] at hb ⊢
        subst hb
        refine ⟨by simp, ⟨arr, el, hnew, by simpa using hlen⟩, CRep.of_get fun i x hx => ?_, fun _ hs => ?_, fun h => by cases h⟩
        · obtain ⟨v, h1, h2⟩ := hcells i x hx
          have h1' := h1
          refine ⟨v, by simp [World.cell?, hnew, h1'], VRep.mono hle v x h2⟩
        · have := hH.slt _ hs; omega
      · rw [upd_ne _ _ e] at hb
        simp only [upd_ne _ _ e]
        obtain ⟨h1, ⟨arr0, el0, h2, h3⟩, h4, h5, h6⟩ := hH.blk id blk hb
        refine ⟨.inl h1, ⟨arr0, el0, by rw [hold _ (hblt id blk hb)]; exact h2, h3⟩, CRep.mono hle _ (hold _ (hblt id blk hb)) _ _ h4, h5, h6⟩
    · simp only [Hp.push] at hb ⊢
      have e := hfreshm id es hb
      obtain ⟨h1, h2, h3, ents, cl, h4, h5⟩ := hH.mp id es hb
      simp only [upd_ne _ _ e]
      exact ⟨.inl h1, h2, h3, ents, cl, by rw [hold _ (hmlt id es hb)]; exact h4, ERep.mono hle _ _ h5⟩
    · have lv : ∀ i, (c.h.push nid cells).live i → i ≠ nid → c.h.live i := fun i h e => by
        rcases h with ⟨b, hb⟩ | ⟨es, hb⟩
        · simp only [Hp.push] at hb; rw [upd_ne _ _ e] at hb; exact .inl ⟨b, hb⟩
        · exact .inr ⟨es, hb⟩
      have lt : ∀ i, c.h.live i → (c.φ i).1 < c.w.heap.size := fun i h => by
        rcases h with ⟨b, hb⟩ | ⟨es, hb⟩
        · exact hblt i b hb
        · exact hmlt i es hb
      by_cases e : id = nid
      · have e' : id' ≠ nid := fun h => hne (e.trans h.symm)
        simp only [e, upd_same, upd_ne _ _ e']
        have := lt id' (lv id' h2 e')
        omega
      · by_cases e' : id' = nid
        · simp only [e', upd_same, upd_ne _ _ e]
          have := lt id (lv id h1 e)
          omega
        · simp only [upd_ne _ _ e, upd_ne _ _ e']
          exact hH.inj id id' (lv id h1 e) (lv id' h2 e') hne
  · -- Fr
    refine ⟨ho, ht, hout, by simp [hw], fun b hb _ => hold b hb, fun b hb => ?_, fun b hb => .inl hb⟩
    obtain ⟨id, hm, hφ⟩ := hb
    by_cases e : id = nid
    · subst e; simp at hφ; exact .inr (by omega)
    · simp only [upd_ne _ _ e] at hφ
      refine .inl ⟨id, ?_, hφ⟩
      rcases hm with ⟨blk, hb, hw⟩ | ⟨es, hb⟩
      · simp only [Hp.push] at hb; rw [upd_ne _ _ e] at hb; exact .inl ⟨blk, hb, hw⟩
      · exact .inr ⟨es, hb⟩
end
end Go.Proofs.Hx
