import Derived.Test.YtcdibfkebojefaaAm8
set_option linter.unusedVariables false
set_option linter.unusedSimpArgs false
namespace Go.Proofs.Hx
section
variable {P : Program} {c : Cx}

theorem flatten_replicate_length {α : Type} (n : Nat) (z : List α) : (List.replicate n z).flatten.length = n * z.length := by
  simp

theorem flatten_replicate_get {α : Type} : ∀ (n : Nat) (z : List α) (j : Nat), j < n * z.length → (List.replicate n z).flatten[j]? = z[j % z.length]?
  | 0, z, j, h => by simp at h
  | n + 1, z, j, h => by
    rw [List.replicate_succ, List.flatten_cons]
    rcases Nat.lt_or_ge j z.length with g | g
    · rw [List.getElem?_append_left g, Nat.mod_eq_of_lt g]
    · rw [List.getElem?_append_right g, flatten_replicate_get n z _ (by rw [Nat.add_mul] at h; omega)]
      congr 1
      rw [Nat.mod_eq_sub_mod g]

theorem wrap_i64 (n : Int) (h0 : 0 ≤ n) (h1 : n ≤ 281474976710656) : IntKind.i64.wrap n = n := by
  have e : n % (2 : Int) ^ 64 = n := by omega
  simp only [IntKind.wrap, IntKind.bits, IntKind.signed, e]
  simp
  omega

theorem mksl_op {q : Bool} {t : TypeId} {l cp : Operand} {ao : AOp} (hc : cOp P q (.makeSlice t l cp) = some ao) (hH : HRep c) {id : Id} (hn : ¬ c.al id) {ρ : Operand → Value} {ρA : AOpd → AV} (hρ : ∀ x y, cOpd x = some y → VRep c (ρ x) (ρA y)) {r : AV} {h' : Hp}
    (hp : heapV ao ρA c.h id = some (r, h')) : Makes P c id (Instr.makeSlice t (ρ l) (ρ cp)) r h' := by
  simp only [cOp] at hc
  split at hc
  · rename_i e hu
    simp only [Option.bind_eq_some_iff] at hc
    obtain ⟨i, h1, z, h2, lA, h3, cA, h4, hc⟩ := hc
    split at hc
    · rename_i hzl
      obtain ⟨hzl, hsz0⟩ := hzl
      simp only [Option.some.injEq] at hc
      subst hc
      have hl := hρ l lA h3
      have hcv := hρ cp cA h4
      simp only [heapV] at hp
      split at hp
      · rename_i k1 ln k2 cn el ec
        rw [el] at hl
        rw [ec] at hcv
        have el := hl.lit
        have ec := hcv.lit
        split at hp
        · rename_i hb
          obtain ⟨_, b1, b2, b3, b4⟩ := hb
          simp only [Option.some.injEq, Prod.mk.injEq] at hp
          obtain ⟨rfl, rfl⟩ := hp
          obtain ⟨i', v, g1, g2, g3⟩ := zeroOf_inv h2
          rw [h1] at g1
          cases g1
          have hz := toAVs_sound (c := c) g3
          have hvs : v.cells.size = i.size := by have := hz.length; simp at this; omega
          let arr : Array Value := (Array.range (cn.toNat * i.size)).map fun k => v.cells[k % v.cells.size]!
          have harr : arr.size = cn.toNat * i.size := by simp [arr]
          have hle2 : ln.toNat * i.size ≤ cn.toNat * i.size := mul_le_of (by omega)
          obtain ⟨c', f1, f2, f3, hle, hH', hfr, f4⟩ := push_step hH hn (w' := { c.w with heap := c.w.heap.push (.cells arr e) }) (arr := arr) (el := e) (cells := (List.replicate ln.toNat z).flatten) rfl rfl rfl rfl
            (by rw [flatten_replicate_length, harr, hzl]; exact hle2)
            (fun j x hx => by
              have hj : j < ln.toNat * z.length := by rw [← flatten_replicate_length]; exact (List.getElem?_eq_some_iff.1 hx).1
              rw [flatten_replicate_get _ _ _ hj] at hx
              obtain ⟨u, h5, h6⟩ := hz.get hx
              refine ⟨u, ?_, h6⟩
              have hlt : j < arr.size := by rw [harr]; rw [hzl] at hj; omega
              rw [Array.getElem?_eq_getElem hlt]
              simp only [arr, Array.getElem_map, Array.getElem_range]
              have h5' : v.cells[j % v.cells.size]? = some u := by rw [hvs, ← hzl]; simpa using h5
              rw [Array.getElem!_eq_getD, Array.getD_eq_getD_getElem?, h5']
              rfl)
          have hnew : c'.w.heap[c.w.heap.size]? = some (.cells arr e (0, 0)) := by rw [f1]; simp
          refine ⟨.slice (some ⟨c.w.heap.size, 0, none⟩) ln.toNat cn.toNat, c', ?_, f2, ?_, hle, hH', hfr, fun i hi => by rw [f4] at hi; exact hi⟩
          · rw [f1]
            have w1 := wrap_i64 ln b1 (by omega)
            have w2 := wrap_i64 cn (by omega) b3
            have t1 : ¬ cn < 0 := by omega
            have t2 : ¬ ((i.bytes : Int) * cn > 281474976710656) := by omega
            have t3 : ¬ ln < 0 := by omega
            have t4 : ¬ ln > cn := by omega
            have run0 : (typeInfo e).run P c.w = .ok i c.w := by simp [typeInfo, h1]
            unfold Instr.makeSlice
            simp only [el, ec, Sem.run_bind, run_underlying hu, Result.andThen_ok, asInt, asIntOf, Sem.run_pure, run0, w1, w2]
            rw [if_neg (by simp [t1, t2, t3, t4]; try omega)]
            simp only [Sem.run_bind, run_askRoom, Result.andThen_ok, run_sizeOf' h1]
            by_cases h0 : cn.toNat * i.size = 0
            · rw [if_pos h0]
              have : cn.toNat = 0 := by rcases Nat.mul_eq_zero.1 h0 with h | h <;> omega
              have e0 : ∀ f : Nat → Value, Array.map f (Array.range 0) = #[] := fun f => by simp [Array.range]
              simp [newRow, arr, h0, e0]
            · rw [if_neg h0]
              simp [run_zeroValue' h1 g2, newRow, arr]
          · refine sl_mk (cells := (List.replicate ln.toNat z).flatten) (by rw [f4]; simp) f3 (by rw [f2]; simp [Hp.push]) ?_ (by omega) hnew (by omega)
            rw [flatten_replicate_length, hzl]
            exact Nat.le_refl _
        · cases hp
      · cases hp
    · cases hc
  · cases hc

theorem store_op {q : Bool} {t : TypeId} {a x : Operand} {ao : AOp} (hc : cOp P q (.store t a x) = some ao) (hH : HRep c) {ρ : Operand → Value} {ρA : AOpd → AV} (hρ : ∀ x y, cOpd x = some y → VRep c (ρ x) (ρA y)) {r : AV} {h' : Hp}
    {id0 : Id} (hp : heapV ao ρA c.h id0 = some (r, h')) : r = .undef ∧ ∃ c' : Cx, (Instr.storeAt t (ρ a) (ρ x)).run P c.w = .ok () c'.w ∧ c'.h = h' ∧ Le c c' ∧ HRep c' ∧ Fr c c' ∧ c'.al = c.al := by
  simp only [cOp, Option.map_eq_some_iff, Option.bind_eq_some_iff] at hc
  obtain ⟨i, h1, aA, h2, xA, h3, rfl⟩ := hc
  have ha := hρ a aA h2
  have hx := hρ x xA h3
  simp only [heapV] at hp
  split at hp
  · rename_i id off ea
    rw [ea] at ha
    split at hp
    · rename_i blk hb
      split at hp
      · rename_i cs hcs
        split at hp
        · rename_i hcond
          obtain ⟨hwr, hn, hone, hl⟩ := hcond
          simp only [Option.some.injEq, Prod.mk.injEq] at hp
          obtain ⟨rfl, rfl⟩ := hp
          refine ⟨rfl, ?_⟩
          have hr := cellsA_sound hx hcs
          simp only [VRep] at ha
          obtain ⟨hid, ha⟩ := ha
          obtain ⟨_, ⟨arr, el, harr, hal⟩, hcr, hns, _⟩ := hH.blk id blk hb
          have hvl : (ρ x).cells.toList.length = cs.length := hr.length
          have hvl2 : (ρ x).cells.size = cs.length := by simpa using hvl
          have hall : ∀ v ∈ (ρ x).cells.toList, v.oneCell' = true := by
            intro v hv
            obtain ⟨j, hj⟩ := List.getElem?_of_mem hv
            have hjl : j < cs.length := by rw [← hvl]; exact (List.getElem?_eq_some_iff.1 hj).1
            obtain ⟨u, h5, h6⟩ := hr.get (List.getElem?_eq_getElem hjl)
            rw [hj] at h5
            cases h5
            exact (one_cell h6 (List.all_eq_true.1 hone _ (List.getElem_mem hjl))).1
          have hst := run_storeCells_at (P := P) (c.φ id).1 ((c.φ id).2 + off) el (ρ x).cells.toList 0 arr c.w harr (by omega) hall
          simp only [Nat.add_zero] at hst
          have harr' : (arr.toList.take ((c.φ id).2 + off) ++ (ρ x).cells.toList ++ arr.toList.drop ((c.φ id).2 + off + (ρ x).cells.toList.length)).toArray = (splice arr.toList ((c.φ id).2 + off) (ρ x).cells.toList).toArray := rfl
          rw [harr'] at hst
          obtain ⟨c', f1, f2, hle, hH', hfr, f4⟩ := write_step hH hb hwr (w' := c.w.setRow (c.φ id).1 (splice arr.toList ((c.φ id).2 + off) (ρ x).cells.toList).toArray) (arr' := (splice arr.toList ((c.φ id).2 + off) (ρ x).cells.toList).toArray) (cells := splice blk.cells off cs)
            harr rfl (by simp; rw [splice_length (by simp; omega)]; simp) (splice_length (by omega)) (fun j y hy => by
              rw [splice_get _ _ _ (by omega)] at hy
              simp only [List.getElem?_toArray]
              rw [splice_get _ _ _ (by simp; omega)]
              have old : j < blk.cells.length → blk.cells[j]? = some y → ∃ v, arr.toList[(c.φ id).2 + j]? = some v ∧ VRep c v y := fun _ hy => by
                obtain ⟨v, g1, g2⟩ := hcr.get hy
                exact ⟨v, by simpa [World.cell?, harr] using g1, g2⟩
              split at hy
              · rw [if_pos (by omega)]
                exact old (List.getElem?_eq_some_iff.1 hy).1 hy
              · rw [if_neg (by omega)]
                split at hy
                · rw [if_pos (by omega), show (c.φ id).2 + j - ((c.φ id).2 + off) = j - off by omega]
                  exact hr.get hy
                · rw [if_neg (by omega)]
                  exact old (List.getElem?_eq_some_iff.1 hy).1 hy)
          refine ⟨c', ?_, f2, hle, hH', hfr, f4⟩
          rw [f1, ha]
          have hsz : (ρ x).cells.size = i.size := by simp at hvl; omega
          simp only [Instr.storeAt, Instr.sureAddr, Sem.run_bind, Sem.run_pure, Result.andThen_ok, storeVar, run_sizeOf' h1]
          rw [if_neg (by simp [hsz])]
          exact hst
        · cases hp
      · cases hp
    · cases hp
  · cases hp

end
end Go.Proofs.Hx
