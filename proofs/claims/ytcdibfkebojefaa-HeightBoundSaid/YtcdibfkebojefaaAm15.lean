import Derived.Test.YtcdibfkebojefaaAm14
set_option linter.unusedVariables false
set_option linter.unusedSimpArgs false
namespace Go.Proofs.Hx
section
variable {P : Program}

theorem put_reads {o : AOper} {env : Nat → AV} {d : Option Nat} {v : AV} (h : ∀ k, d = some k → k ∉ readsOf o) : ∀ s ∈ readsOf o, putA env d v s = env s := by
  intro s hs
  cases d with
  | none => rfl
  | some k =>
    have : s ≠ k := fun e => h k rfl (e ▸ hs)
    simp [putA, upd, this]

theorem apart_spec {x y : AOper} (h : apartT x y = true) : (∀ d, x.dst = some d → d ∉ readsOf y) ∧ (∀ d, x.dst = some d → y.dst ≠ some d) ∧ (∀ d, y.dst = some d → d ∉ readsOf x) := by
  simp only [apartT, Bool.and_eq_true] at h
  obtain ⟨h1, h2⟩ := h
  refine ⟨fun d hd => ?_, fun d hd => ?_, fun d hd => ?_⟩
  · rw [hd] at h1; simp at h1; exact h1.1
  · rw [hd] at h1; simp at h1; exact h1.2
  · rw [hd] at h2; simpa using h2

theorem slot_reads {o : AOper} {s : Nat} (h : s ∈ ptrSlot o.op ∨ s ∈ tgtSlot o.op) : s ∈ readsOf o := by
  have sl : ∀ (x : AOpd) (s : Nat), s ∈ slotOf x → x = .t s := fun x s h => by cases x <;> simp [slotOf] at h; rw [h]
  unfold readsOf
  refine List.mem_append.2 (.inr ?_)
  rcases h with h | h
  · obtain ⟨dst, op, g⟩ := o
    cases op <;> simp only [ptrSlot, List.not_mem_nil] at h
    case load => exact mem_slots (by rw [sl _ _ h]; simp [aopds])
    case slice arr sz x lo hi' mx =>
      cases arr <;> simp only [List.not_mem_nil] at h
      exact mem_slots (by rw [sl _ _ h]; simp [aopds])
  · obtain ⟨dst, op, g⟩ := o
    cases op <;> simp only [tgtSlot, List.not_mem_nil] at h
    case store => exact mem_slots (by rw [sl _ _ h]; simp [aopds])
    case append => exact mem_slots (by rw [sl _ _ h]; simp [aopds])

theorem sepV_ne {x y : AV} {i : Id} (h : sepV x y) (hx : idOf x = some i) : idOf y ≠ some i := by
  intro hy
  simp only [sepV, hx, hy] at h
  exact h rfl

/-- Two operations change places: 'env2': where both have been done. -/
theorem comm {x y : AOper} (ha : apartT x y = true) {l : List (Nat × Nat)} (hs : sepsOf x y = some l) {env : Nat → AV} {h h1 h2 : Hp} {r1 r2 : AV} (e1 : Ef P x env h r1 h1) (e2 : Ef P y (putA env x.dst r1) h1 r2 h2)
    (hsep : ∀ p ∈ l, sepV (putA (putA env x.dst r1) y.dst r2 p.1) (putA (putA env x.dst r1) y.dst r2 p.2)) :
    ∃ hm, Ef P y env h r2 hm ∧ Ef P x (putA env y.dst r2) hm r1 h2 ∧ putA (putA env x.dst r1) y.dst r2 = putA (putA env y.dst r2) x.dst r1 := by
  obtain ⟨p1, p2, p3⟩ := apart_spec ha
  have e2' : Ef P y env h1 r2 h2 := Ef.congr (put_reads p1) e2
  have fin : ∀ {hm : Hp}, Ef P y env h r2 hm → Ef P x env hm r1 h2 → ∃ hm, Ef P y env h r2 hm ∧ Ef P x (putA env y.dst r2) hm r1 h2 ∧ putA (putA env x.dst r1) y.dst r2 = putA (putA env y.dst r2) x.dst r1 := fun {hm} a1 a2 =>
    ⟨hm, a1, Ef.congr (fun s hs => (put_reads p3 s hs).symm) a2, putA_comm p2⟩
  -- slots of operands hold at the end what they held
  have hx2 : ∀ s, s ∈ readsOf x → x.dst ≠ some s → putA (putA env x.dst r1) y.dst r2 s = env s := fun s hs hd => by
    have n2 : ∀ d, y.dst = some d → s ≠ d := fun d hd' e => p3 d hd' (e ▸ hs)
    have n1 : ∀ d, x.dst = some d → s ≠ d := fun d hd' e => hd (by rw [hd', e])
    cases hxd : x.dst with
    | none => cases hyd : y.dst with
      | none => rfl
      | some d => simp only [putA]; exact upd_ne _ _ (n2 d hyd)
    | some d => cases hyd : y.dst with
      | none => simp only [putA]; exact upd_ne _ _ (n1 d hxd)
      | some d' => simp only [putA]; rw [upd_ne _ _ (n2 d' hyd)]; exact upd_ne _ _ (n1 d hxd)
  have hy2 : ∀ s, s ∈ readsOf y → y.dst ≠ some s → putA (putA env x.dst r1) y.dst r2 s = env s := fun s hs hd => by
    have n1 : ∀ d, x.dst = some d → s ≠ d := fun d hd' e => p1 d hd' (e ▸ hs)
    have n2 : ∀ d, y.dst = some d → s ≠ d := fun d hd' e => hd (by rw [hd', e])
    cases hxd : x.dst with
    | none => cases hyd : y.dst with
      | none => rfl
      | some d => simp only [putA]; exact upd_ne _ _ (n2 d hyd)
    | some d => cases hyd : y.dst with
      | none => simp only [putA]; exact upd_ne _ _ (n1 d hxd)
      | some d' => simp only [putA]; rw [upd_ne _ _ (n2 d' hyd)]; exact upd_ne _ _ (n1 d hxd)
  have rx : ∀ d, x.dst = some d → putA (putA env x.dst r1) y.dst r2 d = r1 := fun d hd => by
    have n : ∀ d', y.dst = some d' → d ≠ d' := fun d' hd' e => p2 d hd (by rw [hd', e])
    cases hyd : y.dst with
    | none => rw [hd]; simp [putA]
    | some d' => rw [hd]; simp only [putA]; rw [upd_ne _ _ (n d' hyd)]; simp
  have ry : ∀ d, y.dst = some d → putA (putA env x.dst r1) y.dst r2 d = r2 := fun d hd => by rw [hd]; simp [putA]
  unfold sepsOf at hs
  simp only at hs
  split at hs
  · cases hs
  rename_i hno
  simp only [Bool.or_eq_true, beq_iff_eq, Bool.not_eq_true', not_or] at hno
  obtain ⟨⟨⟨hx4, hy4⟩, hsx⟩, hsy⟩ := hno
  have self : ∀ (o : AOper), ¬ selfOk o = false → (∀ s ∈ ptrSlot o.op ++ tgtSlot o.op, o.dst ≠ some s) ∧ (makes o.op = true → o.dst.isSome = true) ∧ refOk o.op = true := fun o ho => by
    have ho : selfOk o = true := by cases h : selfOk o <;> simp_all
    simp only [selfOk, Bool.and_eq_true] at ho
    obtain ⟨⟨h1, h2⟩, h3⟩ := ho
    refine ⟨fun s hs hd => ?_, fun hm => by rw [hm] at h2; simpa using h2, h3⟩
    rw [hd] at h1
    simp at h1
    simp at hs
    rcases hs with hs | hs
    · exact h1.1 hs
    · exact h1.2 hs
  obtain ⟨sx1, sx2, sx3⟩ := self x hsx
  obtain ⟨sy1, sy2, sy3⟩ := self y hsy
  -- a result that no slot takes is no reference
  have nores : ∀ (o : AOper) (env : Nat → AV) (h h' : Hp) (r : AV), cls o.op = 2 ∨ cls o.op = 3 → (makes o.op = true → o.dst.isSome = true) → Ef P o env h r h' → o.dst = none → idOf r = none := fun o env h h' r hc hm he hd => by
    obtain ⟨dst, op, g⟩ := o
    simp only at hc hm hd
    subst hd
    cases op
    case store n a x =>
      unfold Ef at he
      split at he
      · exact he.elim
      · rw [he.1]; rfl
      · simp only [stepV, pureV, readV, heapV] at he
        split at he
        · split at he
          · split at he
            · split at he
              · cases he; rfl
              · cases he
            · cases he
          · cases he
        · cases he
    case slice arr _ _ _ _ _ => cases arr <;> simp [cls] at hc
    case call q _ _ => cases q <;> simp [cls] at hc
    all_goals first
      | (exfalso; rcases hc with hc | hc <;> (simp only [cls] at hc; cases hc); done)
      | (simp [makes] at hm; done)
  split at hs
  · rename_i h0
    simp only [Bool.or_eq_true, beq_iff_eq] at h0
    rcases h0 with h0 | h0
    · obtain ⟨rfl, hall⟩ := Ef.cls0 h0 e1
      exact fin e2' (hall h2)
    · obtain ⟨rfl, hall⟩ := Ef.cls0 h0 e2'
      exact fin (hall h) e1
  · split at hs
    · rename_i h0
      simp only [Bool.and_eq_true, Bool.or_eq_true, beq_iff_eq] at h0
      have hx : h1 = h := by
        rcases h0.1 with h0 | h0
        · exact (Ef.cls1 h0 sx3 e1).1
        · exact (Ef.cls5 h0 e1).1
      have hy : h2 = h1 := by
        rcases h0.2 with h0 | h0
        · exact (Ef.cls1 h0 sy3 e2').1
        · exact (Ef.cls5 h0 e2').1
      subst hx hy
      exact fin e2' e1
    · rename_i n0 n1
      simp only [Bool.or_eq_true, beq_iff_eq, not_or] at n0
      have range : ∀ (o : AOp), cls o ≠ 4 → cls o ≠ 0 → cls o = 1 ∨ cls o = 2 ∨ cls o = 3 ∨ cls o = 5 := fun o h4 h0 => by
        cases o
        case slice arr _ _ _ _ _ => cases arr <;> simp [cls] at h0 ⊢
        case call q _ _ => cases q <;> simp [cls] at h4 ⊢
        all_goals first
          | (exact absurd rfl h0)
          | (simp [cls]; done)
      have c1 := range x.op hx4 n0.1
      have c2 := range y.op hy4 n0.2
      split at hs
      · -- x reads, y makes or writes
        rename_i h0
        simp only [beq_iff_eq] at h0
        simp only [Option.some.injEq] at hs
        subst hs
        obtain ⟨rfl, hall⟩ := Ef.cls1 h0 sx3 e1
        have hy : cls y.op = 2 ∨ cls y.op = 3 := by
          simp only [h0] at n1
          rcases c2 with c | c | c | c
          · simp [c] at n1
          · exact .inl c
          · exact .inr c
          · simp [c] at n1
        refine fin e2' (hall h2 fun s hs id hid => ?_)
        have ha1 := hx2 s (slot_reads (.inl hs)) (sx1 s (by simp [hs]))
        refine Ef.other hy sy3 e2' ?_ fun t ht => ?_
        · cases hyd : y.dst with
          | none => rw [nores y _ _ _ _ hy sy2 e2' hyd]; simp
          | some d =>
            have := hsep (s, d) (by simp only [pairsWith, List.mem_flatMap, List.mem_map]; exact ⟨s, hs, d, by simp [hyd], rfl⟩)
            simp only at this
            rw [ha1, ry d hyd] at this
            exact sepV_ne this hid
        · have := hsep (s, t) (by simp only [pairsWith, List.mem_flatMap, List.mem_map]; exact ⟨s, hs, t, by simp [ht], rfl⟩)
          simp only at this
          rw [ha1, hy2 t (slot_reads (.inr ht)) (sy1 t (by simp [ht]))] at this
          exact sepV_ne this hid
      · split at hs
        · -- y reads, x makes or writes
          rename_i hx1 h0
          simp only [beq_iff_eq] at h0 hx1
          simp only [Option.some.injEq] at hs
          subst hs
          obtain ⟨rfl, hall⟩ := Ef.cls1 h0 sy3 e2'
          have hx : cls x.op = 2 ∨ cls x.op = 3 := by
            simp only [h0] at n1
            rcases c1 with c | c | c | c
            · exact absurd c hx1
            · exact .inl c
            · exact .inr c
            · simp [c] at n1
          refine fin (hall h fun s hs id hid => ?_) e1
          have ha1 := hy2 s (slot_reads (.inl hs)) (sy1 s (by simp [hs]))
          refine (Ef.other hx sx3 e1 ?_ fun t ht => ?_).symm
          · cases hxd : x.dst with
            | none => rw [nores x _ _ _ _ hx sx2 e1 hxd]; simp
            | some d =>
              have := hsep (s, d) (by simp only [pairsWith, List.mem_flatMap, List.mem_map]; exact ⟨s, hs, d, by simp [hxd], rfl⟩)
              simp only at this
              rw [ha1, rx d hxd] at this
              exact sepV_ne this hid
          · have := hsep (s, t) (by simp only [pairsWith, List.mem_flatMap, List.mem_map]; exact ⟨s, hs, t, by simp [ht], rfl⟩)
            simp only at this
            rw [ha1, hx2 t (slot_reads (.inr ht)) (sx1 t (by simp [ht]))] at this
            exact sepV_ne this hid
        · split at hs
          · -- a call on values, then memory is made
            rename_i h0
            simp only [Bool.and_eq_true, beq_iff_eq] at h0
            obtain ⟨rfl, hall⟩ := Ef.cls5 h0.1 e1
            rcases Ef.cls2 h0.2 e2' with ⟨rfl, _⟩ | ⟨hn, _, cells, rfl, _⟩
            · exact fin e2' e1
            · refine fin e2' (hall _ fun id blk hb => ?_)
              simp only [Hp.push]
              rw [upd_ne _ _ fun e => by rw [← e, hb] at hn; simp at hn]
              exact hb
          · split at hs
            · -- two that make memory
              rename_i h0
              simp only [Bool.and_eq_true, beq_iff_eq] at h0
              split at hs
              · rename_i hd
                simp only [Bool.and_eq_true, Option.isSome_iff_exists] at hd
                obtain ⟨⟨dx, hdx⟩, ⟨dy, hdy⟩⟩ := hd
                have hne : dx ≠ dy := fun e => p2 dx hdx (by rw [hdy, e])
                have hidn : (h.ep, x.dst.getD 0) ≠ (h.ep, y.dst.getD 0) := by rw [hdx, hdy]; simp [hne]
                have hep1 : h1.ep = h.ep := by rcases Ef.cls2 h0.1 e1 with ⟨rfl, _⟩ | ⟨_, _, _, rfl, _⟩ <;> rfl
                rcases Ef.cls2 h0.1 e1 with ⟨rfl, hall1⟩ | ⟨hn1, _, cells1, rfl, hall1⟩
                · rcases Ef.cls2 h0.2 e2' with ⟨rfl, _⟩ | ⟨hn2, _, cells2, rfl, _⟩
                  · exact fin e2' e1
                  · refine fin e2' (hall1 _ rfl ?_)
                    simp only [Hp.push]
                    rw [upd_ne _ _ hidn]
                    cases hq : (h1.hp (h1.ep, x.dst.getD 0)).isNone
                    · exact .inr rfl
                    · exact .inl rfl
                · have ho : (h.push (h.ep, x.dst.getD 0) cells1).hp (h.ep, y.dst.getD 0) = h.hp (h.ep, y.dst.getD 0) := by simp only [Hp.push]; exact upd_ne _ _ (Ne.symm hidn)
                  have hep2 : (h.push (h.ep, x.dst.getD 0) cells1).ep = h.ep := rfl
                  rcases Ef.cls2 h0.2 e2' with ⟨rfl, hall2⟩ | ⟨hn2, _, cells2, rfl, hall2⟩
                  · rw [hep2, ho] at hall2
                    refine fin (hall2 h rfl ?_) e1
                    cases hq : (h.hp (h.ep, y.dst.getD 0)).isNone
                    · exact .inr rfl
                    · exact .inl rfl
                  · rw [hep2, ho] at hn2
                    rw [hep2] at hall2
                    have a1 := hall2 h rfl hn2
                    have a2 := hall1 (h.push (h.ep, y.dst.getD 0) cells2) rfl (by simp only [Hp.push]; rw [upd_ne _ _ hidn]; exact hn1)
                    have e : (h.push (h.ep, y.dst.getD 0) cells2).push (h.ep, x.dst.getD 0) cells1 = (h.push (h.ep, x.dst.getD 0) cells1).push ((h.push (h.ep, x.dst.getD 0) cells1).ep, y.dst.getD 0) cells2 := by
                      simp only [Hp.push]
                      rw [upd_comm _ _ _ hidn]
                    rw [e] at a2
                    exact fin a1 a2
              · cases hs
            · split at hs
              · -- an append, then memory is made
                rename_i h0
                simp only [Bool.and_eq_true, Option.isSome_iff_exists] at h0
                obtain ⟨⟨happ, ⟨dx, hdx⟩⟩, hnew⟩ := h0
                simp only [Option.some.injEq] at hs
                subst hs
                obtain ⟨dy, hdy⟩ : ∃ dy, y.dst = some dy := by
                  simp only [newOk, Bool.and_eq_true, Option.isSome_iff_exists] at hnew
                  exact hnew.1.2
                obtain ⟨hn2, hid2, cells2, rfl, hall2⟩ := Ef.new hnew e2'
                have hne : dx ≠ dy := fun e => p2 dx hdx (by rw [hdy, e])
                have hx3 : cls x.op = 3 := by
                  cases hop : x.op <;> simp [hop, isApp] at happ
                  simp [cls]
                have hep : h1.ep = h.ep := Ef.ep3 happ e1
                have hidn : (h.ep, y.dst.getD 0) ≠ (h.ep, x.dst.getD 0) := by rw [hdx, hdy]; simp [Ne.symm hne]
                rw [hep] at hn2 hid2 hall2
                have hold : h.hp (h.ep, y.dst.getD 0) = none := by
                  have hk : h1.hp (h.ep, y.dst.getD 0) = h.hp (h.ep, y.dst.getD 0) := by
                    refine Ef.other (.inr hx3) sx3 e1 (Ef.app_id happ e1 hidn) fun t ht => ?_
                    have := hsep (t, dy) (by simp only [pairsWith, List.mem_flatMap, List.mem_map]; exact ⟨t, ht, dy, by simp [hdy], rfl⟩)
                    simp only at this
                    rw [hx2 t (slot_reads (.inr ht)) (sx1 t (by simp [ht])), ry dy hdy] at this
                    intro e
                    simp only [sepV, e, hid2] at this
                    exact this rfl
                  rw [hk] at hn2
                  simpa using hn2
                have a1 := hall2 h rfl (by simp [hold])
                have a2 := (Ef.app (cells := cells2) happ e1 hold hidn).1
                refine fin a1 ?_
                rw [hep]
                exact a2
              · cases hs
end
end Go.Proofs.Hx
