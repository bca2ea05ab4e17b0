import Derived.Test.YtcdibfkebojefaaAm12
set_option linter.unusedVariables false
set_option linter.unusedSimpArgs false
namespace Go.Proofs.Hx

def aTag : AOp → Nat
  | .mv _ => 0 | .pick .. => 1 | .alloc _ => 2 | .box _ => 3 | .build .. => 4 | .buildSl .. => 5 | .load .. => 6 | .store .. => 7 | .nilchk _ => 8 | .bin .. => 9 | .beq .. => 9
  | .un .. => 10 | .conv .. => 11 | .mkfn .. => 12 | .mksl .. => 13 | .slice .. => 14 | .fieldAddr .. => 15 | .field .. => 16 | .idxAddr .. => 17 | .idx .. => 18 | .ext .. => 19
  | .call .. => 20 | .len .. => 20 | .lenStr _ => 20 | .append .. => 20 | .maxs _ => 20 | .mins _ => 20
def oTag : Op → Nat
  | .move _ => 0 | .assign _ => 0 | .pick .. => 1 | .alloc _ => 2 | .box .. => 3 | .build .. => 4 | .buildSlice .. => 5 | .load .. => 6 | .store .. => 7 | .nilCheck _ => 8 | .binOp .. => 9
  | .unOp .. => 10 | .convert .. => 11 | .makeFunc .. => 12 | .makeSlice .. => 13 | .slice .. => 14 | .fieldAddr .. => 15 | .field .. => 16 | .indexAddr .. => 17 | .index .. => 18 | .extract .. => 19
  | .call _ => 20 | _ => 99

theorem tagO {α : Type} {x : Option α} {f : α → AOp} {ao : AOp} {n : Nat} (h : x.map f = some ao) (hf : ∀ a, aTag (f a) = n) : aTag ao = n := by
  cases x with
  | none => cases h
  | some a => simp at h; subst h; exact hf a
theorem tagB {α : Type} {x : Option α} {f : α → Option AOp} {ao : AOp} {n : Nat} (h : x.bind f = some ao) (hf : ∀ a, f a = some ao → aTag ao = n) : aTag ao = n := by
  cases x with
  | none => cases h
  | some a => exact hf a h

theorem cBuiltin_tag {P : Program} {b : Builtin} {as : List Operand} {tys : Array TypeId} {ao : AOp} (h : cBuiltin P b as tys = some ao) : aTag ao = 20 := by
  unfold cBuiltin at h
  split at h
  · refine tagB h fun _ h => tagB h fun _ h => ?_
    split at h <;> first | (cases h; rfl) | cases h
  · refine tagB h fun _ h => tagB h fun _ h => tagB h fun _ h => tagB h fun _ h => ?_
    split at h
    · refine tagB h fun _ h => tagB h fun _ h => ?_
      split at h <;> first | (cases h; rfl) | cases h
    · cases h
  · exact tagO h fun _ => rfl
  · exact tagO h fun _ => rfl
  · cases h

theorem cOp_tag {P : Program} {q : Bool} {op : Op} {ao : AOp} (h : cOp P q op = some ao) : aTag ao = oTag op := by
  cases op <;> simp only [cOp, reduceCtorEq] at h <;> simp only [oTag]
  case move => exact tagO h fun _ => rfl
  case assign => exact tagO h fun _ => rfl
  case pick => exact tagB h fun _ h => tagB h fun _ h => tagO h fun _ => rfl
  case alloc => exact tagO h fun _ => rfl
  case box => exact tagO h fun _ => rfl
  case build => exact tagB h fun _ h => tagB h fun _ h => tagO h fun _ => rfl
  case buildSlice =>
    split at h
    · refine tagB h fun _ h => tagB h fun _ h => ?_
      split at h
      · exact tagO h fun _ => rfl
      · cases h
    · cases h
  case load => exact tagB h fun _ h => tagB h fun _ h => tagO h fun _ => rfl
  case store => exact tagB h fun _ h => tagB h fun _ h => tagO h fun _ => rfl
  case nilCheck => exact tagO h fun _ => rfl
  case binOp =>
    refine tagB h fun _ h => tagB h fun _ h => ?_
    split at h
    · split at h <;> first | (cases h; rfl) | cases h
    · cases h; rfl
  case unOp => exact tagO h fun _ => rfl
  case convert =>
    split at h
    · exact tagO h fun _ => rfl
    · cases h
  case makeFunc fn first caps =>
    cases fn <;> simp only [cOp, reduceCtorEq] at h
    split at h
    · exact tagO h fun _ => rfl
    · cases h
  case makeSlice =>
    split at h
    · refine tagB h fun _ h => tagB h fun _ h => tagB h fun _ h => tagB h fun _ h => ?_
      split at h
      · cases h; rfl
      · cases h
    · cases h
  case slice =>
    refine tagB h fun _ h => tagB h fun _ h => tagB h fun _ h => tagB h fun _ h => ?_
    split at h
    · exact tagO h fun _ => rfl
    · exact tagO h fun _ => rfl
    · cases h
  case fieldAddr =>
    split at h
    · refine tagB h fun _ h => tagB h fun _ h => ?_
      split at h
      · cases h
      · exact tagO h fun _ => rfl
    · cases h
  case field =>
    split at h
    · exact tagB h fun _ h => tagB h fun _ h => tagB h fun _ h => tagO h fun _ => rfl
    · cases h
  case indexAddr =>
    refine tagB h fun _ h => tagB h fun _ h => ?_
    split at h
    · exact tagO h fun _ => rfl
    · exact tagO h fun _ => rfl
    · cases h
  case index =>
    refine tagB h fun _ h => tagB h fun _ h => ?_
    split at h
    · exact tagB h fun _ h => tagO h fun _ => rfl
    · cases h
  case extract => exact tagO h fun _ => rfl
  case call cl =>
    split at h
    · exact tagB h fun _ h => tagO h fun _ => rfl
    · exact cBuiltin_tag h
    · cases h

/-- It makes a block (for its slot). -/
def makes : AOp → Bool
  | .alloc _ | .box _ | .buildSl .. | .mksl .. | .append .. => true
  | _ => false

section
variable {P : Program}

/-- Another epoch: nothing else. -/
theorem tick_ctx {c : Cx} (hH : HRep c) (n : Nat) : Le c ⟨c.w, c.S, { c.h with ep := n }, c.φ, c.al⟩ ∧ HRep ⟨c.w, c.S, { c.h with ep := n }, c.φ, c.al⟩ ∧ Fr c ⟨c.w, c.S, { c.h with ep := n }, c.φ, c.al⟩ := by
  have hle : Le c ⟨c.w, c.S, { c.h with ep := n }, c.φ, c.al⟩ := ⟨fun b h => ⟨h, rfl⟩, fun _ h => h, fun _ _ => rfl, fun id _ blk h => ⟨blk, h, rfl, fun arr el fr h => ⟨arr, h, rfl⟩⟩⟩
  refine ⟨hle, ⟨hH.slt, fun id blk h => ?_, fun id es h => ?_, hH.inj⟩, ⟨rfl, rfl, rfl, Nat.le_refl _, fun _ _ _ => rfl, fun _ h => .inl h, fun _ h => .inl h⟩⟩
  · obtain ⟨a1, a2, a3, a4, a5⟩ := hH.blk id blk h
    exact ⟨a1, a2, CRep.mono hle _ rfl _ _ a3, a4, a5⟩
  · obtain ⟨a1, a2, a3, ents, cl, a4, a5⟩ := hH.mp id es h
    exact ⟨a1, a2, a3, ents, cl, a4, ERep.mono hle _ _ a5⟩

/-- Any operation but a call. -/
theorem step_sound {c : Cx} {q : Bool} {o : Oper} {ao : AOp} {id : Id} (hc : cOp P q o.op = some ao) (hH : HRep c) (hn : makes ao = true → ¬ c.al id) {ρ : Operand → Value} {ρA : AOpd → AV} (hρ : ∀ x y, cOpd x = some y → VRep c (ρ x) (ρA y)) {r : AV} {h' : Hp}
    (hs : stepV ao ρA c.h id = some (r, h')) : h'.ep = c.h.ep ∧ ∃ (c' : Cx) (nxt : Next) (v : Value), (execOp ρ o).run P c.w = .ok nxt c'.w ∧ (nxt = .value v ∨ nxt = .skip ∧ v = undef) ∧ c'.h = h' ∧ VRep c' v r ∧ Le c c' ∧ HRep c' ∧ Fr c c' ∧
      ∀ i, c'.al i → c.al i ∨ (makes ao = true ∧ i = id) := by
  unfold stepV at hs
  split at hs
  · rename_i r' hp
    cases hs
    obtain ⟨v, h1, h2⟩ := pure_sound hc hρ hp
    exact ⟨rfl, c, _, v, h1, .inl rfl, rfl, h2, Le.refl c, hH, Fr.refl c, fun _ h => .inl h⟩
  · split at hs
    · rename_i r' hp
      cases hs
      have htag := cOp_tag hc
      obtain ⟨dst, op, type, pos, after, guard⟩ := o
      simp only at htag hc
      cases ao <;> simp only [readV, reduceCtorEq] at hp <;> simp only [aTag] at htag
      case load g n x =>
        cases op <;> simp only [oTag] at htag <;> try (simp at htag; done)
        obtain ⟨v, h1, h2⟩ := load_op hc hH hρ (by simp only [readV]; exact hp)
        exact ⟨rfl, c, .value v, v, by simp [execOp, h1], .inl rfl, rfl, h2, Le.refl c, hH, Fr.refl c, fun _ h => .inl h⟩
      case slice arr sz x lo hi' mx =>
        cases op <;> simp only [oTag] at htag <;> try (simp at htag; done)
        obtain ⟨v, h1, h2⟩ := sliceArr_op hc hH hρ (by simp only [readV]; exact hp)
        exact ⟨rfl, c, .value v, v, by simp [execOp, h1], .inl rfl, rfl, h2, Le.refl c, hH, Fr.refl c, fun _ h => .inl h⟩
    · have htag := cOp_tag hc
      have hep : h'.ep = c.h.ep := by
        cases ao <;> simp only [heapV, reduceCtorEq] at hs
        case alloc => split at hs <;> cases hs; rfl
        case box =>
          split at hs
          · simp only [Option.map_eq_some_iff, Prod.mk.injEq] at hs
            obtain ⟨_, _, _, rfl⟩ := hs; rfl
          · cases hs
        case buildSl =>
          split at hs
          · simp only [Option.map_eq_some_iff] at hs
            obtain ⟨_, _, hs⟩ := hs
            split at hs <;> cases hs <;> rfl
          · cases hs
        case mksl =>
          split at hs
          · split at hs <;> cases hs; rfl
          · cases hs
        case store =>
          split at hs
          · split at hs
            · split at hs
              · split at hs <;> cases hs; rfl
              · cases hs
            · cases hs
          · cases hs
        case append =>
          split at hs
          · cases hs
          · split at hs
            · split at hs
              · cases hs; rfl
              · split at hs <;> cases hs; rfl
            · split at hs
              · split at hs <;> cases hs; rfl
              · cases hs
            · cases hs
      refine ⟨hep, ?_⟩
      obtain ⟨dst, op, type, pos, after, guard⟩ := o
      simp only at htag hc
      have fin : ∀ {x : Sem Value}, makes ao = true → Makes P c id x r h' → ∃ (c' : Cx) (nxt : Next) (v : Value), ((do pure (Next.value (← x)) : Sem Next)).run P c.w = .ok nxt c'.w ∧ (nxt = .value v ∨ nxt = .skip ∧ v = undef) ∧ c'.h = h' ∧ VRep c' v r ∧ Le c c' ∧ HRep c' ∧ Fr c c' ∧ ∀ i, c'.al i → c.al i ∨ (makes ao = true ∧ i = id) := by
        intro x hm ⟨v, c', h1, h2, h3, h4, h5, h6, h7⟩
        exact ⟨c', .value v, v, by simp [h1], .inl rfl, h2, h3, h4, h5, h6, fun i hi => (h7 i hi).imp (fun h => h) fun h => ⟨hm, h⟩⟩
      cases ao <;> (first | (simp only [heapV, reduceCtorEq] at hs; done) | skip) <;> simp only [aTag] at htag
      case alloc z =>
        cases op <;> simp only [oTag] at htag <;> try (simp at htag; done)
        exact fin rfl (alloc_op hc hH (hn rfl) hs)
      case box x =>
        cases op <;> simp only [oTag] at htag <;> try (simp at htag; done)
        exact fin rfl (box_op hc hH (hn rfl) hρ hs)
      case buildSl =>
        cases op <;> simp only [oTag] at htag <;> try (simp at htag; done)
        exact fin rfl (buildSl_op hc hH (hn rfl) hρ hs)
      case mksl =>
        cases op <;> simp only [oTag] at htag <;> try (simp at htag; done)
        exact fin rfl (mksl_op hc hH (hn rfl) hρ hs)
      case store =>
        cases op <;> simp only [oTag] at htag <;> try (simp at htag; done)
        obtain ⟨hr, c', h1, h2, h3, h4, h5, h6⟩ := store_op hc hH hρ hs
        exact ⟨c', .skip, undef, by simp [execOp, h1], .inr ⟨rfl, rfl⟩, h2, by rw [hr]; trivial, h3, h4, h5, fun i hi => by rw [h6] at hi; exact .inl hi⟩
      case append =>
        cases op <;> simp only [oTag] at htag <;> try (simp at htag; done)
        rename_i cl
        obtain ⟨callee, args, tys⟩ := cl
        simp only [cOp] at hc
        split at hc
        · simp only [Option.bind_eq_some_iff, Option.map_eq_some_iff, reduceCtorEq, and_false, exists_false] at hc
        · rename_i b hcal
          have hc' := hc
          unfold cBuiltin at hc
          split at hc
          · simp only [Option.bind_eq_some_iff] at hc
            obtain ⟨_, _, _, _, hc⟩ := hc
            split at hc <;> simp at hc
          · rename_i s x hargs
            obtain rfl : args = #[s, x] := by cases args; simp_all
            have hm := append_op (ty := type) hH (hn rfl) hc' hρ hs
            obtain ⟨v, c', h1, h2, h3, h4, h5, h6, h7⟩ := hm
            exact ⟨c', .value v, v, by simp [execOp, resolve, Go.invoke, Go.builtin, h1], .inl rfl, h2, h3, h4, h5, h6, fun i hi => (h7 i hi).imp (fun h => h) fun h => ⟨rfl, h⟩⟩
          · simp only [Option.map_eq_some_iff, reduceCtorEq, and_false, exists_false] at hc
          · simp only [Option.map_eq_some_iff, reduceCtorEq, and_false, exists_false] at hc
          · cases hc
        · cases hc

/-- The slots for which blocks were made. -/
def Dn (D : Nat → Prop) (ao : AOper) (s : Nat) : Prop := D s ∨ (makes ao.op = true ∧ ao.dst = some s)

/-- One operation of a region. -/
theorem op_sound {N : Nat} {q : Bool} {ops : Array Oper} {i : Nat} {o : Oper} {ao : AOper} (hi : ops[i]? = some o) (hc : cOper P q N ops o = some ao) {c0 : Cx} {D : Nat → Prop} (hmk : makes ao.op = true → ∃ d, ao.dst = some d ∧ ¬ D d) {σ : St} {a : Act} {w : World} {K : St → Prop} (h : awpOp P ao K σ) (hR : RS N c0 D σ a w)
    (Q : Exit → Act → World → Prop) : wpOp P ops Q i (fun a' w' => ∃ σ', K σ' ∧ RS N c0 (Dn D ao) σ' a' w') a w := by
  obtain ⟨c, hw, hh, hH, hE, hN, hD, h0, f0, l0, hlt, hal⟩ := hR
  subst hw
  obtain ⟨hop, hdst, hd⟩ := dst_ok hc
  unfold wpOp
  simp only [hi]
  unfold awpOp at h
  rw [guardK_wanted] at h
  split at h
  · exact h.elim
  · rename_i hwant
    rw [guard_want hc hE hN hwant]
    simp only [if_true]
    refine .inl ?_
    have hρ := env_rep hE
    unfold Oper.wp
    unfold runOp at h
    split at h
    · rename_i q' f as hao
      have htag := cOp_tag hop
      rw [hao] at hop htag
      obtain ⟨dst, op, type, pos, after, guard⟩ := o
      simp only [aTag] at htag
      simp only at hop hdst hd
      cases op <;> simp only [oTag] at htag <;> try (simp at htag; done)
      rename_i cl
      obtain ⟨callee, args, tys⟩ := cl
      simp only [cOp] at hop
      split at hop
      · rename_i fo
        simp only [Option.bind_eq_some_iff, Option.map_eq_some_iff] at hop
        obtain ⟨fA, h1, asA, h2, h3⟩ := hop
        injection h3 with e1 e2 e3
        subst e1 e2 e3
        have hf := hρ fo fA h1
        unfold callA at h
        split at h
        · rename_i g caps hg
          rw [hg] at hf
          simp only [VRep] at hf
          obtain ⟨carr, hfv, hcr⟩ := hf
          have hargs : Reps c (args.map a.eval ++ carr).toList (asA.map (evA σ.env) ++ caps) := by
            simpa using Reps.append (cOpds_rep hρ h2) hcr
          rw [hdst] at h
          cases q with
          | true =>
            simp only [if_true] at h
            obtain ⟨r, hq, hk⟩ := h
            rw [← hh] at hq
            obtain ⟨hok, hcalls⟩ := qcall_sound hH hq hargs
            rw [execOp_call (cl := ⟨.value fo, args, tys⟩) (f := fo) rfl rfl hfv hok]
            rw [Oper.upon_enter]
            refine hcalls.mono fun e w' hx => ?_
            obtain ⟨v, c', rfl, rfl, h6, h7, h8, h9, h10, h11⟩ := hx
            rw [← hh] at hk
            refine ⟨_, hk, ?_⟩
            rw [← h6]
            exact RS.step hE hN hD h0 f0 l0 hlt hd h8 h9 h10 h7 (by rw [h6]; exact Nat.le_refl _) (fun id h => by rw [h11] at h; exact .inl h) (fun id h => by
              rw [h11] at h; rw [h6]; exact (hal id h).imp (fun h => h) fun h => ⟨h.1, .inl h.2⟩)
          | false =>
            simp only [Bool.false_eq_true, if_false] at h
            rw [execOp_call (cl := ⟨.value fo, args, tys⟩) (f := fo) rfl rfl hfv h.1]
            rw [Oper.upon_enter]
            have hEB : EB c := fun id h => by rcases hal id h with h | h <;> omega
            refine (h.2 c _ hh hH hEB hargs).mono fun e w' hx => ?_
            obtain ⟨v, c', r, rfl, rfl, h5, h6, h7, h8, h9, h10, h11⟩ := hx
            obtain ⟨t1, t2, t3⟩ := tick_ctx h7 (c'.h.ep + 1)
            refine ⟨_, h11 (fresh_of h7 h9), ?_⟩
            exact RS.step (c' := ⟨c'.w, c'.S, { c'.h with ep := c'.h.ep + 1 }, c'.φ, c'.al⟩) hE hN hD h0 f0 l0 hlt hd (h6.trans t1) t2 (h8.trans t3) (VRep.mono t1 _ _ h5) (Nat.le_succ_of_le h10.ep)
              (fun id h => (h10.al id h).imp (fun h => h) fun h => Nat.le_of_lt h) (fun id h => .inl (Nat.lt_succ_of_le (h9 id h)))
        · exact h.elim
      · rename_i b hcal
        have := cBuiltin_tag hop
        exfalso
        unfold cBuiltin at hop
        split at hop
        · simp only [Option.bind_eq_some_iff] at hop
          obtain ⟨_, _, _, _, hop⟩ := hop
          split at hop <;> simp at hop
        · simp only [Option.bind_eq_some_iff] at hop
          obtain ⟨_, _, _, _, _, _, _, _, hop⟩ := hop
          split at hop
          · simp only [Option.bind_eq_some_iff] at hop
            obtain ⟨_, _, _, _, hop⟩ := hop
            split at hop <;> simp at hop
          · cases hop
        · simp only [Option.map_eq_some_iff, reduceCtorEq, and_false, exists_false] at hop
        · simp only [Option.map_eq_some_iff, reduceCtorEq, and_false, exists_false] at hop
        · cases hop
      · cases hop
    · unfold ob at h
      split at h
      · rename_i x hs
        obtain ⟨r, h'⟩ := x
        rw [← hh] at hs
        have hn : makes ao.op = true → ¬ c.al (c.h.ep, ao.dst.getD 0) := fun hm hcal => by
          obtain ⟨d, e1, e2⟩ := hmk hm
          rw [e1] at hcal
          rcases hal _ hcal with h | h
          · exact absurd h (Nat.lt_irrefl _)
          · exact e2 h.2
        obtain ⟨hep, c', nxt, v, h1, h2, h3, h4, h5, h6, h7, h8⟩ := step_sound hop hH hn hρ hs
        rw [h1]
        have hRS := RS.step (D := Dn D ao) hE hN hD h0 f0 l0 hlt hd h5 h6 h7 h4 (by rw [h3, hep]; exact Nat.le_refl _) (fun id h => (h8 id h).imp (fun h => h) fun h => by rw [h.2]; exact Nat.le_refl _) (fun id h => by
          rw [h3, hep]
          rcases h8 id h with h | ⟨hm, h⟩
          · exact (hal id h).imp (fun h => h) fun h => ⟨h.1, .inl h.2⟩
          · obtain ⟨d, e1, e2⟩ := hmk hm
            rw [h]
            exact .inr ⟨rfl, .inr ⟨hm, by rw [e1]; rfl⟩⟩)
        simp only at h
        rw [hdst, ← h3] at h
        rcases h2 with rfl | ⟨rfl, rfl⟩
        · exact ⟨_, h, hRS⟩
        · exact ⟨_, h, hRS⟩
      · exact h.elim
  · rename_i hwant
    rw [guard_want hc hE hN hwant]
    simp only [Bool.false_eq_true, if_false]
    refine ⟨_, h, ?_⟩
    rw [hdst, ← hh]
    exact RS.step hE hN hD h0 f0 l0 hlt hd (Le.refl c) hH (Fr.refl c) (by simp only [VRep]; exact ⟨#[], rfl, by simp [Reps]⟩) (Nat.le_refl _) (fun id h => .inl h) (fun id h => (hal id h).imp (fun h => h) fun h => ⟨h.1, .inl h.2⟩)
end
end Go.Proofs.Hx
