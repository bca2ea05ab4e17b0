import Derived.Test.YtcdibfkebojefaaAm4
set_option linter.unusedVariables false
set_option linter.unusedSimpArgs false
namespace Go.Proofs.Hx

/-- Operations that look at the heap and leave it. -/
def readV (o : AOp) (ρ : AOpd → AV) (h : Hp) : Option AV :=
  match o with
  | .load agg n x =>
    match ρ x with
    | .ptr id off => match h.hp id with | some blk => partV agg off n blk.cells | none => none
    | .ip cs => partV agg 0 n cs
    | _ => none
  | .slice (some n) sz x lo hi mx =>
    match ρ x with
    | .ptr id off => match h.hp id with
      | some blk => if off + n * sz ≤ blk.cells.length then sliceV (some n) sz (.ptr id off) (lo.map ρ) (hi.map ρ) (mx.map ρ) else none
      | none => none
    | _ => none
  | _ => none

section
variable {P : Program} {c : Cx}

theorem gives_value {s : Sem Value} {r : AV} (h : Gives P c s r) : ∃ v, ((do pure (Next.value (← s)) : Sem Next)).run P c.w = .ok (.value v) c.w ∧ VRep c v r := by
  obtain ⟨v, h1, h2⟩ := h
  exact ⟨v, by simp [h1], h2⟩

theorem cOpt_rep {ρ : Operand → Value} {ρA : AOpd → AV} (hρ : ∀ x y, cOpd x = some y → VRep c (ρ x) (ρA y)) {x : Option Operand} {y : Option AOpd} (h : cOpt x = some y) : ORep c (x.map ρ) (y.map ρA) := by
  cases x with
  | none => simp [cOpt] at h; subst h; trivial
  | some x =>
    simp only [cOpt, Option.map_eq_some_iff] at h
    obtain ⟨z, h1, rfl⟩ := h
    exact hρ x z h1

theorem foldI_max (k : IntKind) : ∀ (xs : List AV) (vs : List Value) (a : Int) (r : AV), Reps c vs xs → foldI (fun x y => if y > x then y else x) k a xs = some r → Gives P c (vs.foldlM Builtin.max2 (.int k a)) r
  | [], [], a, r, _, h => by simp [foldI] at h; subst h; exact ⟨_, by simp, VRep.lit_mk _⟩
  | x :: xs, v :: vs, a, r, hr, h => by
    simp only [Reps] at hr
    unfold foldI at h
    split at h
    · simp at *
    · rename_i b rest he
      simp only [List.cons.injEq] at he
      obtain ⟨rfl, rfl⟩ := he
      have := hr.1.lit
      subst this
      obtain ⟨u, h1, h2⟩ := foldI_max k _ vs _ r hr.2 h
      exact ⟨u, by simp [List.foldlM_cons, Builtin.max2, h1], h2⟩
    · cases h
  | [], _ :: _, _, _, h, _ => by simp [Reps] at h
  | _ :: _, [], _, _, h, _ => by simp [Reps] at h
theorem foldI_min (k : IntKind) : ∀ (xs : List AV) (vs : List Value) (a : Int) (r : AV), Reps c vs xs → foldI (fun x y => if y < x then y else x) k a xs = some r → Gives P c (vs.foldlM Builtin.min2 (.int k a)) r
  | [], [], a, r, _, h => by simp [foldI] at h; subst h; exact ⟨_, by simp, VRep.lit_mk _⟩
  | x :: xs, v :: vs, a, r, hr, h => by
    simp only [Reps] at hr
    unfold foldI at h
    split at h
    · simp at *
    · rename_i b rest he
      simp only [List.cons.injEq] at he
      obtain ⟨rfl, rfl⟩ := he
      have := hr.1.lit
      subst this
      obtain ⟨u, h1, h2⟩ := foldI_min k _ vs _ r hr.2 h
      exact ⟨u, by simp [List.foldlM_cons, Builtin.min2, h1], h2⟩
    · cases h
  | [], _ :: _, _, _, h, _ => by simp [Reps] at h
  | _ :: _, [], _, _, h, _ => by simp [Reps] at h

theorem Reps.arr {ρ : Operand → Value} {as : Array Operand} {xs : List AV} (h : Reps c (as.toList.map ρ) xs) : Reps c (as.map ρ).toList xs := by simpa using h

theorem max_sound {vs : Array Value} {xs : List AV} {r : AV} {tys : Array TypeId} {t : TypeId} (hr : Reps c vs.toList xs) (h : maxV xs = some r) : Gives P c (Builtin.max_ tys t vs) r := by
  unfold maxV at h
  split at h
  · rename_i k a rest
    unfold Builtin.max_
    cases hv : vs.toList with
    | nil => rw [hv] at hr; simp [Reps] at hr
    | cons v us =>
      rw [hv] at hr
      simp only [Reps] at hr
      have := hr.1.lit
      subst this
      exact foldI_max k rest us a r hr.2 h
  · cases h
theorem min_sound {vs : Array Value} {xs : List AV} {r : AV} {tys : Array TypeId} {t : TypeId} (hr : Reps c vs.toList xs) (h : minV xs = some r) : Gives P c (Builtin.min_ tys t vs) r := by
  unfold minV at h
  split at h
  · rename_i k a rest
    unfold Builtin.min_
    cases hv : vs.toList with
    | nil => rw [hv] at hr; simp [Reps] at hr
    | cons v us =>
      rw [hv] at hr
      simp only [Reps] at hr
      have := hr.1.lit
      subst this
      exact foldI_min k rest us a r hr.2 h
  · cases h

theorem bin_sound {op : BinOp} {t : TypeId} {x y : Operand} {u v : Value} {xa ya r : AV} (hu : VRep c u xa) (hv : VRep c v ya) (h : binV op xa ya = some r) :
    Gives P c (do eqGuard op t x y u v; binOp op t u v) r := by
  unfold binV at h
  split at h
  · rename_i k a k' b
    have e1 := hu.lit
    have e2 := hv.lit
    subst e1 e2
    obtain ⟨w, h1, h2⟩ := bin_int (P := P) (c := c) op k k' t a b (by unfold binV; exact h)
    exact ⟨w, by simp only [Sem.run_bind, eqGuard_lit op t x y (.int k a) (.int k' b) rfl, Result.andThen_ok]; exact h1, h2⟩
  · rename_i a b
    have e1 := hu.lit
    have e2 := hv.lit
    subst e1 e2
    obtain ⟨w, h1, h2⟩ := bin_str (P := P) (c := c) op t a b (by unfold binV; exact h)
    exact ⟨w, by simp only [Sem.run_bind, eqGuard_lit op t x y (.string a) (.string b) rfl, Result.andThen_ok]; exact h1, h2⟩
  · cases h

theorem len_sound {tys : Array TypeId} {t ty e : TypeId} {x : Value} {xa r : AV} (ht : tys[0]? = some t) (hu : P.underlying t = some (.slice e))
    (hx : VRep c x xa) (h : lenV xa = some r) : Gives P c (Builtin.len_ tys ty #[x]) r := by
  unfold lenV at h
  split at h
  · cases h
    simp only [VRep] at hx
    rcases hx.2 with ⟨cap, rfl, _⟩ | ⟨rfl, a, rfl⟩ <;> exact ⟨_, by simp [Builtin.len_, ht, run_underlying hu]; rfl, by simp [goInt, VRep]⟩
  · cases h
    simp only [VRep] at hx
    obtain ⟨addr, cap, rfl, _⟩ := hx
    exact ⟨_, by simp [Builtin.len_, ht, run_underlying hu]; rfl, by simp [goInt, VRep]⟩
  · cases h
    simp only [VRep] at hx
    obtain ⟨a, rfl⟩ := hx
    exact ⟨_, by simp [Builtin.len_, ht, run_underlying hu]; rfl, by simp [goInt, VRep]⟩
  · cases h

theorem run_equalIn_bool (d : Nat) {t : TypeId} (hu : P.underlying t = some .bool) (a b : Bool) (w : World) : (Op.equalIn (d + 1) t (.bool a) (.bool b)).run P w = .ok (a == b) w := by
  simp [Op.equalIn, run_underlying hu]
theorem run_equal_bool {t : TypeId} (hu : P.underlying t = some .bool) (a b : Bool) (w : World) : (Op.equal t (.bool a) (.bool b)).run P w = .ok (a == b) w :=
  run_equalIn_bool 9999 hu a b w
theorem run_eqGuard_bool (op : BinOp) (t : TypeId) (x y : Operand) (a b : Bool) (w : World) : (eqGuard op t x y (.bool a) (.bool b)).run P w = .ok () w := eqGuard_lit op t x y _ _ rfl w
theorem run_beq {t : TypeId} (hu : P.underlying t = some .bool) (a b : Bool) (w : World) : (binOp .eql t (.bool a) (.bool b)).run P w = .ok (.bool (a == b)) w := by
  simp only [Go.binOp, Sem.run_bind, run_equal_bool hu, Result.andThen_ok, Sem.run_pure]
theorem run_bne {t : TypeId} (hu : P.underlying t = some .bool) (a b : Bool) (w : World) : (binOp .neq t (.bool a) (.bool b)).run P w = .ok (.bool (!(a == b))) w := by
  simp only [Go.binOp, Sem.run_bind, run_equal_bool hu, Result.andThen_ok, Sem.run_pure]

theorem opt3 {α β γ : Type} {x : Option α} {f : α → Option β} {y : β} (h : x.bind f = some y) : ∃ a, x = some a ∧ f a = some y := by
  cases x with
  | none => cases h
  | some a => exact ⟨a, rfl, h⟩

set_option maxHeartbeats 1000000 in
theorem pure_sound {q : Bool} {o : Oper} {ao : AOp} (hc : cOp P q o.op = some ao) {ρ : Operand → Value} {ρA : AOpd → AV} (hρ : ∀ x y, cOpd x = some y → VRep c (ρ x) (ρA y)) {r : AV}
    (hp : pureV ao ρA = some r) : ∃ v, (execOp ρ o).run P c.w = .ok (.value v) c.w ∧ VRep c v r := by
  obtain ⟨dst, op, type, pos, after, guard⟩ := o
  cases op
  case move x =>
    simp only [cOp, Option.map_eq_some_iff] at hc
    obtain ⟨y, h1, rfl⟩ := hc
    simp only [pureV, Option.some.injEq] at hp
    subst hp
    exact ⟨_, rfl, hρ x y h1⟩
  case assign x =>
    simp only [cOp, Option.map_eq_some_iff] at hc
    obtain ⟨y, h1, rfl⟩ := hc
    simp only [pureV, Option.some.injEq] at hp
    subst hp
    exact ⟨_, rfl, hρ x y h1⟩
  case pick x a b =>
    simp only [cOp, Option.map_eq_some_iff, Option.bind_eq_some_iff] at hc
    obtain ⟨xA, h1, aA, h2, bA, h3, rfl⟩ := hc
    simp only [pureV] at hp
    have hx := hρ x xA h1
    split at hp
    · rename_i t ht
      rw [ht] at hx
      simp only [Option.some.injEq] at hp
      subst hp
      refine ⟨if t then ρ a else ρ b, by simp only [execOp, Sem.run_bind, hx.lit, asBool, Sem.run_pure, Result.andThen_ok], ?_⟩
      cases t
      · exact hρ b bA h3
      · exact hρ a aA h2
    · cases hp
  case build t ps =>
    simp only [cOp, Option.map_eq_some_iff, Option.bind_eq_some_iff] at hc
    obtain ⟨z, h1, pl, h2, qs, h3, rfl⟩ := hc
    simp only [pureV, Option.map_eq_some_iff] at hp
    obtain ⟨out, h4, rfl⟩ := hp
    have hpr := cParts_rep hρ h3
    exact gives_value (build_sound (ps := ps.map fun (i, x) => (i, ρ x)) h1 h2 (by simpa using hpr) h4)
  case nilCheck x =>
    simp only [cOp, Option.map_eq_some_iff] at hc
    obtain ⟨y, h1, rfl⟩ := hc
    have hx := hρ x y h1
    simp only [pureV] at hp
    split at hp
    all_goals first
      | (cases hp; done)
      | (rename_i e
         simp only [Option.some.injEq] at hp
         subst hp
         rw [e] at hx
         simp only [VRep] at hx ⊢
         first
         | (obtain ⟨h5, h6⟩ := hx
            exact ⟨_, by simp only [execOp]; rw [h6]; rfl, h5, rfl⟩)
         | (obtain ⟨b, off, h6, h7⟩ := hx
            exact ⟨_, by simp only [execOp]; rw [h6]; rfl, b, off, rfl, h7⟩)
         | (obtain ⟨arr, h6, h7⟩ := hx
            exact ⟨_, by simp only [execOp]; rw [h6]; rfl, arr, rfl, h7⟩))
  case binOp op t x y yt =>
    simp only [cOp, Option.bind_eq_some_iff] at hc
    obtain ⟨xA, h1, yA, h2, hc⟩ := hc
    have hx := hρ x xA h1
    have hy := hρ y yA h2
    split at hc
    · rename_i hu
      split at hc
      all_goals first
        | (cases hc; done)
        | (simp only [Option.some.injEq] at hc
           subst hc
           simp only [pureV] at hp
           split at hp
           · rename_i a b ea eb
             rw [ea] at hx
             rw [eb] at hy
             have e1 := hx.lit
             have e2 := hy.lit
             simp only [Option.some.injEq, if_true, if_false, Bool.false_eq_true] at hp
             subst hp
             refine ⟨_, ?_, VRep.lit_mk _⟩
             simp only [execOp, e1, e2, Sem.run_bind, run_eqGuard_bool, run_beq hu, run_bne hu, Result.andThen_ok, Sem.run_pure]
           · cases hp)
    · simp only [Option.some.injEq] at hc
      subst hc
      simp only [pureV] at hp
      exact gives_value (bin_sound hx hy hp)
  case unOp op t x =>
    simp only [cOp, Option.map_eq_some_iff] at hc
    obtain ⟨y, h1, rfl⟩ := hc
    have hx := hρ x y h1
    simp only [pureV, unV] at hp
    split at hp
    · rename_i b e
      rw [e] at hx
      have e1 := hx.lit
      split at hp
      · simp only [Option.some.injEq] at hp
        subst hp
        exact ⟨_, by simp [execOp, e1, Op.unary], VRep.lit_mk _⟩
      · cases hp
    · rename_i k n e
      rw [e] at hx
      have e1 := hx.lit
      split at hp
      · simp only [Option.some.injEq] at hp
        subst hp
        exact ⟨_, by simp [execOp, e1, Op.unary, Op.intArith]; rfl, by simp [VRep]⟩
      · simp only [bits2, Option.map_some, Option.some.injEq] at hp
        subst hp
        exact ⟨_, by simp [execOp, e1, Op.unary, Op.intBits], VRep.lit_mk _⟩
      · cases hp
    · cases hp
  case convert src dst x =>
    simp only [cOp] at hc
    split at hc
    · rename_i d k hs hd
      simp only [Option.map_eq_some_iff] at hc
      obtain ⟨y, h1, rfl⟩ := hc
      have hx := hρ x y h1
      simp only [pureV] at hp
      split at hp
      · rename_i k' n e
        rw [e] at hx
        simp only [Option.some.injEq] at hp
        subst hp
        refine ⟨_, ?_, VRep.lit_mk _⟩
        simp [execOp, hx.lit, Go.convert, run_underlying hs, run_underlying hd, Conv.intToInt]
      · cases hp
    · cases hc
  case makeFunc fn first caps =>
    cases fn <;> simp only [cOp, reduceCtorEq] at hc
    case func f =>
      split at hc
      · rename_i hf
        simp only [Option.map_eq_some_iff] at hc
        obtain ⟨ys, h1, rfl⟩ := hc
        simp only [pureV, Option.some.injEq] at hp
        subst hp
        have hf' : first = #[] := by simpa using hf
        subst hf'
        refine ⟨.func (.func f) #[] (caps.map ρ), by simp [execOp, Instr.makeFunc], ?_⟩
        simp only [VRep]
        exact ⟨_, rfl, by simpa using cOpds_rep hρ h1⟩
      · cases hc
  case slice t x lo hi' mx =>
    simp only [cOp, Option.bind_eq_some_iff] at hc
    obtain ⟨xA, h1, loA, h2, hiA, h3, mxA, h4, hc⟩ := hc
    split at hc
    · simp only [Option.map_eq_some_iff] at hc
      obtain ⟨i, h5, rfl⟩ := hc
      simp [pureV] at hp
    · rename_i e hu
      simp only [Option.map_eq_some_iff] at hc
      obtain ⟨i, h5, rfl⟩ := hc
      simp only [pureV] at hp
      exact gives_value (slice_slice hu h5 (hρ x xA h1) (cOpt_rep hρ h2) (cOpt_rep hρ h3) (cOpt_rep hρ h4) hp)
    · cases hc
  case fieldAddr t x f =>
    simp only [cOp] at hc
    split at hc
    · rename_i fs hu
      simp only [Option.bind_eq_some_iff] at hc
      obtain ⟨fd, h1, i, h2, hc⟩ := hc
      split at hc
      · cases hc
      · rename_i hz
        simp only [Option.map_eq_some_iff] at hc
        obtain ⟨y, h3, rfl⟩ := hc
        exact gives_value (fieldAddr_sound hu h1 h2 hz (hρ x y h3) (by simpa [pureV] using hp))
    · cases hc
  case field t x f =>
    simp only [cOp] at hc
    split at hc
    · rename_i fs hu
      simp only [Option.bind_eq_some_iff, Option.map_eq_some_iff] at hc
      obtain ⟨fd, h1, i, h2, g, h3, y, h4, rfl⟩ := hc
      have hx := hρ x y h4
      simp only [pureV] at hp
      split at hp
      · rename_i cs e
        rw [e] at hx
        simp only [VRep] at hx
        obtain ⟨arr, e1, hr⟩ := hx
        obtain ⟨v, h5, h6⟩ := part_sound h3 h2 hr hp
        exact ⟨v, by simp [execOp, Instr.field, run_underlying hu, h1, e1, asAgg, h5], h6⟩
      · cases hp
    · cases hc
  case indexAddr t x i =>
    simp only [cOp, Option.bind_eq_some_iff] at hc
    obtain ⟨xA, h1, iA, h2, hc⟩ := hc
    split at hc
    · rename_i n e hu
      simp only [Option.map_eq_some_iff] at hc
      obtain ⟨ie, h5, rfl⟩ := hc
      simp only [pureV] at hp
      exact gives_value (idxAddr_arr hu h5 (hρ x xA h1) (hρ i iA h2) hp)
    · rename_i e hu
      simp only [Option.map_eq_some_iff] at hc
      obtain ⟨ie, h5, rfl⟩ := hc
      simp only [pureV] at hp
      exact gives_value (idxAddr_slice hu h5 (hρ x xA h1) (hρ i iA h2) hp)
    · cases hc
  case index t x i =>
    simp only [cOp, Option.bind_eq_some_iff] at hc
    obtain ⟨xA, h1, iA, h2, hc⟩ := hc
    split at hc
    · rename_i n e hu
      simp only [Option.bind_eq_some_iff, Option.map_eq_some_iff] at hc
      obtain ⟨ie, h5, g, h6, rfl⟩ := hc
      simp only [pureV, idxV] at hp
      have hx := hρ x xA h1
      have hi := hρ i iA h2
      split at hp
      · rename_i cs k m ex ei
        split at hp
        · rename_i hb
          rw [ex] at hx
          rw [ei] at hi
          simp only [VRep] at hx
          obtain ⟨arr, e1, hr⟩ := hx
          obtain ⟨v, h7, h8⟩ := part_sound h6 h5 hr hp
          exact ⟨v, by simp [execOp, Instr.index, asIntOf, run_underlying hu, e1, hi.lit, hb.1, hb.2, run_sizeOf' h5, h7], h8⟩
        · cases hp
      · cases hp
    · cases hc
  case extract x i =>
    simp only [cOp, Option.map_eq_some_iff] at hc
    obtain ⟨y, h1, rfl⟩ := hc
    have hx := hρ x y h1
    simp only [pureV] at hp
    split at hp
    · rename_i vs e
      rw [e] at hx
      simp only [VRep] at hx
      obtain ⟨arr, e1, hr⟩ := hx
      obtain ⟨v, h5, h6⟩ := hr.get hp
      exact ⟨v, by simp [execOp, Instr.extract, e1, show arr[i]? = some v by simpa using h5], h6⟩
    · cases hp
  case call cl =>
    obtain ⟨callee, args, tys⟩ := cl
    simp only [cOp] at hc
    split at hc
    · simp only [Option.bind_eq_some_iff, Option.map_eq_some_iff] at hc
      obtain ⟨f, h1, as, h2, rfl⟩ := hc
      simp [pureV] at hp
    · rename_i b
      unfold cBuiltin at hc
      split at hc
      · rename_i x hargs
        obtain rfl : args = #[x] := by cases args; simp_all
        simp only [Option.bind_eq_some_iff] at hc
        obtain ⟨t, h1, y, h2, hc⟩ := hc
        split at hc
        · rename_i n e hu
          simp only [Option.some.injEq] at hc
          subst hc
          simp only [pureV, Option.some.injEq] at hp
          subst hp
          exact ⟨_, by simp [execOp, resolve, Go.invoke, Go.builtin, Builtin.len_, h1, run_underlying hu, goInt], VRep.lit_mk _⟩
        · rename_i e hu
          simp only [Option.some.injEq] at hc
          subst hc
          simp only [pureV] at hp
          obtain ⟨v, h3, h4⟩ := len_sound (ty := type) h1 hu (hρ x y h2) hp
          exact ⟨v, by simp [execOp, resolve, Go.invoke, Go.builtin, h3], h4⟩
        · rename_i hu
          simp only [Option.some.injEq] at hc
          subst hc
          simp only [pureV] at hp
          have hx := hρ x y h2
          split at hp
          · rename_i s e
            rw [e] at hx
            simp only [Option.some.injEq] at hp
            subst hp
            exact ⟨_, by simp [execOp, resolve, Go.invoke, Go.builtin, Builtin.len_, h1, run_underlying hu, goInt, hx.lit], VRep.lit_mk _⟩
          · cases hp
        · cases hc
      · simp only [Option.bind_eq_some_iff] at hc
        obtain ⟨t, h1, u, h2, s, h3, x, h4, hc⟩ := hc
        split at hc
        · simp only [Option.bind_eq_some_iff] at hc
          obtain ⟨i, h5, z, h6, hc⟩ := hc
          split at hc
          · simp only [Option.some.injEq] at hc
            subst hc
            simp [pureV] at hp
          · cases hc
        · cases hc
      · simp only [Option.map_eq_some_iff] at hc
        obtain ⟨ys, h1, rfl⟩ := hc
        simp only [pureV] at hp
        obtain ⟨v, h3, h4⟩ := max_sound (P := P) (tys := tys) (t := type) (Reps.arr (cOpds_rep hρ h1)) hp
        exact ⟨v, by simp [execOp, resolve, Go.invoke, Go.builtin, h3], h4⟩
      · simp only [Option.map_eq_some_iff] at hc
        obtain ⟨ys, h1, rfl⟩ := hc
        simp only [pureV] at hp
        obtain ⟨v, h3, h4⟩ := min_sound (P := P) (tys := tys) (t := type) (Reps.arr (cOpds_rep hρ h1)) hp
        exact ⟨v, by simp [execOp, resolve, Go.invoke, Go.builtin, h3], h4⟩
      · cases hc
    · cases hc
  case alloc e =>
    simp only [cOp, Option.map_eq_some_iff] at hc
    obtain ⟨z, _, rfl⟩ := hc
    simp [pureV] at hp
  case box e x =>
    simp only [cOp, Option.map_eq_some_iff] at hc
    obtain ⟨z, _, rfl⟩ := hc
    simp [pureV] at hp
  case buildSlice t n ps =>
    simp only [cOp] at hc
    split at hc
    · simp only [Option.bind_eq_some_iff] at hc
      obtain ⟨i, _, z, _, hc⟩ := hc
      split at hc
      · simp only [Option.map_eq_some_iff] at hc
        obtain ⟨_, _, rfl⟩ := hc
        simp [pureV] at hp
      · cases hc
    · cases hc
  case load t a =>
    simp only [cOp, Option.map_eq_some_iff, Option.bind_eq_some_iff] at hc
    obtain ⟨_, _, _, _, _, _, rfl⟩ := hc
    simp [pureV] at hp
  case store t a x =>
    simp only [cOp, Option.map_eq_some_iff, Option.bind_eq_some_iff] at hc
    obtain ⟨_, _, _, _, _, _, rfl⟩ := hc
    simp [pureV] at hp
  case makeSlice t l cp =>
    simp only [cOp] at hc
    split at hc
    · simp only [Option.bind_eq_some_iff] at hc
      obtain ⟨_, _, _, _, _, _, _, _, hc⟩ := hc
      split at hc
      · simp only [Option.some.injEq] at hc
        subst hc
        simp [pureV] at hp
      · cases hc
    · cases hc
  all_goals (simp [cOp] at hc)
end
end Go.Proofs.Hx
