import Derived.Test.YtcdibfkebojefaaAm16
set_option linter.unusedVariables false
set_option linter.unusedSimpArgs false
namespace Go.Proofs.Hx

/-! ### Functions -/
def cRes (P : Program) : ResultVar → Option AOp
  | .tmp t => some (.mv (.t t))
  | .cell a t => (isAggT P t).bind fun g => (P.info? t).map fun i => .load g i.size (.t a)
def cRess (P : Program) : List ResultVar → Option (List AOp)
  | [] => some []
  | r :: rs => match cRes P r, cRess P rs with | some x, some xs => some (x :: xs) | _, _ => none
def cFn (P : Program) (f : Nat) : Option (Nat × ACode × List AOp) :=
  match P.funcs[f]? with
  | none => none
  | some fn =>
    if fn.name = "runtime.NumGoroutine" then none else
    match fn.body with
    | none => none
    | some b => match cCode P fn.ntmps b, cRess P fn.results.toList with
      | some c, some r => some (fn.ntmps, c, r)
      | _, _ => none

def resV (env : Nat → AV) (h : Hp) (op : AOp) : Option AV :=
  match pureV op (evA env) with
  | some r => some r
  | none => readV op (evA env) h
def retV : List AV → AV
  | [v] => v
  | vs => .tup vs
def endK (res : List AOp) (K : AV → Hp → Prop) (σ : St) : Prop :=
  match mapO (resV σ.env σ.h) res with
  | some vals => K (retV vals) σ.h
  | none => False
def PostF (res : List AOp) (K : AV → Hp → Prop) : AEx → St → Prop
  | .normal, σ | .ret, σ => endK res K σ
  | .exit _, _ => False
def initEnv (args : List AV) : Nat → AV := fun i => args.getD i .undef

section
variable {P : Program}

def resF (tmps : Array Value) (rv : ResultVar) : Sem Value :=
  match rv with
  | .tmp t => pure (tmps.getD t undef)
  | .cell a t => do loadVar t (← asAddr (tmps.getD a undef))
theorem results_eq (fn : Func) (tmps : Array Value) : results fn tmps = (do
    let vs ← fn.results.mapM (resF tmps)
    pure (if h : vs.size = 1 then vs[0] else .tuple vs)) := by
  unfold results
  congr 1

theorem cRes_sound {c : Cx} (hH : HRep c) {tmps : Array Value} {env : Nat → AV} (hE : ∀ i, VRep c (tmps.getD i undef) (env i)) {rv : ResultVar} {op : AOp} (hc : cRes P rv = some op) {r : AV} (h : resV env c.h op = some r) :
    Gives P c (resF tmps rv) r := by
  unfold resF
  cases rv with
  | tmp t =>
    simp only [cRes, Option.some.injEq] at hc
    subst hc
    simp only [resV, pureV, evA, Option.some.injEq] at h
    subst h
    exact ⟨_, rfl, hE t⟩
  | cell a t =>
    simp only [cRes, Option.bind_eq_some_iff, Option.map_eq_some_iff] at hc
    obtain ⟨g, h1, i, h2, rfl⟩ := hc
    simp only [resV, pureV] at h
    have hop : cOp P false (.load t (.tmp a)) = some (.load g i.size (.t a)) := by simp [cOp, h1, h2, cOpd]
    have hl := load_op (ρ := fun x => match x with | .tmp t => tmps.getD t undef | .const v => v | .global g => .pointer (some ⟨g, 0, none⟩) | .func f => .func (.func f) #[] #[]) (ρA := evA env) hop hH (fun x y hxy => by
      cases x with
      | tmp t => simp only [cOpd, Option.some.injEq] at hxy; subst hxy; exact hE t
      | const v => simp only [cOpd, Option.map_eq_some_iff] at hxy; obtain ⟨z, h1, rfl⟩ := hxy; exact toAV_sound h1
      | func f => simp only [cOpd, Option.some.injEq] at hxy; subst hxy; simp only [evA, VRep]; exact ⟨#[], rfl, by simp [Reps]⟩
      | global g => simp [cOpd] at hxy) h
    obtain ⟨v, h3, h4⟩ := hl
    refine ⟨v, ?_, h4⟩
    simp only [Instr.loadAt] at h3
    have hx := hE a
    simp only [readV, evA] at h
    have key : ∃ ad, tmps.getD a undef = .pointer (some ad) := by
      split at h
      · rename_i id off e; rw [e] at hx; simp only [VRep] at hx; exact ⟨_, hx.2⟩
      · rename_i cs e; rw [e] at hx; simp only [VRep] at hx; obtain ⟨b, off, e1, _⟩ := hx; exact ⟨_, e1⟩
      · cases h
    obtain ⟨ad, e⟩ := key
    simp only [e, Instr.sureAddr, Sem.run_bind, Sem.run_pure, Result.andThen_ok] at h3
    simp only [e, asAddr, Sem.run_bind, Sem.run_pure, Result.andThen_ok]
    exact h3

theorem cRess_sound {c : Cx} (hH : HRep c) {tmps : Array Value} {env : Nat → AV} (hE : ∀ i, VRep c (tmps.getD i undef) (env i)) : ∀ {rvs : List ResultVar} {ops : List AOp} {vals : List AV}, cRess P rvs = some ops → mapO (resV env c.h) ops = some vals →
    ∃ vs : List Value, (rvs.mapM (resF tmps)).run P c.w = .ok vs c.w ∧ Reps c vs vals
  | [], ops, vals, h1, h2 => by
    simp only [cRess, Option.some.injEq] at h1
    subst h1
    simp only [mapO, Option.some.injEq] at h2
    subst h2
    exact ⟨[], by simp, by simp [Reps]⟩
  | rv :: rvs, ops, vals, h1, h2 => by
    simp only [cRess] at h1
    split at h1
    · rename_i x xs e1 e2
      cases h1
      simp only [mapO] at h2
      split at h2
      · rename_i y ys e3 e4
        cases h2
        obtain ⟨v, g1, g2⟩ := cRes_sound hH hE e1 e3
        obtain ⟨vs, g3, g4⟩ := cRess_sound hH hE e2 e4
        refine ⟨v :: vs, ?_, by simp only [Reps]; exact ⟨g2, g4⟩⟩
        rw [List.mapM_cons, Sem.run_bind, g1]
        simp only [Result.andThen_ok, Sem.run_bind, g3, Sem.run_pure]
      · cases h2
    · cases h1

theorem results_sound {c : Cx} (hH : HRep c) {fn : Func} {tmps : Array Value} {env : Nat → AV} (hE : ∀ i, VRep c (tmps.getD i undef) (env i)) {ops : List AOp} {vals : List AV} (h1 : cRess P fn.results.toList = some ops) (h2 : mapO (resV env c.h) ops = some vals) :
    Gives P c (results fn tmps) (retV vals) := by
  obtain ⟨vs, h3, h4⟩ := cRess_sound (P := P) hH hE h1 h2
  have hm : (fn.results.mapM (resF tmps)).run P c.w = .ok vs.toArray c.w := by
    rw [Array.mapM_eq_mapM_toList]
    simp only [Sem.run_map, h3, Result.andThen_ok]
  refine ⟨if h : vs.toArray.size = 1 then vs.toArray[0] else .tuple vs.toArray, ?_, ?_⟩
  · rw [results_eq, Sem.run_bind, hm]
    rfl
  · have hl := h4.length
    match vals, vs, h4, hl with
    | [], [], h4, _ => simp [retV, VRep, Reps]
    | [x], [v], h4, _ => simpa [retV, Reps] using h4
    | x :: y :: r, v :: u :: s, h4, _ => simp only [retV, VRep]; exact ⟨(v :: u :: s).toArray, by simp, by simpa using h4⟩

theorem cFn_inv {f N : Nat} {ac : ACode} {res : List AOp} (h : cFn P f = some (N, ac, res)) : ∃ fn b, P.funcs[f]? = some fn ∧ fn.name ≠ "runtime.NumGoroutine" ∧ fn.body = some b ∧ fn.ntmps = N ∧ cCode P N b = some ac ∧ cRess P fn.results.toList = some res := by
  unfold cFn at h
  split at h
  · cases h
  · rename_i fn hfn
    split at h
    · cases h
    · rename_i hname
      split at h
      · cases h
      · rename_i b hb
        split at h
        · rename_i c r h1 h2
          simp only [Option.some.injEq, Prod.mk.injEq] at h
          obtain ⟨rfl, rfl, rfl⟩ := h
          exact ⟨fn, b, hfn, hname, hb, rfl, h1, h2⟩
        · cases h

theorem init_rep {c : Cx} {vs : Array Value} {args : List AV} {N : Nat} (hr : Reps c vs.toList args) : ∀ i, VRep c ((vs ++ Array.replicate (N - vs.size) undef).getD i undef) (initEnv args i) := by
  intro i
  unfold initEnv
  rw [List.getD_eq_getElem?_getD, Array.getD_eq_getD_getElem?]
  cases hx : args[i]? with
  | none => simp [VRep]
  | some x =>
    obtain ⟨v, h1, h2⟩ := hr.get hx
    have h1' : vs[i]? = some v := by simpa using h1
    have hlt : i < vs.size := (Array.getElem?_eq_some_iff.1 h1').1
    rw [Array.getElem?_append_left hlt, h1']
    simpa using h2

theorem body_sound (hm : P.follows .mixedOrders = true) {f N : Nat} {ac : ACode} {res : List AOp} (hf : cFn P f = some (N, ac, res)) {args : List AV} (hargs : args.length ≤ N) {c : Cx} (hH : HRep c) (hEB : EB c) {vs : Array Value} (hr : Reps c vs.toList args) {K : AV → Hp → Prop}
    (h : awp P ac (PostF res K) ⟨initEnv args, c.h.tick⟩) : Calls P f vs c.w fun e w' => ∃ v c' r, e = .returned v ∧ c'.w = w' ∧ VRep c' v r ∧ Le c c' ∧ HRep c' ∧ Fr c c' ∧ EB c' ∧ Later c c' ∧ K r c'.h := by
  obtain ⟨fn, b, h1, h2, h3, rfl, h5, h6⟩ := cFn_inv hf
  have hvs : vs.size ≤ fn.ntmps := by have := hr.length; simp at this; omega
  obtain ⟨t1, t2, t3⟩ := tick_ctx hH (c.h.ep + 1)
  refine calls_of_wp h1 h3 (wp_mono (awp_sound (c0 := c) hm b ac h5 _ _ _ _ h ⟨⟨c.w, c.S, { c.h with ep := c.h.ep + 1 }, c.φ, c.al⟩, rfl, rfl, t2, fun i => VRep.mono t1 _ _ (init_rep hr i), by simp; omega, rfl, t1, t3, ⟨Nat.le_succ _, fun id h => .inl h⟩, Nat.lt_succ_self _, fun id h => .inl (Nat.lt_succ_of_le (hEB id h))⟩) fun e a w' hx => ?_)
  obtain ⟨ae, σ, rfl, hq, c', hw, hh, hH', hE, hN, hD, hle, hfr, hla, hlt, hal⟩ := hx
  subst hw
  have hEB' : EB c' := fun id h => by
    rcases hal id h with h | h
    · exact Nat.le_of_lt h
    · exact Nat.le_of_eq h.1
  have fin : endK res K σ → ∃ v, (results fn a.tmps).run P c'.w = .ok v c'.w ∧ ∃ v' c'' r, Ending.returned v = .returned v' ∧ c''.w = c'.w ∧ VRep c'' v' r ∧ Le c c'' ∧ HRep c'' ∧ Fr c c'' ∧ EB c'' ∧ Later c c'' ∧ K r c''.h := fun hk => by
    unfold endK at hk
    split at hk
    · rename_i vals hv
      rw [← hh] at hv hk
      obtain ⟨v, g1, g2⟩ := results_sound hH' hE h6 hv
      exact ⟨v, g1, v, c', retV vals, rfl, rfl, g2, hle, hH', hfr, hEB', hla, hk⟩
    · exact hk.elim
  cases ae with
  | normal => exact ⟨hD, fin hq⟩
  | ret => exact ⟨hD, fin hq⟩
  | exit id => exact hq.elim

/-- **A function's contract, from its code.** -/
theorem HC_of_awp (hm : P.follows .mixedOrders = true) {f N : Nat} {ac : ACode} {res : List AOp} (hf : cFn P f = some (N, ac, res)) {args : List AV} (hargs : args.length ≤ N) {h : Hp} {K : AV → Hp → Prop}
    (hw : Fresh h → awp P ac (PostF res K) ⟨initEnv args, h.tick⟩) : HC P f args h K := by
  obtain ⟨fn, b, h1, h2, h3, _⟩ := cFn_inv hf
  refine ⟨⟨fn, b, h1, h2, h3⟩, fun c vs hc hH hEB hr => ?_⟩
  subst hc
  exact body_sound hm hf hargs hH hEB hr (hw (fresh_of hH hEB))

/-- **A function's contract over values, from its code.** -/
theorem HV_of_awp (hm : P.follows .mixedOrders = true) {f N : Nat} {ac : ACode} {res : List AOp} (hf : cFn P f = some (N, ac, res)) {args : List AV} (hargs : args.length ≤ N) (hi : imms args = true) {r : AV}
    (hw : awp P ac (PostF res fun r' h' => lend fuelL h' r' = some r) ⟨initEnv args, emp.tick⟩) (hri : imm r = true) : HV P f args r := by
  obtain ⟨fn, b, h1, h2, h3, _⟩ := cFn_inv hf
  refine ⟨⟨fn, b, h1, h2, h3⟩, hi, hri, fun w S vs hS hr => ?_⟩
  have hH : HRep (Cx0 w S) := ⟨hS, fun id blk h => by simp [Cx0, emp] at h, fun id es h => by simp [Cx0, emp] at h, fun i j h => by rcases h with ⟨_, h⟩ | ⟨_, h⟩ <;> simp [Cx0, emp] at h⟩
  have hEB : EB (Cx0 w S) := fun id h => by simp [Cx0] at h
  refine (body_sound (c := Cx0 w S) hm hf hargs hH hEB hr hw).mono fun e w' hx => ?_
  obtain ⟨v, c', r', he, hw', hv, hle, hH', hfr, _, _, hk⟩ := hx
  subst hw'
  have hM : ∀ b, ¬ (Cx0 w S).M b := fun b ⟨id, h, _⟩ => by rcases h with ⟨blk, h, _⟩ | ⟨es, h⟩ <;> simp [Cx0, emp] at h
  refine ⟨v, he, ?_, ⟨hfr.os, hfr.tape, hfr.output, hfr.size, fun b hb => hfr.block b hb (hM b)⟩⟩
  refine (lend_sound hH' (S0 := fun b => S b ∨ (w.heap.size ≤ b ∧ b < c'.w.heap.size)) (fun b hb => ?_) (fun id blk hb => ?_) _ _ _ _ hk hv).1
  · rcases hfr.S b hb with h | h | h
    · exact .inl h
    · exact (hM b h).elim
    · exact .inr ⟨h, hH'.slt b hb⟩
  · obtain ⟨_, ⟨arr, el, h4, _⟩, _, h5, h6⟩ := hH'.blk id blk hb
    have hlt : (c'.φ id).1 < c'.w.heap.size := (Array.getElem?_eq_some_iff.1 h4).1
    cases hwr : blk.wr with
    | true =>
      rcases hfr.M _ ⟨id, .inl ⟨blk, hb, hwr⟩, rfl⟩ with h | h
      · exact (hM _ h).elim
      · exact .inr ⟨h, hlt⟩
    | false =>
      rcases hfr.S _ (h6 hwr) with h | h | h
      · exact .inl h
      · exact (hM _ h).elim
      · exact .inr ⟨h, hlt⟩

/-- The same, where the answer lies in memory of the call's own. -/
theorem HVF_of_HC {f : Nat} {args : List AV} (hi : imms args = true) {r : AV} (hri : imm r = true) (h : HC P f args emp fun r' h' => lendF fuelL h' r' = some r) : HVF P f args r := by
  refine ⟨h.1, hi, hri, fun w S vs hS hr => ?_⟩
  have hH : HRep (Cx0 w S) := ⟨hS, fun id blk h => by simp [Cx0, emp] at h, fun id es h => by simp [Cx0, emp] at h, fun i j h => by rcases h with ⟨_, h⟩ | ⟨_, h⟩ <;> simp [Cx0, emp] at h⟩
  have hEB : EB (Cx0 w S) := fun id h => by simp [Cx0] at h
  refine (h.2 (Cx0 w S) vs rfl hH hEB hr).mono fun e w' hx => ?_
  obtain ⟨v, c', r', he, hw', hv, hle, hH', hfr, _, _, hk⟩ := hx
  subst hw'
  have hM : ∀ b, ¬ (Cx0 w S).M b := fun b ⟨id, h, _⟩ => by rcases h with ⟨blk, h, _⟩ | ⟨es, h⟩ <;> simp [Cx0, emp] at h
  refine ⟨v, he, ?_, ⟨hfr.os, hfr.tape, hfr.output, hfr.size, fun b hb => hfr.block b hb (hM b)⟩⟩
  refine (lendF_sound hH' (S0 := fun b => w.heap.size ≤ b ∧ b < c'.w.heap.size) (fun id blk hb hwr => ?_) _ _ _ _ hk hv).1
  obtain ⟨_, ⟨arr, el, h4, _⟩, _, h5, h6⟩ := hH'.blk id blk hb
  have hlt : (c'.φ id).1 < c'.w.heap.size := (Array.getElem?_eq_some_iff.1 h4).1
  rcases hfr.M _ ⟨id, .inl ⟨blk, hb, hwr⟩, rfl⟩ with h | h
  · exact (hM _ h).elim
  · exact ⟨h, hlt⟩
theorem HVF_of_awp (hm : P.follows .mixedOrders = true) {f N : Nat} {ac : ACode} {res : List AOp} (hf : cFn P f = some (N, ac, res)) {args : List AV} (hargs : args.length ≤ N) (hi : imms args = true) {r : AV}
    (hw : awp P ac (PostF res fun r' h' => lendF fuelL h' r' = some r) ⟨initEnv args, emp.tick⟩) (hri : imm r = true) : HVF P f args r :=
  HVF_of_HC hi hri (HC_of_awp hm hf hargs fun _ => hw)
end
end Go.Proofs.Hx
