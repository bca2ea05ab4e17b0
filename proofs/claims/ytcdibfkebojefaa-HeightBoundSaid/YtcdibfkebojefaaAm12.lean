import Derived.Test.YtcdibfkebojefaaAm11
set_option linter.unusedVariables false
set_option linter.unusedSimpArgs false
namespace Go.Proofs.Hx

/-! ### Contracts -/
def okFn (P : Program) (f : Nat) : Prop := ∃ fn b, P.funcs[f]? = some fn ∧ fn.name ≠ "runtime.NumGoroutine" ∧ fn.body = some b

/-- No block was made in a later epoch. -/
def EB (c : Cx) : Prop := ∀ id, c.al id → id.1 ≤ c.h.ep
/-- What is made behind 'c' is made in later epochs. -/
structure Later (c c' : Cx) : Prop where
  ep : c.h.ep ≤ c'.h.ep
  al : ∀ id, c'.al id → c.al id ∨ c.h.ep < id.1

/-- Nothing lies in an epoch to come. -/
def Fresh (h : Hp) : Prop := ∀ e s, h.ep < e → h.hp (e, s) = none ∧ h.mp (e, s) = none
theorem fresh_of {c : Cx} (hH : HRep c) (hEB : EB c) : Fresh c.h := fun e s hlt => by
  have key : ¬ c.al (e, s) := fun h => by have := hEB _ h; simp at this; omega
  refine ⟨?_, ?_⟩
  · cases hb : c.h.hp (e, s) with
    | none => rfl
    | some blk => exact (key (hH.blk _ _ hb).1).elim
  · cases hb : c.h.mp (e, s) with
    | none => rfl
    | some es => exact (key (hH.mp _ _ hb).1).elim

/-- A function's contract over the abstract heap. -/
def HC (P : Program) (f : Nat) (args : List AV) (h : Hp) (K : AV → Hp → Prop) : Prop :=
  okFn P f ∧ ∀ (c : Cx) (vs : Array Value), c.h = h → HRep c → EB c → Reps c vs.toList args →
    Calls P f vs c.w fun e w' => ∃ v c' r, e = .returned v ∧ c'.w = w' ∧ VRep c' v r ∧ Le c c' ∧ HRep c' ∧ Fr c c' ∧ EB c' ∧ Later c c' ∧ K r c'.h

/-- What a call that works on values alone leaves as it was. -/
structure FrW (w w' : World) : Prop where
  os : w'.os = w.os
  tape : w'.tape = w.tape
  output : w'.output = w.output
  size : w.heap.size ≤ w'.heap.size
  block : ∀ b, b < w.heap.size → w'.heap[b]? = w.heap[b]?

/-- A function's contract over values. -/
def HV (P : Program) (f : Nat) (args : List AV) (r : AV) : Prop :=
  okFn P f ∧ imms args = true ∧ imm r = true ∧ ∀ (w : World) (S : Nat → Prop) (vs : Array Value), (∀ b, S b → b < w.heap.size) → Reps (Cx0 w S) vs.toList args →
    Calls P f vs w fun e w' => ∃ v, e = .returned v ∧ VRep (Cx0 w' fun b => S b ∨ (w.heap.size ≤ b ∧ b < w'.heap.size)) v r ∧ FrW w w'

/-- A function's contract over values, whose answer lies in memory of its own. -/
def HVF (P : Program) (f : Nat) (args : List AV) (r : AV) : Prop :=
  okFn P f ∧ imms args = true ∧ imm r = true ∧ ∀ (w : World) (S : Nat → Prop) (vs : Array Value), (∀ b, S b → b < w.heap.size) → Reps (Cx0 w S) vs.toList args →
    Calls P f vs w fun e w' => ∃ v, e = .returned v ∧ VRep (Cx0 w' fun b => w.heap.size ≤ b ∧ b < w'.heap.size) v r ∧ FrW w w'
theorem HVF.hv {P : Program} {f : Nat} {args : List AV} {r : AV} (h : HVF P f args r) : HV P f args r :=
  ⟨h.1, h.2.1, h.2.2.1, fun w S vs hS hr => (h.2.2.2 w S vs hS hr).mono fun e w' ⟨v, h1, h2, h3⟩ => ⟨v, h1, imm_tr (c := Cx0 w' fun b => w.heap.size ≤ b ∧ b < w'.heap.size) (c' := Cx0 w' fun b => S b ∨ (w.heap.size ≤ b ∧ b < w'.heap.size)) (fun b hb => ⟨Or.inr hb, rfl⟩) v r h.2.2.1 h2, h3⟩⟩

/-- No slices in it: it stays what it is whatever becomes of memory. -/
def flat : AV → Bool
  | .undef | .lit _ | .nil => true
  | .tup vs => vs.all fun | .lit _ => true | _ => false
  | .agg vs => vs.all fun | .lit _ => true | _ => false
  | _ => false

/-! ### The weakest precondition -/
def ob {α : Type} (o : Option α) (k : α → Prop) : Prop :=
  match o with
  | some a => k a
  | none => False
/-- A guarded operation: carried out, or not. -/
def guardK (g : Option (Nat × Bool)) (env : Nat → AV) (k1 k0 : Prop) : Prop :=
  match g with
  | none => k1
  | some (s, w) => match env s with | .lit (.bool b) => (b = w → k1) ∧ (b = !w → k0) | .tup [] => k0 | _ => False
def stepV (op : AOp) (ρ : AOpd → AV) (h : Hp) (id : Id) : Option (AV × Hp) :=
  match pureV op ρ with
  | some r => some (r, h)
  | none => match readV op ρ h with
    | some r => some (r, h)
    | none => heapV op ρ h id

def fuelL : Nat := 8
/-- A call that works on values: its contract gives what it answers. -/
def QCall (P : Program) (f : Nat) (args : List AV) (h : Hp) (r : AV) : Prop :=
  ∃ args', mapO (lend fuelL h) args = some args' ∧ ((HV P f args' r ∧ (flat r = true ∨ imms args = true)) ∨ HVF P f args' r)

def callA (P : Program) (q : Bool) (f : AV) (args : List AV) (h : Hp) (K : AV → Hp → Prop) : Prop :=
  match f with
  | .fn g caps => if q then ∃ r, QCall P g (args ++ caps) h r ∧ K r h else HC P g (args ++ caps) h fun r h' => Fresh h' → K r h'.tick
  | _ => False

def runOp (P : Program) (dst : Option Nat) (op : AOp) (K : St → Prop) (σ : St) : Prop :=
  match op with
  | .call q f args => callA P q (evA σ.env f) (args.map (evA σ.env)) σ.h fun r h' => K ⟨putA σ.env dst r, h'⟩
  | op => ob (stepV op (evA σ.env) σ.h (σ.h.ep, dst.getD 0)) fun x => K ⟨putA σ.env dst x.1, x.2⟩
def awpOp (P : Program) (o : AOper) (K : St → Prop) (σ : St) : Prop :=
  guardK o.guard σ.env (runOp P o.dst o.op K σ) (K ⟨putA σ.env o.dst (.tup []), σ.h⟩)

def awpOps (P : Program) : List AOper → (St → Prop) → St → Prop
  | [], K, σ => K σ
  | o :: l, K, σ => awpOp P o (awpOps P l K) σ

def idOf : AV → Option Id
  | .ptr id _ | .sl id .. | .map id => some id
  | _ => none
/-- Not of one block. -/
def sepV (x y : AV) : Prop :=
  match idOf x, idOf y with
  | some i, some j => i ≠ j
  | _, _ => True
def sepAll : List (Nat × Nat) → (Nat → AV) → Prop
  | [], _ => True
  | (a, b) :: r, env => sepV (env a) (env b) ∧ sepAll r env

def seqK (P : Program) (k : St → Prop) (Q : AEx → St → Prop) : AEx → St → Prop
  | .normal, σ => k σ
  | e, σ => Q e σ
def blockK (id : Nat) (Q : AEx → St → Prop) : AEx → St → Prop
  | .exit id', σ => if id' = id then Q .normal σ else Q (.exit id') σ
  | e, σ => Q e σ

def awp (P : Program) : ACode → (AEx → St → Prop) → St → Prop
  | .skip, Q, σ => Q .normal σ
  | .ops l seps, Q, σ => Fresh σ.h → awpOps P l (fun σ' => sepAll seps σ'.env ∧ Q .normal σ') ⟨σ.env, σ.h.tick⟩
  | .seq a b, Q, σ => awp P a (seqK P (awp P b Q) Q) σ
  | .cond c a b, Q, σ => match evA σ.env c with | .lit (.bool t) => (t = true → awp P a Q σ) ∧ (t = false → awp P b Q σ) | _ => False
  | .block id c, Q, σ => awp P c (blockK id Q) σ
  | .loop c, Q, σ => ∃ (I : Nat → St → Prop), (∃ n, I n σ) ∧ ∀ n σ, I n σ → awp P c (seqK P (fun σ' => ∃ m, m < n ∧ I m σ') Q) σ
  | .exit id, Q, σ => Q (.exit id) σ
  | .ret, Q, σ => Q .ret σ

/-! ### The compiler, on -/
def dstOk (N : Nat) : Option Nat → Bool
  | some d => decide (d < N)
  | none => true
def cOper (P : Program) (q : Bool) (N : Nat) (ops : Array Oper) (o : Oper) : Option AOper :=
  match cOp P q o.op with
  | none => none
  | some op =>
    if dstOk N o.dst = true then
      match o.guard with
      | none => some ⟨o.dst, op, none⟩
      | some (j, want) => match (ops[j]?).bind (·.dst) with
        | some s => if s < N then some ⟨o.dst, op, some (s, want)⟩ else none
        | none => none
    else none

/-- The relation between the abstract state and the real one; 'D': the slots that this region has written. -/
def RS (N : Nat) (c0 : Cx) (D : Nat → Prop) (σ : St) (a : Act) (w : World) : Prop :=
  ∃ c : Cx, c.w = w ∧ c.h = σ.h ∧ HRep c ∧ (∀ i, VRep c (a.tmps.getD i undef) (σ.env i)) ∧ a.tmps.size = N ∧ a.defers = [] ∧ Le c0 c ∧ Fr c0 c ∧ Later c0 c ∧
    c0.h.ep < c.h.ep ∧ ∀ id, c.al id → id.1 < c.h.ep ∨ (id.1 = c.h.ep ∧ D id.2)

section
variable {P : Program}

theorem env_rep {c : Cx} {a : Act} {env : Nat → AV} (h : ∀ i, VRep c (a.tmps.getD i undef) (env i)) : ∀ x y, cOpd x = some y → VRep c (a.eval x) (evA env y) := by
  intro x y hxy
  cases x with
  | tmp t => simp only [cOpd, Option.some.injEq] at hxy; subst hxy; exact h t
  | const v => simp only [cOpd, Option.map_eq_some_iff] at hxy; obtain ⟨z, h1, rfl⟩ := hxy; exact toAV_sound h1
  | func f => simp only [cOpd, Option.some.injEq] at hxy; subst hxy; simp only [evA, VRep, Act.eval]; exact ⟨#[], rfl, by simp [Reps]⟩
  | global g => simp [cOpd] at hxy

theorem put_rep {c : Cx} {a : Act} {env : Nat → AV} {dst : Option Nat} {v : Value} {r : AV} (h : ∀ i, VRep c (a.tmps.getD i undef) (env i)) (hv : VRep c v r) (hd : ∀ d, dst = some d → d < a.tmps.size) :
    ∀ i, VRep c ((a.put dst v).tmps.getD i undef) (putA env dst r i) := by
  intro i
  cases dst with
  | none => exact h i
  | some d =>
    have hd := hd d rfl
    simp only [Act.put, putA, upd]
    by_cases e : i = d
    · subst e
      rw [if_pos rfl]
      simpa [hd] using hv
    · rw [if_neg e]
      have := h i
      have he : (a.tmps.setIfInBounds d v).getD i undef = a.tmps.getD i undef := by
        simp [Array.getElem?_setIfInBounds_ne (Ne.symm e)]
      rw [he]
      exact this

theorem put_size (a : Act) (dst : Option Nat) (v : Value) : (a.put dst v).tmps.size = a.tmps.size := by cases dst <;> simp [Act.put]
theorem put_defers (a : Act) (dst : Option Nat) (v : Value) : (a.put dst v).defers = a.defers := by cases dst <;> rfl

/-- One operation in the state: what is to be shown of it. -/
theorem RS.step {N : Nat} {c0 c c' : Cx} {D : Nat → Prop} {σ : St} {a : Act} {dst : Option Nat} {v : Value} {r : AV} (hE : ∀ i, VRep c (a.tmps.getD i undef) (σ.env i)) (hN : a.tmps.size = N) (hD : a.defers = []) (h0 : Le c0 c) (f0 : Fr c0 c) (l0 : Later c0 c) (hlt : c0.h.ep < c.h.ep)
    (hd : ∀ d, dst = some d → d < N) (hle : Le c c') (hH' : HRep c') (hfr : Fr c c') (hv : VRep c' v r) (hlt' : c.h.ep ≤ c'.h.ep) (hal1 : ∀ id, c'.al id → c.al id ∨ c.h.ep ≤ id.1) (hal2 : ∀ id, c'.al id → id.1 < c'.h.ep ∨ (id.1 = c'.h.ep ∧ D id.2)) :
    RS N c0 D ⟨putA σ.env dst r, c'.h⟩ (a.put dst v) c'.w :=
  ⟨c', rfl, rfl, hH', put_rep (fun i => VRep.mono hle _ _ (hE i)) hv (by rw [hN]; exact hd), by rw [put_size, hN], by rw [put_defers, hD], h0.trans hle, f0.trans hfr,
    ⟨Nat.le_trans l0.ep hlt', fun id h => by
      rcases hal1 id h with h | h
      · exact l0.al id h
      · exact .inr (Nat.lt_of_lt_of_le hlt h)⟩, Nat.lt_of_lt_of_le hlt hlt', hal2⟩

/-- What the guard says. -/
def wantedA (o : AOper) (env : Nat → AV) : Option Bool :=
  match o.guard with
  | none => some true
  | some (s, want) => match env s with | .lit (.bool b) => some (b == want) | .tup [] => some false | _ => none

theorem guardK_wanted {o : AOper} {env : Nat → AV} {k1 k0 : Prop} : guardK o.guard env k1 k0 ↔ match wantedA o env with | none => False | some true => k1 | some false => k0 := by
  unfold guardK wantedA
  cases o.guard with
  | none => rfl
  | some p =>
    obtain ⟨s, w⟩ := p
    simp only
    cases env s <;> try rfl
    · rename_i u
      cases u <;> try rfl
      rename_i b
      cases b <;> cases w <;> simp
    · rename_i u
      cases u <;> rfl

theorem guard_want {N : Nat} {q : Bool} {ops : Array Oper} {o : Oper} {ao : AOper} {c : Cx} {a : Act} {env : Nat → AV} (hc : cOper P q N ops o = some ao) (hE : ∀ i, VRep c (a.tmps.getD i undef) (env i)) (hN : a.tmps.size = N) {b : Bool}
    (hw : wantedA ao env = some b) : Region.wanted o (yielded ops a.tmps) = b := by
  unfold cOper at hc
  split at hc
  · cases hc
  · split at hc
    · split at hc
      · rename_i hg
        cases hc
        simp only [wantedA, Option.some.injEq] at hw
        subst hw
        simp [Region.wanted, hg]
      · rename_i j want hg
        split at hc
        · rename_i s hs
          split at hc
          · rename_i hsN
            cases hc
            simp only [wantedA] at hw
            split at hw
            · rename_i t ht
              simp only [Option.some.injEq] at hw
              subst hw
              have := hE s
              rw [ht] at this
              have hv := this.lit
              have hy : yielded ops a.tmps j = some t := by
                unfold yielded
                rw [hs]
                have hlt : s < a.tmps.size := hN ▸ hsN
                have e : a.tmps[s]? = some (.bool t) := by
                  rw [Array.getElem?_eq_getElem hlt]
                  simpa [hlt] using hv
                simp [e]
              simp only [Region.wanted, hg, hy]
              cases t <;> cases want <;> rfl
            · rename_i ht
              simp only [Option.some.injEq] at hw
              subst hw
              have := hE s
              rw [ht] at this
              simp only [VRep] at this
              obtain ⟨arr, hv, hr⟩ := this
              have hy : yielded ops a.tmps j = none := by
                unfold yielded
                rw [hs]
                have hlt : s < a.tmps.size := hN ▸ hsN
                have e : a.tmps[s]? = some (.tuple arr) := by
                  rw [Array.getElem?_eq_getElem hlt]
                  simpa [hlt] using hv
                simp [e]
              simp only [Region.wanted, hg, hy]
              cases want <;> rfl
            · cases hw
          · cases hc
        · cases hc
    · cases hc

theorem dst_ok {N : Nat} {q : Bool} {ops : Array Oper} {o : Oper} {ao : AOper} (hc : cOper P q N ops o = some ao) : cOp P q o.op = some ao.op ∧ ao.dst = o.dst ∧ ∀ d, o.dst = some d → d < N := by
  unfold cOper at hc
  split at hc
  · cases hc
  · rename_i op hop
    split at hc
    · rename_i hd
      have hd' : ∀ d, o.dst = some d → d < N := fun d h => by rw [h] at hd; simpa [dstOk] using hd
      split at hc
      · cases hc; exact ⟨hop, rfl, hd'⟩
      · split at hc
        · split at hc
          · cases hc; exact ⟨hop, rfl, hd'⟩
          · cases hc
        · cases hc
    · cases hc

theorem execOp_call {ρ : Operand → Value} {o : Oper} {cl : Call} {f : Operand} (ho : o.op = .call cl) (hf : cl.callee = .value f) {g : Nat} {cap : Array Value} (hv : ρ f = .func (.func g) #[] cap) (hok : okFn P g) (w : World) :
    (execOp ρ o).run P w = .ok (.enter g (cl.args.map ρ ++ cap)) w := by
  obtain ⟨dst, op, type, pos, after, guard⟩ := o
  obtain ⟨callee, args, tys⟩ := cl
  simp only at ho hf
  subst ho hf
  obtain ⟨fn, b, h1, h2, h3⟩ := hok
  simp [execOp, resolve, hv, Deferred.ofValue, Go.invoke, callFunc, h1, h2, h3]

/-- A call on values, carried out in the caller's context. -/
theorem qcall_sound {c : Cx} (hH : HRep c) {g : Nat} {args : List AV} {r : AV} (hq : QCall P g args c.h r) {vs : Array Value} (hr : Reps c vs.toList args) :
    okFn P g ∧ Calls P g vs c.w fun e w' => ∃ v c', e = .returned v ∧ c'.w = w' ∧ c'.h = c.h ∧ VRep c' v r ∧ Le c c' ∧ HRep c' ∧ Fr c c' ∧ c'.al = c.al := by
  obtain ⟨args', hl, hq⟩ := hq
  refine ⟨by rcases hq with ⟨h, _⟩ | h <;> exact h.1, ?_⟩
  have hblt : ∀ id blk, c.h.hp id = some blk → (c.φ id).1 < c.w.heap.size := fun id blk hb => by
    obtain ⟨_, ⟨arr, el, h1, _⟩, _⟩ := hH.blk id blk hb
    exact (Array.getElem?_eq_some_iff.1 h1).1
  have hmlt : ∀ id es, c.h.mp id = some es → (c.φ id).1 < c.w.heap.size := fun id es hb => by
    obtain ⟨_, _, _, ents, cl, h1, _⟩ := hH.mp id es hb
    exact (Array.getElem?_eq_some_iff.1 h1).1
  -- the context behind the call, for a set of blocks that stay
  have ctx : ∀ (w' : World) (S' : Nat → Prop), FrW c.w w' → (∀ b, c.S b → S' b) → (∀ b, S' b → c.S b ∨ (c.w.heap.size ≤ b ∧ b < w'.heap.size)) →
      Le c ⟨w', S', c.h, c.φ, c.al⟩ ∧ HRep ⟨w', S', c.h, c.φ, c.al⟩ ∧ Fr c ⟨w', S', c.h, c.φ, c.al⟩ := by
    intro w' S' hfr h1 h2
    have hle : Le c ⟨w', S', c.h, c.φ, c.al⟩ := ⟨fun b hb => ⟨h1 b hb, hfr.block b (hH.slt b hb)⟩, fun _ h => h, fun _ _ => rfl, fun id _ blk hb => ⟨blk, hb, rfl, fun arr el fr ha => ⟨arr, by
      rw [hfr.block _ (hblt id blk hb)]; exact ha, rfl⟩⟩⟩
    refine ⟨hle, ⟨fun b hb => ?_, fun id blk hb => ?_, fun id es hb => ?_, hH.inj⟩, ⟨hfr.os, hfr.tape, hfr.output, hfr.size, fun b hb _ => hfr.block b hb, fun b hb => .inl hb, fun b hb => ?_⟩⟩
    · rcases h2 b hb with h | h
      · exact Nat.lt_of_lt_of_le (hH.slt b h) hfr.size
      · exact h.2
    · obtain ⟨a1, ⟨arr, el, a2, a3⟩, a4, a5, a6⟩ := hH.blk id blk hb
      have he := hfr.block _ (hblt id blk hb)
      refine ⟨a1, ⟨arr, el, by rw [he]; exact a2, a3⟩, CRep.mono hle _ he _ _ a4, fun hw hs => ?_, fun hw => h1 _ (a6 hw)⟩
      rcases h2 _ hs with h | h
      · exact a5 hw h
      · have h' : c.w.heap.size ≤ (c.φ id).1 := h.1
        have := hblt id blk hb; omega
    · obtain ⟨a1, a2, a3, ents, cl, a4, a5⟩ := hH.mp id es hb
      have he := hfr.block _ (hmlt id es hb)
      refine ⟨a1, a2, fun hs => ?_, ents, cl, by rw [he]; exact a4, ERep.mono hle _ _ a5⟩
      rcases h2 _ hs with h | h
      · exact a3 h
      · have h' : c.w.heap.size ≤ (c.φ id).1 := h.1
        have := hmlt id es hb; omega
    · rcases h2 b hb with h | h
      · exact .inl h
      · exact .inr (.inr h.1)
  have hrepL : Reps (Cx0 c.w fun b => b < c.w.heap.size) vs.toList args' := by
    refine Reps.of_get (by rw [hr.length, mapO_length hl]) fun i u x hu hx => ?_
    obtain ⟨y, hy, e⟩ := mapO_get hl hx
    obtain ⟨u', h1, h2⟩ := hr.get hy
    rw [hu] at h1
    cases h1
    exact (lend_sound hH (S0 := fun b => b < c.w.heap.size) hH.slt (fun id blk hb => hblt id blk hb) _ _ _ _ e h2).1
  rcases hq with ⟨⟨hok, hia, hir, hv⟩, hcase⟩ | ⟨hok, hia, hir, hv⟩
  rotate_left
  · refine (hv c.w (fun b => b < c.w.heap.size) vs (fun b h => h) hrepL).mono fun e w' hh => ?_
    obtain ⟨v, he, hvr, hfr⟩ := hh
    obtain ⟨h1, h2, h3⟩ := ctx w' (fun b => c.S b ∨ (c.w.heap.size ≤ b ∧ b < w'.heap.size)) hfr (fun b h => .inl h) (fun b h => h)
    exact ⟨v, ⟨w', fun b => c.S b ∨ (c.w.heap.size ≤ b ∧ b < w'.heap.size), c.h, c.φ, c.al⟩, he, rfl, rfl, imm_tr (c := Cx0 w' fun b => c.w.heap.size ≤ b ∧ b < w'.heap.size) (c' := ⟨w', fun b => c.S b ∨ (c.w.heap.size ≤ b ∧ b < w'.heap.size), c.h, c.φ, c.al⟩) (fun b h => ⟨.inr h, rfl⟩) _ _ hir hvr, h1, h2, h3, rfl⟩
  rcases hcase with hflat | himm
  · -- lent
    have hrep : Reps (Cx0 c.w fun b => b < c.w.heap.size) vs.toList args' := by
      refine Reps.of_get (by rw [hr.length, mapO_length hl]) fun i u x hu hx => ?_
      obtain ⟨y, hy, e⟩ := mapO_get hl hx
      obtain ⟨u', h1, h2⟩ := hr.get hy
      rw [hu] at h1
      cases h1
      exact (lend_sound hH (S0 := fun b => b < c.w.heap.size) hH.slt (fun id blk hb => hblt id blk hb) _ _ _ _ e h2).1
    refine (hv c.w (fun b => b < c.w.heap.size) vs (fun b h => h) hrep).mono fun e w' hh => ?_
    obtain ⟨v, he, hvr, hfr⟩ := hh
    obtain ⟨h1, h2, h3⟩ := ctx w' c.S hfr (fun b h => h) (fun b h => .inl h)
    refine ⟨v, ⟨w', c.S, c.h, c.φ, c.al⟩, he, rfl, rfl, ?_, h1, h2, h3, rfl⟩
    -- flat values
    have fl : ∀ (us : List Value) (xs : List AV), (xs.all fun | .lit _ => true | _ => false) = true → Reps (Cx0 w' fun b => b < c.w.heap.size ∨ (c.w.heap.size ≤ b ∧ b < w'.heap.size)) us xs → Reps ⟨w', c.S, c.h, c.φ, c.al⟩ us xs := by
      intro us xs hx hr
      refine Reps.of_get hr.length fun i u x hu hxi => ?_
      obtain ⟨u', h4, h5⟩ := hr.get hxi
      rw [hu] at h4
      cases h4
      have := List.all_eq_true.1 hx x (List.mem_of_getElem? hxi)
      cases x <;> simp at this
      simpa [VRep] using h5
    cases r <;> simp only [flat, Bool.false_eq_true] at hflat
    case undef => trivial
    case lit u => simpa [VRep] using hvr
    case nil => simpa [VRep] using hvr
    case tup xs => simp only [VRep] at hvr ⊢; obtain ⟨arr, e, hr⟩ := hvr; exact ⟨arr, e, fl _ _ hflat hr⟩
    case agg xs => simp only [VRep] at hvr ⊢; obtain ⟨arr, e, hr⟩ := hvr; exact ⟨arr, e, fl _ _ hflat hr⟩
  · -- nothing lent
    have same : args' = args := by
      have : ∀ (xs ys : List AV), imms xs = true → mapO (lend fuelL c.h) xs = some ys → ys = xs := by
        intro xs
        induction xs with
        | nil => intro ys _ h; simp [mapO] at h; exact h
        | cons x xs ih =>
          intro ys hi h
          simp only [imms, Bool.and_eq_true] at hi
          simp only [mapO] at h
          split at h
          · rename_i y zs h1 h2
            cases h
            have : y = x := by
              unfold fuelL at h1
              rw [show (8 : Nat) = 7 + 1 from rfl] at h1
              simp only [lend, hi.1, if_true, Option.some.injEq] at h1
              exact h1.symm
            rw [this, ih zs hi.2 h2]
          · cases h
      exact this args args' himm hl
    subst same
    have hrep : Reps (Cx0 c.w c.S) vs.toList args' := imms_tr (c := c) (c' := Cx0 c.w c.S) (fun b h => ⟨h, rfl⟩) _ _ hia hr
    refine (hv c.w c.S vs hH.slt hrep).mono fun e w' hh => ?_
    obtain ⟨v, he, hvr, hfr⟩ := hh
    obtain ⟨h1, h2, h3⟩ := ctx w' (fun b => c.S b ∨ (c.w.heap.size ≤ b ∧ b < w'.heap.size)) hfr (fun b h => .inl h) (fun b h => h)
    exact ⟨v, ⟨w', fun b => c.S b ∨ (c.w.heap.size ≤ b ∧ b < w'.heap.size), c.h, c.φ, c.al⟩, he, rfl, rfl, imm_tr (c := Cx0 w' fun b => c.S b ∨ (c.w.heap.size ≤ b ∧ b < w'.heap.size)) (c' := ⟨w', fun b => c.S b ∨ (c.w.heap.size ≤ b ∧ b < w'.heap.size), c.h, c.φ, c.al⟩) (fun b h => ⟨h, rfl⟩) _ _ hir hvr, h1, h2, h3, rfl⟩

/-- A contract over values serves as one over the abstract heap. -/
theorem HC.of_HV {f : Nat} {args : List AV} {h : Hp} {r : AV} {K : AV → Hp → Prop} (hq : QCall P f args h r) (hk : K r h) : HC P f args h K := by
  have hok : okFn P f := by obtain ⟨_, _, ⟨h1, _⟩ | h1⟩ := hq <;> exact h1.1
  refine ⟨hok, fun c vs hc hH hEB hr => ?_⟩
  subst hc
  refine (qcall_sound hH hq hr).2.mono fun e w' hh => ?_
  obtain ⟨v, c', h1, h2, h3, h4, h5, h6, h7, h8⟩ := hh
  exact ⟨v, c', r, h1, h2, h4, h5, h6, h7, fun id h => by rw [h8] at h; rw [h3]; exact hEB id h, ⟨by rw [h3]; exact Nat.le_refl _, fun id h => by rw [h8] at h; exact .inl h⟩, by rw [h3]; exact hk⟩
theorem HC.mono {f : Nat} {args : List AV} {h : Hp} {K K' : AV → Hp → Prop} (hh : HC P f args h K) (hk : ∀ r h', K r h' → K' r h') : HC P f args h K' := by
  refine ⟨hh.1, fun c vs hc hH hEB hr => (hh.2 c vs hc hH hEB hr).mono fun e w' hx => ?_⟩
  obtain ⟨v, c', r, h1, h2, h3, h4, h5, h6, h7, h8, h9⟩ := hx
  exact ⟨v, c', r, h1, h2, h3, h4, h5, h6, h7, h8, hk _ _ h9⟩
end
end Go.Proofs.Hx
