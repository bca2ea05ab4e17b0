import Derived.Test.YtcdibfkebojefaaAm17
set_option linter.unusedVariables false
set_option linter.unusedSimpArgs false
namespace Go.Proofs.Hx

/-! ### How the code is walked -/
theorem ob_congr {α : Type} {o o' : Option α} {k : α → Prop} (h : o = o') : ob o k = ob o' k := by rw [h]
theorem ob_some {α : Type} (a : α) (k : α → Prop) : ob (some a) k = k a := rfl
theorem ob_none {α : Type} (k : α → Prop) : ob none k = False := rfl
theorem ob_ite {α : Type} {c : Prop} [Decidable c] (a b : Option α) (k : α → Prop) : ob (if c then a else b) k = ((c → ob a k) ∧ (¬ c → ob b k)) := by
  by_cases h : c <;> simp [h]
theorem ob_ite_none {α : Type} {c : Prop} [Decidable c] (a : Option α) (k : α → Prop) : ob (if c then a else none) k = (c ∧ ob a k) := by
  by_cases h : c <;> simp [h, ob_none]
theorem ob_map {α β : Type} (f : α → β) (o : Option α) (k : β → Prop) : ob (o.map f) k = ob o (fun a => k (f a)) := by cases o <;> rfl

/-- A guard, by what its slot holds. -/
def gK (v : AV) (w : Bool) (k1 k0 : Prop) : Prop := match v with | .lit (.bool b) => (b = w → k1) ∧ (b = !w → k0) | .tup [] => k0 | _ => False
theorem guardK_none (env : Nat → AV) (k1 k0 : Prop) : guardK none env k1 k0 = k1 := rfl
theorem guardK_some (s : Nat) (w : Bool) (env : Nat → AV) (k1 k0 : Prop) : guardK (some (s, w)) env k1 k0 = gK (env s) w k1 k0 := rfl
theorem gK_congr {v v' : AV} {w : Bool} {k1 k0 : Prop} (h : v = v') : gK v w k1 k0 = gK v' w k1 k0 := by rw [h]
theorem gK_tt (k1 k0 : Prop) : gK (.lit (.bool true)) true k1 k0 = k1 := by simp [gK]
theorem gK_tf (k1 k0 : Prop) : gK (.lit (.bool true)) false k1 k0 = k0 := by simp [gK]
theorem gK_ft (k1 k0 : Prop) : gK (.lit (.bool false)) true k1 k0 = k0 := by simp [gK]
theorem gK_ff (k1 k0 : Prop) : gK (.lit (.bool false)) false k1 k0 = k1 := by simp [gK]

theorem awpOps_nil (P : Program) (K : St → Prop) (σ : St) : awpOps P [] K σ = K σ := rfl
/-- One operation. -/
def opK (P : Program) (dst : Option Nat) (op : AOp) (K : St → Prop) (env : Nat → AV) (h : Hp) : Prop := runOp P dst op K ⟨env, h⟩
theorem awpOps_go (P : Program) (d : Option Nat) (op : AOp) (l : List AOper) (K : St → Prop) (env : Nat → AV) (h : Hp) :
    awpOps P (⟨d, op, none⟩ :: l) K ⟨env, h⟩ = opK P d op (awpOps P l K) env h := rfl
theorem awpOps_gt {P : Program} {d : Option Nat} {op : AOp} {s : Nat} {w : Bool} {l : List AOper} {K : St → Prop} {env : Nat → AV} {h : Hp} (e : env s = .lit (.bool w)) :
    awpOps P (⟨d, op, some (s, w)⟩ :: l) K ⟨env, h⟩ = opK P d op (awpOps P l K) env h := by
  show guardK (some (s, w)) env _ _ = _
  simp only [guardK, e]
  cases w <;> simp [opK]
theorem awpOps_gf {P : Program} {d : Option Nat} {op : AOp} {s : Nat} {w : Bool} {l : List AOper} {K : St → Prop} {env : Nat → AV} {h : Hp} (e : env s = .lit (.bool (!w))) :
    awpOps P (⟨d, op, some (s, w)⟩ :: l) K ⟨env, h⟩ = awpOps P l K ⟨putA env d (.tup []), h⟩ := by
  show guardK (some (s, w)) env _ _ = _
  simp only [guardK, e]
  cases w <;> simp
/-- A guard that was not carried out itself. -/
theorem awpOps_gu {P : Program} {d : Option Nat} {op : AOp} {s : Nat} {w : Bool} {l : List AOper} {K : St → Prop} {env : Nat → AV} {h : Hp} (e : env s = .tup []) :
    awpOps P (⟨d, op, some (s, w)⟩ :: l) K ⟨env, h⟩ = awpOps P l K ⟨putA env d (.tup []), h⟩ := by
  show guardK (some (s, w)) env _ _ = _
  simp only [guardK, e]
/-- A guard, both ways. -/
theorem awpOps_gd {P : Program} {d : Option Nat} {op : AOp} {s : Nat} {w : Bool} {l : List AOper} {K : St → Prop} {env : Nat → AV} {h : Hp} {b : Bool} (e : env s = .lit (.bool b))
    (h1 : b = true → awpOps P (⟨d, op, some (s, w)⟩ :: l) K ⟨env, h⟩) (h0 : b = false → awpOps P (⟨d, op, some (s, w)⟩ :: l) K ⟨env, h⟩) : awpOps P (⟨d, op, some (s, w)⟩ :: l) K ⟨env, h⟩ := by
  cases b
  · exact h0 rfl
  · exact h1 rfl
/-- A region's end. -/
def endOps (seps : List (Nat × Nat)) (Q : AEx → St → Prop) (σ : St) : Prop := sepAll seps σ.env ∧ Q .normal σ
theorem endOps_eq (seps : List (Nat × Nat)) (Q : AEx → St → Prop) (env : Nat → AV) (h : Hp) : endOps seps Q ⟨env, h⟩ = (sepAll seps env ∧ Q .normal ⟨env, h⟩) := rfl
/-- A call. -/
def callG (P : Program) (d : Option Nat) (K : St → Prop) (env : Nat → AV) (h : Hp) (q : Bool) (f : AV) (args : List AV) : Prop := callA P q f args h fun r h' => K ⟨putA env d r, h'⟩
theorem opK_call (P : Program) (d : Option Nat) (q : Bool) (f : AOpd) (args : List AOpd) (K : St → Prop) (env : Nat → AV) (h : Hp) :
    opK P d (.call q f args) K env h = callG P d K env h q (evA env f) (args.map (evA env)) := rfl
theorem lend_imm {h : Hp} {n : Nat} {a : AV} (hi : imm a = true) : lend n h a = some a := by
  cases n <;> simp [lend, hi]
theorem lends_imm {h : Hp} {n : Nat} : ∀ {as : List AV}, imms as = true → mapO (lend n h) as = some as
  | [], _ => rfl
  | a :: as, hi => by
    simp only [imms, Bool.and_eq_true] at hi
    simp only [mapO, lend_imm hi.1, lends_imm hi.2]
/-- A call of a function whose contract is over values, on values. -/
theorem call_imm {P : Program} {d : Option Nat} {K : St → Prop} {env : Nat → AV} {h : Hp} {g : Nat} {caps args : List AV} {r : AV} (hv : HV P g (args ++ caps) r) (k : K ⟨putA env d r, h.tick⟩) : callG P d K env h false (.fn g caps) args := by
  show HC P g (args ++ caps) h fun r h' => Fresh h' → K ⟨putA env d r, h'.tick⟩
  exact HC.of_HV ⟨_, lends_imm hv.2.1, .inl ⟨hv, .inr hv.2.1⟩⟩ fun _ => k
theorem call_immq {P : Program} {d : Option Nat} {K : St → Prop} {env : Nat → AV} {h : Hp} {g : Nat} {caps args : List AV} {r : AV} (hv : HV P g (args ++ caps) r) (k : K ⟨putA env d r, h⟩) : callG P d K env h true (.fn g caps) args :=
  ⟨r, ⟨_, lends_imm hv.2.1, .inl ⟨hv, .inr hv.2.1⟩⟩, k⟩
/-- A call whose arguments are lent. -/
theorem call_lend {P : Program} {d : Option Nat} {K : St → Prop} {env : Nat → AV} {h : Hp} {g : Nat} {caps args args' : List AV} {r : AV} (hl : mapO (lend fuelL h) (args ++ caps) = some args') (hv : HV P g args' r) (hr : flat r = true) (k : K ⟨putA env d r, h.tick⟩) : callG P d K env h false (.fn g caps) args := by
  show HC P g (args ++ caps) h fun r h' => Fresh h' → K ⟨putA env d r, h'.tick⟩
  exact HC.of_HV ⟨_, hl, .inl ⟨hv, .inl hr⟩⟩ fun _ => k
theorem call_lendq {P : Program} {d : Option Nat} {K : St → Prop} {env : Nat → AV} {h : Hp} {g : Nat} {caps args args' : List AV} {r : AV} (hl : mapO (lend fuelL h) (args ++ caps) = some args') (hv : HV P g args' r) (hr : flat r = true) (k : K ⟨putA env d r, h⟩) : callG P d K env h true (.fn g caps) args :=
  ⟨r, ⟨_, hl, .inl ⟨hv, .inl hr⟩⟩, k⟩
/-- A call whose arguments are lent, and whose answer is the call's own. -/
theorem call_own {P : Program} {d : Option Nat} {K : St → Prop} {env : Nat → AV} {h : Hp} {g : Nat} {caps args args' : List AV} {r : AV} (hl : mapO (lend fuelL h) (args ++ caps) = some args') (hv : HVF P g args' r) (k : K ⟨putA env d r, h.tick⟩) : callG P d K env h false (.fn g caps) args := by
  show HC P g (args ++ caps) h fun r h' => Fresh h' → K ⟨putA env d r, h'.tick⟩
  exact HC.of_HV ⟨_, hl, .inr hv⟩ fun _ => k
theorem call_ownq {P : Program} {d : Option Nat} {K : St → Prop} {env : Nat → AV} {h : Hp} {g : Nat} {caps args args' : List AV} {r : AV} (hl : mapO (lend fuelL h) (args ++ caps) = some args') (hv : HVF P g args' r) (k : K ⟨putA env d r, h⟩) : callG P d K env h true (.fn g caps) args :=
  ⟨r, ⟨_, hl, .inr hv⟩, k⟩
theorem call_hc {P : Program} {d : Option Nat} {K : St → Prop} {env : Nat → AV} {h : Hp} {g : Nat} {caps args : List AV} (hc : HC P g (args ++ caps) h fun r h' => Fresh h' → K ⟨putA env d r, h'.tick⟩) : callG P d K env h false (.fn g caps) args := hc
theorem Fresh.tick {h : Hp} (hf : Fresh h) : Fresh h.tick := fun e s he => hf e s (Nat.lt_of_succ_lt he)
theorem Fresh.push {h : Hp} (hf : Fresh h) (id : Id) (cells : List AV) (hid : id.1 ≤ h.ep) : Fresh (h.push id cells) := fun e s he => by
  refine ⟨?_, (hf e s he).2⟩
  simp only [Hp.push, upd]
  split
  · rename_i e'; subst e'; exact absurd he (Nat.not_lt.2 hid)
  · exact (hf e s he).1
theorem Fresh.put {h : Hp} (hf : Fresh h) (id : Id) (cells : List AV) (hid : id.1 ≤ h.ep) : Fresh (h.put id cells) := hf.push id cells hid
theorem Fresh.kill {h : Hp} (hf : Fresh h) (id : Id) : Fresh (h.kill id) := fun e s he => by
  refine ⟨?_, (hf e s he).2⟩
  simp only [Hp.kill, upd]
  split
  · rfl
  · exact (hf e s he).1

theorem evA_t (env : Nat → AV) (i : Nat) : evA env (.t i) = env i := rfl
theorem evA_c (env : Nat → AV) (v : AV) : evA env (.c v) = v := rfl
theorem putA_none (env : Nat → AV) (v : AV) : putA env none v = env := rfl
theorem putA_some (env : Nat → AV) (d : Nat) (v : AV) : putA env (some d) v = upd env d v := rfl
theorem upd_get {α : Type} (f : Nat → α) (i j : Nat) (v : α) : upd f i v j = if j = i then v else f j := rfl
theorem upd_self {ι α : Type} [DecidableEq ι] (f : ι → α) (i : ι) (v : α) : upd f i v i = v := by simp [upd]
theorem upd_keep {α : Type} (f : Id → Option α) (i j : Id) (v : Option α) (h1 : (f i).isSome = true) (h2 : f j = none) : upd f j v i = f i := by
  unfold upd
  split
  · rename_i e; subst e; rw [h2] at h1; cases h1
  · rfl
theorem initEnv_eq (args : List AV) (i : Nat) : initEnv args i = args.getD i .undef := rfl


/-- Code, by its ends. -/
theorem awp_skip (P : Program) (Q : AEx → St → Prop) (σ : St) : awp P .skip Q σ = Q .normal σ := rfl
theorem awp_seq (P : Program) (a b : ACode) (Q : AEx → St → Prop) (σ : St) : awp P (.seq a b) Q σ = awp P a (seqK P (awp P b Q) Q) σ := rfl
theorem awp_exit (P : Program) (n : Nat) (Q : AEx → St → Prop) (σ : St) : awp P (.exit n) Q σ = Q (.exit n) σ := rfl
theorem awp_ret (P : Program) (Q : AEx → St → Prop) (σ : St) : awp P .ret Q σ = Q .ret σ := rfl
theorem awp_block (P : Program) (n : Nat) (c : ACode) (Q : AEx → St → Prop) (σ : St) : awp P (.block n c) Q σ = awp P c (blockK n Q) σ := rfl
theorem awp_cond_t {P : Program} {x : AOpd} {a b : ACode} {Q : AEx → St → Prop} {env : Nat → AV} {h : Hp} (e : evA env x = .lit (.bool true)) : awp P (.cond x a b) Q ⟨env, h⟩ = awp P a Q ⟨env, h⟩ := by
  simp [awp, e]
theorem awp_cond_f {P : Program} {x : AOpd} {a b : ACode} {Q : AEx → St → Prop} {env : Nat → AV} {h : Hp} (e : evA env x = .lit (.bool false)) : awp P (.cond x a b) Q ⟨env, h⟩ = awp P b Q ⟨env, h⟩ := by
  simp [awp, e]
theorem awp_cond_in {P : Program} {x : AOpd} {a b : ACode} {Q : AEx → St → Prop} {env : Nat → AV} {h : Hp} {t : Bool} (e : evA env x = .lit (.bool t)) (h1 : t = true → awp P a Q ⟨env, h⟩) (h0 : t = false → awp P b Q ⟨env, h⟩) : awp P (.cond x a b) Q ⟨env, h⟩ := by
  simp only [awp, e]
  exact ⟨h1, h0⟩
/-- A region: its beginning. -/
theorem awp_ops_in {P : Program} {l : List AOper} {seps : List (Nat × Nat)} {Q : AEx → St → Prop} {env : Nat → AV} {h : Hp}
    (k : Fresh h → awpOps P l (endOps seps Q) ⟨env, h.tick⟩) : awp P (.ops l seps) Q ⟨env, h⟩ := k
theorem sepAll_nil (env : Nat → AV) : sepAll [] env = True := rfl
theorem seqK_n (P : Program) (k : St → Prop) (Q : AEx → St → Prop) (σ : St) : seqK P k Q .normal σ = k σ := rfl
theorem seqK_e (P : Program) (k : St → Prop) (Q : AEx → St → Prop) (n : Nat) (σ : St) : seqK P k Q (.exit n) σ = Q (.exit n) σ := rfl
theorem seqK_r (P : Program) (k : St → Prop) (Q : AEx → St → Prop) (σ : St) : seqK P k Q .ret σ = Q .ret σ := rfl
theorem blockK_n (n : Nat) (Q : AEx → St → Prop) (σ : St) : blockK n Q .normal σ = Q .normal σ := rfl
theorem blockK_r (n : Nat) (Q : AEx → St → Prop) (σ : St) : blockK n Q .ret σ = Q .ret σ := rfl
theorem blockK_e (n : Nat) (Q : AEx → St → Prop) (σ : St) : blockK n Q (.exit n) σ = Q .normal σ := by simp [blockK]
theorem blockK_ne (n m : Nat) (Q : AEx → St → Prop) (σ : St) (h : m ≠ n) : blockK n Q (.exit m) σ = Q (.exit m) σ := by simp [blockK, h]
/-- A loop, by an invariant and a measure. -/
theorem awp_loop {P : Program} {c : ACode} {Q : AEx → St → Prop} {σ : St} (I : Nat → St → Prop) (n : Nat) (h0 : I n σ) (hr : ∀ n σ, I n σ → awp P c (seqK P (fun σ' => ∃ m, m < n ∧ I m σ') Q) σ) : awp P (.loop c) Q σ := ⟨I, ⟨n, h0⟩, hr⟩
theorem PostF_n (res : List AOp) (K : AV → Hp → Prop) (σ : St) : PostF res K .normal σ = endK res K σ := rfl
theorem PostF_r (res : List AOp) (K : AV → Hp → Prop) (σ : St) : PostF res K .ret σ = endK res K σ := rfl
theorem endK_eq (res : List AOp) (K : AV → Hp → Prop) (env : Nat → AV) (h : Hp) : endK res K ⟨env, h⟩ = ob (mapO (resV env h) res) fun vals => K (retV vals) h := by
  unfold endK ob
  cases mapO (resV env h) res <;> rfl

/-! Each operation's step. -/
section
variable (P : Program) (d : Option Nat) (K : St → Prop) (env : Nat → AV) (h : Hp)
def goV (r : Option AV) : Prop := ob r fun r => K ⟨putA env d r, h⟩
def goM (r : Option (AV × Hp)) : Prop := ob r fun x => K ⟨putA env d x.1, x.2⟩
theorem goV_some (r : AV) : goV d K env h (some r) = K ⟨putA env d r, h⟩ := rfl
theorem goV_none : goV d K env h none = False := rfl
theorem goM_some (r : AV) (h' : Hp) : goM d K env (some (r, h')) = K ⟨putA env d r, h'⟩ := rfl
theorem goM_none : goM d K env none = False := rfl
theorem goV_ite (c : Prop) [Decidable c] (a : Option AV) : goV d K env h (if c then a else none) = (c ∧ goV d K env h a) := ob_ite_none a _
theorem goV_ite0 (c : Prop) [Decidable c] (a : Option AV) : goV d K env h (if c then none else a) = (¬ c ∧ goV d K env h a) := by
  unfold goV
  by_cases h : c <;> simp [h, ob_none]
theorem goM_ite (c : Prop) [Decidable c] (a : Option (AV × Hp)) : goM d K env (if c then a else none) = (c ∧ goM d K env a) := ob_ite_none a _
variable {d K env h}
theorem goV_congr {r r' : Option AV} (e : r = r') : goV d K env h r = goV d K env h r' := by rw [e]
theorem goM_congr {r r' : Option (AV × Hp)} (e : r = r') : goM d K env r = goM d K env r' := by rw [e]
variable (d K env h)
theorem opK_mv (x : AOpd) : opK P d (.mv x) K env h = K ⟨putA env d (evA env x), h⟩ := rfl
theorem opK_pick (c a b : AOpd) : opK P d (.pick c a b) K env h = goV d K env h (pureV (.pick c a b) (evA env)) := by
  simp only [opK, runOp, stepV, goV]
  cases hp : pureV (.pick c a b) (evA env) <;> simp [readV, heapV, ob]
theorem opK_build (z : List AV) (ps : List (Nat × Nat × AOpd)) : opK P d (.build z ps) K env h = goV d K env h (pureV (.build z ps) (evA env)) := by
  simp only [opK, runOp, stepV, goV]
  cases hp : pureV (.build z ps) (evA env) <;> simp [readV, heapV, ob]
theorem opK_nilchk (x : AOpd) : opK P d (.nilchk x) K env h = goV d K env h (pureV (.nilchk x) (evA env)) := by
  simp only [opK, runOp, stepV, goV]
  cases hp : pureV (.nilchk x) (evA env) <;> simp [readV, heapV, ob]
theorem opK_bin (o : BinOp) (x y : AOpd) : opK P d (.bin o x y) K env h = goV d K env h (pureV (.bin o x y) (evA env)) := by
  simp only [opK, runOp, stepV, goV]
  cases hp : pureV (.bin o x y) (evA env) <;> simp [readV, heapV, ob]
theorem opK_beq (neg : Bool) (x y : AOpd) : opK P d (.beq neg x y) K env h = goV d K env h (pureV (.beq neg x y) (evA env)) := by
  simp only [opK, runOp, stepV, goV]
  cases hp : pureV (.beq neg x y) (evA env) <;> simp [readV, heapV, ob]
theorem opK_un (o : UnOp) (x : AOpd) : opK P d (.un o x) K env h = goV d K env h (pureV (.un o x) (evA env)) := by
  simp only [opK, runOp, stepV, goV]
  cases hp : pureV (.un o x) (evA env) <;> simp [readV, heapV, ob]
theorem opK_conv (k : IntKind) (x : AOpd) : opK P d (.conv k x) K env h = goV d K env h (pureV (.conv k x) (evA env)) := by
  simp only [opK, runOp, stepV, goV]
  cases hp : pureV (.conv k x) (evA env) <;> simp [readV, heapV, ob]
theorem opK_mkfn (f : Nat) (caps : List AOpd) : opK P d (.mkfn f caps) K env h = goV d K env h (pureV (.mkfn f caps) (evA env)) := by
  simp only [opK, runOp, stepV, goV]
  cases hp : pureV (.mkfn f caps) (evA env) <;> simp [readV, heapV, ob]
theorem opK_fieldAddr (off : Nat) (x : AOpd) : opK P d (.fieldAddr off x) K env h = goV d K env h (pureV (.fieldAddr off x) (evA env)) := by
  simp only [opK, runOp, stepV, goV]
  cases hp : pureV (.fieldAddr off x) (evA env) <;> simp [readV, heapV, ob]
theorem opK_field (agg : Bool) (off n : Nat) (x : AOpd) : opK P d (.field agg off n x) K env h = goV d K env h (pureV (.field agg off n x) (evA env)) := by
  simp only [opK, runOp, stepV, goV]
  cases hp : pureV (.field agg off n x) (evA env) <;> simp [readV, heapV, ob]
theorem opK_idxAddr (arr : Option Nat) (sz : Nat) (x i : AOpd) : opK P d (.idxAddr arr sz x i) K env h = goV d K env h (pureV (.idxAddr arr sz x i) (evA env)) := by
  simp only [opK, runOp, stepV, goV]
  cases hp : pureV (.idxAddr arr sz x i) (evA env) <;> simp [readV, heapV, ob]
theorem opK_idx (agg : Bool) (len sz : Nat) (x i : AOpd) : opK P d (.idx agg len sz x i) K env h = goV d K env h (pureV (.idx agg len sz x i) (evA env)) := by
  simp only [opK, runOp, stepV, goV]
  cases hp : pureV (.idx agg len sz x i) (evA env) <;> simp [readV, heapV, ob]
theorem opK_ext (x : AOpd) (i : Nat) : opK P d (.ext x i) K env h = goV d K env h (pureV (.ext x i) (evA env)) := by
  simp only [opK, runOp, stepV, goV]
  cases hp : pureV (.ext x i) (evA env) <;> simp [readV, heapV, ob]
theorem opK_len (arr : Option Nat) (x : AOpd) : opK P d (.len arr x) K env h = goV d K env h (pureV (.len arr x) (evA env)) := by
  simp only [opK, runOp, stepV, goV]
  cases hp : pureV (.len arr x) (evA env) <;> simp [readV, heapV, ob]
theorem opK_lenStr (x : AOpd) : opK P d (.lenStr x) K env h = goV d K env h (pureV (.lenStr x) (evA env)) := by
  simp only [opK, runOp, stepV, goV]
  cases hp : pureV (.lenStr x) (evA env) <;> simp [readV, heapV, ob]
theorem opK_maxs (xs : List AOpd) : opK P d (.maxs xs) K env h = goV d K env h (pureV (.maxs xs) (evA env)) := by
  simp only [opK, runOp, stepV, goV]
  cases hp : pureV (.maxs xs) (evA env) <;> simp [readV, heapV, ob]
theorem opK_mins (xs : List AOpd) : opK P d (.mins xs) K env h = goV d K env h (pureV (.mins xs) (evA env)) := by
  simp only [opK, runOp, stepV, goV]
  cases hp : pureV (.mins xs) (evA env) <;> simp [readV, heapV, ob]
theorem opK_load (agg : Bool) (n : Nat) (x : AOpd) : opK P d (.load agg n x) K env h = goV d K env h (readV (.load agg n x) (evA env) h) := by
  simp only [opK, runOp, stepV, pureV, goV]
  cases hp : readV (.load agg n x) (evA env) h <;> simp [heapV, ob]
theorem opK_slice0 (sz : Nat) (x : AOpd) (lo hi mx : Option AOpd) : opK P d (.slice none sz x lo hi mx) K env h = goV d K env h (sliceV none sz (evA env x) (lo.map (evA env)) (hi.map (evA env)) (mx.map (evA env))) := by
  simp only [opK, runOp, stepV, pureV, goV]
  cases sliceV none sz (evA env x) (lo.map (evA env)) (hi.map (evA env)) (mx.map (evA env)) <;> simp [readV, heapV, ob]
theorem opK_slice1 (n sz : Nat) (x : AOpd) (lo hi mx : Option AOpd) : opK P d (.slice (some n) sz x lo hi mx) K env h = goV d K env h (readV (.slice (some n) sz x lo hi mx) (evA env) h) := by
  simp only [opK, runOp, stepV, pureV, goV]
  cases hp : readV (.slice (some n) sz x lo hi mx) (evA env) h <;> simp [heapV, ob]
theorem opK_alloc (z : List AV) : opK P d (.alloc z) K env h = goM d K env (heapV (.alloc z) (evA env) h (h.ep, d.getD 0)) := by
  simp only [opK, runOp, stepV, pureV, readV, goM]
theorem opK_box (x : AOpd) : opK P d (.box x) K env h = goM d K env (heapV (.box x) (evA env) h (h.ep, d.getD 0)) := by
  simp only [opK, runOp, stepV, pureV, readV, goM]
theorem opK_buildSl (sz len : Nat) (z : List AV) (ps : List (Nat × Nat × AOpd)) : opK P d (.buildSl sz len z ps) K env h = goM d K env (heapV (.buildSl sz len z ps) (evA env) h (h.ep, d.getD 0)) := by
  simp only [opK, runOp, stepV, pureV, readV, goM]
theorem opK_mksl (sz bytes : Nat) (z : List AV) (l c : AOpd) : opK P d (.mksl sz bytes z l c) K env h = goM d K env (heapV (.mksl sz bytes z l c) (evA env) h (h.ep, d.getD 0)) := by
  simp only [opK, runOp, stepV, pureV, readV, goM]
theorem opK_store (n : Nat) (a x : AOpd) : opK P d (.store n a x) K env h = goM d K env (heapV (.store n a x) (evA env) h (h.ep, d.getD 0)) := by
  simp only [opK, runOp, stepV, pureV, readV, goM]
theorem opK_append (sz bytes : Nat) (s x : AOpd) : opK P d (.append sz bytes s x) K env h = goM d K env (heapV (.append sz bytes s x) (evA env) h (h.ep, d.getD 0)) := by
  simp only [opK, runOp, stepV, pureV, readV, goM]
end

/-! Values. -/
def pickV (c a b : AV) : Option AV := match c with | .lit (.bool t) => some (if t then a else b) | _ => none
theorem pickV_eq (t : Bool) (a b : AV) : pickV (.lit (.bool t)) a b = some (if t then a else b) := rfl
theorem pickV_t (a b : AV) : pickV (.lit (.bool true)) a b = some a := rfl
theorem pickV_f (a b : AV) : pickV (.lit (.bool false)) a b = some b := rfl
theorem pickV_same (t : Bool) (a b : Bool) : pickV (.lit (.bool t)) (.lit (.bool a)) (.lit (.bool b)) = some (.lit (.bool (if t then a else b))) := by cases t <;> rfl
section
variable (ρ : AOpd → AV) (h : Hp) (id : Id)
theorem pureV_pick (c a b : AOpd) : pureV (.pick c a b) ρ = pickV (ρ c) (ρ a) (ρ b) := rfl
theorem pureV_bin (op : BinOp) (x y : AOpd) : pureV (.bin op x y) ρ = binV op (ρ x) (ρ y) := rfl
theorem pureV_un (op : UnOp) (x : AOpd) : pureV (.un op x) ρ = unV op (ρ x) := rfl
theorem pureV_build (z : List AV) (ps : List (Nat × Nat × AOpd)) : pureV (.build z ps) ρ = (fillA z (ps.map fun p => (p.1, p.2.1, ρ p.2.2))).map .agg := rfl
def nilV : AV → Option AV
  | .ptr id off => some (.ptr id off) | .ip cs => some (.ip cs) | .fn f cs => some (.fn f cs) | .map id => some (.map id) | _ => none
theorem pureV_nilchk (x : AOpd) : pureV (.nilchk x) ρ = nilV (ρ x) := rfl
def beqV (neg : Bool) : AV → AV → Option AV
  | .lit (.bool a), .lit (.bool b) => some (.lit (.bool (if neg then !(a == b) else a == b)))
  | _, _ => none
theorem pureV_beq (neg : Bool) (x y : AOpd) : pureV (.beq neg x y) ρ = beqV neg (ρ x) (ρ y) := rfl
def convV (k : IntKind) : AV → Option AV
  | .lit (.int _ n) => some (.lit (.int k (k.wrap n))) | _ => none
theorem pureV_conv (k : IntKind) (x : AOpd) : pureV (.conv k x) ρ = convV k (ρ x) := rfl
theorem pureV_mkfn (f : Nat) (caps : List AOpd) : pureV (.mkfn f caps) ρ = some (.fn f (caps.map ρ)) := rfl
def fieldAddrV (off : Nat) : AV → Option AV
  | .ptr id o => some (.ptr id (o + off)) | .ip cs => some (.ip (cs.drop off)) | _ => none
theorem pureV_fieldAddr (off : Nat) (x : AOpd) : pureV (.fieldAddr off x) ρ = fieldAddrV off (ρ x) := rfl
def fieldV (agg : Bool) (off n : Nat) : AV → Option AV
  | .agg cs => partV agg off n cs | _ => none
theorem pureV_field (agg : Bool) (off n : Nat) (x : AOpd) : pureV (.field agg off n x) ρ = fieldV agg off n (ρ x) := rfl
theorem pureV_idxAddr (arr : Option Nat) (sz : Nat) (x i : AOpd) : pureV (.idxAddr arr sz x i) ρ = idxAddrV arr sz (ρ x) (ρ i) := rfl
theorem pureV_idx (agg : Bool) (len sz : Nat) (x i : AOpd) : pureV (.idx agg len sz x i) ρ = idxV agg len sz (ρ x) (ρ i) := rfl
def extV (i : Nat) : AV → Option AV
  | .tup vs => vs[i]? | _ => none
theorem pureV_ext (x : AOpd) (i : Nat) : pureV (.ext x i) ρ = extV i (ρ x) := rfl
theorem pureV_len0 (x : AOpd) : pureV (.len none x) ρ = lenV (ρ x) := rfl
theorem pureV_len1 (n : Nat) (x : AOpd) : pureV (.len (some n) x) ρ = some (.lit (.int .i64 n)) := rfl
theorem pureV_maxs (xs : List AOpd) : pureV (.maxs xs) ρ = maxV (xs.map ρ) := rfl
theorem pureV_mins (xs : List AOpd) : pureV (.mins xs) ρ = minV (xs.map ρ) := rfl
def loadV (agg : Bool) (n : Nat) (h : Hp) : AV → Option AV
  | .ptr id off => match h.hp id with | some blk => partV agg off n blk.cells | none => none
  | .ip cs => partV agg 0 n cs
  | _ => none
theorem readV_load (agg : Bool) (n : Nat) (x : AOpd) : readV (.load agg n x) ρ h = loadV agg n h (ρ x) := rfl
theorem loadV_ip (agg : Bool) (n : Nat) (cs : List AV) : loadV agg n h (.ip cs) = partV agg 0 n cs := rfl
theorem loadV_ptr (agg : Bool) (n : Nat) (id : Id) (off : Nat) : loadV agg n h (.ptr id off) = (h.hp id).bind fun blk => partV agg off n blk.cells := by
  simp only [loadV]
  cases h.hp id <;> rfl
end
theorem partV_f (off n : Nat) (cs : List AV) : partV false off n cs = cs[off]? := rfl
theorem partV_t (off n : Nat) (cs : List AV) : partV true off n cs = if off + n ≤ cs.length then some (.agg ((cs.drop off).take n)) else none := rfl
section
variable (k : IntKind) (a b : Int)
theorem bin_add : binV .add (.lit (.int k a)) (.lit (.int k b)) = some (.lit (.int k (k.wrap (a + b)))) := by simp [binV, binI]
theorem bin_sub : binV .sub (.lit (.int k a)) (.lit (.int k b)) = some (.lit (.int k (k.wrap (a - b)))) := by simp [binV, binI]
theorem bin_mul : binV .mul (.lit (.int k a)) (.lit (.int k b)) = some (.lit (.int k (k.wrap (a * b)))) := by simp [binV, binI]
theorem bin_eql : binV .eql (.lit (.int k a)) (.lit (.int k b)) = some (.lit (.bool (decide (a = b)))) := by simp only [binV, binI, if_true, Option.map_some]; rfl
theorem bin_neq : binV .neq (.lit (.int k a)) (.lit (.int k b)) = some (.lit (.bool (decide (a ≠ b)))) := by simp only [binV, binI, if_true, bne, ne_eq, decide_not, Option.map_some]; rfl
theorem bin_lss : binV .lss (.lit (.int k a)) (.lit (.int k b)) = some (.lit (.bool (decide (a < b)))) := by simp [binV, binI]
theorem bin_leq : binV .leq (.lit (.int k a)) (.lit (.int k b)) = some (.lit (.bool (decide (a ≤ b)))) := by simp [binV, binI]
theorem bin_gtr : binV .gtr (.lit (.int k a)) (.lit (.int k b)) = some (.lit (.bool (decide (b < a)))) := by simp [binV, binI]
theorem bin_geq : binV .geq (.lit (.int k a)) (.lit (.int k b)) = some (.lit (.bool (decide (b ≤ a)))) := by simp [binV, binI]
theorem bin_quo : binV .quo (.lit (.int k a)) (.lit (.int k b)) = if b = 0 then none else some (.lit (.int k (k.wrap (a.tdiv b)))) := by
  simp only [binV, binI, if_true]; split <;> rfl
theorem bin_rem : binV .rem (.lit (.int k a)) (.lit (.int k b)) = if b = 0 then none else some (.lit (.int k (a.tmod b))) := by
  simp only [binV, binI, if_true]; split <;> rfl
theorem un_not (t : Bool) : unV .not (.lit (.bool t)) = some (.lit (.bool (!t))) := rfl
theorem conv_int (k' : IntKind) : convV k (.lit (.int k' a)) = some (.lit (.int k (k.wrap a))) := rfl
theorem fieldAddr_ip (off : Nat) (cs : List AV) : fieldAddrV off (.ip cs) = some (.ip (cs.drop off)) := rfl
theorem fieldAddr_ptr (off : Nat) (id : Id) (o : Nat) : fieldAddrV off (.ptr id o) = some (.ptr id (o + off)) := rfl
theorem field_agg (agg : Bool) (off n : Nat) (cs : List AV) : fieldV agg off n (.agg cs) = partV agg off n cs := rfl
theorem idxAddr_ptr (n sz : Nat) (id : Id) (off : Nat) (i : Int) : idxAddrV (some n) sz (.ptr id off) (.lit (.int k i)) = if 0 ≤ i ∧ i < n then some (.ptr id (off + i.toNat * sz)) else none := rfl
theorem idxAddr_ip (n sz : Nat) (cs : List AV) (i : Int) : idxAddrV (some n) sz (.ip cs) (.lit (.int k i)) = if 0 ≤ i ∧ i < n then some (.ip (cs.drop (i.toNat * sz))) else none := rfl
theorem idxAddr_sl (sz : Nat) (id : Id) (off len : Nat) (i : Int) : idxAddrV none sz (.sl id off len sz) (.lit (.int k i)) = if 0 ≤ i ∧ i < len then some (.ptr id (off + i.toNat * sz)) else none := by simp [idxAddrV]
theorem idx_agg (agg : Bool) (n sz : Nat) (cs : List AV) (i : Int) : idxV agg n sz (.agg cs) (.lit (.int k i)) = if 0 ≤ i ∧ i < n then partV agg (i.toNat * sz) sz cs else none := rfl
end

/-! Ends. -/
theorem mapO_nil {α β : Type} (f : α → Option β) : mapO f [] = some [] := rfl
theorem mapO_cons {α β : Type} (f : α → Option β) (x : α) (l : List α) : mapO f (x :: l) = (f x).bind fun y => (mapO f l).map (y :: ·) := by
  simp only [mapO]
  cases f x <;> simp
  cases mapO f l <;> rfl
theorem resV_mv (env : Nat → AV) (h : Hp) (x : AOpd) : resV env h (.mv x) = some (evA env x) := rfl
theorem resV_load (env : Nat → AV) (h : Hp) (agg : Bool) (n : Nat) (x : AOpd) : resV env h (.load agg n x) = loadV agg n h (evA env x) := rfl
theorem retV_one (v : AV) : retV [v] = v := rfl
theorem retV_two (u v : AV) : retV [u, v] = .tup [u, v] := rfl
theorem retV_three (u v w : AV) : retV [u, v, w] = .tup [u, v, w] := rfl
theorem retV_nil : retV [] = .tup [] := rfl
theorem lend_lit (n : Nat) (h : Hp) (v : Value) : lend n h (.lit v) = some (.lit v) := lend_imm rfl

/-! The heap. -/
theorem Fresh.new {h : Hp} (hf : Fresh h) : ∀ s, h.hp (h.ep + 1, s) = none := fun s => (hf _ s (Nat.lt_succ_self _)).1
theorem tick_hp (h : Hp) : h.tick.hp = h.hp := by cases h; exact Eq.trans rfl rfl
theorem tick_mp (h : Hp) : h.tick.mp = h.mp := by cases h; exact Eq.trans rfl rfl
theorem tick_ep (h : Hp) : h.tick.ep = h.ep + 1 := by cases h; exact Eq.trans rfl rfl
theorem push_ep (h : Hp) (id : Id) (cs : List AV) : (h.push id cs).ep = h.ep := by cases h; exact Eq.trans rfl rfl
theorem put_ep (h : Hp) (id : Id) (cs : List AV) : (h.put id cs).ep = h.ep := by cases h; exact Eq.trans rfl rfl
theorem kill_ep (h : Hp) (id : Id) : (h.kill id).ep = h.ep := by cases h; exact Eq.trans rfl rfl
theorem push_self (h : Hp) (id : Id) (cs : List AV) : (h.push id cs).hp id = some ⟨true, cs⟩ := by simp [Hp.push, upd]
theorem put_self (h : Hp) (id : Id) (cs : List AV) : (h.put id cs).hp id = some ⟨true, cs⟩ := by simp [Hp.put, upd]
theorem push_keep (h : Hp) (id j : Id) (cs : List AV) (h1 : (h.hp j).isSome = true) (h2 : h.hp id = none) : (h.push id cs).hp j = h.hp j := upd_keep _ _ _ _ h1 h2
theorem push_slot (h : Hp) (e e' s s' : Nat) (cs : List AV) (hs : s ≠ s') : (h.push (e, s) cs).hp (e', s') = h.hp (e', s') := by
  have : ¬ ((e', s') : Id) = (e, s) := fun x => hs (by cases x; rfl)
  simp [Hp.push, upd, this]
theorem put_none (h : Hp) (id j : Id) (cs : List AV) (h1 : (h.hp id).isSome = true) (h2 : h.hp j = none) : (h.put id cs).hp j = none := by
  simp only [Hp.put, upd]
  split
  · rename_i e; subst e; rw [h2] at h1; cases h1
  · exact h2
theorem put_ne (h : Hp) (id j : Id) (cs : List AV) (hne : j ≠ id) : (h.put id cs).hp j = h.hp j := by simp [Hp.put, upd, hne]
theorem push_ne (h : Hp) (id j : Id) (cs : List AV) (hne : j ≠ id) : (h.push id cs).hp j = h.hp j := by simp [Hp.push, upd, hne]
theorem kill_ne (h : Hp) (id j : Id) (hne : j ≠ id) : (h.kill id).hp j = h.hp j := by simp [Hp.kill, upd, hne]
theorem kill_none (h : Hp) (id j : Id) (h2 : h.hp j = none) : (h.kill id).hp j = none := by
  simp only [Hp.kill, upd]
  split
  · rfl
  · exact h2
section
variable (ρ : AOpd → AV) (h : Hp) (id : Id)
def allocV (h : Hp) (id : Id) (z : List AV) : Option (AV × Hp) := if (h.hp id).isNone then some (.ptr id 0, h.push id z) else none
theorem heapV_alloc (z : List AV) : heapV (.alloc z) ρ h id = allocV h id z := rfl
theorem heapV_box (x : AOpd) : heapV (.box x) ρ h id = (cellsA (ρ x)).bind (allocV h id) := by
  simp only [heapV]
  by_cases hn : (h.hp id).isNone = true
  · cases cellsA (ρ x) <;> simp [hn, allocV]
  · cases cellsA (ρ x) <;> simp [hn, allocV]
theorem allocV_new (z : List AV) (hn : h.hp id = none) : allocV h id z = some (.ptr id 0, h.push id z) := by simp [allocV, hn]
theorem cellsA_agg (cs : List AV) : cellsA (.agg cs) = some cs := by simp [cellsA]
theorem cellsA_int (k : IntKind) (n : Int) : cellsA (.lit (.int k n)) = some [.lit (.int k n)] := rfl
theorem cellsA_bool (b : Bool) : cellsA (.lit (.bool b)) = some [.lit (.bool b)] := rfl
theorem cellsA_str (s : ByteArray) : cellsA (.lit (.string s)) = some [.lit (.string s)] := rfl
theorem cellsA_sl (i : Id) (o n s : Nat) : cellsA (.sl i o n s) = some [.sl i o n s] := by simp [cellsA, one]
theorem cellsA_row (xs : List (List AV)) : cellsA (.row xs) = some [.row xs] := by simp [cellsA, one]
theorem cellsA_nil : cellsA .nil = some [.nil] := by simp [cellsA, one]
theorem cellsA_fn (f : Nat) (cs : List AV) : cellsA (.fn f cs) = some [.fn f cs] := by simp [cellsA, one]
theorem cellsA_ptr (i : Id) (o : Nat) : cellsA (.ptr i o) = some [.ptr i o] := by simp [cellsA, one]
end

theorem wrap64 {n : Int} (h1 : -9223372036854775808 ≤ n) (h2 : n ≤ 9223372036854775807) : IntKind.wrap .i64 n = n := by
  simp only [IntKind.wrap, IntKind.bits, IntKind.signed, Bool.true_and, decide_eq_true_eq, ge_iff_le]
  split <;> omega
theorem i64_succ {c : Nat} (h : c < 9223372036854775807) : IntKind.wrap .i64 ((c : Int) + 1) = ((c + 1 : Nat) : Int) := by
  rw [wrap64 (by omega) (by omega)]; omega

theorem goV_of {d : Option Nat} {K : St → Prop} {env : Nat → AV} {h : Hp} {r : Option AV} (v : AV) (e : r = some v) (k : K ⟨putA env d v, h⟩) : goV d K env h r := by subst e; exact k
theorem goM_of {d : Option Nat} {K : St → Prop} {env : Nat → AV} {r : Option (AV × Hp)} (v : AV) (h : Hp) (e : r = some (v, h)) (k : K ⟨putA env d v, h⟩) : goM d K env r := by subst e; exact k
def storeC (n : Nat) (h : Hp) (t : Id) (off : Nat) (blk : Blk) (cs : List AV) : Option (AV × Hp) :=
  if blk.wr = true ∧ cs.length = n ∧ cs.all one = true ∧ off + n ≤ blk.cells.length then some (.undef, h.put t (splice blk.cells off cs)) else none
def storeV (n : Nat) (h : Hp) (v : AV) : AV → Option (AV × Hp)
  | .ptr t off => (h.hp t).bind fun blk => (cellsA v).bind fun cs => storeC n h t off blk cs
  | _ => none
section
variable (ρ : AOpd → AV) (h : Hp) (id : Id)
theorem heapV_store (n : Nat) (a x : AOpd) : heapV (.store n a x) ρ h id = storeV n h (ρ x) (ρ a) := by
  simp only [heapV]
  cases ρ a <;> simp only [storeV]
  rename_i t off
  cases h.hp t with
  | none => rfl
  | some blk =>
    simp only [Option.bind_some]
    cases cellsA (ρ x) <;> simp [storeC]
theorem storeV_ptr (n : Nat) (t : Id) (off : Nat) (v : AV) : storeV n h v (.ptr t off) = (h.hp t).bind fun blk => (cellsA v).bind fun cs => storeC n h t off blk cs := by
  simp only [storeV]
theorem storeC_wr (n : Nat) (t : Id) (off : Nat) (cells cs : List AV) : storeC n h t off ⟨true, cells⟩ cs = if cs.length = n ∧ cs.all one = true ∧ off + n ≤ cells.length then some (.undef, h.put t (splice cells off cs)) else none := by
  simp [storeC]
end
theorem splice_all {α : Type} (z cs : List α) (h : z.length = cs.length) : splice z 0 cs = cs := by
  simp [splice, ← h]
theorem extV_tup (vs : List AV) (i : Nat) : extV i (.tup vs) = vs[i]? := by simp only [extV]
theorem sepAll_cons (a b : Nat) (r : List (Nat × Nat)) (env : Nat → AV) : sepAll ((a, b) :: r) env = (sepV (env a) (env b) ∧ sepAll r env) := by simp only [sepAll]
theorem sepV_pp (i j : Id) (a b : Nat) : sepV (.ptr i a) (.ptr j b) = (i ≠ j) := by simp [sepV, idOf]
theorem sepV_ps (i j : Id) (a b n s : Nat) : sepV (.ptr i a) (.sl j b n s) = (i ≠ j) := by simp [sepV, idOf]
theorem sepV_sp (i j : Id) (a b n s : Nat) : sepV (.sl j b n s) (.ptr i a) = (j ≠ i) := by simp [sepV, idOf]
theorem sepV_ss (i j : Id) (a n s b m u : Nat) : sepV (.sl i a n s) (.sl j b m u) = (i ≠ j) := by simp [sepV, idOf]
theorem sepV_tup (v : AV) : sepV (.tup []) v = True := by simp [sepV, idOf]
theorem sepV_tup' (v : AV) : sepV v (.tup []) = True := by cases v <;> simp [sepV, idOf]
theorem sepV_undef (v : AV) : sepV .undef v = True := by simp [sepV, idOf]
theorem sepV_undef' (v : AV) : sepV v .undef = True := by cases v <;> simp [sepV, idOf]
theorem sepV_ip (c : List AV) (v : AV) : sepV (.ip c) v = True := by simp [sepV, idOf]
theorem sepV_ip' (c : List AV) (v : AV) : sepV v (.ip c) = True := by cases v <;> simp [sepV, idOf]
theorem sepV_row (c : List (List AV)) (v : AV) : sepV (.row c) v = True := by simp [sepV, idOf]
theorem sepV_row' (c : List (List AV)) (v : AV) : sepV v (.row c) = True := by cases v <;> simp [sepV, idOf]
theorem sepV_nil (v : AV) : sepV .nil v = True := by simp [sepV, idOf]
theorem sepV_nil' (v : AV) : sepV v .nil = True := by cases v <;> simp [sepV, idOf]


/-! Slices that stay. -/
theorem idxAddr_row {α : Type} (f : α → List AV) (sz : Nat) (hf : ∀ a, (f a).length = sz) (l : List α) (k : IntKind) {i : Nat} (hi : i < l.length) : idxAddrV none sz (.row (l.map f)) (.lit (.int k (i : Int))) = some (.ip (f l[i])) := by
  simp [idxAddrV, hi, hf]
theorem partV_whole (n : Nat) (cs : List AV) (h : cs.length = n) : partV true 0 n cs = some (.agg cs) := by
  subst h
  simp [partV]
theorem lenV_row {α : Type} (f : α → List AV) (l : List α) : lenV (.row (l.map f)) = some (.lit (.int .i64 (l.length : Int))) := by simp [lenV]
theorem lenV_sl (id : Id) (o n s : Nat) : lenV (.sl id o n s) = some (.lit (.int .i64 (n : Int))) := by simp [lenV]
theorem lenV_nil : lenV .nil = some (.lit (.int .i64 0)) := by simp [lenV]
end Go.Proofs.Hx
