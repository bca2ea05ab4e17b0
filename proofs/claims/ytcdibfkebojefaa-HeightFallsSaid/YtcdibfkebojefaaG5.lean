import Derived.Test.YtcdibfkebojefaaG4
set_option linter.unusedVariables false
set_option linter.unusedSimpArgs false
namespace Go.Proofs.Hx
open Go Go.Proofs
attribute [local irreducible] awpOps awp opK goV goM callG endOps awpOp runOp HV HVF HC
/-- 'g' holds what 'h' held, and perhaps more. -/
def Ext (h g : Hp) : Prop := h.ep ≤ g.ep ∧ ∀ x : Id, x.1 ≤ h.ep → g.hp x = h.hp x
theorem Ext.refl (h : Hp) : Ext h h := ⟨Nat.le_refl _, fun _ _ => rfl⟩
theorem Ext.tick {h g : Hp} (e : Ext h g) : Ext h g.tick := ⟨Nat.le_succ_of_le e.1, e.2⟩
theorem Ext.push {h g : Hp} (e : Ext h g) {a b : Nat} (hid : h.ep < a) (cells : List AV) : Ext h (g.push (a, b) cells) :=
  ⟨e.1, fun x hx => by rw [push_ne _ _ _ _ (fun e' => by rw [e'] at hx; simp at hx; omega)]; exact e.2 x hx⟩
theorem Ext.put {h g : Hp} (e : Ext h g) {a b : Nat} (hid : h.ep < a) (cells : List AV) : Ext h (g.put (a, b) cells) :=
  ⟨e.1, fun x hx => by rw [put_ne _ _ _ _ (fun e' => by rw [e'] at hx; simp at hx; omega)]; exact e.2 x hx⟩
/-- The finder's cells. -/
def finC (l : List Opn) (t : Tab) (rid did : Id) (out : AV) : List AV := .row (l.map opC) :: (tabC t ++ [.sl rid 0 l.length 1, .sl did 0 l.length 1, out])
theorem finC_0 (l : List Opn) (t : Tab) (rid did : Id) (out : AV) : (finC l t rid did out)[0]? = some (.row (l.map opC)) := rfl
theorem finC_7 (l : List Opn) (t : Tab) (rid did : Id) (out : AV) : (finC l t rid did out)[7]? = some (i64 (t.l 2)) := rfl
theorem finC_14 (l : List Opn) (t : Tab) (rid did : Id) (out : AV) : (finC l t rid did out)[14]? = some (.sl rid 0 l.length 1) := rfl
theorem finC_15 (l : List Opn) (t : Tab) (rid did : Id) (out : AV) : (finC l t rid did out)[15]? = some (.sl did 0 l.length 1) := rfl
theorem finC_16 (l : List Opn) (t : Tab) (rid did : Id) (out : AV) : (finC l t rid did out)[16]? = some out := rfl
/-- What steps behind the finder leave. -/
def FS (h : Hp) (F : Id) (out : AV) (h' : Hp) (out' : AV) : Prop := h.ep ≤ h'.ep ∧ ∀ x : Id, x.1 ≤ h.ep → x ≠ F → idOf out ≠ some x → h'.hp x = h.hp x ∧ idOf out' ≠ some x
theorem FS.refl (h : Hp) (F : Id) (out : AV) : FS h F out h out := ⟨Nat.le_refl _, fun _ _ _ h => ⟨rfl, h⟩⟩
theorem FS.trans {h h1 h2 : Hp} {F : Id} {o o1 o2 : AV} (a : FS h F o h1 o1) (b : FS h1 F o1 h2 o2) : FS h F o h2 o2 :=
  ⟨Nat.le_trans a.1 b.1, fun x hx hF ho => by
    obtain ⟨a1, a2⟩ := a.2 x hx hF ho
    obtain ⟨b1, b2⟩ := b.2 x (Nat.le_trans hx a.1) hF a2
    exact ⟨b1.trans a1, b2⟩⟩
theorem FS.tick {h h1 : Hp} {F : Id} {o o1 : AV} (a : FS h F o h1 o1) : FS h F o h1.tick o1 := ⟨Nat.le_succ_of_le a.1, a.2⟩
/-- The finder in the heap, with the edges so far. -/
structure FinH (h : Hp) (F : Id) (l : List Opn) (t : Tab) (es : List Edg) (rid did : Id) (out : AV) : Prop where
  fin : h.hp F = some ⟨true, finC l t rid did out⟩
  rds : h.hp rid = some ⟨true, l.flatMap regRow⟩
  ds : h.hp did = some ⟨true, l.flatMap dRow⟩
  outr : OutR h out es
  eF : F.1 ≤ h.ep
  er : rid.1 ≤ h.ep
  ed : did.1 ≤ h.ep
  rF : rid ≠ F
  dF : did ≠ F
  rd : rid ≠ did
  oF : ∀ id, idOf out = some id → id ≠ F ∧ id ≠ rid ∧ id ≠ did
theorem edrows_imms (l : List Edg) : immss (l.map edC) = true := immss_of_get fun i x hx => by simp at hx; obtain ⟨o, _, rfl⟩ := hx; rfl
theorem eflat_imms {l : List Edg} : imms (l.flatMap edC) = true := by
  induction l with
  | nil => rfl
  | cons o l ih => simp only [List.flatMap_cons]; exact imms_app (edC_imms o) ih
theorem flat1_len {α : Type} {f : α → List AV} (hf : ∀ a, (f a).length = 1) (l : List α) : (l.flatMap f).length = l.length * 1 := by
  induction l with
  | nil => rfl
  | cons o l ih => rw [List.flatMap_cons, List.length_append, ih, hf, List.length_cons]; omega
theorem flat_imms' {α : Type} {f : α → List AV} (hf : ∀ a, imms (f a) = true) (l : List α) : imms (l.flatMap f) = true := by
  induction l with
  | nil => rfl
  | cons o l ih => simp only [List.flatMap_cons]; exact imms_app (hf o) ih
theorem lend_rows_d (d : Nat) {α : Type} {f : α → List AV} {sz : Nat} (hf : ∀ a, (f a).length = sz) (hi : ∀ a, imms (f a) = true) {h : Hp} {id : Id} {l : List α} (hb : h.hp id = some ⟨true, l.flatMap f⟩) (hl : (l.flatMap f).length = l.length * sz) :
    lend (d + 1) h (.sl id 0 l.length sz) = some (.row (l.map f)) := by
  rw [lend_sl_d d hb (flat_imms' hi l) (by omega), List.drop_zero, ← hl, List.take_length, chunks_map f sz hf]
theorem mapO_app {α β : Type} (f : α → Option β) : ∀ (a b : List α) {x y : List β}, mapO f a = some x → mapO f b = some y → mapO f (a ++ b) = some (x ++ y)
  | [], b, x, y, h1, h2 => by simp [mapO] at h1; subst h1; exact h2
  | v :: a, b, x, y, h1, h2 => by
    simp only [mapO] at h1
    split at h1
    · rename_i u us e1 e2
      cases h1
      simp only [List.cons_append, mapO, e1, mapO_app f a b e2 h2]
    · cases h1
theorem lend_fin {h g : Hp} {F : Id} {l : List Opn} {t : Tab} {es : List Edg} {rid did : Id} {out : AV} (hX : FinH h F l t es rid did out) (hg : Ext h g) :
    ∃ o', imm o' = true ∧ lend fuelL g (.ptr F 0) = some (.ip (finA l t o')) := by
  have h1 := (hg.2 F hX.eF).trans hX.fin
  have h2 := (hg.2 rid hX.er).trans hX.rds
  have h3 := (hg.2 did hX.ed).trans hX.ds
  obtain ⟨o', hi, ho⟩ : ∃ o', imm o' = true ∧ lend 7 g out = some o' := by
    rcases hX.outr with ⟨rfl, _⟩ | ⟨id, rfl, hb, he⟩
    · exact ⟨.nil, rfl, lend_imm rfl⟩
    · exact ⟨_, by simp only [imm]; exact edrows_imms es, lend_rows_d 6 edC_len edC_imms ((hg.2 id he).trans hb) (eflat_len es)⟩
  refine ⟨o', hi, ?_⟩
  rw [lend_ptrF, h1]
  simp only [Option.bind_some, List.drop_zero, finC]
  have e1 : mapO (lend 7 g) [.sl rid 0 l.length 1, .sl did 0 l.length 1, out] = some [.row (l.map regRow), .row (l.map dRow), o'] := by
    simp only [mapO, lend_rows_d 6 (f := regRow) (sz := 1) (fun _ => rfl) regRow_imms h2 (flat1_len (fun _ => rfl) l), lend_rows_d 6 (f := dRow) (sz := 1) (fun _ => rfl) (fun _ => rfl) h3 (flat1_len (fun _ => rfl) l), ho]
  have e2 : mapO (lend 7 g) (tabC t) = some (tabC t) := lends_imm (tab_imms t)
  simp only [mapO, lend_opsrow, mapO_app _ _ _ e2 e1, Option.map_some]
  rfl
/-- A call that only reads the finder. -/
theorem call_fin {P : Program} {d : Option Nat} {K : St → Prop} {env : Nat → AV} {h g : Hp} {fn : Nat} {F : Id} {l : List Opn} {t : Tab} {es : List Edg} {rid did : Id} {out : AV} {args : List AV} {v : Value} (hX : FinH h F l t es rid did out) (hg : Ext h g)
    (hv : ∀ o, imm o = true → HV P fn (.ip (finA l t o) :: args) (.lit v)) (hi : imms args = true) (k : K ⟨putA env d (.lit v), g.tick⟩) : callG P d K env g false (.fn fn []) (.ptr F 0 :: args) := by
  obtain ⟨o', hi', hl⟩ := lend_fin hX hg
  refine call_lend (args' := .ip (finA l t o') :: args) ?_ (hv o' hi') rfl k
  rw [List.append_nil, mapO_cons, hl, lends_imm hi]
  rfl
/-- 'put' behind the finder. -/
theorem call_put {d : Option Nat} {K : St → Prop} {env : Nat → AV} {h g : Hp} {F S : Id} {l : List Opn} {t : Tab} {es : List Edg} {rid did : Id} {out : AV} {e : Edg} {i j dist : Int} (hX : FinH h F l t es rid did out) (hg : Ext h g)
    (hS : g.hp S = some ⟨true, edC e⟩) (hS1 : h.ep < S.1) (hS2 : S.1 ≤ g.ep) (hn : es.length ≤ 100000000)
    (k : ∀ h' out', FinH h' F l t (es ++ [⟨i, j, e.l, dist, e.w⟩]) rid did out' → Fresh h' → FS h F out h' out' → K ⟨putA env d (.tup []), h'.tick⟩) :
    callG Try.prog d K env g false (.fn 97 []) [.ptr F 0, i64 i, i64 j, i64 dist, .sl S 0 1 5] := by
  have hlt : ∀ {x : Id}, x.1 ≤ h.ep → x ≠ S := fun hx e => by rw [e] at hx; omega
  have hge := hg.1
  refine call_hc (HC.mono (f97 g F S _ out es e i j dist ((hg.2 F hX.eF).trans hX.fin) rfl rfl hS (fun e => hlt hX.eF e.symm) (Nat.le_trans hX.eF hge) hS2 ?_ ?_ hn) ?_)
  · rcases hX.outr with h1 | ⟨id, h1, h2, h3⟩
    · exact .inl h1
    · exact .inr ⟨id, h1, (hg.2 id h3).trans h2, Nat.le_trans h3 hge⟩
  · intro id hid
    refine ⟨(hX.oF id hid).1, ?_⟩
    rcases hX.outr with ⟨h1, _⟩ | ⟨id', h1, h2, h3⟩
    · rw [h1] at hid; cases hid
    · rw [h1] at hid
      simp only [idOf, Option.some.injEq] at hid
      subst hid
      exact hlt h3
  · rintro r h' ⟨rfl, hP⟩ hF'
    obtain ⟨p1, p2, id, p3, p4, p5, p6⟩ := hP
    have keep : ∀ x : Id, x.1 ≤ h.ep → x ≠ F → idOf out ≠ some x → h'.hp x = h.hp x := fun x hx hxF hxo => (p2 x (Nat.le_trans hx hge) hxF hxo).trans (hg.2 x hx)
    have hne : ∀ {x : Id}, x.1 ≤ h.ep → x ≠ id := fun hx e => by rw [e] at hx; omega
    refine k h' (.sl id 0 (es ++ [⟨i, j, e.l, dist, e.w⟩] : List Edg).length 5) ⟨?_, ?_, ?_, ?_, ?_, ?_, ?_, hX.rF, hX.dF, hX.rd, ?_⟩ hF' ⟨Nat.le_trans hge p1, fun x hx hxF hxo => ⟨keep x hx hxF hxo, by simp only [idOf, ne_eq, Option.some.injEq]; exact Ne.symm (hne hx)⟩⟩
    · rw [p6]; rfl
    · rw [keep rid hX.er hX.rF (fun e => (hX.oF _ e).2.1 rfl)]; exact hX.rds
    · rw [keep did hX.ed hX.dF (fun e => (hX.oF _ e).2.2 rfl)]; exact hX.ds
    · exact .inr ⟨id, rfl, p5, p4⟩
    · exact Nat.le_trans (Nat.le_trans hX.eF hge) p1
    · exact Nat.le_trans (Nat.le_trans hX.er hge) p1
    · exact Nat.le_trans (Nat.le_trans hX.ed hge) p1
    · intro x hx
      simp only [idOf, Option.some.injEq] at hx
      subst hx
      exact ⟨Ne.symm (hne hX.eF), Ne.symm (hne hX.er), Ne.symm (hne hX.ed)⟩
theorem FinH.ext {h g : Hp} {F : Id} {l : List Opn} {t : Tab} {es : List Edg} {rid did : Id} {out : AV} (hX : FinH h F l t es rid did out) (hg : Ext h g) : FinH g F l t es rid did out :=
  ⟨(hg.2 _ hX.eF).trans hX.fin, (hg.2 _ hX.er).trans hX.rds, (hg.2 _ hX.ed).trans hX.ds, by
    rcases hX.outr with h1 | ⟨id, h1, h2, h3⟩
    · exact .inl h1
    · exact .inr ⟨id, h1, (hg.2 _ h3).trans h2, Nat.le_trans h3 hg.1⟩, Nat.le_trans hX.eF hg.1, Nat.le_trans hX.er hg.1, Nat.le_trans hX.ed hg.1, hX.rF, hX.dF, hX.rd, hX.oF⟩
theorem FS.ext {h0 h g : Hp} {F : Id} {o o1 : AV} (a : FS h0 F o h o1) (hg : Ext h g) : FS h0 F o g o1 :=
  ⟨Nat.le_trans a.1 hg.1, fun x hx hF ho => ⟨(hg.2 x (Nat.le_trans hx a.1)).trans (a.2 x hx hF ho).1, (a.2 x hx hF ho).2⟩⟩
/-- The register that an operation writes, or -1. -/
def dS (o : Opn) : Int := if (wrS o).2 then (wrS o).1 else -1
theorem dS_at {l : List Opn} {k : Nat} (hk : k < l.length) : (l.flatMap dRow)[k]? = some (i64 (dS l[k])) := by
  induction l generalizing k with
  | nil => simp at hk
  | cons o l ih =>
    cases k with
    | zero => rfl
    | succ k => simpa [List.flatMap_cons, dRow] using ih (by simpa using hk)
def stS (o : Opn) : Bool := decide (o.k = 16)
/-- The dependences of a pair, but for the true ones. -/
def pairE (t : Tab) (a b : Opn) (i j : Int) (dist : Int) (meet : Bool) : List Edg :=
  (if 0 ≤ dS b ∧ seesS a (dS b) = true then [⟨i, j, 0, dist, 1⟩] else []) ++
  (if 0 ≤ dS b ∧ dS a = dS b then [⟨i, j, if latS t a - latS t b + 1 > 0 then latS t a - latS t b + 1 else 0, dist, 2⟩] else []) ++
  (if meet = true ∧ (stS a = true ∨ stS b = true) then [⟨i, j, if stS a = true ∧ stS b = true then 1 else if stS a = true then t.l 2 else 0, dist, 3⟩] else []) ++
  (if effS a = true ∧ effS b = true then [⟨i, j, 1, dist, 4⟩] else [])
theorem latS_ok {t : Tab} (ht : tabOK t) (o : Opn) : 1 ≤ latS t o ∧ latS t o ≤ 8 := by
  have := ht.1 _ (clsN_lt o)
  unfold okC at this
  unfold latS
  omega
end Go.Proofs.Hx

set_option linter.unusedVariables false
set_option linter.unusedSimpArgs false
namespace Go.Proofs.Hx
open Go Go.Proofs
attribute [local irreducible] awpOps awp opK goV goM callG endOps awpOp runOp HV HVF HC
theorem awp_cut {P : Program} {a b : ACode} {Q : AEx → St → Prop} {σ : St} (Mid : St → Prop) (h1 : awp P a (seqK P Mid Q) σ) (h2 : ∀ σ', Mid σ' → awp P b Q σ') : awp P (.seq a b) Q σ :=
  awp_seq_i (awp_mono a (seqK P Mid Q) (seqK P (awp P b Q) Q) (fun e σ' hx => by
    cases e with
    | normal => exact h2 σ' hx
    | exit i => exact hx
    | ret => exact hx) σ h1)
def pair1 (a b : Opn) (i j dist : Int) : List Edg := if 0 ≤ dS b ∧ seesS a (dS b) = true then [⟨i, j, 0, dist, 1⟩] else []
def pair2 (t : Tab) (a b : Opn) (i j dist : Int) : List Edg := if 0 ≤ dS b ∧ dS a = dS b then [⟨i, j, if latS t a - latS t b + 1 > 0 then latS t a - latS t b + 1 else 0, dist, 2⟩] else []
def pair3 (t : Tab) (a b : Opn) (i j dist : Int) (meet : Bool) : List Edg := if meet = true ∧ (stS a = true ∨ stS b = true) then [⟨i, j, if stS a = true ∧ stS b = true then 1 else if stS a = true then t.l 2 else 0, dist, 3⟩] else []
def pair4 (a b : Opn) (i j dist : Int) : List Edg := if effS a = true ∧ effS b = true then [⟨i, j, 1, dist, 4⟩] else []
theorem pairE_eq (t : Tab) (a b : Opn) (i j dist : Int) (meet : Bool) : pairE t a b i j dist meet = pair1 a b i j dist ++ pair2 t a b i j dist ++ pair3 t a b i j dist meet ++ pair4 a b i j dist := rfl
theorem pair_lens (t : Tab) (a b : Opn) (i j dist : Int) (meet : Bool) : (pair1 a b i j dist).length ≤ 1 ∧ (pair2 t a b i j dist).length ≤ 1 ∧ (pair3 t a b i j dist meet).length ≤ 1 ∧ (pair4 a b i j dist).length ≤ 1 := by
  unfold pair1 pair2 pair3 pair4
  refine ⟨?_, ?_, ?_, ?_⟩ <;> split <;> simp
def M99 (h0 : Hp) (F : Id) (l : List Opn) (t : Tab) (rid did : Id) (out0 : AV) (i j : Nat) (dist : Int) (meet : Bool) (E : List Edg) (σ : St) : Prop :=
  ∃ out, σ.env 0 = .ptr F 0 ∧ σ.env 1 = i64 i ∧ σ.env 2 = i64 j ∧ σ.env 3 = i64 dist ∧ σ.env 4 = bl meet ∧ FinH σ.h F l t E rid did out ∧ FS h0 F out0 σ.h out
def M99b (h0 : Hp) (F : Id) (l : List Opn) (t : Tab) (rid did : Id) (out0 : AV) (i j : Nat) (dist : Int) (meet sa sb : Bool) (E : List Edg) (σ : St) : Prop :=
  ∃ out, σ.env 0 = .ptr F 0 ∧ σ.env 1 = i64 i ∧ σ.env 2 = i64 j ∧ σ.env 3 = i64 dist ∧ σ.env 4 = bl meet ∧ σ.env 10 = bl sa ∧ σ.env 11 = bl sb ∧ FinH σ.h F l t E rid did out ∧ FS h0 F out0 σ.h out
theorem es_yes {h : Hp} {F : Id} {l : List Opn} {t : Tab} {rid did : Id} {out : AV} {E E' : List Edg} (e : E = E') (hX : FinH h F l t E rid did out) : FinH h F l t E' rid did out := e ▸ hX
set_option maxHeartbeats 2000000 in
theorem f99 {h0 : Hp} {F : Id} {l : List Opn} {t : Tab} {es : List Edg} {rid did : Id} {out0 : AV} (hX : FinH h0 F l t es rid did out0) (i j : Nat) (hi : i < l.length) (hj : j < l.length) (dist : Int) (meet : Bool)
    (hl : ∀ o ∈ l, o.ok) (ht : tabOK t) (hn : es.length ≤ 10000000) :
    HC Try.prog 99 [.ptr F 0, i64 i, i64 j, i64 dist, bl meet] h0 fun r h' => r = .tup [] ∧ ∃ out', FinH h' F l t (es ++ pairE t l[i] l[j] i j dist meet) rid did out' ∧ FS h0 F out0 h' out' := by
  refine HC_of_awp mixed cf99 (by simp) fun hF => ?_
  unfold ac99 re99
  refine awp_env_i fun env hE => ?_; have e0 := hE 0; have e1 := hE 1; have e2 := hE 2; have e3 := hE 3; have e4 := hE 4; have e10 := hE 10; have e11 := hE 11; have e12 := hE 12; simp -implicitDefEqProofs only [push_cast] at e0 e1 e2 e3 e4 e10 e11 e12; clear hE
  obtain ⟨Fe, Fs⟩ := F
  obtain ⟨re, rs⟩ := rid
  obtain ⟨de, ds⟩ := did
  have hai := dS_at hi
  have haj := dS_at hj
  have hri := row_at hi .i64
  have hrj := row_at hj .i64
  have l1 := latS_ok ht l[i]
  have l2 := latS_ok ht l[j]
  obtain ⟨n1, n2, n3, n4⟩ := pair_lens t l[i] l[j] i j dist meet
  rw [pairE_eq]
  have hX' := hX.ext (Ext.refl h0).tick
  have hS' := (FS.refl h0 (Fe, Fs) out0).ext (Ext.refl h0).tick
  generalize h0.tick = h at hX' hS' ⊢
  clear hX hF
  revert hX' hS'
  intro hX hS
  refine awp_cut (M99 h0 (Fe, Fs) l t (re, rs) (de, ds) out0 i j dist meet (es ++ pair1 l[i] l[j] i j dist)) ?_ ?_
  · refine awp_fresh_i fun hF => ?_
    have hb := hX.fin
    have hd := hX.ds
    have hFe : Fe ≤ h.ep := hX.eF
    have hde : de ≤ h.ep := hX.ed
    repeat' (first | ((try clear hf); with_reducible refine awp_ops_g fun env K hE hK hf => ?_; have n0 := hE 0; have n1 := hE 1; have n2 := hE 2; have n3 := hE 3; have n4 := hE 4; have n10 := hE 10; have n11 := hE 11; have n12 := hE 12; simp -implicitDefEqProofs only [push_cast, reduceIte, Nat.reduceEqDiff, e0, e1, e2, e3, e4, e10, e11, e12] at n0 n1 n2 n3 n4 n10 n11 n12; clear hE e0 e1 e2 e3 e4 e10 e11 e12; have e0 := n0; have e1 := n1; have e2 := n2; have e3 := n3; have e4 := n4; have e10 := n10; have e11 := n11; have e12 := n12; clear n0 n1 n2 n3 n4 n10 n11 n12) | (with_reducible refine hK _ _ ?_; clear hK K) | (with_reducible first | refine awp_seq_i ?_ | refine seqK_n_i ?_ | refine awp_block_i ?_ | refine awp_skip_i ?_ | refine blockK_n_i ?_ | refine awp_ret_i ?_ | refine seqK_r_i ?_ | refine blockK_r_i ?_ | refine awp_exit_i ?_ | refine seqK_e_i ?_ | refine blockK_e_i ?_ | refine blockK_ne_i (by decide) ?_ | refine PostF_n_i ?_ | refine PostF_r_i ?_ | refine sep_nil_i ?_ | refine condP_t ?_ | refine condP_f ?_ | refine condP_ta (by assumption) ?_ | refine condP_fa (by assumption) ?_) | (refine awp_cond_e rfl ?_) | (simp -implicitDefEqProofs only [push_cast, eq_self, reduceIte, Nat.reduceEqDiff, reduceCtorEq, Nat.reduceAdd, Nat.reduceMul, Nat.reduceSub, Nat.reduceLeDiff, Int.reduceToNat, Int.reduceLE, Int.reduceLT, Int.reduceAdd, Int.reduceSub, Int.reduceMul, Int.reduceNeg, e0, e1, e2, e3, e4, e10, e11, e12, hb, hd, hai, haj, hri, hrj, hF.at, finC_0, finC_7, finC_14, finC_15, finC_16, idxAddr_sl, op_0, maxV_two]) | (simp -implicitDefEqProofs (disch := omega) only [push_epn, put_epn, kill_epn, wrap64', e0, e1, e2, e3, e4, e10, e11, e12, hb, hd, hai, haj, hri, hrj, hF.at, finC_0, finC_7, finC_14, finC_15, finC_16, idxAddr_sl, op_0, maxV_two]) | (with_reducible refine sep_i ?_ ?_) | (refine awpOps_gd rfl (fun bb => ?_) (fun bb => ?_) <;> simp only [bb]) | (with_reducible refine condP_in (fun bb => ?_) (fun bb => ?_)) | ((with_reducible refine And.intro ?_ ?_); omega) | (refine call_fin hX (by repeat (first | exact Ext.refl _ | refine Ext.tick ?_ | refine Ext.push ?_ (by omega) _ | refine Ext.put ?_ (by omega) _)) (fun o ho => f117 l t o ho i hi hl _) rfl ?_) | (refine call_put (e := ⟨0, 0, 0, 0, 1⟩) hX (by repeat (first | exact Ext.refl _ | refine Ext.tick ?_ | refine Ext.push ?_ (by omega) _ | refine Ext.put ?_ (by omega) _)) (by simp -implicitDefEqProofs only [push_cast, eq_self, reduceIte, Nat.reduceEqDiff, reduceCtorEq, Nat.reduceAdd, Nat.reduceMul, Nat.reduceSub, Nat.reduceLeDiff, Int.reduceToNat, Int.reduceLE, Int.reduceLT, Int.reduceAdd, Int.reduceSub, Int.reduceMul, Int.reduceNeg]; rfl) (by first | omega | (dsimp only; omega)) (by first | (simp -implicitDefEqProofs only [push_cast, eq_self, reduceIte, Nat.reduceEqDiff, reduceCtorEq, Nat.reduceAdd, Nat.reduceMul, Nat.reduceSub, Nat.reduceLeDiff, Int.reduceToNat, Int.reduceLE, Int.reduceLT, Int.reduceAdd, Int.reduceSub, Int.reduceMul, Int.reduceNeg]; done) | (simp -implicitDefEqProofs only [push_cast, eq_self, reduceIte, Nat.reduceEqDiff, reduceCtorEq, Nat.reduceAdd, Nat.reduceMul, Nat.reduceSub, Nat.reduceLeDiff, Int.reduceToNat, Int.reduceLE, Int.reduceLT, Int.reduceAdd, Int.reduceSub, Int.reduceMul, Int.reduceNeg]; omega)) (by first | omega | (simp only [List.length_append, List.length_cons, List.length_nil]; omega)) ?_; intro h out hX hF hs; replace hS := FS.trans hS hs; have hb := hX.fin; have hd := hX.ds; have hFe : Fe ≤ h.ep := hX.eF; have hde : de ≤ h.ep := hX.ed) | fail)
    all_goals
      refine ⟨_, by simp -implicitDefEqProofs only [push_cast, eq_self, reduceIte, Nat.reduceEqDiff, reduceCtorEq, Nat.reduceAdd, Nat.reduceMul, Nat.reduceSub, Nat.reduceLeDiff, Int.reduceToNat, Int.reduceLE, Int.reduceLT, Int.reduceAdd, Int.reduceSub, Int.reduceMul, Int.reduceNeg, e0], by simp -implicitDefEqProofs only [push_cast, eq_self, reduceIte, Nat.reduceEqDiff, reduceCtorEq, Nat.reduceAdd, Nat.reduceMul, Nat.reduceSub, Nat.reduceLeDiff, Int.reduceToNat, Int.reduceLE, Int.reduceLT, Int.reduceAdd, Int.reduceSub, Int.reduceMul, Int.reduceNeg, e1], by simp -implicitDefEqProofs only [push_cast, eq_self, reduceIte, Nat.reduceEqDiff, reduceCtorEq, Nat.reduceAdd, Nat.reduceMul, Nat.reduceSub, Nat.reduceLeDiff, Int.reduceToNat, Int.reduceLE, Int.reduceLT, Int.reduceAdd, Int.reduceSub, Int.reduceMul, Int.reduceNeg, e2], by simp -implicitDefEqProofs only [push_cast, eq_self, reduceIte, Nat.reduceEqDiff, reduceCtorEq, Nat.reduceAdd, Nat.reduceMul, Nat.reduceSub, Nat.reduceLeDiff, Int.reduceToNat, Int.reduceLE, Int.reduceLT, Int.reduceAdd, Int.reduceSub, Int.reduceMul, Int.reduceNeg, e3], by simp -implicitDefEqProofs only [push_cast, eq_self, reduceIte, Nat.reduceEqDiff, reduceCtorEq, Nat.reduceAdd, Nat.reduceMul, Nat.reduceSub, Nat.reduceLeDiff, Int.reduceToNat, Int.reduceLE, Int.reduceLT, Int.reduceAdd, Int.reduceSub, Int.reduceMul, Int.reduceNeg, e4], es_yes ?_ (hX.ext (by repeat (first | exact Ext.refl _ | refine Ext.tick ?_ | refine Ext.push ?_ (by omega) _ | refine Ext.put ?_ (by omega) _))), hS.ext (by repeat (first | exact Ext.refl _ | refine Ext.tick ?_ | refine Ext.push ?_ (by omega) _ | refine Ext.put ?_ (by omega) _))⟩
      (try clear hf); (try clear e0 e1 e2 e3 e4 e10 e11 e12)
      unfold pair1
      (try simp only [decide_eq_true_eq, decide_eq_false_iff_not, Bool.not_eq_true] at *)
      first | (simp [*]; done) | (simp_all; done)
  rintro ⟨env, h⟩ ⟨out, e0, e1, e2, e3, e4, hX, hS⟩
  simp only at e0 e1 e2 e3 e4 hX hS
  have e10 : True := trivial; have e11 : True := trivial; have e12 : True := trivial
  refine awp_cut (M99 h0 (Fe, Fs) l t (re, rs) (de, ds) out0 i j dist meet (es ++ pair1 l[i] l[j] i j dist ++ pair2 t l[i] l[j] i j dist)) ?_ ?_
  · refine awp_fresh_i fun hF => ?_
    have hb := hX.fin
    have hd := hX.ds
    have hFe : Fe ≤ h.ep := hX.eF
    have hde : de ≤ h.ep := hX.ed
    repeat' (first | ((try clear hf); with_reducible refine awp_ops_g fun env K hE hK hf => ?_; have n0 := hE 0; have n1 := hE 1; have n2 := hE 2; have n3 := hE 3; have n4 := hE 4; have n10 := hE 10; have n11 := hE 11; have n12 := hE 12; simp -implicitDefEqProofs only [push_cast, reduceIte, Nat.reduceEqDiff, e0, e1, e2, e3, e4, e10, e11, e12] at n0 n1 n2 n3 n4 n10 n11 n12; clear hE e0 e1 e2 e3 e4 e10 e11 e12; have e0 := n0; have e1 := n1; have e2 := n2; have e3 := n3; have e4 := n4; have e10 := n10; have e11 := n11; have e12 := n12; clear n0 n1 n2 n3 n4 n10 n11 n12) | (with_reducible refine hK _ _ ?_; clear hK K) | (with_reducible first | refine awp_seq_i ?_ | refine seqK_n_i ?_ | refine awp_block_i ?_ | refine awp_skip_i ?_ | refine blockK_n_i ?_ | refine awp_ret_i ?_ | refine seqK_r_i ?_ | refine blockK_r_i ?_ | refine awp_exit_i ?_ | refine seqK_e_i ?_ | refine blockK_e_i ?_ | refine blockK_ne_i (by decide) ?_ | refine PostF_n_i ?_ | refine PostF_r_i ?_ | refine sep_nil_i ?_ | refine condP_t ?_ | refine condP_f ?_ | refine condP_ta (by assumption) ?_ | refine condP_fa (by assumption) ?_) | (refine awp_cond_e rfl ?_) | (simp -implicitDefEqProofs only [push_cast, eq_self, reduceIte, Nat.reduceEqDiff, reduceCtorEq, Nat.reduceAdd, Nat.reduceMul, Nat.reduceSub, Nat.reduceLeDiff, Int.reduceToNat, Int.reduceLE, Int.reduceLT, Int.reduceAdd, Int.reduceSub, Int.reduceMul, Int.reduceNeg, e0, e1, e2, e3, e4, e10, e11, e12, hb, hd, hai, haj, hri, hrj, hF.at, finC_0, finC_7, finC_14, finC_15, finC_16, idxAddr_sl, op_0, maxV_two]) | (simp -implicitDefEqProofs (disch := omega) only [push_epn, put_epn, kill_epn, wrap64', e0, e1, e2, e3, e4, e10, e11, e12, hb, hd, hai, haj, hri, hrj, hF.at, finC_0, finC_7, finC_14, finC_15, finC_16, idxAddr_sl, op_0, maxV_two]) | (with_reducible refine sep_i ?_ ?_) | (refine awpOps_gd rfl (fun bb => ?_) (fun bb => ?_) <;> simp only [bb]) | (with_reducible refine condP_in (fun bb => ?_) (fun bb => ?_)) | ((with_reducible refine And.intro ?_ ?_); omega) | (refine call_fin hX (by repeat (first | exact Ext.refl _ | refine Ext.tick ?_ | refine Ext.push ?_ (by omega) _ | refine Ext.put ?_ (by omega) _)) (fun o ho => f98 l t o ho i hi) rfl ?_) | (refine call_fin hX (by repeat (first | exact Ext.refl _ | refine Ext.tick ?_ | refine Ext.push ?_ (by omega) _ | refine Ext.put ?_ (by omega) _)) (fun o ho => f98 l t o ho j hj) rfl ?_) | (refine call_put (e := ⟨0, 0, if latS t l[i] - latS t l[j] + 1 > 0 then latS t l[i] - latS t l[j] + 1 else 0, 0, 2⟩) hX (by repeat (first | exact Ext.refl _ | refine Ext.tick ?_ | refine Ext.push ?_ (by omega) _ | refine Ext.put ?_ (by omega) _)) (by simp -implicitDefEqProofs only [push_cast, eq_self, reduceIte, Nat.reduceEqDiff, reduceCtorEq, Nat.reduceAdd, Nat.reduceMul, Nat.reduceSub, Nat.reduceLeDiff, Int.reduceToNat, Int.reduceLE, Int.reduceLT, Int.reduceAdd, Int.reduceSub, Int.reduceMul, Int.reduceNeg]; rfl) (by first | omega | (dsimp only; omega)) (by first | (simp -implicitDefEqProofs only [push_cast, eq_self, reduceIte, Nat.reduceEqDiff, reduceCtorEq, Nat.reduceAdd, Nat.reduceMul, Nat.reduceSub, Nat.reduceLeDiff, Int.reduceToNat, Int.reduceLE, Int.reduceLT, Int.reduceAdd, Int.reduceSub, Int.reduceMul, Int.reduceNeg]; done) | (simp -implicitDefEqProofs only [push_cast, eq_self, reduceIte, Nat.reduceEqDiff, reduceCtorEq, Nat.reduceAdd, Nat.reduceMul, Nat.reduceSub, Nat.reduceLeDiff, Int.reduceToNat, Int.reduceLE, Int.reduceLT, Int.reduceAdd, Int.reduceSub, Int.reduceMul, Int.reduceNeg]; omega)) (by first | omega | (simp only [List.length_append, List.length_cons, List.length_nil]; omega)) ?_; intro h out hX hF hs; replace hS := FS.trans hS hs; have hb := hX.fin; have hd := hX.ds; have hFe : Fe ≤ h.ep := hX.eF; have hde : de ≤ h.ep := hX.ed) | fail)
    all_goals
      refine ⟨_, by simp -implicitDefEqProofs only [push_cast, eq_self, reduceIte, Nat.reduceEqDiff, reduceCtorEq, Nat.reduceAdd, Nat.reduceMul, Nat.reduceSub, Nat.reduceLeDiff, Int.reduceToNat, Int.reduceLE, Int.reduceLT, Int.reduceAdd, Int.reduceSub, Int.reduceMul, Int.reduceNeg, e0], by simp -implicitDefEqProofs only [push_cast, eq_self, reduceIte, Nat.reduceEqDiff, reduceCtorEq, Nat.reduceAdd, Nat.reduceMul, Nat.reduceSub, Nat.reduceLeDiff, Int.reduceToNat, Int.reduceLE, Int.reduceLT, Int.reduceAdd, Int.reduceSub, Int.reduceMul, Int.reduceNeg, e1], by simp -implicitDefEqProofs only [push_cast, eq_self, reduceIte, Nat.reduceEqDiff, reduceCtorEq, Nat.reduceAdd, Nat.reduceMul, Nat.reduceSub, Nat.reduceLeDiff, Int.reduceToNat, Int.reduceLE, Int.reduceLT, Int.reduceAdd, Int.reduceSub, Int.reduceMul, Int.reduceNeg, e2], by simp -implicitDefEqProofs only [push_cast, eq_self, reduceIte, Nat.reduceEqDiff, reduceCtorEq, Nat.reduceAdd, Nat.reduceMul, Nat.reduceSub, Nat.reduceLeDiff, Int.reduceToNat, Int.reduceLE, Int.reduceLT, Int.reduceAdd, Int.reduceSub, Int.reduceMul, Int.reduceNeg, e3], by simp -implicitDefEqProofs only [push_cast, eq_self, reduceIte, Nat.reduceEqDiff, reduceCtorEq, Nat.reduceAdd, Nat.reduceMul, Nat.reduceSub, Nat.reduceLeDiff, Int.reduceToNat, Int.reduceLE, Int.reduceLT, Int.reduceAdd, Int.reduceSub, Int.reduceMul, Int.reduceNeg, e4], es_yes ?_ (hX.ext (by repeat (first | exact Ext.refl _ | refine Ext.tick ?_ | refine Ext.push ?_ (by omega) _ | refine Ext.put ?_ (by omega) _))), hS.ext (by repeat (first | exact Ext.refl _ | refine Ext.tick ?_ | refine Ext.push ?_ (by omega) _ | refine Ext.put ?_ (by omega) _))⟩
      (try clear hf); (try clear e0 e1 e2 e3 e4 e10 e11 e12)
      unfold pair2
      (try simp only [decide_eq_true_eq, decide_eq_false_iff_not, Bool.not_eq_true] at *)
      first | (simp [*]; done) | (simp_all; done)
  rintro ⟨env, h⟩ ⟨out, e0, e1, e2, e3, e4, hX, hS⟩
  simp only at e0 e1 e2 e3 e4 hX hS
  have e10 : True := trivial; have e11 : True := trivial; have e12 : True := trivial
  refine awp_cut (M99b h0 (Fe, Fs) l t (re, rs) (de, ds) out0 i j dist meet (stS l[i]) (stS l[j]) (es ++ pair1 l[i] l[j] i j dist ++ pair2 t l[i] l[j] i j dist)) ?_ ?_
  · have hb := hX.fin
    have hd := hX.ds
    repeat' (first | ((try clear hf); with_reducible refine awp_ops_g fun env K hE hK hf => ?_; have n0 := hE 0; have n1 := hE 1; have n2 := hE 2; have n3 := hE 3; have n4 := hE 4; have n10 := hE 10; have n11 := hE 11; have n12 := hE 12; simp -implicitDefEqProofs only [push_cast, reduceIte, Nat.reduceEqDiff, e0, e1, e2, e3, e4, e10, e11, e12] at n0 n1 n2 n3 n4 n10 n11 n12; clear hE e0 e1 e2 e3 e4 e10 e11 e12; have e0 := n0; have e1 := n1; have e2 := n2; have e3 := n3; have e4 := n4; have e10 := n10; have e11 := n11; have e12 := n12; clear n0 n1 n2 n3 n4 n10 n11 n12) | (with_reducible refine hK _ _ ?_; clear hK K) | (with_reducible first | refine awp_seq_i ?_ | refine seqK_n_i ?_ | refine awp_block_i ?_ | refine awp_skip_i ?_ | refine blockK_n_i ?_ | refine awp_ret_i ?_ | refine seqK_r_i ?_ | refine blockK_r_i ?_ | refine awp_exit_i ?_ | refine seqK_e_i ?_ | refine blockK_e_i ?_ | refine blockK_ne_i (by decide) ?_ | refine PostF_n_i ?_ | refine PostF_r_i ?_ | refine sep_nil_i ?_ | refine condP_t ?_ | refine condP_f ?_ | refine condP_ta (by assumption) ?_ | refine condP_fa (by assumption) ?_) | (refine awp_cond_e rfl ?_) | (simp -implicitDefEqProofs only [push_cast, eq_self, reduceIte, Nat.reduceEqDiff, reduceCtorEq, Nat.reduceAdd, Nat.reduceMul, Nat.reduceSub, Nat.reduceLeDiff, Int.reduceToNat, Int.reduceLE, Int.reduceLT, Int.reduceAdd, Int.reduceSub, Int.reduceMul, Int.reduceNeg, e0, e1, e2, e3, e4, e10, e11, e12, hb, hd, hai, haj, hri, hrj, finC_0, finC_7, finC_14, finC_15, finC_16, idxAddr_sl, op_0, maxV_two]) | (simp -implicitDefEqProofs (disch := omega) only [push_epn, put_epn, kill_epn, wrap64', e0, e1, e2, e3, e4, e10, e11, e12, hb, hd, hai, haj, hri, hrj, finC_0, finC_7, finC_14, finC_15, finC_16, idxAddr_sl, op_0, maxV_two]) | (with_reducible refine sep_i ?_ ?_) | (refine awpOps_gd rfl (fun bb => ?_) (fun bb => ?_) <;> simp only [bb]) | (with_reducible refine condP_in (fun bb => ?_) (fun bb => ?_)) | ((with_reducible refine And.intro ?_ ?_); omega) | fail)
    exact ⟨_, by simp -implicitDefEqProofs only [push_cast, eq_self, reduceIte, Nat.reduceEqDiff, reduceCtorEq, Nat.reduceAdd, Nat.reduceMul, Nat.reduceSub, Nat.reduceLeDiff, Int.reduceToNat, Int.reduceLE, Int.reduceLT, Int.reduceAdd, Int.reduceSub, Int.reduceMul, Int.reduceNeg, e0], by simp -implicitDefEqProofs only [push_cast, eq_self, reduceIte, Nat.reduceEqDiff, reduceCtorEq, Nat.reduceAdd, Nat.reduceMul, Nat.reduceSub, Nat.reduceLeDiff, Int.reduceToNat, Int.reduceLE, Int.reduceLT, Int.reduceAdd, Int.reduceSub, Int.reduceMul, Int.reduceNeg, e1], by simp -implicitDefEqProofs only [push_cast, eq_self, reduceIte, Nat.reduceEqDiff, reduceCtorEq, Nat.reduceAdd, Nat.reduceMul, Nat.reduceSub, Nat.reduceLeDiff, Int.reduceToNat, Int.reduceLE, Int.reduceLT, Int.reduceAdd, Int.reduceSub, Int.reduceMul, Int.reduceNeg, e2], by simp -implicitDefEqProofs only [push_cast, eq_self, reduceIte, Nat.reduceEqDiff, reduceCtorEq, Nat.reduceAdd, Nat.reduceMul, Nat.reduceSub, Nat.reduceLeDiff, Int.reduceToNat, Int.reduceLE, Int.reduceLT, Int.reduceAdd, Int.reduceSub, Int.reduceMul, Int.reduceNeg, e3], by simp -implicitDefEqProofs only [push_cast, eq_self, reduceIte, Nat.reduceEqDiff, reduceCtorEq, Nat.reduceAdd, Nat.reduceMul, Nat.reduceSub, Nat.reduceLeDiff, Int.reduceToNat, Int.reduceLE, Int.reduceLT, Int.reduceAdd, Int.reduceSub, Int.reduceMul, Int.reduceNeg, e4], by simp -implicitDefEqProofs only [push_cast, eq_self, reduceIte, Nat.reduceEqDiff, reduceCtorEq, Nat.reduceAdd, Nat.reduceMul, Nat.reduceSub, Nat.reduceLeDiff, Int.reduceToNat, Int.reduceLE, Int.reduceLT, Int.reduceAdd, Int.reduceSub, Int.reduceMul, Int.reduceNeg]; rfl, by simp -implicitDefEqProofs only [push_cast, eq_self, reduceIte, Nat.reduceEqDiff, reduceCtorEq, Nat.reduceAdd, Nat.reduceMul, Nat.reduceSub, Nat.reduceLeDiff, Int.reduceToNat, Int.reduceLE, Int.reduceLT, Int.reduceAdd, Int.reduceSub, Int.reduceMul, Int.reduceNeg]; rfl, hX.ext (by repeat (first | exact Ext.refl _ | refine Ext.tick ?_ | refine Ext.push ?_ (by omega) _ | refine Ext.put ?_ (by omega) _)), hS.ext (by repeat (first | exact Ext.refl _ | refine Ext.tick ?_ | refine Ext.push ?_ (by omega) _ | refine Ext.put ?_ (by omega) _))⟩
  rintro ⟨env, h⟩ ⟨out, e0, e1, e2, e3, e4, e10, e11, hX, hS⟩
  simp only at e0 e1 e2 e3 e4 e10 e11 hX hS
  have e12 : True := trivial
  refine awp_cut (M99 h0 (Fe, Fs) l t (re, rs) (de, ds) out0 i j dist meet (es ++ pair1 l[i] l[j] i j dist ++ pair2 t l[i] l[j] i j dist ++ pair3 t l[i] l[j] i j dist meet)) ?_ ?_
  · refine awp_fresh_i fun hF => ?_
    have hb := hX.fin
    have hd := hX.ds
    have hFe : Fe ≤ h.ep := hX.eF
    have hde : de ≤ h.ep := hX.ed
    repeat' (first | ((try clear hf); with_reducible refine awp_ops_g fun env K hE hK hf => ?_; have n0 := hE 0; have n1 := hE 1; have n2 := hE 2; have n3 := hE 3; have n4 := hE 4; have n10 := hE 10; have n11 := hE 11; have n12 := hE 12; simp -implicitDefEqProofs only [push_cast, reduceIte, Nat.reduceEqDiff, e0, e1, e2, e3, e4, e10, e11, e12] at n0 n1 n2 n3 n4 n10 n11 n12; clear hE e0 e1 e2 e3 e4 e10 e11 e12; have e0 := n0; have e1 := n1; have e2 := n2; have e3 := n3; have e4 := n4; have e10 := n10; have e11 := n11; have e12 := n12; clear n0 n1 n2 n3 n4 n10 n11 n12) | (with_reducible refine hK _ _ ?_; clear hK K) | (with_reducible first | refine awp_seq_i ?_ | refine seqK_n_i ?_ | refine awp_block_i ?_ | refine awp_skip_i ?_ | refine blockK_n_i ?_ | refine awp_ret_i ?_ | refine seqK_r_i ?_ | refine blockK_r_i ?_ | refine awp_exit_i ?_ | refine seqK_e_i ?_ | refine blockK_e_i ?_ | refine blockK_ne_i (by decide) ?_ | refine PostF_n_i ?_ | refine PostF_r_i ?_ | refine sep_nil_i ?_ | refine condP_t ?_ | refine condP_f ?_ | refine condP_ta (by assumption) ?_ | refine condP_fa (by assumption) ?_) | (refine awp_cond_e rfl ?_) | (simp -implicitDefEqProofs only [push_cast, eq_self, reduceIte, Nat.reduceEqDiff, reduceCtorEq, Nat.reduceAdd, Nat.reduceMul, Nat.reduceSub, Nat.reduceLeDiff, Int.reduceToNat, Int.reduceLE, Int.reduceLT, Int.reduceAdd, Int.reduceSub, Int.reduceMul, Int.reduceNeg, e0, e1, e2, e3, e4, e10, e11, e12, hb, hd, hai, haj, hri, hrj, hF.at, finC_0, finC_7, finC_14, finC_15, finC_16, idxAddr_sl, op_0, maxV_two]) | (simp -implicitDefEqProofs (disch := omega) only [push_epn, put_epn, kill_epn, wrap64', e0, e1, e2, e3, e4, e10, e11, e12, hb, hd, hai, haj, hri, hrj, hF.at, finC_0, finC_7, finC_14, finC_15, finC_16, idxAddr_sl, op_0, maxV_two]) | (with_reducible refine sep_i ?_ ?_) | (refine awpOps_gd rfl (fun bb => ?_) (fun bb => ?_) <;> simp only [bb]) | (with_reducible refine condP_in (fun bb => ?_) (fun bb => ?_)) | ((with_reducible refine And.intro ?_ ?_); omega) | (refine call_put (e := ⟨0, 0, 1, 0, 3⟩) hX (by repeat (first | exact Ext.refl _ | refine Ext.tick ?_ | refine Ext.push ?_ (by omega) _ | refine Ext.put ?_ (by omega) _)) (by simp -implicitDefEqProofs only [push_cast, eq_self, reduceIte, Nat.reduceEqDiff, reduceCtorEq, Nat.reduceAdd, Nat.reduceMul, Nat.reduceSub, Nat.reduceLeDiff, Int.reduceToNat, Int.reduceLE, Int.reduceLT, Int.reduceAdd, Int.reduceSub, Int.reduceMul, Int.reduceNeg]; rfl) (by first | omega | (dsimp only; omega)) (by first | (simp -implicitDefEqProofs only [push_cast, eq_self, reduceIte, Nat.reduceEqDiff, reduceCtorEq, Nat.reduceAdd, Nat.reduceMul, Nat.reduceSub, Nat.reduceLeDiff, Int.reduceToNat, Int.reduceLE, Int.reduceLT, Int.reduceAdd, Int.reduceSub, Int.reduceMul, Int.reduceNeg]; done) | (simp -implicitDefEqProofs only [push_cast, eq_self, reduceIte, Nat.reduceEqDiff, reduceCtorEq, Nat.reduceAdd, Nat.reduceMul, Nat.reduceSub, Nat.reduceLeDiff, Int.reduceToNat, Int.reduceLE, Int.reduceLT, Int.reduceAdd, Int.reduceSub, Int.reduceMul, Int.reduceNeg]; omega)) (by first | omega | (simp only [List.length_append, List.length_cons, List.length_nil]; omega)) ?_; intro h out hX hF hs; replace hS := FS.trans hS hs; have hb := hX.fin; have hd := hX.ds; have hFe : Fe ≤ h.ep := hX.eF; have hde : de ≤ h.ep := hX.ed) | (refine call_put (e := ⟨0, 0, t.l 2, 0, 3⟩) hX (by repeat (first | exact Ext.refl _ | refine Ext.tick ?_ | refine Ext.push ?_ (by omega) _ | refine Ext.put ?_ (by omega) _)) (by simp -implicitDefEqProofs only [push_cast, eq_self, reduceIte, Nat.reduceEqDiff, reduceCtorEq, Nat.reduceAdd, Nat.reduceMul, Nat.reduceSub, Nat.reduceLeDiff, Int.reduceToNat, Int.reduceLE, Int.reduceLT, Int.reduceAdd, Int.reduceSub, Int.reduceMul, Int.reduceNeg]; rfl) (by first | omega | (dsimp only; omega)) (by first | (simp -implicitDefEqProofs only [push_cast, eq_self, reduceIte, Nat.reduceEqDiff, reduceCtorEq, Nat.reduceAdd, Nat.reduceMul, Nat.reduceSub, Nat.reduceLeDiff, Int.reduceToNat, Int.reduceLE, Int.reduceLT, Int.reduceAdd, Int.reduceSub, Int.reduceMul, Int.reduceNeg]; done) | (simp -implicitDefEqProofs only [push_cast, eq_self, reduceIte, Nat.reduceEqDiff, reduceCtorEq, Nat.reduceAdd, Nat.reduceMul, Nat.reduceSub, Nat.reduceLeDiff, Int.reduceToNat, Int.reduceLE, Int.reduceLT, Int.reduceAdd, Int.reduceSub, Int.reduceMul, Int.reduceNeg]; omega)) (by first | omega | (simp only [List.length_append, List.length_cons, List.length_nil]; omega)) ?_; intro h out hX hF hs; replace hS := FS.trans hS hs; have hb := hX.fin; have hd := hX.ds; have hFe : Fe ≤ h.ep := hX.eF; have hde : de ≤ h.ep := hX.ed) | (refine call_put (e := ⟨0, 0, 0, 0, 3⟩) hX (by repeat (first | exact Ext.refl _ | refine Ext.tick ?_ | refine Ext.push ?_ (by omega) _ | refine Ext.put ?_ (by omega) _)) (by simp -implicitDefEqProofs only [push_cast, eq_self, reduceIte, Nat.reduceEqDiff, reduceCtorEq, Nat.reduceAdd, Nat.reduceMul, Nat.reduceSub, Nat.reduceLeDiff, Int.reduceToNat, Int.reduceLE, Int.reduceLT, Int.reduceAdd, Int.reduceSub, Int.reduceMul, Int.reduceNeg]; rfl) (by first | omega | (dsimp only; omega)) (by first | (simp -implicitDefEqProofs only [push_cast, eq_self, reduceIte, Nat.reduceEqDiff, reduceCtorEq, Nat.reduceAdd, Nat.reduceMul, Nat.reduceSub, Nat.reduceLeDiff, Int.reduceToNat, Int.reduceLE, Int.reduceLT, Int.reduceAdd, Int.reduceSub, Int.reduceMul, Int.reduceNeg]; done) | (simp -implicitDefEqProofs only [push_cast, eq_self, reduceIte, Nat.reduceEqDiff, reduceCtorEq, Nat.reduceAdd, Nat.reduceMul, Nat.reduceSub, Nat.reduceLeDiff, Int.reduceToNat, Int.reduceLE, Int.reduceLT, Int.reduceAdd, Int.reduceSub, Int.reduceMul, Int.reduceNeg]; omega)) (by first | omega | (simp only [List.length_append, List.length_cons, List.length_nil]; omega)) ?_; intro h out hX hF hs; replace hS := FS.trans hS hs; have hb := hX.fin; have hd := hX.ds; have hFe : Fe ≤ h.ep := hX.eF; have hde : de ≤ h.ep := hX.ed) | fail)
    all_goals
      refine ⟨_, by simp -implicitDefEqProofs only [push_cast, eq_self, reduceIte, Nat.reduceEqDiff, reduceCtorEq, Nat.reduceAdd, Nat.reduceMul, Nat.reduceSub, Nat.reduceLeDiff, Int.reduceToNat, Int.reduceLE, Int.reduceLT, Int.reduceAdd, Int.reduceSub, Int.reduceMul, Int.reduceNeg, e0], by simp -implicitDefEqProofs only [push_cast, eq_self, reduceIte, Nat.reduceEqDiff, reduceCtorEq, Nat.reduceAdd, Nat.reduceMul, Nat.reduceSub, Nat.reduceLeDiff, Int.reduceToNat, Int.reduceLE, Int.reduceLT, Int.reduceAdd, Int.reduceSub, Int.reduceMul, Int.reduceNeg, e1], by simp -implicitDefEqProofs only [push_cast, eq_self, reduceIte, Nat.reduceEqDiff, reduceCtorEq, Nat.reduceAdd, Nat.reduceMul, Nat.reduceSub, Nat.reduceLeDiff, Int.reduceToNat, Int.reduceLE, Int.reduceLT, Int.reduceAdd, Int.reduceSub, Int.reduceMul, Int.reduceNeg, e2], by simp -implicitDefEqProofs only [push_cast, eq_self, reduceIte, Nat.reduceEqDiff, reduceCtorEq, Nat.reduceAdd, Nat.reduceMul, Nat.reduceSub, Nat.reduceLeDiff, Int.reduceToNat, Int.reduceLE, Int.reduceLT, Int.reduceAdd, Int.reduceSub, Int.reduceMul, Int.reduceNeg, e3], by simp -implicitDefEqProofs only [push_cast, eq_self, reduceIte, Nat.reduceEqDiff, reduceCtorEq, Nat.reduceAdd, Nat.reduceMul, Nat.reduceSub, Nat.reduceLeDiff, Int.reduceToNat, Int.reduceLE, Int.reduceLT, Int.reduceAdd, Int.reduceSub, Int.reduceMul, Int.reduceNeg, e4], es_yes ?_ (hX.ext (by repeat (first | exact Ext.refl _ | refine Ext.tick ?_ | refine Ext.push ?_ (by omega) _ | refine Ext.put ?_ (by omega) _))), hS.ext (by repeat (first | exact Ext.refl _ | refine Ext.tick ?_ | refine Ext.push ?_ (by omega) _ | refine Ext.put ?_ (by omega) _))⟩
      (try clear hf); (try clear e0 e1 e2 e3 e4 e10 e11 e12)
      unfold pair3
      (try simp only [decide_eq_true_eq, decide_eq_false_iff_not, Bool.not_eq_true] at *)
      first | (simp [*]; done) | (simp_all; done)
  rintro ⟨env, h⟩ ⟨out, e0, e1, e2, e3, e4, hX, hS⟩
  simp only at e0 e1 e2 e3 e4 hX hS
  have e10 : True := trivial; have e11 : True := trivial; have e12 : True := trivial
  refine awp_fresh_i fun hF => ?_
  have hb := hX.fin
  have hd := hX.ds
  have hFe : Fe ≤ h.ep := hX.eF
  have hde : de ≤ h.ep := hX.ed
  repeat' (first | ((try clear hf); with_reducible refine awp_ops_g fun env K hE hK hf => ?_; have n0 := hE 0; have n1 := hE 1; have n2 := hE 2; have n3 := hE 3; have n4 := hE 4; have n10 := hE 10; have n11 := hE 11; have n12 := hE 12; simp -implicitDefEqProofs only [push_cast, reduceIte, Nat.reduceEqDiff, e0, e1, e2, e3, e4, e10, e11, e12] at n0 n1 n2 n3 n4 n10 n11 n12; clear hE e0 e1 e2 e3 e4 e10 e11 e12; have e0 := n0; have e1 := n1; have e2 := n2; have e3 := n3; have e4 := n4; have e10 := n10; have e11 := n11; have e12 := n12; clear n0 n1 n2 n3 n4 n10 n11 n12) | (with_reducible refine hK _ _ ?_; clear hK K) | (with_reducible first | refine awp_seq_i ?_ | refine seqK_n_i ?_ | refine awp_block_i ?_ | refine awp_skip_i ?_ | refine blockK_n_i ?_ | refine awp_ret_i ?_ | refine seqK_r_i ?_ | refine blockK_r_i ?_ | refine awp_exit_i ?_ | refine seqK_e_i ?_ | refine blockK_e_i ?_ | refine blockK_ne_i (by decide) ?_ | refine PostF_n_i ?_ | refine PostF_r_i ?_ | refine sep_nil_i ?_ | refine condP_t ?_ | refine condP_f ?_ | refine condP_ta (by assumption) ?_ | refine condP_fa (by assumption) ?_) | (refine awp_cond_e rfl ?_) | (simp -implicitDefEqProofs only [push_cast, eq_self, reduceIte, Nat.reduceEqDiff, reduceCtorEq, Nat.reduceAdd, Nat.reduceMul, Nat.reduceSub, Nat.reduceLeDiff, Int.reduceToNat, Int.reduceLE, Int.reduceLT, Int.reduceAdd, Int.reduceSub, Int.reduceMul, Int.reduceNeg, e0, e1, e2, e3, e4, e10, e11, e12, hb, hd, hai, haj, hri, hrj, hF.at, finC_0, finC_7, finC_14, finC_15, finC_16, idxAddr_sl, op_0, maxV_two]) | (simp -implicitDefEqProofs (disch := omega) only [push_epn, put_epn, kill_epn, wrap64', e0, e1, e2, e3, e4, e10, e11, e12, hb, hd, hai, haj, hri, hrj, hF.at, finC_0, finC_7, finC_14, finC_15, finC_16, idxAddr_sl, op_0, maxV_two]) | (with_reducible refine sep_i ?_ ?_) | (refine awpOps_gd rfl (fun bb => ?_) (fun bb => ?_) <;> simp only [bb]) | (with_reducible refine condP_in (fun bb => ?_) (fun bb => ?_)) | ((with_reducible refine And.intro ?_ ?_); omega) | (refine call_imm (f118 _) ?_) | (refine call_put (e := ⟨0, 0, 1, 0, 4⟩) hX (by repeat (first | exact Ext.refl _ | refine Ext.tick ?_ | refine Ext.push ?_ (by omega) _ | refine Ext.put ?_ (by omega) _)) (by simp -implicitDefEqProofs only [push_cast, eq_self, reduceIte, Nat.reduceEqDiff, reduceCtorEq, Nat.reduceAdd, Nat.reduceMul, Nat.reduceSub, Nat.reduceLeDiff, Int.reduceToNat, Int.reduceLE, Int.reduceLT, Int.reduceAdd, Int.reduceSub, Int.reduceMul, Int.reduceNeg]; rfl) (by first | omega | (dsimp only; omega)) (by first | (simp -implicitDefEqProofs only [push_cast, eq_self, reduceIte, Nat.reduceEqDiff, reduceCtorEq, Nat.reduceAdd, Nat.reduceMul, Nat.reduceSub, Nat.reduceLeDiff, Int.reduceToNat, Int.reduceLE, Int.reduceLT, Int.reduceAdd, Int.reduceSub, Int.reduceMul, Int.reduceNeg]; done) | (simp -implicitDefEqProofs only [push_cast, eq_self, reduceIte, Nat.reduceEqDiff, reduceCtorEq, Nat.reduceAdd, Nat.reduceMul, Nat.reduceSub, Nat.reduceLeDiff, Int.reduceToNat, Int.reduceLE, Int.reduceLT, Int.reduceAdd, Int.reduceSub, Int.reduceMul, Int.reduceNeg]; omega)) (by first | omega | (simp only [List.length_append, List.length_cons, List.length_nil]; omega)) ?_; intro h out hX hF hs; replace hS := FS.trans hS hs; have hb := hX.fin; have hd := hX.ds; have hFe : Fe ≤ h.ep := hX.eF; have hde : de ≤ h.ep := hX.ed) | fail)
  all_goals
    refine ⟨_, es_yes ?_ (hX.ext (by repeat (first | exact Ext.refl _ | refine Ext.tick ?_ | refine Ext.push ?_ (by omega) _ | refine Ext.put ?_ (by omega) _))), hS.ext (by repeat (first | exact Ext.refl _ | refine Ext.tick ?_ | refine Ext.push ?_ (by omega) _ | refine Ext.put ?_ (by omega) _))⟩
    (try clear hf); (try clear e0 e1 e2 e3 e4 e10 e11 e12)
    unfold pair4
    (try simp only [decide_eq_true_eq, decide_eq_false_iff_not, Bool.not_eq_true] at *)
    simp [*]
end Go.Proofs.Hx

set_option linter.unusedVariables false
set_option linter.unusedSimpArgs false
namespace Go.Proofs.Hx
open Go Go.Proofs
attribute [local irreducible] awpOps awp opK goV goM callG endOps awpOp runOp HV HVF HC
/-- A call that reads the finder, and what else is lent. -/
theorem call_fin2 {P : Program} {d : Option Nat} {K : St → Prop} {env : Nat → AV} {h g : Hp} {fn : Nat} {F : Id} {l : List Opn} {t : Tab} {es : List Edg} {rid did : Id} {out : AV} {args args' : List AV} {v : Value} (hX : FinH h F l t es rid did out) (hg : Ext h g)
    (hi : mapO (lend fuelL g) args = some args') (hv : ∀ o, imm o = true → HV P fn (.ip (finA l t o) :: args') (.lit v)) (k : K ⟨putA env d (.lit v), g.tick⟩) : callG P d K env g false (.fn fn []) (.ptr F 0 :: args) := by
  obtain ⟨o', hi', hl⟩ := lend_fin hX hg
  refine call_lend (args' := .ip (finA l t o') :: args') ?_ (hv o' hi') rfl k
  rw [List.append_nil, mapO_cons, hl, hi]
  rfl
theorem lend_last {h : Hp} {x : Id} {L : Nat → Int} (hb : h.hp x = some ⟨true, lastC L⟩) : lend fuelL h (.ptr x 0) = some (.ip (lastC L)) := by
  rw [lend_ptrF, hb]
  simp only [Option.bind_some, List.drop_zero, lends_imm (lastC_imms L), Option.map_some]
/-- 'pair' behind the finder. -/
theorem call_pair {d : Option Nat} {K : St → Prop} {env : Nat → AV} {h g : Hp} {F : Id} {l : List Opn} {t : Tab} {es : List Edg} {rid did : Id} {out : AV} {dist : Int} {meet : Bool} {i j : Nat} (hX : FinH h F l t es rid did out) (hg : Ext h g)
    (hi : i < l.length) (hj : j < l.length) (hl : ∀ o ∈ l, o.ok) (ht : tabOK t) (hn : es.length ≤ 10000000)
    (k : ∀ h' out', FinH h' F l t (es ++ pairE t l[i] l[j] i j dist meet) rid did out' → Fresh h' → FS h F out h' out' → K ⟨putA env d (.tup []), h'.tick⟩) :
    callG Try.prog d K env g false (.fn 99 []) [.ptr F 0, i64 i, i64 j, i64 dist, bl meet] := by
  refine call_hc (HC.mono (f99 (hX.ext hg) i j hi hj dist meet hl ht hn) ?_)
  rintro r h' ⟨rfl, out', h1, h2⟩ hF
  refine k h' out' h1 hF (FS.trans ((FS.refl h F out).ext hg) h2)
def opAt (l : List Opn) (j : Nat) : Opn := l.getD j ⟨0, 0, 0, 0, 0⟩
theorem opAt_eq {l : List Opn} {j : Nat} (hj : j < l.length) : l[j] = opAt l j := by simp [opAt, hj]
/-- Who was the last ahead of j to write a register, and one. -/
def lastL (l : List Opn) : Nat → Nat → Int
  | 0, _ => 0
  | j + 1, r => if 0 ≤ dS (opAt l j) ∧ r = (dS (opAt l j)).toNat then (j : Int) + 1 else lastL l j r
/-- The dependences of i and j in one round. -/
def ijE (l : List Opn) (t : Tab) (i j : Nat) : List Edg :=
  (if fromS (lastL l j) (opAt l j) i = true then [⟨i, j, latS t (opAt l i), 0, 0⟩] else []) ++ pairE t (opAt l i) (opAt l j) i j 0 (meetS (opAt l i) (opAt l j) ((l.drop i).take (j - i)))
def toE (l : List Opn) (t : Tab) (j : Nat) : Nat → List Edg
  | 0 => []
  | i + 1 => toE l t j i ++ ijE l t i j
/-- All dependences of one round, the later operation's number below j. -/
def onceE (l : List Opn) (t : Tab) : Nat → List Edg
  | 0 => []
  | j + 1 => onceE l t j ++ toE l t j j
theorem ijE_len (l : List Opn) (t : Tab) (i j : Nat) : (ijE l t i j).length ≤ 5 := by
  have := pair_lens t (opAt l i) (opAt l j) i j 0 (meetS (opAt l i) (opAt l j) ((l.drop i).take (j - i)))
  unfold ijE
  rw [pairE_eq]
  simp only [List.length_append]
  split <;> simp <;> omega
theorem toE_len (l : List Opn) (t : Tab) (j : Nat) : ∀ i, (toE l t j i).length ≤ 5 * i
  | 0 => by simp [toE]
  | i + 1 => by
    have := toE_len l t j i
    have := ijE_len l t i j
    simp only [toE, List.length_append]; omega
theorem onceE_len (l : List Opn) (t : Tab) (n : Nat) : ∀ j, j ≤ n → (onceE l t j).length ≤ 5 * n * j
  | 0, _ => by simp [onceE]
  | j + 1, h => by
    have h1 := onceE_len l t n j (by omega)
    have h2 := toE_len l t j j
    simp only [onceE, List.length_append]
    have : 5 * n * (j + 1) = 5 * n * j + 5 * n := by rw [Nat.mul_add, Nat.mul_one]
    omega
theorem lastC_len (L : Nat → Int) : (lastC L).length = 32 := by simp [lastC]
theorem lastC_put (L : Nat → Int) {k : Nat} (hk : k < 32) (v : Int) : (lastC L).take k ++ [i64 v] ++ (lastC L).drop (k + 1) = lastC fun r => if r = k then v else L r := by
  apply List.ext_getElem?
  intro r
  by_cases hr : r < 32
  · rw [lastC_at _ hr]
    by_cases h1 : r < k
    · rw [List.append_assoc, List.getElem?_append_left (by simp [lastC_len]; omega), List.getElem?_take, if_pos h1, lastC_at _ hr, if_neg (by omega)]
    · rw [List.append_assoc, List.getElem?_append_right (by simp [lastC_len]; omega)]
      by_cases h2 : r = k
      · subst h2; simp [lastC_len, Nat.min_eq_left (Nat.le_of_lt hk)]
      · rw [if_neg h2, List.getElem?_append_right (by simp [lastC_len]; omega), List.getElem?_drop]
        simp only [List.length_take, lastC_len, List.length_cons, List.length_nil]
        rw [show k + 1 + (r - min k 32 - (0 + 1)) = r from by omega, lastC_at _ hr]
  · rw [List.getElem?_eq_none (by simp [lastC_len]; omega), List.getElem?_eq_none (by simp [lastC_len]; omega)]
theorem dS_lt {o : Opn} (ho : o.ok) : -1 ≤ dS o ∧ dS o ≤ 31 := by
  unfold Opn.ok at ho
  by_cases h : (ofS o.k).d = true ∧ chkE o = 0
  · have := chkE_regs h.2
    simp only [dS, wrS, if_pos h, if_true]; omega
  · simp only [dS, wrS, if_neg h]; simp
theorem FinH.putL {h : Hp} {F : Id} {l : List Opn} {t : Tab} {es : List Edg} {rid did L : Id} {out : AV} (hX : FinH h F l t es rid did out) (c : List AV) (h1 : L ≠ F) (h2 : L ≠ rid) (h3 : L ≠ did) (h4 : idOf out ≠ some L) : FinH (h.put L c) F l t es rid did out :=
  ⟨(put_ne _ _ _ _ (Ne.symm h1)).trans hX.fin, (put_ne _ _ _ _ (Ne.symm h2)).trans hX.rds, (put_ne _ _ _ _ (Ne.symm h3)).trans hX.ds, by
    rcases hX.outr with g1 | ⟨id, g1, g2, g3⟩
    · exact .inl g1
    · exact .inr ⟨id, g1, (put_ne _ _ _ _ (fun e => h4 (by rw [g1, ← e]; rfl))).trans g2, g3⟩, hX.eF, hX.er, hX.ed, hX.rF, hX.dF, hX.rd, hX.oF⟩
theorem FS.putL {h0 h : Hp} {F L : Id} {o o1 : AV} (a : FS h0 F o h o1) (hL : h0.ep < L.1) (c : List AV) : FS h0 F o (h.put L c) o1 :=
  ⟨a.1, fun x hx hF ho => ⟨(put_ne _ _ _ _ (fun e => by rw [e] at hx; omega)).trans (a.2 x hx hF ho).1, (a.2 x hx hF ho).2⟩⟩
theorem FinH.tick {h : Hp} {F : Id} {l : List Opn} {t : Tab} {es : List Edg} {rid did : Id} {out : AV} (hX : FinH h F l t es rid did out) : FinH h.tick F l t es rid did out := hX.ext (Ext.refl h).tick
def I66a (h0 : Hp) (F : Id) (l : List Opn) (t : Tab) (rid did : Id) (out0 : AV) (L : Id) (j : Nat) (n : Nat) (σ : St) : Prop := ∃ (i : Nat) (out : AV), i ≤ j ∧ n = j - i ∧ σ.env 0 = .ptr F 0 ∧ σ.env 2 = .ptr L 0 ∧ σ.env 3 = i64 j ∧ σ.env 9 = i64 l.length ∧ σ.env 10 = i64 j ∧ σ.env 13 = i64 j ∧ σ.env 14 = i64 i ∧
  FinH σ.h F l t (onceE l t j ++ toE l t j i) rid did out ∧ FS h0 F out0 σ.h out ∧ idOf out ≠ some L ∧ σ.h.hp L = some ⟨true, lastC (lastL l j)⟩ ∧ L.1 ≤ σ.h.ep
def I66b (h0 : Hp) (F : Id) (l : List Opn) (t : Tab) (rid did : Id) (out0 : AV) (L : Id) (n : Nat) (σ : St) : Prop := ∃ (j : Nat) (out : AV), j ≤ l.length ∧ n = l.length - j ∧ σ.env 0 = .ptr F 0 ∧ σ.env 2 = .ptr L 0 ∧ σ.env 9 = i64 l.length ∧ σ.env 10 = i64 j ∧
  FinH σ.h F l t (onceE l t j) rid did out ∧ FS h0 F out0 σ.h out ∧ idOf out ≠ some L ∧ σ.h.hp L = some ⟨true, lastC (lastL l j)⟩ ∧ L.1 ≤ σ.h.ep
set_option maxHeartbeats 1000000 in
theorem f66 {h0 : Hp} {F : Id} {l : List Opn} {t : Tab} {rid did : Id} {out0 : AV} (hX : FinH h0 F l t [] rid did out0) (ho0 : ∀ x, idOf out0 = some x → x.1 ≤ h0.ep) (hl : ∀ o ∈ l, o.ok) (ht : tabOK t) (hn : l.length ≤ 1024) :
    HC Try.prog 66 [.ptr F 0] h0 fun r h' => r = .tup [] ∧ ∃ out', FinH h' F l t (onceE l t l.length) rid did out' ∧ FS h0 F out0 h' out' := by
  refine HC_of_awp mixed cf66 (by simp) fun hF => ?_
  unfold ac66 re66
  refine awp_env_i fun env hE => ?_; have e0 := hE 0; have e2 := hE 2; have e3 := hE 3; have e4 := hE 4; have e9 := hE 9; have e10 := hE 10; have e11 := hE 11; have e13 := hE 13; have e14 := hE 14; have e15 := hE 15; simp -implicitDefEqProofs only [push_cast] at e0 e2 e3 e4 e9 e10 e11 e13 e14 e15; clear hE
  obtain ⟨Fe, Fs⟩ := F
  obtain ⟨re, rs⟩ := rid
  obtain ⟨de, ds⟩ := did
  have hb := hX.fin
  have hFe : Fe ≤ h0.ep := hX.eF
  repeat' (first | ((try clear hf); with_reducible refine awp_ops_g fun env K hE hK hf => ?_; have n0 := hE 0; have n2 := hE 2; have n3 := hE 3; have n4 := hE 4; have n9 := hE 9; have n10 := hE 10; have n11 := hE 11; have n13 := hE 13; have n14 := hE 14; have n15 := hE 15; simp -implicitDefEqProofs only [push_cast, reduceIte, Nat.reduceEqDiff, e0, e2, e3, e4, e9, e10, e11, e13, e14, e15] at n0 n2 n3 n4 n9 n10 n11 n13 n14 n15; clear hE e0 e2 e3 e4 e9 e10 e11 e13 e14 e15; have e0 := n0; have e2 := n2; have e3 := n3; have e4 := n4; have e9 := n9; have e10 := n10; have e11 := n11; have e13 := n13; have e14 := n14; have e15 := n15; clear n0 n2 n3 n4 n9 n10 n11 n13 n14 n15) | (with_reducible refine hK _ _ ?_; clear hK K) | (with_reducible first | refine awp_seq_i ?_ | refine seqK_n_i ?_ | refine awp_block_i ?_ | refine awp_skip_i ?_ | refine blockK_n_i ?_ | refine awp_ret_i ?_ | refine seqK_r_i ?_ | refine blockK_r_i ?_ | refine awp_exit_i ?_ | refine seqK_e_i ?_ | refine blockK_e_i ?_ | refine blockK_ne_i (by decide) ?_ | refine PostF_n_i ?_ | refine PostF_r_i ?_ | refine sep_nil_i ?_ | refine condP_t ?_ | refine condP_f ?_ | refine condP_ta (by assumption) ?_ | refine condP_fa (by assumption) ?_) | (refine awp_cond_e rfl ?_) | (simp -implicitDefEqProofs only [push_cast, eq_self, reduceIte, Nat.reduceEqDiff, reduceCtorEq, Nat.reduceAdd, Nat.reduceMul, Nat.reduceSub, Nat.reduceLeDiff, Int.reduceToNat, Int.reduceLE, Int.reduceLT, Int.reduceAdd, Int.reduceSub, Int.reduceMul, Int.reduceNeg, e0, e2, e3, e4, e9, e10, e11, e13, e14, e15, hb, hF.at, finC_0, lenV_row]) | (simp -implicitDefEqProofs (disch := omega) only [push_epn, put_epn, kill_epn, wrap64', e0, e2, e3, e4, e9, e10, e11, e13, e14, e15, hb, hF.at, finC_0, lenV_row]) | (with_reducible refine sep_i ?_ ?_) | (refine awpOps_gd rfl (fun bb => ?_) (fun bb => ?_) <;> simp only [bb]) | (with_reducible refine condP_in (fun bb => ?_) (fun bb => ?_)) | ((with_reducible refine And.intro ?_ ?_); omega) | fail)
  generalize hL0 : (h0.ep + 1 + 1, 2) = L
  have hLF : L ≠ (Fe, Fs) := by rw [← hL0]; intro e; cases e; omega
  have hre : re ≤ h0.ep := hX.er
  have hde0 : de ≤ h0.ep := hX.ed
  have hLr : L ≠ (re, rs) := by rw [← hL0]; intro e; cases e; omega
  have hLd : L ≠ (de, ds) := by rw [← hL0]; intro e; cases e; omega
  have hLe : h0.ep < L.1 := by rw [← hL0]; show h0.ep < h0.ep + 1 + 1; omega
  refine awp_loop (I66b h0 (Fe, Fs) l t (re, rs) (de, ds) out0 L) l.length ⟨0, out0, by omega, by omega, by simp -implicitDefEqProofs only [push_cast, eq_self, reduceIte, Nat.reduceEqDiff, reduceCtorEq, Nat.reduceAdd, Nat.reduceMul, Nat.reduceSub, Nat.reduceLeDiff, Int.reduceToNat, Int.reduceLE, Int.reduceLT, Int.reduceAdd, Int.reduceSub, Int.reduceMul, Int.reduceNeg, e0], by simp -implicitDefEqProofs only [push_cast, eq_self, reduceIte, Nat.reduceEqDiff, reduceCtorEq, Nat.reduceAdd, Nat.reduceMul, Nat.reduceSub, Nat.reduceLeDiff, Int.reduceToNat, Int.reduceLE, Int.reduceLT, Int.reduceAdd, Int.reduceSub, Int.reduceMul, Int.reduceNeg, e2, hL0], by simp -implicitDefEqProofs only [push_cast, eq_self, reduceIte, Nat.reduceEqDiff, reduceCtorEq, Nat.reduceAdd, Nat.reduceMul, Nat.reduceSub, Nat.reduceLeDiff, Int.reduceToNat, Int.reduceLE, Int.reduceLT, Int.reduceAdd, Int.reduceSub, Int.reduceMul, Int.reduceNeg], by simp -implicitDefEqProofs only [push_cast, eq_self, reduceIte, Nat.reduceEqDiff, reduceCtorEq, Nat.reduceAdd, Nat.reduceMul, Nat.reduceSub, Nat.reduceLeDiff, Int.reduceToNat, Int.reduceLE, Int.reduceLT, Int.reduceAdd, Int.reduceSub, Int.reduceMul, Int.reduceNeg], ?_, ?_, ?_, ?_, ?_⟩ ?_
  · rw [← hL0]; exact hX.ext (by repeat (first | exact Ext.refl _ | refine Ext.tick ?_ | refine Ext.push ?_ (by omega) _ | refine Ext.put ?_ (by omega) _))
  · rw [← hL0]; exact (FS.refl h0 (Fe, Fs) out0).ext (by repeat (first | exact Ext.refl _ | refine Ext.tick ?_ | refine Ext.push ?_ (by omega) _ | refine Ext.put ?_ (by omega) _))
  · intro e; have := ho0 _ e; rw [← hL0] at this; simp at this; omega
  · rw [← hL0]; simp -implicitDefEqProofs only [push_cast, eq_self, reduceIte, Nat.reduceEqDiff, reduceCtorEq, Nat.reduceAdd, Nat.reduceMul, Nat.reduceSub, Nat.reduceLeDiff, Int.reduceToNat, Int.reduceLE, Int.reduceLT, Int.reduceAdd, Int.reduceSub, Int.reduceMul, Int.reduceNeg]; rfl
  · rw [← hL0]; simp -implicitDefEqProofs only [push_cast, eq_self, reduceIte, Nat.reduceEqDiff, reduceCtorEq, Nat.reduceAdd, Nat.reduceMul, Nat.reduceSub, Nat.reduceLeDiff, Int.reduceToNat, Int.reduceLE, Int.reduceLT, Int.reduceAdd, Int.reduceSub, Int.reduceMul, Int.reduceNeg]; omega
  clear hX hb hF hFe hL0
  rintro n ⟨env, h⟩ ⟨j, out, hj', rfl, e0, e2, e9, e10, hX, hS, hLo, hL, eL⟩
  simp only at e0 e2 e9 e10 hX hS hL eL
  have e3 : True := trivial; have e4 : True := trivial; have e11 : True := trivial; have e13 : True := trivial; have e14 : True := trivial; have e15 : True := trivial
  unfold l66_1
  refine awp_fresh_i fun hF => ?_
  by_cases hj : j < l.length
  · have hdj : decide ((j : Int) < (l.length : Int)) = true := by simp; omega
    repeat' (first | ((try clear hf); with_reducible refine awp_ops_g fun env K hE hK hf => ?_; have n0 := hE 0; have n2 := hE 2; have n3 := hE 3; have n4 := hE 4; have n9 := hE 9; have n10 := hE 10; have n11 := hE 11; have n13 := hE 13; have n14 := hE 14; have n15 := hE 15; simp -implicitDefEqProofs only [push_cast, reduceIte, Nat.reduceEqDiff, e0, e2, e3, e4, e9, e10, e11, e13, e14, e15] at n0 n2 n3 n4 n9 n10 n11 n13 n14 n15; clear hE e0 e2 e3 e4 e9 e10 e11 e13 e14 e15; have e0 := n0; have e2 := n2; have e3 := n3; have e4 := n4; have e9 := n9; have e10 := n10; have e11 := n11; have e13 := n13; have e14 := n14; have e15 := n15; clear n0 n2 n3 n4 n9 n10 n11 n13 n14 n15) | (with_reducible refine hK _ _ ?_; clear hK K) | (with_reducible first | refine awp_seq_i ?_ | refine seqK_n_i ?_ | refine awp_block_i ?_ | refine awp_skip_i ?_ | refine blockK_n_i ?_ | refine awp_ret_i ?_ | refine seqK_r_i ?_ | refine blockK_r_i ?_ | refine awp_exit_i ?_ | refine seqK_e_i ?_ | refine blockK_e_i ?_ | refine blockK_ne_i (by decide) ?_ | refine PostF_n_i ?_ | refine PostF_r_i ?_ | refine sep_nil_i ?_ | refine condP_t ?_ | refine condP_f ?_ | refine condP_ta (by assumption) ?_ | refine condP_fa (by assumption) ?_) | (refine awp_cond_e rfl ?_) | (simp -implicitDefEqProofs only [push_cast, eq_self, reduceIte, Nat.reduceEqDiff, reduceCtorEq, Nat.reduceAdd, Nat.reduceMul, Nat.reduceSub, Nat.reduceLeDiff, Int.reduceToNat, Int.reduceLE, Int.reduceLT, Int.reduceAdd, Int.reduceSub, Int.reduceMul, Int.reduceNeg, e0, e2, e3, e4, e9, e10, e11, e13, e14, e15, hdj]) | (simp -implicitDefEqProofs (disch := omega) only [push_epn, put_epn, kill_epn, wrap64', e0, e2, e3, e4, e9, e10, e11, e13, e14, e15, hdj]) | (with_reducible refine sep_i ?_ ?_) | (refine awpOps_gd rfl (fun bb => ?_) (fun bb => ?_) <;> simp only [bb]) | (with_reducible refine condP_in (fun bb => ?_) (fun bb => ?_)) | ((with_reducible refine And.intro ?_ ?_); omega) | fail)
    have hlc : ∀ h, mapO (lend 7 h) (lastC (lastL l j)) = some (lastC (lastL l j)) := fun h => lends_imm (lastC_imms _)
    have hol := onceE_len l t l.length j hj'
    have hmul : 5 * l.length * j ≤ 5 * 1024 * 1024 := Nat.mul_le_mul (by omega) (by omega)
    refine awp_loop (I66a h0 (Fe, Fs) l t (re, rs) (de, ds) out0 L j) j ⟨0, out, by omega, by omega, by simp -implicitDefEqProofs only [push_cast, eq_self, reduceIte, Nat.reduceEqDiff, reduceCtorEq, Nat.reduceAdd, Nat.reduceMul, Nat.reduceSub, Nat.reduceLeDiff, Int.reduceToNat, Int.reduceLE, Int.reduceLT, Int.reduceAdd, Int.reduceSub, Int.reduceMul, Int.reduceNeg, e0], by simp -implicitDefEqProofs only [push_cast, eq_self, reduceIte, Nat.reduceEqDiff, reduceCtorEq, Nat.reduceAdd, Nat.reduceMul, Nat.reduceSub, Nat.reduceLeDiff, Int.reduceToNat, Int.reduceLE, Int.reduceLT, Int.reduceAdd, Int.reduceSub, Int.reduceMul, Int.reduceNeg, e2], by simp -implicitDefEqProofs only [push_cast, eq_self, reduceIte, Nat.reduceEqDiff, reduceCtorEq, Nat.reduceAdd, Nat.reduceMul, Nat.reduceSub, Nat.reduceLeDiff, Int.reduceToNat, Int.reduceLE, Int.reduceLT, Int.reduceAdd, Int.reduceSub, Int.reduceMul, Int.reduceNeg, e3], by simp -implicitDefEqProofs only [push_cast, eq_self, reduceIte, Nat.reduceEqDiff, reduceCtorEq, Nat.reduceAdd, Nat.reduceMul, Nat.reduceSub, Nat.reduceLeDiff, Int.reduceToNat, Int.reduceLE, Int.reduceLT, Int.reduceAdd, Int.reduceSub, Int.reduceMul, Int.reduceNeg, e9], by simp -implicitDefEqProofs only [push_cast, eq_self, reduceIte, Nat.reduceEqDiff, reduceCtorEq, Nat.reduceAdd, Nat.reduceMul, Nat.reduceSub, Nat.reduceLeDiff, Int.reduceToNat, Int.reduceLE, Int.reduceLT, Int.reduceAdd, Int.reduceSub, Int.reduceMul, Int.reduceNeg, e10], by simp -implicitDefEqProofs only [push_cast, eq_self, reduceIte, Nat.reduceEqDiff, reduceCtorEq, Nat.reduceAdd, Nat.reduceMul, Nat.reduceSub, Nat.reduceLeDiff, Int.reduceToNat, Int.reduceLE, Int.reduceLT, Int.reduceAdd, Int.reduceSub, Int.reduceMul, Int.reduceNeg], by simp -implicitDefEqProofs only [push_cast, eq_self, reduceIte, Nat.reduceEqDiff, reduceCtorEq, Nat.reduceAdd, Nat.reduceMul, Nat.reduceSub, Nat.reduceLeDiff, Int.reduceToNat, Int.reduceLE, Int.reduceLT, Int.reduceAdd, Int.reduceSub, Int.reduceMul, Int.reduceNeg], es_yes (by simp [toE]) (hX.ext (by repeat (first | exact Ext.refl _ | refine Ext.tick ?_ | refine Ext.push ?_ (by omega) _ | refine Ext.put ?_ (by omega) _))), hS.ext (by repeat (first | exact Ext.refl _ | refine Ext.tick ?_ | refine Ext.push ?_ (by omega) _ | refine Ext.put ?_ (by omega) _)), hLo, by simp -implicitDefEqProofs only [push_cast, eq_self, reduceIte, Nat.reduceEqDiff, reduceCtorEq, Nat.reduceAdd, Nat.reduceMul, Nat.reduceSub, Nat.reduceLeDiff, Int.reduceToNat, Int.reduceLE, Int.reduceLT, Int.reduceAdd, Int.reduceSub, Int.reduceMul, Int.reduceNeg, hL], by simp -implicitDefEqProofs only [push_cast, eq_self, reduceIte, Nat.reduceEqDiff, reduceCtorEq, Nat.reduceAdd, Nat.reduceMul, Nat.reduceSub, Nat.reduceLeDiff, Int.reduceToNat, Int.reduceLE, Int.reduceLT, Int.reduceAdd, Int.reduceSub, Int.reduceMul, Int.reduceNeg]; omega⟩ ?_
    clear hX hS hLo hL eL hF
    rintro n ⟨env, h⟩ ⟨i, out, hij', rfl, e0, e2, e3, e9, e10, e13, e14, hX, hS, hLo, hL, eL⟩
    simp only at e0 e2 e3 e9 e10 e13 e14 hX hS hL eL
    have e4 : True := trivial; have e11 : True := trivial; have e15 : True := trivial
    unfold l66_0
    refine awp_fresh_i fun hF => ?_
    have hb := hX.fin
    have hd := hX.ds
    have hFe : Fe ≤ h.ep := hX.eF
    have hde : de ≤ h.ep := hX.ed
    have hlen := toE_len l t j i
    have hlen2 : (onceE l t j ++ toE l t j i).length ≤ 6000000 := by rw [List.length_append]; omega
    by_cases hij : i < j
    · have hdi : decide ((i : Int) < (j : Int)) = true := by simp; omega
      have hi : i < l.length := by omega
      repeat' (first | ((try clear hf); with_reducible refine awp_ops_g fun env K hE hK hf => ?_; have n0 := hE 0; have n2 := hE 2; have n3 := hE 3; have n4 := hE 4; have n9 := hE 9; have n10 := hE 10; have n11 := hE 11; have n13 := hE 13; have n14 := hE 14; have n15 := hE 15; simp -implicitDefEqProofs only [push_cast, reduceIte, Nat.reduceEqDiff, e0, e2, e3, e4, e9, e10, e11, e13, e14, e15] at n0 n2 n3 n4 n9 n10 n11 n13 n14 n15; clear hE e0 e2 e3 e4 e9 e10 e11 e13 e14 e15; have e0 := n0; have e2 := n2; have e3 := n3; have e4 := n4; have e9 := n9; have e10 := n10; have e11 := n11; have e13 := n13; have e14 := n14; have e15 := n15; clear n0 n2 n3 n4 n9 n10 n11 n13 n14 n15) | (with_reducible refine hK _ _ ?_; clear hK K) | (with_reducible first | refine awp_seq_i ?_ | refine seqK_n_i ?_ | refine awp_block_i ?_ | refine awp_skip_i ?_ | refine blockK_n_i ?_ | refine awp_ret_i ?_ | refine seqK_r_i ?_ | refine blockK_r_i ?_ | refine awp_exit_i ?_ | refine seqK_e_i ?_ | refine blockK_e_i ?_ | refine blockK_ne_i (by decide) ?_ | refine PostF_n_i ?_ | refine PostF_r_i ?_ | refine sep_nil_i ?_ | refine condP_t ?_ | refine condP_f ?_ | refine condP_ta (by assumption) ?_ | refine condP_fa (by assumption) ?_) | (refine awp_cond_e rfl ?_) | (simp -implicitDefEqProofs only [push_cast, eq_self, reduceIte, Nat.reduceEqDiff, reduceCtorEq, Nat.reduceAdd, Nat.reduceMul, Nat.reduceSub, Nat.reduceLeDiff, Int.reduceToNat, Int.reduceLE, Int.reduceLT, Int.reduceAdd, Int.reduceSub, Int.reduceMul, Int.reduceNeg, e0, e2, e3, e4, e9, e10, e11, e13, e14, e15, hdi, hb, hd, hF.at, finC_0]) | (simp -implicitDefEqProofs (disch := omega) only [push_epn, put_epn, kill_epn, wrap64', e0, e2, e3, e4, e9, e10, e11, e13, e14, e15, hdi, hb, hd, hF.at, finC_0]) | (with_reducible refine sep_i ?_ ?_) | (refine awpOps_gd rfl (fun bb => ?_) (fun bb => ?_) <;> simp only [bb]) | (with_reducible refine condP_in (fun bb => ?_) (fun bb => ?_)) | ((with_reducible refine And.intro ?_ ?_); omega) | (refine call_fin2 hX (by repeat (first | exact Ext.refl _ | refine Ext.tick ?_ | refine Ext.push ?_ (by omega) _ | refine Ext.put ?_ (by omega) _)) (by simp -implicitDefEqProofs only [push_cast, eq_self, reduceIte, Nat.reduceEqDiff, reduceCtorEq, Nat.reduceAdd, Nat.reduceMul, Nat.reduceSub, Nat.reduceLeDiff, Int.reduceToNat, Int.reduceLE, Int.reduceLT, Int.reduceAdd, Int.reduceSub, Int.reduceMul, Int.reduceNeg, lend_ptrF, hL, hlc]) (fun o ho => f96 l t o ho (lastL l j) i j hj (by omega) hl) ?_) | (refine call_fin hX (by repeat (first | exact Ext.refl _ | refine Ext.tick ?_ | refine Ext.push ?_ (by omega) _ | refine Ext.put ?_ (by omega) _)) (fun o ho => f98 l t o ho i hi) rfl ?_) | (refine call_imm (f100 l i j hij hj hl (by omega)) ?_) | (refine call_put (e := ⟨0, 0, latS t l[i], 0, 0⟩) hX (by repeat (first | exact Ext.refl _ | refine Ext.tick ?_ | refine Ext.push ?_ (by omega) _ | refine Ext.put ?_ (by omega) _)) (by simp -implicitDefEqProofs only [push_cast, eq_self, reduceIte, Nat.reduceEqDiff, reduceCtorEq, Nat.reduceAdd, Nat.reduceMul, Nat.reduceSub, Nat.reduceLeDiff, Int.reduceToNat, Int.reduceLE, Int.reduceLT, Int.reduceAdd, Int.reduceSub, Int.reduceMul, Int.reduceNeg]; rfl) (by first | omega | (dsimp only; omega)) (by first | (simp -implicitDefEqProofs only [push_cast, eq_self, reduceIte, Nat.reduceEqDiff, reduceCtorEq, Nat.reduceAdd, Nat.reduceMul, Nat.reduceSub, Nat.reduceLeDiff, Int.reduceToNat, Int.reduceLE, Int.reduceLT, Int.reduceAdd, Int.reduceSub, Int.reduceMul, Int.reduceNeg]; done) | (simp -implicitDefEqProofs only [push_cast, eq_self, reduceIte, Nat.reduceEqDiff, reduceCtorEq, Nat.reduceAdd, Nat.reduceMul, Nat.reduceSub, Nat.reduceLeDiff, Int.reduceToNat, Int.reduceLE, Int.reduceLT, Int.reduceAdd, Int.reduceSub, Int.reduceMul, Int.reduceNeg]; omega)) (by first | omega | (simp only [List.length_append, List.length_cons, List.length_nil]; omega)) ?_; intro h out hX hF hs; have q := hs.2 _ eL hLF hLo; replace hL := q.1.trans hL; replace hLo := q.2; replace eL := Nat.le_trans eL hs.1; replace hS := FS.trans hS hs; have hb := hX.fin; have hd := hX.ds; have hFe : Fe ≤ h.ep := hX.eF; have hde : de ≤ h.ep := hX.ed) | (refine call_pair hX (by repeat (first | exact Ext.refl _ | refine Ext.tick ?_ | refine Ext.push ?_ (by omega) _ | refine Ext.put ?_ (by omega) _)) hi hj hl ht (by first | omega | (simp only [List.length_append, List.length_cons, List.length_nil]; omega)) ?_; intro h out hX hF hs; have q := hs.2 _ eL hLF hLo; replace hL := q.1.trans hL; replace hLo := q.2; replace eL := Nat.le_trans eL hs.1; replace hS := FS.trans hS hs; have hb := hX.fin; have hd := hX.ds; have hFe : Fe ≤ h.ep := hX.eF; have hde : de ≤ h.ep := hX.ed) | fail)
      all_goals
        refine ⟨j - (i + 1), by omega, i + 1, _, by omega, rfl, by simp -implicitDefEqProofs only [push_cast, eq_self, reduceIte, Nat.reduceEqDiff, reduceCtorEq, Nat.reduceAdd, Nat.reduceMul, Nat.reduceSub, Nat.reduceLeDiff, Int.reduceToNat, Int.reduceLE, Int.reduceLT, Int.reduceAdd, Int.reduceSub, Int.reduceMul, Int.reduceNeg, e0], by simp -implicitDefEqProofs only [push_cast, eq_self, reduceIte, Nat.reduceEqDiff, reduceCtorEq, Nat.reduceAdd, Nat.reduceMul, Nat.reduceSub, Nat.reduceLeDiff, Int.reduceToNat, Int.reduceLE, Int.reduceLT, Int.reduceAdd, Int.reduceSub, Int.reduceMul, Int.reduceNeg, e2], by simp -implicitDefEqProofs only [push_cast, eq_self, reduceIte, Nat.reduceEqDiff, reduceCtorEq, Nat.reduceAdd, Nat.reduceMul, Nat.reduceSub, Nat.reduceLeDiff, Int.reduceToNat, Int.reduceLE, Int.reduceLT, Int.reduceAdd, Int.reduceSub, Int.reduceMul, Int.reduceNeg, e3], by simp -implicitDefEqProofs only [push_cast, eq_self, reduceIte, Nat.reduceEqDiff, reduceCtorEq, Nat.reduceAdd, Nat.reduceMul, Nat.reduceSub, Nat.reduceLeDiff, Int.reduceToNat, Int.reduceLE, Int.reduceLT, Int.reduceAdd, Int.reduceSub, Int.reduceMul, Int.reduceNeg, e9], by simp -implicitDefEqProofs only [push_cast, eq_self, reduceIte, Nat.reduceEqDiff, reduceCtorEq, Nat.reduceAdd, Nat.reduceMul, Nat.reduceSub, Nat.reduceLeDiff, Int.reduceToNat, Int.reduceLE, Int.reduceLT, Int.reduceAdd, Int.reduceSub, Int.reduceMul, Int.reduceNeg, e10], by simp -implicitDefEqProofs only [push_cast, eq_self, reduceIte, Nat.reduceEqDiff, reduceCtorEq, Nat.reduceAdd, Nat.reduceMul, Nat.reduceSub, Nat.reduceLeDiff, Int.reduceToNat, Int.reduceLE, Int.reduceLT, Int.reduceAdd, Int.reduceSub, Int.reduceMul, Int.reduceNeg, e13], by simp -implicitDefEqProofs only [push_cast, eq_self, reduceIte, Nat.reduceEqDiff, reduceCtorEq, Nat.reduceAdd, Nat.reduceMul, Nat.reduceSub, Nat.reduceLeDiff, Int.reduceToNat, Int.reduceLE, Int.reduceLT, Int.reduceAdd, Int.reduceSub, Int.reduceMul, Int.reduceNeg], es_yes ?_ (hX.ext (by repeat (first | exact Ext.refl _ | refine Ext.tick ?_ | refine Ext.push ?_ (by omega) _ | refine Ext.put ?_ (by omega) _))), hS.ext (by repeat (first | exact Ext.refl _ | refine Ext.tick ?_ | refine Ext.push ?_ (by omega) _ | refine Ext.put ?_ (by omega) _)), hLo, by simp -implicitDefEqProofs only [push_cast, eq_self, reduceIte, Nat.reduceEqDiff, reduceCtorEq, Nat.reduceAdd, Nat.reduceMul, Nat.reduceSub, Nat.reduceLeDiff, Int.reduceToNat, Int.reduceLE, Int.reduceLT, Int.reduceAdd, Int.reduceSub, Int.reduceMul, Int.reduceNeg, hL], by simp -implicitDefEqProofs only [push_cast, eq_self, reduceIte, Nat.reduceEqDiff, reduceCtorEq, Nat.reduceAdd, Nat.reduceMul, Nat.reduceSub, Nat.reduceLeDiff, Int.reduceToNat, Int.reduceLE, Int.reduceLT, Int.reduceAdd, Int.reduceSub, Int.reduceMul, Int.reduceNeg]; omega⟩
        simp only [toE, ijE, ← opAt_eq hi, ← opAt_eq hj]
        first
          | (rw [if_pos (by assumption)]; simp [meetL]; done)
          | (rw [if_neg (by simp [*])]; simp [meetL]; done)
    · have hdi : decide ((i : Int) < (j : Int)) = false := by simp; omega
      obtain rfl : i = j := by omega
      have hdj2 := dS_at hj
      obtain ⟨d1, d2⟩ := dS_lt (hl _ (List.getElem_mem hj))
      repeat' (first | ((try clear hf); with_reducible refine awp_ops_g fun env K hE hK hf => ?_; have n0 := hE 0; have n2 := hE 2; have n3 := hE 3; have n4 := hE 4; have n9 := hE 9; have n10 := hE 10; have n11 := hE 11; have n13 := hE 13; have n14 := hE 14; have n15 := hE 15; simp -implicitDefEqProofs only [push_cast, reduceIte, Nat.reduceEqDiff, e0, e2, e3, e4, e9, e10, e11, e13, e14, e15] at n0 n2 n3 n4 n9 n10 n11 n13 n14 n15; clear hE e0 e2 e3 e4 e9 e10 e11 e13 e14 e15; have e0 := n0; have e2 := n2; have e3 := n3; have e4 := n4; have e9 := n9; have e10 := n10; have e11 := n11; have e13 := n13; have e14 := n14; have e15 := n15; clear n0 n2 n3 n4 n9 n10 n11 n13 n14 n15) | (with_reducible refine hK _ _ ?_; clear hK K) | (with_reducible first | refine awp_seq_i ?_ | refine seqK_n_i ?_ | refine awp_block_i ?_ | refine awp_skip_i ?_ | refine blockK_n_i ?_ | refine awp_ret_i ?_ | refine seqK_r_i ?_ | refine blockK_r_i ?_ | refine awp_exit_i ?_ | refine seqK_e_i ?_ | refine blockK_e_i ?_ | refine blockK_ne_i (by decide) ?_ | refine PostF_n_i ?_ | refine PostF_r_i ?_ | refine sep_nil_i ?_ | refine condP_t ?_ | refine condP_f ?_ | refine condP_ta (by assumption) ?_ | refine condP_fa (by assumption) ?_) | (refine awp_cond_e rfl ?_) | (simp -implicitDefEqProofs only [push_cast, eq_self, reduceIte, Nat.reduceEqDiff, reduceCtorEq, Nat.reduceAdd, Nat.reduceMul, Nat.reduceSub, Nat.reduceLeDiff, Int.reduceToNat, Int.reduceLE, Int.reduceLT, Int.reduceAdd, Int.reduceSub, Int.reduceMul, Int.reduceNeg, e0, e2, e3, e4, e9, e10, e11, e13, e14, e15, hdi, hb, hd, hF.at, finC_15, idxAddr_sl, hdj2, idxAddr_ptr, hL]) | (simp -implicitDefEqProofs (disch := omega) only [push_epn, put_epn, kill_epn, wrap64', e0, e2, e3, e4, e9, e10, e11, e13, e14, e15, hdi, hb, hd, hF.at, finC_15, idxAddr_sl, hdj2, idxAddr_ptr, hL]) | (with_reducible refine sep_i ?_ ?_) | (refine awpOps_gd rfl (fun bb => ?_) (fun bb => ?_) <;> simp only [bb]) | (with_reducible refine condP_in (fun bb => ?_) (fun bb => ?_)) | ((with_reducible refine And.intro ?_ ?_); omega) | fail)
      · have h9 : 0 ≤ dS l[i] := by simpa using ‹decide (0 ≤ dS l[i]) = true›
        have hk : (dS l[i]).toNat < 32 := by omega
        have hfun : (fun r => if r = (dS l[i]).toNat then ((i : Int) + 1) else lastL l i r) = lastL l (i + 1) := by
          funext r
          rw [show lastL l (i + 1) r = _ from rfl]
          simp only [lastL, ← opAt_eq hj]
          by_cases hr : r = (dS l[i]).toNat
          · rw [if_pos hr, if_pos ⟨h9, hr⟩]
          · rw [if_neg hr, if_neg (fun h => hr h.2)]
        have hp := (lastC_put (lastL l i) hk ((i : Int) + 1)).trans (congrArg lastC hfun)
        have hle : (dS l[i]).toNat + 1 ≤ (lastC (lastL l i)).length := by rw [lastC_len]; omega
        repeat' (first | ((try clear hf); with_reducible refine awp_ops_g fun env K hE hK hf => ?_; have n0 := hE 0; have n2 := hE 2; have n3 := hE 3; have n4 := hE 4; have n9 := hE 9; have n10 := hE 10; have n11 := hE 11; have n13 := hE 13; have n14 := hE 14; have n15 := hE 15; simp -implicitDefEqProofs only [push_cast, reduceIte, Nat.reduceEqDiff, e0, e2, e3, e4, e9, e10, e11, e13, e14, e15] at n0 n2 n3 n4 n9 n10 n11 n13 n14 n15; clear hE e0 e2 e3 e4 e9 e10 e11 e13 e14 e15; have e0 := n0; have e2 := n2; have e3 := n3; have e4 := n4; have e9 := n9; have e10 := n10; have e11 := n11; have e13 := n13; have e14 := n14; have e15 := n15; clear n0 n2 n3 n4 n9 n10 n11 n13 n14 n15) | (with_reducible refine hK _ _ ?_; clear hK K) | (with_reducible first | refine awp_seq_i ?_ | refine seqK_n_i ?_ | refine awp_block_i ?_ | refine awp_skip_i ?_ | refine blockK_n_i ?_ | refine awp_ret_i ?_ | refine seqK_r_i ?_ | refine blockK_r_i ?_ | refine awp_exit_i ?_ | refine seqK_e_i ?_ | refine blockK_e_i ?_ | refine blockK_ne_i (by decide) ?_ | refine PostF_n_i ?_ | refine PostF_r_i ?_ | refine sep_nil_i ?_ | refine condP_t ?_ | refine condP_f ?_ | refine condP_ta (by assumption) ?_ | refine condP_fa (by assumption) ?_) | (refine awp_cond_e rfl ?_) | (simp -implicitDefEqProofs only [push_cast, eq_self, reduceIte, Nat.reduceEqDiff, reduceCtorEq, Nat.reduceAdd, Nat.reduceMul, Nat.reduceSub, Nat.reduceLeDiff, Int.reduceToNat, Int.reduceLE, Int.reduceLT, Int.reduceAdd, Int.reduceSub, Int.reduceMul, Int.reduceNeg, e0, e2, e3, e4, e9, e10, e11, e13, e14, e15, hb, hd, hF.at, hp, hL]) | (simp -implicitDefEqProofs (disch := omega) only [push_epn, put_epn, kill_epn, wrap64', e0, e2, e3, e4, e9, e10, e11, e13, e14, e15, hb, hd, hF.at, hp, hL]) | (with_reducible refine sep_i ?_ ?_) | (refine awpOps_gd rfl (fun bb => ?_) (fun bb => ?_) <;> simp only [bb]) | (with_reducible refine condP_in (fun bb => ?_) (fun bb => ?_)) | ((with_reducible refine And.intro ?_ ?_); omega) | fail)
        refine ⟨l.length - (i + 1), by omega, i + 1, _, by omega, rfl, by simp -implicitDefEqProofs only [push_cast, eq_self, reduceIte, Nat.reduceEqDiff, reduceCtorEq, Nat.reduceAdd, Nat.reduceMul, Nat.reduceSub, Nat.reduceLeDiff, Int.reduceToNat, Int.reduceLE, Int.reduceLT, Int.reduceAdd, Int.reduceSub, Int.reduceMul, Int.reduceNeg, e0], by simp -implicitDefEqProofs only [push_cast, eq_self, reduceIte, Nat.reduceEqDiff, reduceCtorEq, Nat.reduceAdd, Nat.reduceMul, Nat.reduceSub, Nat.reduceLeDiff, Int.reduceToNat, Int.reduceLE, Int.reduceLT, Int.reduceAdd, Int.reduceSub, Int.reduceMul, Int.reduceNeg, e2], by simp -implicitDefEqProofs only [push_cast, eq_self, reduceIte, Nat.reduceEqDiff, reduceCtorEq, Nat.reduceAdd, Nat.reduceMul, Nat.reduceSub, Nat.reduceLeDiff, Int.reduceToNat, Int.reduceLE, Int.reduceLT, Int.reduceAdd, Int.reduceSub, Int.reduceMul, Int.reduceNeg, e9], by simp -implicitDefEqProofs only [push_cast, eq_self, reduceIte, Nat.reduceEqDiff, reduceCtorEq, Nat.reduceAdd, Nat.reduceMul, Nat.reduceSub, Nat.reduceLeDiff, Int.reduceToNat, Int.reduceLE, Int.reduceLT, Int.reduceAdd, Int.reduceSub, Int.reduceMul, Int.reduceNeg], ((hX.ext (by repeat (first | exact Ext.refl _ | refine Ext.tick ?_))).putL _ hLF hLr hLd hLo).tick, ((hS.ext (by repeat (first | exact Ext.refl _ | refine Ext.tick ?_))).putL hLe _).tick, hLo, by simp -implicitDefEqProofs only [push_cast, eq_self, reduceIte, Nat.reduceEqDiff, reduceCtorEq, Nat.reduceAdd, Nat.reduceMul, Nat.reduceSub, Nat.reduceLeDiff, Int.reduceToNat, Int.reduceLE, Int.reduceLT, Int.reduceAdd, Int.reduceSub, Int.reduceMul, Int.reduceNeg], by simp -implicitDefEqProofs only [push_cast, eq_self, reduceIte, Nat.reduceEqDiff, reduceCtorEq, Nat.reduceAdd, Nat.reduceMul, Nat.reduceSub, Nat.reduceLeDiff, Int.reduceToNat, Int.reduceLE, Int.reduceLT, Int.reduceAdd, Int.reduceSub, Int.reduceMul, Int.reduceNeg]; omega⟩
      · have h9 : ¬ 0 ≤ dS l[i] := by simpa using ‹decide (0 ≤ dS l[i]) = false›
        have hp : lastC (lastL l (i + 1)) = lastC (lastL l i) := by
          unfold lastC
          apply List.map_congr_left
          intro r _
          simp only [lastL, ← opAt_eq hj]
          rw [if_neg (fun h => h9 h.1)]
        refine ⟨l.length - (i + 1), by omega, i + 1, _, by omega, rfl, by simp -implicitDefEqProofs only [push_cast, eq_self, reduceIte, Nat.reduceEqDiff, reduceCtorEq, Nat.reduceAdd, Nat.reduceMul, Nat.reduceSub, Nat.reduceLeDiff, Int.reduceToNat, Int.reduceLE, Int.reduceLT, Int.reduceAdd, Int.reduceSub, Int.reduceMul, Int.reduceNeg, e0], by simp -implicitDefEqProofs only [push_cast, eq_self, reduceIte, Nat.reduceEqDiff, reduceCtorEq, Nat.reduceAdd, Nat.reduceMul, Nat.reduceSub, Nat.reduceLeDiff, Int.reduceToNat, Int.reduceLE, Int.reduceLT, Int.reduceAdd, Int.reduceSub, Int.reduceMul, Int.reduceNeg, e2], by simp -implicitDefEqProofs only [push_cast, eq_self, reduceIte, Nat.reduceEqDiff, reduceCtorEq, Nat.reduceAdd, Nat.reduceMul, Nat.reduceSub, Nat.reduceLeDiff, Int.reduceToNat, Int.reduceLE, Int.reduceLT, Int.reduceAdd, Int.reduceSub, Int.reduceMul, Int.reduceNeg, e9], by simp -implicitDefEqProofs only [push_cast, eq_self, reduceIte, Nat.reduceEqDiff, reduceCtorEq, Nat.reduceAdd, Nat.reduceMul, Nat.reduceSub, Nat.reduceLeDiff, Int.reduceToNat, Int.reduceLE, Int.reduceLT, Int.reduceAdd, Int.reduceSub, Int.reduceMul, Int.reduceNeg], hX.ext (by repeat (first | exact Ext.refl _ | refine Ext.tick ?_ | refine Ext.push ?_ (by omega) _ | refine Ext.put ?_ (by omega) _)), hS.ext (by repeat (first | exact Ext.refl _ | refine Ext.tick ?_ | refine Ext.push ?_ (by omega) _ | refine Ext.put ?_ (by omega) _)), hLo, by simp -implicitDefEqProofs only [push_cast, eq_self, reduceIte, Nat.reduceEqDiff, reduceCtorEq, Nat.reduceAdd, Nat.reduceMul, Nat.reduceSub, Nat.reduceLeDiff, Int.reduceToNat, Int.reduceLE, Int.reduceLT, Int.reduceAdd, Int.reduceSub, Int.reduceMul, Int.reduceNeg, hL, hp], by simp -implicitDefEqProofs only [push_cast, eq_self, reduceIte, Nat.reduceEqDiff, reduceCtorEq, Nat.reduceAdd, Nat.reduceMul, Nat.reduceSub, Nat.reduceLeDiff, Int.reduceToNat, Int.reduceLE, Int.reduceLT, Int.reduceAdd, Int.reduceSub, Int.reduceMul, Int.reduceNeg]; omega⟩
  · have hdj : decide ((j : Int) < (l.length : Int)) = false := by simp; omega
    repeat' (first | ((try clear hf); with_reducible refine awp_ops_g fun env K hE hK hf => ?_; have n0 := hE 0; have n2 := hE 2; have n3 := hE 3; have n4 := hE 4; have n9 := hE 9; have n10 := hE 10; have n11 := hE 11; have n13 := hE 13; have n14 := hE 14; have n15 := hE 15; simp -implicitDefEqProofs only [push_cast, reduceIte, Nat.reduceEqDiff, e0, e2, e3, e4, e9, e10, e11, e13, e14, e15] at n0 n2 n3 n4 n9 n10 n11 n13 n14 n15; clear hE e0 e2 e3 e4 e9 e10 e11 e13 e14 e15; have e0 := n0; have e2 := n2; have e3 := n3; have e4 := n4; have e9 := n9; have e10 := n10; have e11 := n11; have e13 := n13; have e14 := n14; have e15 := n15; clear n0 n2 n3 n4 n9 n10 n11 n13 n14 n15) | (with_reducible refine hK _ _ ?_; clear hK K) | (with_reducible first | refine awp_seq_i ?_ | refine seqK_n_i ?_ | refine awp_block_i ?_ | refine awp_skip_i ?_ | refine blockK_n_i ?_ | refine awp_ret_i ?_ | refine seqK_r_i ?_ | refine blockK_r_i ?_ | refine awp_exit_i ?_ | refine seqK_e_i ?_ | refine blockK_e_i ?_ | refine blockK_ne_i (by decide) ?_ | refine PostF_n_i ?_ | refine PostF_r_i ?_ | refine sep_nil_i ?_ | refine condP_t ?_ | refine condP_f ?_ | refine condP_ta (by assumption) ?_ | refine condP_fa (by assumption) ?_) | (refine awp_cond_e rfl ?_) | (simp -implicitDefEqProofs only [push_cast, eq_self, reduceIte, Nat.reduceEqDiff, reduceCtorEq, Nat.reduceAdd, Nat.reduceMul, Nat.reduceSub, Nat.reduceLeDiff, Int.reduceToNat, Int.reduceLE, Int.reduceLT, Int.reduceAdd, Int.reduceSub, Int.reduceMul, Int.reduceNeg, e0, e2, e3, e4, e9, e10, e11, e13, e14, e15, hdj]) | (simp -implicitDefEqProofs (disch := omega) only [push_epn, put_epn, kill_epn, wrap64', e0, e2, e3, e4, e9, e10, e11, e13, e14, e15, hdj]) | (with_reducible refine sep_i ?_ ?_) | (refine awpOps_gd rfl (fun bb => ?_) (fun bb => ?_) <;> simp only [bb]) | (with_reducible refine condP_in (fun bb => ?_) (fun bb => ?_)) | ((with_reducible refine And.intro ?_ ?_); omega) | fail)
    obtain rfl : j = l.length := by omega
    exact ⟨out, hX.ext (Ext.refl h).tick, hS.ext (Ext.refl h).tick⟩
end Go.Proofs.Hx

set_option linter.unusedVariables false
set_option linter.unusedSimpArgs false
namespace Go.Proofs.Hx
open Go Go.Proofs
attribute [local irreducible] awpOps awp opK goV goM callG endOps awpOp runOp HV HVF HC
/-- The finder while it is made: reads and d as they stand. -/
def finW (l : List Opn) (t : Tab) (a b : AV) : List AV := .row (l.map opC) :: (tabC t ++ [a, b, .nil])
theorem finW_14 (l : List Opn) (t : Tab) (a b : AV) : (finW l t a b)[14]? = some a := rfl
theorem finW_15 (l : List Opn) (t : Tab) (a b : AV) : (finW l t a b)[15]? = some b := rfl
theorem finW_put14 (l : List Opn) (t : Tab) (a b v : AV) : (finW l t a b).take 14 ++ [v] ++ (finW l t a b).drop (14 + 1) = finW l t v b := rfl
theorem finW_put15 (l : List Opn) (t : Tab) (a b v : AV) : (finW l t a b).take 15 ++ [v] ++ (finW l t a b).drop (15 + 1) = finW l t a v := rfl
theorem finW_len (l : List Opn) (t : Tab) (a b : AV) : (finW l t a b).length = 17 := rfl
attribute [push_cast] finW_14 finW_15 finW_put14 finW_put15 finW_len
theorem Ext.kill {h g : Hp} (e : Ext h g) {a b : Nat} (hid : h.ep < a) : Ext h (g.kill (a, b)) :=
  ⟨e.1, fun x hx => by rw [kill_ne _ _ _ (fun e' => by rw [e'] at hx; simp at hx; omega)]; exact e.2 x hx⟩
structure FinW (h0 h : Hp) (F : Id) (l : List Opn) (t : Tab) (j : Nat) (a b : AV) : Prop where
  fin : h.hp F = some ⟨true, finW l t a b⟩
  st : (j = 0 ∧ a = .nil ∧ b = .nil) ∨ ∃ re rs de ds : Nat, a = .sl (re, rs) 0 j 1 ∧ b = .sl (de, ds) 0 j 1 ∧ h.hp (re, rs) = some ⟨true, (l.take j).flatMap regRow⟩ ∧ h.hp (de, ds) = some ⟨true, (l.take j).flatMap dRow⟩ ∧
    re ≤ h.ep ∧ de ≤ h.ep ∧ (re, rs) ≠ F ∧ (de, ds) ≠ F ∧ (re, rs) ≠ (de, ds) ∧ h0.ep < re ∧ h0.ep < de
  eF : F.1 ≤ h.ep
  lF : h0.ep < F.1
  ex : Ext h0 h
def I65 (h0 : Hp) (F : Id) (l : List Opn) (t : Tab) (n : Nat) (σ : St) : Prop := ∃ (j : Nat) (a b : AV), j ≤ l.length ∧ n = l.length - j ∧ σ.env 0 = .row (l.map opC) ∧ σ.env 5 = .ptr F 0 ∧ σ.env 14 = i64 l.length ∧ σ.env 15 = i64 j ∧ FinW h0 σ.h F l t j a b
set_option maxHeartbeats 1000000 in
theorem f65 {h0 : Hp} {l : List Opn} {t : Tab} (hl : ∀ o ∈ l, o.ok) (hn : l.length ≤ 1024) :
    HC Try.prog 65 [.row (l.map opC), .agg (tabC t)] h0 fun r h' => ∃ F a b, r = .ptr F 0 ∧ FinW h0 h' F l t l.length a b := by
  refine HC_of_awp mixed cf65 (by simp) fun hF => ?_
  unfold ac65 re65
  refine awp_env_i fun env hE => ?_; have e0 := hE 0; have e1 := hE 1; have e3 := hE 3; have e4 := hE 4; have e5 := hE 5; have e6 := hE 6; have e7 := hE 7; have e8 := hE 8; have e14 := hE 14; have e15 := hE 15; have e16 := hE 16; simp -implicitDefEqProofs only [push_cast] at e0 e1 e3 e4 e5 e6 e7 e8 e14 e15 e16; clear hE
  repeat' (first | ((try clear hf); with_reducible refine awp_ops_g fun env K hE hK hf => ?_; have n0 := hE 0; have n1 := hE 1; have n3 := hE 3; have n4 := hE 4; have n5 := hE 5; have n6 := hE 6; have n7 := hE 7; have n8 := hE 8; have n14 := hE 14; have n15 := hE 15; have n16 := hE 16; simp -implicitDefEqProofs only [push_cast, reduceIte, Nat.reduceEqDiff, e0, e1, e3, e4, e5, e6, e7, e8, e14, e15, e16] at n0 n1 n3 n4 n5 n6 n7 n8 n14 n15 n16; clear hE e0 e1 e3 e4 e5 e6 e7 e8 e14 e15 e16; have e0 := n0; have e1 := n1; have e3 := n3; have e4 := n4; have e5 := n5; have e6 := n6; have e7 := n7; have e8 := n8; have e14 := n14; have e15 := n15; have e16 := n16; clear n0 n1 n3 n4 n5 n6 n7 n8 n14 n15 n16) | (with_reducible refine hK _ _ ?_; clear hK K) | (with_reducible first | refine awp_seq_i ?_ | refine seqK_n_i ?_ | refine awp_block_i ?_ | refine awp_skip_i ?_ | refine blockK_n_i ?_ | refine awp_ret_i ?_ | refine seqK_r_i ?_ | refine blockK_r_i ?_ | refine awp_exit_i ?_ | refine seqK_e_i ?_ | refine blockK_e_i ?_ | refine blockK_ne_i (by decide) ?_ | refine PostF_n_i ?_ | refine PostF_r_i ?_ | refine sep_nil_i ?_ | refine condP_t ?_ | refine condP_f ?_ | refine condP_ta (by assumption) ?_ | refine condP_fa (by assumption) ?_) | (refine awp_cond_e rfl ?_) | (simp -implicitDefEqProofs only [push_cast, eq_self, reduceIte, Nat.reduceEqDiff, reduceCtorEq, Nat.reduceAdd, Nat.reduceMul, Nat.reduceSub, Nat.reduceLeDiff, Int.reduceToNat, Int.reduceLE, Int.reduceLT, Int.reduceAdd, Int.reduceSub, Int.reduceMul, Int.reduceNeg, e0, e1, e3, e4, e5, e6, e7, e8, e14, e15, e16, hF.at, lenV_row]) | (simp -implicitDefEqProofs (disch := omega) only [push_epn, put_epn, kill_epn, wrap64', e0, e1, e3, e4, e5, e6, e7, e8, e14, e15, e16, hF.at, lenV_row]) | (with_reducible refine sep_i ?_ ?_) | (refine awpOps_gd rfl (fun bb => ?_) (fun bb => ?_) <;> simp only [bb]) | (with_reducible refine condP_in (fun bb => ?_) (fun bb => ?_)) | ((with_reducible refine And.intro ?_ ?_); omega) | fail)
  generalize hF0 : (h0.ep + 1 + 1 + 1, 12) = F
  have hFl : h0.ep < F.1 := by rw [← hF0]; show h0.ep < h0.ep + 1 + 1 + 1; omega
  refine awp_loop (I65 h0 F l t) l.length ⟨0, .nil, .nil, by omega, by omega, by simp -implicitDefEqProofs only [push_cast, eq_self, reduceIte, Nat.reduceEqDiff, reduceCtorEq, Nat.reduceAdd, Nat.reduceMul, Nat.reduceSub, Nat.reduceLeDiff, Int.reduceToNat, Int.reduceLE, Int.reduceLT, Int.reduceAdd, Int.reduceSub, Int.reduceMul, Int.reduceNeg, e0], by simp -implicitDefEqProofs only [push_cast, eq_self, reduceIte, Nat.reduceEqDiff, reduceCtorEq, Nat.reduceAdd, Nat.reduceMul, Nat.reduceSub, Nat.reduceLeDiff, Int.reduceToNat, Int.reduceLE, Int.reduceLT, Int.reduceAdd, Int.reduceSub, Int.reduceMul, Int.reduceNeg, e5, hF0], by simp -implicitDefEqProofs only [push_cast, eq_self, reduceIte, Nat.reduceEqDiff, reduceCtorEq, Nat.reduceAdd, Nat.reduceMul, Nat.reduceSub, Nat.reduceLeDiff, Int.reduceToNat, Int.reduceLE, Int.reduceLT, Int.reduceAdd, Int.reduceSub, Int.reduceMul, Int.reduceNeg], by simp -implicitDefEqProofs only [push_cast, eq_self, reduceIte, Nat.reduceEqDiff, reduceCtorEq, Nat.reduceAdd, Nat.reduceMul, Nat.reduceSub, Nat.reduceLeDiff, Int.reduceToNat, Int.reduceLE, Int.reduceLT, Int.reduceAdd, Int.reduceSub, Int.reduceMul, Int.reduceNeg], ⟨?_, .inl ⟨rfl, rfl, rfl⟩, ?_, hFl, ?_⟩⟩ ?_
  · rw [← hF0]; simp -implicitDefEqProofs only [push_cast, eq_self, reduceIte, Nat.reduceEqDiff, reduceCtorEq, Nat.reduceAdd, Nat.reduceMul, Nat.reduceSub, Nat.reduceLeDiff, Int.reduceToNat, Int.reduceLE, Int.reduceLT, Int.reduceAdd, Int.reduceSub, Int.reduceMul, Int.reduceNeg]; rfl
  · rw [← hF0]; show h0.ep + 1 + 1 + 1 ≤ _; simp -implicitDefEqProofs only [push_cast, eq_self, reduceIte, Nat.reduceEqDiff, reduceCtorEq, Nat.reduceAdd, Nat.reduceMul, Nat.reduceSub, Nat.reduceLeDiff, Int.reduceToNat, Int.reduceLE, Int.reduceLT, Int.reduceAdd, Int.reduceSub, Int.reduceMul, Int.reduceNeg]; omega
  · rw [← hF0]; exact (by repeat (first | exact Ext.refl _ | refine Ext.tick ?_ | refine Ext.push ?_ (by omega) _ | refine Ext.put ?_ (by omega) _))
  obtain ⟨Fe, Fs⟩ := F
  simp only at hFl
  clear hF hF0
  rintro n ⟨env, h⟩ ⟨j, a, b, hj', rfl, e0, e5, e14, e15, ⟨hb, hst, hFe, hlF, hex⟩⟩
  simp only at e0 e5 e14 e15 hb hst hFe hlF hex
  have e1 : True := trivial; have e3 : True := trivial; have e4 : True := trivial; have e6 : True := trivial; have e7 : True := trivial; have e8 : True := trivial; have e16 : True := trivial
  unfold l65_0
  refine awp_fresh_i fun hF => ?_
  by_cases hj : j < l.length
  · have hd : decide ((j : Int) < (l.length : Int)) = true := by simp; omega
    have ho := hl _ (List.getElem_mem hj)
    have hw : IntKind.i64.wrap (wrS l[j]).1 = (wrS l[j]).1 := by
      have h := ho
      unfold Opn.ok at h
      apply wrap64 <;> (unfold wrS; split <;> simp <;> omega)
    have htk : ∀ f : Opn → List AV, (l.take (j + 1)).flatMap f = (l.take j).flatMap f ++ f l[j] := fun f => by
      rw [List.take_succ_eq_append_getElem hj, List.flatMap_append]
      simp
    rcases hst with ⟨hj0, rfl, rfl⟩ | ⟨re, rs, de, ds, rfl, rfl, h1, h2, g1, g2, g3, g4, g5, g6, g7⟩
    · have hA : ∀ (h' : Hp) (id' : Id) (x : List AV), appV h' id' 1 24 1 x .nil = some (.sl id' 0 1 1, h'.push id' x) := fun h' id' x => appV_nil _ _ (by decide) (by decide)
      have hA2 : ∀ (h' : Hp) (id' : Id) (x : List AV), appV h' id' 1 8 1 x .nil = some (.sl id' 0 1 1, h'.push id' x) := fun h' id' x => appV_nil _ _ (by decide) (by decide)
      repeat' (first | ((try clear hf); with_reducible refine awp_ops_g fun env K hE hK hf => ?_; have n0 := hE 0; have n1 := hE 1; have n3 := hE 3; have n4 := hE 4; have n5 := hE 5; have n6 := hE 6; have n7 := hE 7; have n8 := hE 8; have n14 := hE 14; have n15 := hE 15; have n16 := hE 16; simp -implicitDefEqProofs only [push_cast, reduceIte, Nat.reduceEqDiff, e0, e1, e3, e4, e5, e6, e7, e8, e14, e15, e16] at n0 n1 n3 n4 n5 n6 n7 n8 n14 n15 n16; clear hE e0 e1 e3 e4 e5 e6 e7 e8 e14 e15 e16; have e0 := n0; have e1 := n1; have e3 := n3; have e4 := n4; have e5 := n5; have e6 := n6; have e7 := n7; have e8 := n8; have e14 := n14; have e15 := n15; have e16 := n16; clear n0 n1 n3 n4 n5 n6 n7 n8 n14 n15 n16) | (with_reducible refine hK _ _ ?_; clear hK K) | (with_reducible first | refine awp_seq_i ?_ | refine seqK_n_i ?_ | refine awp_block_i ?_ | refine awp_skip_i ?_ | refine blockK_n_i ?_ | refine awp_ret_i ?_ | refine seqK_r_i ?_ | refine blockK_r_i ?_ | refine awp_exit_i ?_ | refine seqK_e_i ?_ | refine blockK_e_i ?_ | refine blockK_ne_i (by decide) ?_ | refine PostF_n_i ?_ | refine PostF_r_i ?_ | refine sep_nil_i ?_ | refine condP_t ?_ | refine condP_f ?_ | refine condP_ta (by assumption) ?_ | refine condP_fa (by assumption) ?_) | (refine awp_cond_e rfl ?_) | (simp -implicitDefEqProofs only [push_cast, eq_self, reduceIte, Nat.reduceEqDiff, reduceCtorEq, Nat.reduceAdd, Nat.reduceMul, Nat.reduceSub, Nat.reduceLeDiff, Int.reduceToNat, Int.reduceLE, Int.reduceLT, Int.reduceAdd, Int.reduceSub, Int.reduceMul, Int.reduceNeg, e0, e1, e3, e4, e5, e6, e7, e8, e14, e15, e16, hd, hF.at, hb, hA, hA2, idxAddr_sl, row_at hj]) | (simp -implicitDefEqProofs (disch := omega) only [push_epn, put_epn, kill_epn, wrap64', e0, e1, e3, e4, e5, e6, e7, e8, e14, e15, e16, hd, hF.at, hb, hA, hA2, idxAddr_sl, row_at hj]) | (with_reducible refine sep_i ?_ ?_) | (refine awpOps_gd rfl (fun bb => ?_) (fun bb => ?_) <;> simp only [bb]) | (with_reducible refine condP_in (fun bb => ?_) (fun bb => ?_)) | ((with_reducible refine And.intro ?_ ?_); omega) | (refine call_ownq (lends_imm rfl) (f54 l[j] ho) ?_) | (refine call_imm (f52 l[j] ho) ?_) | fail)
      all_goals
        subst hj0
        refine ⟨l.length - (0 + 1), by omega, 0 + 1, .sl (h.ep + 1 + 1 + 1, 29) 0 (0 + 1) 1, .sl (h.ep + 1 + 1 + 1 + 1 + 1 + 1, 46) 0 (0 + 1) 1, by omega, rfl, by simp -implicitDefEqProofs only [push_cast, eq_self, reduceIte, Nat.reduceEqDiff, reduceCtorEq, Nat.reduceAdd, Nat.reduceMul, Nat.reduceSub, Nat.reduceLeDiff, Int.reduceToNat, Int.reduceLE, Int.reduceLT, Int.reduceAdd, Int.reduceSub, Int.reduceMul, Int.reduceNeg, e0], by simp -implicitDefEqProofs only [push_cast, eq_self, reduceIte, Nat.reduceEqDiff, reduceCtorEq, Nat.reduceAdd, Nat.reduceMul, Nat.reduceSub, Nat.reduceLeDiff, Int.reduceToNat, Int.reduceLE, Int.reduceLT, Int.reduceAdd, Int.reduceSub, Int.reduceMul, Int.reduceNeg, e5], by simp -implicitDefEqProofs only [push_cast, eq_self, reduceIte, Nat.reduceEqDiff, reduceCtorEq, Nat.reduceAdd, Nat.reduceMul, Nat.reduceSub, Nat.reduceLeDiff, Int.reduceToNat, Int.reduceLE, Int.reduceLT, Int.reduceAdd, Int.reduceSub, Int.reduceMul, Int.reduceNeg, e14], by simp -implicitDefEqProofs only [push_cast, eq_self, reduceIte, Nat.reduceEqDiff, reduceCtorEq, Nat.reduceAdd, Nat.reduceMul, Nat.reduceSub, Nat.reduceLeDiff, Int.reduceToNat, Int.reduceLE, Int.reduceLT, Int.reduceAdd, Int.reduceSub, Int.reduceMul, Int.reduceNeg], ⟨?_, .inr ⟨_, _, _, _, rfl, rfl, ?_, ?_, ?_, ?_, ?_, ?_, ?_, by omega, by omega⟩, ?_, hlF, (by repeat (first | assumption | refine Ext.tick ?_ | refine Ext.push ?_ (by omega) _ | refine Ext.put ?_ (by omega) _))⟩⟩
        · simp -implicitDefEqProofs (disch := first | decide | omega) only [tick_hp, push_self, put_self, push_epn, put_epn, push_slot, put_slot]
        · simp -implicitDefEqProofs (disch := first | decide | omega) only [tick_hp, push_self, put_self, push_epn, put_epn, push_slot, put_slot]
          rw [htk]
          rfl
        · simp -implicitDefEqProofs (disch := first | decide | omega) only [tick_hp, push_self, put_self, push_epn, put_epn, push_slot, put_slot]
          rw [htk]
          simp [dRow, bb, hw]
        · simp -implicitDefEqProofs only [push_cast, eq_self, reduceIte, Nat.reduceEqDiff, reduceCtorEq, Nat.reduceAdd, Nat.reduceMul, Nat.reduceSub, Nat.reduceLeDiff, Int.reduceToNat, Int.reduceLE, Int.reduceLT, Int.reduceAdd, Int.reduceSub, Int.reduceMul, Int.reduceNeg]; omega
        · simp -implicitDefEqProofs only [push_cast, eq_self, reduceIte, Nat.reduceEqDiff, reduceCtorEq, Nat.reduceAdd, Nat.reduceMul, Nat.reduceSub, Nat.reduceLeDiff, Int.reduceToNat, Int.reduceLE, Int.reduceLT, Int.reduceAdd, Int.reduceSub, Int.reduceMul, Int.reduceNeg]; omega
        · intro e; have := congrArg Prod.fst e; simp at this; omega
        · intro e; have := congrArg Prod.fst e; simp at this; omega
        · intro e; have := congrArg Prod.fst e; simp at this
        · simp -implicitDefEqProofs only [push_cast, eq_self, reduceIte, Nat.reduceEqDiff, reduceCtorEq, Nat.reduceAdd, Nat.reduceMul, Nat.reduceSub, Nat.reduceLeDiff, Int.reduceToNat, Int.reduceLE, Int.reduceLT, Int.reduceAdd, Int.reduceSub, Int.reduceMul, Int.reduceNeg]; omega
    · have hlr : ((l.take j).flatMap regRow).length = j * 1 := by rw [flat1_len (fun _ => rfl)]; simp; omega
      have hld : ((l.take j).flatMap dRow).length = j * 1 := by rw [flat1_len (fun _ => rfl)]; simp; omega
      have htr : ((l.take j).flatMap regRow).take j = (l.take j).flatMap regRow := by rw [List.take_of_length_le (by omega)]
      have htd : ((l.take j).flatMap dRow).take j = (l.take j).flatMap dRow := by rw [List.take_of_length_le (by omega)]
      have hdl : ∀ x, ((l.take j).flatMap dRow ++ [x]).take j = (l.take j).flatMap dRow := fun x => by rw [List.take_append_of_le_length (by omega)]; exact htd
      have k1 : ∀ h' : Hp, (h'.kill (re, rs)).hp (Fe, Fs) = h'.hp (Fe, Fs) := fun h' => kill_ne _ _ _ (Ne.symm g3)
      have k2 : ∀ h' : Hp, (h'.kill (de, ds)).hp (Fe, Fs) = h'.hp (Fe, Fs) := fun h' => kill_ne _ _ _ (Ne.symm g4)
      have k3 : ∀ h' : Hp, (h'.kill (re, rs)).hp (de, ds) = h'.hp (de, ds) := fun h' => kill_ne _ _ _ (Ne.symm g5)
      have hle : j + 1 ≤ ((l.take j).flatMap dRow ++ [AV.lit (.int .i64 (-1))]).length := by simp only [List.length_append, hld, List.length_cons, List.length_nil]; omega
      have hdd : ∀ x, ((l.take j).flatMap dRow ++ [x]).drop (j + 1) = [] := fun x => List.drop_eq_nil_of_le (by simp only [List.length_append, hld, List.length_cons, List.length_nil]; omega)
      have k4 : ∀ (h' : Hp) (c : List AV), (h'.put (Fe, Fs) c).hp (de, ds) = h'.hp (de, ds) := fun h' c => put_ne _ _ _ _ g4
      repeat' (first | ((try clear hf); with_reducible refine awp_ops_g fun env K hE hK hf => ?_; have n0 := hE 0; have n1 := hE 1; have n3 := hE 3; have n4 := hE 4; have n5 := hE 5; have n6 := hE 6; have n7 := hE 7; have n8 := hE 8; have n14 := hE 14; have n15 := hE 15; have n16 := hE 16; simp -implicitDefEqProofs only [push_cast, reduceIte, Nat.reduceEqDiff, e0, e1, e3, e4, e5, e6, e7, e8, e14, e15, e16] at n0 n1 n3 n4 n5 n6 n7 n8 n14 n15 n16; clear hE e0 e1 e3 e4 e5 e6 e7 e8 e14 e15 e16; have e0 := n0; have e1 := n1; have e3 := n3; have e4 := n4; have e5 := n5; have e6 := n6; have e7 := n7; have e8 := n8; have e14 := n14; have e15 := n15; have e16 := n16; clear n0 n1 n3 n4 n5 n6 n7 n8 n14 n15 n16) | (with_reducible refine hK _ _ ?_; clear hK K) | (with_reducible first | refine awp_seq_i ?_ | refine seqK_n_i ?_ | refine awp_block_i ?_ | refine awp_skip_i ?_ | refine blockK_n_i ?_ | refine awp_ret_i ?_ | refine seqK_r_i ?_ | refine blockK_r_i ?_ | refine awp_exit_i ?_ | refine seqK_e_i ?_ | refine blockK_e_i ?_ | refine blockK_ne_i (by decide) ?_ | refine PostF_n_i ?_ | refine PostF_r_i ?_ | refine sep_nil_i ?_ | refine condP_t ?_ | refine condP_f ?_ | refine condP_ta (by assumption) ?_ | refine condP_fa (by assumption) ?_) | (refine awp_cond_e rfl ?_) | (simp -implicitDefEqProofs only [push_cast, eq_self, reduceIte, Nat.reduceEqDiff, reduceCtorEq, Nat.reduceAdd, Nat.reduceMul, Nat.reduceSub, Nat.reduceLeDiff, Int.reduceToNat, Int.reduceLE, Int.reduceLT, Int.reduceAdd, Int.reduceSub, Int.reduceMul, Int.reduceNeg, e0, e1, e3, e4, e5, e6, e7, e8, e14, e15, e16, hd, hF.at, hb, h1, h2, appV_sl_eq, idxAddr_sl, row_at hj, htr, htd, hdl, hdd, List.append_nil, k1, k2, k3, k4]) | (simp -implicitDefEqProofs (disch := omega) only [push_epn, put_epn, kill_epn, wrap64', e0, e1, e3, e4, e5, e6, e7, e8, e14, e15, e16, hd, hF.at, hb, h1, h2, appV_sl_eq, idxAddr_sl, row_at hj, htr, htd, hdl, hdd, List.append_nil, k1, k2, k3, k4]) | (with_reducible refine sep_i ?_ ?_) | (refine awpOps_gd rfl (fun bb => ?_) (fun bb => ?_) <;> simp only [bb]) | (with_reducible refine condP_in (fun bb => ?_) (fun bb => ?_)) | ((with_reducible refine And.intro ?_ ?_); omega) | (refine call_ownq (lends_imm rfl) (f54 l[j] ho) ?_) | (refine call_imm (f52 l[j] ho) ?_) | fail)
      all_goals
        refine ⟨l.length - (j + 1), by omega, j + 1, .sl (h.ep + 1 + 1 + 1, 29) 0 (j + 1) 1, .sl (h.ep + 1 + 1 + 1 + 1 + 1 + 1, 46) 0 (j + 1) 1, by omega, rfl, by simp -implicitDefEqProofs only [push_cast, eq_self, reduceIte, Nat.reduceEqDiff, reduceCtorEq, Nat.reduceAdd, Nat.reduceMul, Nat.reduceSub, Nat.reduceLeDiff, Int.reduceToNat, Int.reduceLE, Int.reduceLT, Int.reduceAdd, Int.reduceSub, Int.reduceMul, Int.reduceNeg, e0], by simp -implicitDefEqProofs only [push_cast, eq_self, reduceIte, Nat.reduceEqDiff, reduceCtorEq, Nat.reduceAdd, Nat.reduceMul, Nat.reduceSub, Nat.reduceLeDiff, Int.reduceToNat, Int.reduceLE, Int.reduceLT, Int.reduceAdd, Int.reduceSub, Int.reduceMul, Int.reduceNeg, e5], by simp -implicitDefEqProofs only [push_cast, eq_self, reduceIte, Nat.reduceEqDiff, reduceCtorEq, Nat.reduceAdd, Nat.reduceMul, Nat.reduceSub, Nat.reduceLeDiff, Int.reduceToNat, Int.reduceLE, Int.reduceLT, Int.reduceAdd, Int.reduceSub, Int.reduceMul, Int.reduceNeg, e14], by simp -implicitDefEqProofs only [push_cast, eq_self, reduceIte, Nat.reduceEqDiff, reduceCtorEq, Nat.reduceAdd, Nat.reduceMul, Nat.reduceSub, Nat.reduceLeDiff, Int.reduceToNat, Int.reduceLE, Int.reduceLT, Int.reduceAdd, Int.reduceSub, Int.reduceMul, Int.reduceNeg], ⟨?_, .inr ⟨_, _, _, _, rfl, rfl, ?_, ?_, ?_, ?_, ?_, ?_, ?_, by omega, by omega⟩, ?_, hlF, (by repeat (first | assumption | refine Ext.tick ?_ | refine Ext.push ?_ (by omega) _ | refine Ext.put ?_ (by omega) _ | refine Ext.kill ?_ (by omega)))⟩⟩
        · simp -implicitDefEqProofs (disch := first | decide | omega) only [tick_hp, push_self, put_self, push_epn, put_epn, push_slot, put_slot, kill_epn, k1, k2, k3, k4]
        · simp -implicitDefEqProofs (disch := first | decide | omega) only [tick_hp, push_self, put_self, push_epn, put_epn, push_slot, put_slot, kill_epn, k1, k2, k3, k4]
          rw [htk]
          rfl
        · simp -implicitDefEqProofs (disch := first | decide | omega) only [tick_hp, push_self, put_self, push_epn, put_epn, push_slot, put_slot, kill_epn, k1, k2, k3, k4]
          rw [htk]
          simp [dRow, bb, hw]
        · simp -implicitDefEqProofs only [push_cast, eq_self, reduceIte, Nat.reduceEqDiff, reduceCtorEq, Nat.reduceAdd, Nat.reduceMul, Nat.reduceSub, Nat.reduceLeDiff, Int.reduceToNat, Int.reduceLE, Int.reduceLT, Int.reduceAdd, Int.reduceSub, Int.reduceMul, Int.reduceNeg]; omega
        · simp -implicitDefEqProofs only [push_cast, eq_self, reduceIte, Nat.reduceEqDiff, reduceCtorEq, Nat.reduceAdd, Nat.reduceMul, Nat.reduceSub, Nat.reduceLeDiff, Int.reduceToNat, Int.reduceLE, Int.reduceLT, Int.reduceAdd, Int.reduceSub, Int.reduceMul, Int.reduceNeg]; omega
        · intro e; have := congrArg Prod.fst e; simp at this; omega
        · intro e; have := congrArg Prod.fst e; simp at this; omega
        · intro e; have := congrArg Prod.fst e; simp at this
        · simp -implicitDefEqProofs only [push_cast, eq_self, reduceIte, Nat.reduceEqDiff, reduceCtorEq, Nat.reduceAdd, Nat.reduceMul, Nat.reduceSub, Nat.reduceLeDiff, Int.reduceToNat, Int.reduceLE, Int.reduceLT, Int.reduceAdd, Int.reduceSub, Int.reduceMul, Int.reduceNeg]; omega
  · have hd : decide ((j : Int) < (l.length : Int)) = false := by simp; omega
    repeat' (first | ((try clear hf); with_reducible refine awp_ops_g fun env K hE hK hf => ?_; have n0 := hE 0; have n1 := hE 1; have n3 := hE 3; have n4 := hE 4; have n5 := hE 5; have n6 := hE 6; have n7 := hE 7; have n8 := hE 8; have n14 := hE 14; have n15 := hE 15; have n16 := hE 16; simp -implicitDefEqProofs only [push_cast, reduceIte, Nat.reduceEqDiff, e0, e1, e3, e4, e5, e6, e7, e8, e14, e15, e16] at n0 n1 n3 n4 n5 n6 n7 n8 n14 n15 n16; clear hE e0 e1 e3 e4 e5 e6 e7 e8 e14 e15 e16; have e0 := n0; have e1 := n1; have e3 := n3; have e4 := n4; have e5 := n5; have e6 := n6; have e7 := n7; have e8 := n8; have e14 := n14; have e15 := n15; have e16 := n16; clear n0 n1 n3 n4 n5 n6 n7 n8 n14 n15 n16) | (with_reducible refine hK _ _ ?_; clear hK K) | (with_reducible first | refine awp_seq_i ?_ | refine seqK_n_i ?_ | refine awp_block_i ?_ | refine awp_skip_i ?_ | refine blockK_n_i ?_ | refine awp_ret_i ?_ | refine seqK_r_i ?_ | refine blockK_r_i ?_ | refine awp_exit_i ?_ | refine seqK_e_i ?_ | refine blockK_e_i ?_ | refine blockK_ne_i (by decide) ?_ | refine PostF_n_i ?_ | refine PostF_r_i ?_ | refine sep_nil_i ?_ | refine condP_t ?_ | refine condP_f ?_ | refine condP_ta (by assumption) ?_ | refine condP_fa (by assumption) ?_) | (refine awp_cond_e rfl ?_) | (simp -implicitDefEqProofs only [push_cast, eq_self, reduceIte, Nat.reduceEqDiff, reduceCtorEq, Nat.reduceAdd, Nat.reduceMul, Nat.reduceSub, Nat.reduceLeDiff, Int.reduceToNat, Int.reduceLE, Int.reduceLT, Int.reduceAdd, Int.reduceSub, Int.reduceMul, Int.reduceNeg, e0, e1, e3, e4, e5, e6, e7, e8, e14, e15, e16, hd]) | (simp -implicitDefEqProofs (disch := omega) only [push_epn, put_epn, kill_epn, wrap64', e0, e1, e3, e4, e5, e6, e7, e8, e14, e15, e16, hd]) | (with_reducible refine sep_i ?_ ?_) | (refine awpOps_gd rfl (fun bb => ?_) (fun bb => ?_) <;> simp only [bb]) | (with_reducible refine condP_in (fun bb => ?_) (fun bb => ?_)) | ((with_reducible refine And.intro ?_ ?_); omega) | fail)
    obtain rfl : j = l.length := by omega
    exact ⟨(Fe, Fs), a, b, rfl, hb, hst.imp id fun ⟨re, rs, de, ds, e1, e2, e3, e4, e5, e6, r⟩ => ⟨re, rs, de, ds, e1, e2, e3, e4, by rw [tick_ep, tick_ep]; omega, by rw [tick_ep, tick_ep]; omega, r⟩, by rw [tick_ep, tick_ep]; simp only; omega, hlF, hex.tick.tick⟩
end Go.Proofs.Hx

set_option linter.unusedVariables false
set_option linter.unusedSimpArgs false
namespace Go.Proofs.Hx
open Go Go.Proofs
attribute [local irreducible] awpOps awp opK goV goM callG endOps awpOp runOp HV HVF HC
/-- The finder, made. -/
theorem FinW.finH {h0 h : Hp} {F : Id} {l : List Opn} {t : Tab} {a b : AV} (w : FinW h0 h F l t l.length a b) (hp : 0 < l.length) : ∃ rid did, FinH h F l t [] rid did .nil := by
  rcases w.st with ⟨h1, _, _⟩ | ⟨re, rs, de, ds, rfl, rfl, e1, e2, e3, e4, e5, e6, e7, e8, e9⟩
  · omega
  · rw [List.take_length] at e1 e2
    exact ⟨(re, rs), (de, ds), w.fin, e1, e2, .inl ⟨rfl, rfl⟩, w.eF, e3, e4, e5, e6, e7, fun id h => by simp [idOf] at h⟩
theorem call_nf {d : Option Nat} {K : St → Prop} {env : Nat → AV} {g : Hp} {l : List Opn} {t : Tab} (hl : ∀ o ∈ l, o.ok) (hn : l.length ≤ 1024)
    (k : ∀ h' F a b, FinW g h' F l t l.length a b → Fresh h' → K ⟨putA env d (.ptr F 0), h'.tick⟩) :
    callG Try.prog d K env g false (.fn 65 []) [.row (l.map opC), .agg (tabC t)] :=
  call_hc (HC.mono (f65 hl hn) fun r h' ⟨F, a, b, hr, w⟩ hf => by rw [hr]; exact k h' F a b w hf)
theorem call_once {d : Option Nat} {K : St → Prop} {env : Nat → AV} {g : Hp} {F : Id} {l : List Opn} {t : Tab} {rid did : Id} (hX : FinH g F l t [] rid did .nil) (hl : ∀ o ∈ l, o.ok) (ht : tabOK t) (hn : l.length ≤ 1024)
    (k : ∀ h' out', FinH h' F l t (onceE l t l.length) rid did out' → Fresh h' → FS g F .nil h' out' → K ⟨putA env d (.tup []), h'.tick⟩) :
    callG Try.prog d K env g false (.fn 66 []) [.ptr F 0] :=
  call_hc (HC.mono (f66 hX (fun x h => by simp [idOf] at h) hl ht hn) fun r h' ⟨hr, out', h1, h2⟩ hf => by rw [hr]; exact k h' out' h1 hf h2)
theorem Ext.tr {h g k : Hp} (a : Ext h g) (b : Ext g k) : Ext h k := ⟨Nat.le_trans a.1 b.1, fun x hx => (b.2 x (Nat.le_trans hx a.1)).trans (a.2 x hx)⟩
theorem Ext.le {h g : Hp} (a : Ext h g) : h.ep ≤ g.ep := a.1
set_option maxHeartbeats 1000000 in
theorem f40 {h0 : Hp} {l : List Opn} {t : Tab} (hl : ∀ o ∈ l, o.ok) (ht : tabOK t) (hn : l.length ≤ 1024) (hp : 0 < l.length) (hR : errR l t = 0) :
    HC Try.prog 40 [.row (l.map opC), .agg (tabC t)] h0 fun r h' => ∃ out, r = .tup [out, i64 0] ∧ OutR h' out (onceE l t l.length) ∧ Ext h0 h' := by
  refine HC_of_awp mixed cf40 (by simp) fun hF => ?_
  unfold ac40 re40
  refine awp_env_i fun env hE => ?_; have e0 := hE 0; have e1 := hE 1; have e3 := hE 3; have e4 := hE 4; have e5 := hE 5; have e6 := hE 6; have e7 := hE 7; simp -implicitDefEqProofs only [push_cast] at e0 e1 e3 e4 e5 e6 e7; clear hE
  have hr := f64 l t hl
  rw [hR] at hr
  have hb := hR
  have h16 : ∀ l t a b o, (finC l t a b o)[16]? = some o := fun _ _ _ _ _ => rfl
  repeat' (first | ((try clear hf); with_reducible refine awp_ops_g fun env K hE hK hf => ?_; have n0 := hE 0; have n1 := hE 1; have n3 := hE 3; have n4 := hE 4; have n5 := hE 5; have n6 := hE 6; have n7 := hE 7; simp -implicitDefEqProofs only [push_cast, reduceIte, Nat.reduceEqDiff, e0, e1, e3, e4, e5, e6, e7] at n0 n1 n3 n4 n5 n6 n7; clear hE e0 e1 e3 e4 e5 e6 e7; have e0 := n0; have e1 := n1; have e3 := n3; have e4 := n4; have e5 := n5; have e6 := n6; have e7 := n7; clear n0 n1 n3 n4 n5 n6 n7) | (with_reducible refine hK _ _ ?_; clear hK K) | (with_reducible first | refine awp_seq_i ?_ | refine seqK_n_i ?_ | refine awp_block_i ?_ | refine awp_skip_i ?_ | refine blockK_n_i ?_ | refine awp_ret_i ?_ | refine seqK_r_i ?_ | refine blockK_r_i ?_ | refine awp_exit_i ?_ | refine seqK_e_i ?_ | refine blockK_e_i ?_ | refine blockK_ne_i (by decide) ?_ | refine PostF_n_i ?_ | refine PostF_r_i ?_ | refine sep_nil_i ?_ | refine condP_t ?_ | refine condP_f ?_ | refine condP_ta (by assumption) ?_ | refine condP_fa (by assumption) ?_) | (refine awp_cond_e rfl ?_) | (simp -implicitDefEqProofs only [push_cast, eq_self, reduceIte, Nat.reduceEqDiff, reduceCtorEq, Nat.reduceAdd, Nat.reduceMul, Nat.reduceSub, Nat.reduceLeDiff, Int.reduceToNat, Int.reduceLE, Int.reduceLT, Int.reduceAdd, Int.reduceSub, Int.reduceMul, Int.reduceNeg, e0, e1, e3, e4, e5, e6, e7, hF.at, hb, h16]) | (simp -implicitDefEqProofs (disch := omega) only [push_epn, put_epn, kill_epn, wrap64', e0, e1, e3, e4, e5, e6, e7, hF.at, hb, h16]) | (with_reducible refine sep_i ?_ ?_) | (refine awpOps_gd rfl (fun bb => ?_) (fun bb => ?_) <;> simp only [bb]) | (with_reducible refine condP_in (fun bb => ?_) (fun bb => ?_)) | ((with_reducible refine And.intro ?_ ?_); omega) | (refine call_imm hr ?_) | (refine call_nf hl hn ?_; intro h F a b w hF; have hx0 : Ext h0 h := Ext.tr (by repeat (first | exact Ext.refl _ | refine Ext.tick ?_ | refine Ext.push ?_ (by omega) _)) w.ex; have lF : h0.ep < F.1 := Nat.lt_of_le_of_lt (Ext.le (by repeat (first | exact Ext.refl _ | refine Ext.tick ?_ | refine Ext.push ?_ (by omega) _))) w.lF; obtain ⟨rid, did, hX⟩ := w.finH hp; have hb := hX.fin) | (refine call_once (hX.ext (by repeat (first | exact Ext.refl _ | refine Ext.tick ?_))) hl ht hn ?_; intro h out hX hF hS; have hb := hX.fin) | fail)
  refine ⟨out, rfl, (hX.ext (by repeat (first | exact Ext.refl _ | refine Ext.tick ?_))).outr, ?_⟩
  have hE : Ext h0 h := ⟨Nat.le_trans hx0.1 (Nat.le_trans (Nat.le_trans (Nat.le_succ _) (Nat.le_succ _)) hS.1), fun x hx => ((hS.2 x (Nat.le_trans hx (Nat.le_trans hx0.1 (Nat.le_trans (Nat.le_succ _) (Nat.le_succ _)))) (fun e => by rw [e] at hx; omega) (by simp [idOf])).1).trans (hx0.2 x hx)⟩
  repeat (first | exact hE | refine Ext.tick ?_)
end Go.Proofs.Hx

set_option linter.unusedVariables false
set_option linter.unusedSimpArgs false
namespace Go.Proofs.Hx
open Go Go.Proofs
attribute [local irreducible] awpOps awp opK goV goM callG endOps awpOp runOp HV HVF HC
theorem f40'e {h0 : Hp} {l : List Opn} {t : Tab} (hl : ∀ o ∈ l, o.ok) (hR : errR l t ≠ 0) :
    HC Try.prog 40 [.row (l.map opC), .agg (tabC t)] h0 fun r h' => r = .tup [.nil, i64 (errR l t)] ∧ Ext h0 h' := by
  refine HC_of_awp mixed cf40 (by simp) fun hF => ?_
  unfold ac40 re40
  refine awp_env_i fun env hE => ?_; have e0 := hE 0; have e1 := hE 1; have e3 := hE 3; have e4 := hE 4; have e5 := hE 5; have e6 := hE 6; have e7 := hE 7; simp -implicitDefEqProofs only [push_cast] at e0 e1 e3 e4 e5 e6 e7; clear hE
  have hr := f64 l t hl
  have hb : decide (errR l t = 0) = false := by simpa using hR
  have hb2 : decide (errR l t ≠ 0) = true := by simpa using hR
  repeat' (first | ((try clear hf); with_reducible refine awp_ops_g fun env K hE hK hf => ?_; have n0 := hE 0; have n1 := hE 1; have n3 := hE 3; have n4 := hE 4; have n5 := hE 5; have n6 := hE 6; have n7 := hE 7; simp -implicitDefEqProofs only [push_cast, reduceIte, Nat.reduceEqDiff, e0, e1, e3, e4, e5, e6, e7] at n0 n1 n3 n4 n5 n6 n7; clear hE e0 e1 e3 e4 e5 e6 e7; have e0 := n0; have e1 := n1; have e3 := n3; have e4 := n4; have e5 := n5; have e6 := n6; have e7 := n7; clear n0 n1 n3 n4 n5 n6 n7) | (with_reducible refine hK _ _ ?_; clear hK K) | (with_reducible first | refine awp_seq_i ?_ | refine seqK_n_i ?_ | refine awp_block_i ?_ | refine awp_skip_i ?_ | refine blockK_n_i ?_ | refine awp_ret_i ?_ | refine seqK_r_i ?_ | refine blockK_r_i ?_ | refine awp_exit_i ?_ | refine seqK_e_i ?_ | refine blockK_e_i ?_ | refine blockK_ne_i (by decide) ?_ | refine PostF_n_i ?_ | refine PostF_r_i ?_ | refine sep_nil_i ?_ | refine condP_t ?_ | refine condP_f ?_ | refine condP_ta (by assumption) ?_ | refine condP_fa (by assumption) ?_) | (refine awp_cond_e rfl ?_) | (simp -implicitDefEqProofs only [push_cast, eq_self, reduceIte, Nat.reduceEqDiff, reduceCtorEq, Nat.reduceAdd, Nat.reduceMul, Nat.reduceSub, Nat.reduceLeDiff, Int.reduceToNat, Int.reduceLE, Int.reduceLT, Int.reduceAdd, Int.reduceSub, Int.reduceMul, Int.reduceNeg, e0, e1, e3, e4, e5, e6, e7, hF.at, hb, hb2]) | (simp -implicitDefEqProofs (disch := omega) only [push_epn, put_epn, kill_epn, wrap64', e0, e1, e3, e4, e5, e6, e7, hF.at, hb, hb2]) | (with_reducible refine sep_i ?_ ?_) | (refine awpOps_gd rfl (fun bb => ?_) (fun bb => ?_) <;> simp only [bb]) | (with_reducible refine condP_in (fun bb => ?_) (fun bb => ?_)) | ((with_reducible refine And.intro ?_ ?_); omega) | (refine call_imm hr ?_) | fail)
  exact (show Ext h0 _ from (by repeat (first | exact Ext.refl _ | assumption | refine Ext.tick ?_ | refine Ext.push ?_ (by omega) _ | refine Ext.put ?_ (by omega) _)))
/-- once over no operation. -/
theorem f66'n {h0 : Hp} {F : Id} {t : Tab} {a b : AV} (hb : h0.hp F = some ⟨true, finW [] t a b⟩) (hFe : F.1 ≤ h0.ep) :
    HC Try.prog 66 [.ptr F 0] h0 fun r h' => r = .tup [] ∧ Ext h0 h' := by
  refine HC_of_awp mixed cf66 (by simp) fun hF => ?_
  unfold ac66 re66
  refine awp_env_i fun env hE => ?_; have e0 := hE 0; have e2 := hE 2; have e3 := hE 3; have e4 := hE 4; have e9 := hE 9; have e10 := hE 10; have e11 := hE 11; have e13 := hE 13; have e14 := hE 14; have e15 := hE 15; simp -implicitDefEqProofs only [push_cast] at e0 e2 e3 e4 e9 e10 e11 e13 e14 e15; clear hE
  obtain ⟨Fe, Fs⟩ := F
  have h00 : (finW [] t a b)[0]? = some (.row []) := rfl
  have h01 : lenV (.row []) = some (.lit (.int .i64 0)) := rfl
  repeat' (first | ((try clear hf); with_reducible refine awp_ops_g fun env K hE hK hf => ?_; have n0 := hE 0; have n2 := hE 2; have n3 := hE 3; have n4 := hE 4; have n9 := hE 9; have n10 := hE 10; have n11 := hE 11; have n13 := hE 13; have n14 := hE 14; have n15 := hE 15; simp -implicitDefEqProofs only [push_cast, reduceIte, Nat.reduceEqDiff, e0, e2, e3, e4, e9, e10, e11, e13, e14, e15] at n0 n2 n3 n4 n9 n10 n11 n13 n14 n15; clear hE e0 e2 e3 e4 e9 e10 e11 e13 e14 e15; have e0 := n0; have e2 := n2; have e3 := n3; have e4 := n4; have e9 := n9; have e10 := n10; have e11 := n11; have e13 := n13; have e14 := n14; have e15 := n15; clear n0 n2 n3 n4 n9 n10 n11 n13 n14 n15) | (with_reducible refine hK _ _ ?_; clear hK K) | (with_reducible first | refine awp_seq_i ?_ | refine seqK_n_i ?_ | refine awp_block_i ?_ | refine awp_skip_i ?_ | refine blockK_n_i ?_ | refine awp_ret_i ?_ | refine seqK_r_i ?_ | refine blockK_r_i ?_ | refine awp_exit_i ?_ | refine seqK_e_i ?_ | refine blockK_e_i ?_ | refine blockK_ne_i (by decide) ?_ | refine PostF_n_i ?_ | refine PostF_r_i ?_ | refine sep_nil_i ?_ | refine condP_t ?_ | refine condP_f ?_ | refine condP_ta (by assumption) ?_ | refine condP_fa (by assumption) ?_) | (refine awp_cond_e rfl ?_) | (simp -implicitDefEqProofs only [push_cast, eq_self, reduceIte, Nat.reduceEqDiff, reduceCtorEq, Nat.reduceAdd, Nat.reduceMul, Nat.reduceSub, Nat.reduceLeDiff, Int.reduceToNat, Int.reduceLE, Int.reduceLT, Int.reduceAdd, Int.reduceSub, Int.reduceMul, Int.reduceNeg, e0, e2, e3, e4, e9, e10, e11, e13, e14, e15, hb, hF.at, h00, h01]) | (simp -implicitDefEqProofs (disch := omega) only [push_epn, put_epn, kill_epn, wrap64', e0, e2, e3, e4, e9, e10, e11, e13, e14, e15, hb, hF.at, h00, h01]) | (with_reducible refine sep_i ?_ ?_) | (refine awpOps_gd rfl (fun bb => ?_) (fun bb => ?_) <;> simp only [bb]) | (with_reducible refine condP_in (fun bb => ?_) (fun bb => ?_)) | ((with_reducible refine And.intro ?_ ?_); omega) | fail)
  refine awp_loop (fun n σ => σ.env 9 = i64 0 ∧ σ.env 10 = i64 0 ∧ Ext h0 σ.h) 0 ⟨by simp -implicitDefEqProofs only [push_cast, eq_self, reduceIte, Nat.reduceEqDiff, reduceCtorEq, Nat.reduceAdd, Nat.reduceMul, Nat.reduceSub, Nat.reduceLeDiff, Int.reduceToNat, Int.reduceLE, Int.reduceLT, Int.reduceAdd, Int.reduceSub, Int.reduceMul, Int.reduceNeg], by simp -implicitDefEqProofs only [push_cast, eq_self, reduceIte, Nat.reduceEqDiff, reduceCtorEq, Nat.reduceAdd, Nat.reduceMul, Nat.reduceSub, Nat.reduceLeDiff, Int.reduceToNat, Int.reduceLE, Int.reduceLT, Int.reduceAdd, Int.reduceSub, Int.reduceMul, Int.reduceNeg], (by repeat (first | exact Ext.refl _ | assumption | refine Ext.tick ?_ | refine Ext.push ?_ (by omega) _ | refine Ext.put ?_ (by omega) _))⟩ ?_
  rintro n ⟨env, h⟩ ⟨e9, e10, hE⟩
  simp only at e9 e10 hE
  have e0 : True := trivial; have e2 : True := trivial; have e3 : True := trivial; have e4 : True := trivial; have e11 : True := trivial; have e13 : True := trivial; have e14 : True := trivial; have e15 : True := trivial
  unfold l66_1
  refine awp_fresh_i fun hF => ?_
  repeat' (first | ((try clear hf); with_reducible refine awp_ops_g fun env K hE hK hf => ?_; have n0 := hE 0; have n2 := hE 2; have n3 := hE 3; have n4 := hE 4; have n9 := hE 9; have n10 := hE 10; have n11 := hE 11; have n13 := hE 13; have n14 := hE 14; have n15 := hE 15; simp -implicitDefEqProofs only [push_cast, reduceIte, Nat.reduceEqDiff, e0, e2, e3, e4, e9, e10, e11, e13, e14, e15] at n0 n2 n3 n4 n9 n10 n11 n13 n14 n15; clear hE e0 e2 e3 e4 e9 e10 e11 e13 e14 e15; have e0 := n0; have e2 := n2; have e3 := n3; have e4 := n4; have e9 := n9; have e10 := n10; have e11 := n11; have e13 := n13; have e14 := n14; have e15 := n15; clear n0 n2 n3 n4 n9 n10 n11 n13 n14 n15) | (with_reducible refine hK _ _ ?_; clear hK K) | (with_reducible first | refine awp_seq_i ?_ | refine seqK_n_i ?_ | refine awp_block_i ?_ | refine awp_skip_i ?_ | refine blockK_n_i ?_ | refine awp_ret_i ?_ | refine seqK_r_i ?_ | refine blockK_r_i ?_ | refine awp_exit_i ?_ | refine seqK_e_i ?_ | refine blockK_e_i ?_ | refine blockK_ne_i (by decide) ?_ | refine PostF_n_i ?_ | refine PostF_r_i ?_ | refine sep_nil_i ?_ | refine condP_t ?_ | refine condP_f ?_ | refine condP_ta (by assumption) ?_ | refine condP_fa (by assumption) ?_) | (refine awp_cond_e rfl ?_) | (simp -implicitDefEqProofs only [push_cast, eq_self, reduceIte, Nat.reduceEqDiff, reduceCtorEq, Nat.reduceAdd, Nat.reduceMul, Nat.reduceSub, Nat.reduceLeDiff, Int.reduceToNat, Int.reduceLE, Int.reduceLT, Int.reduceAdd, Int.reduceSub, Int.reduceMul, Int.reduceNeg, e0, e2, e3, e4, e9, e10, e11, e13, e14, e15]) | (simp -implicitDefEqProofs (disch := omega) only [push_epn, put_epn, kill_epn, wrap64', e0, e2, e3, e4, e9, e10, e11, e13, e14, e15]) | (with_reducible refine sep_i ?_ ?_) | (refine awpOps_gd rfl (fun bb => ?_) (fun bb => ?_) <;> simp only [bb]) | (with_reducible refine condP_in (fun bb => ?_) (fun bb => ?_)) | ((with_reducible refine And.intro ?_ ?_); omega) | fail)
  exact (show Ext h0 _ from (by repeat (first | exact Ext.refl _ | assumption | refine Ext.tick ?_ | refine Ext.push ?_ (by omega) _ | refine Ext.put ?_ (by omega) _)))
theorem f40'n {h0 : Hp} {t : Tab} (hR : errR [] t = 0) :
    HC Try.prog 40 [.row [], .agg (tabC t)] h0 fun r h' => r = .tup [.nil, i64 0] ∧ Ext h0 h' := by
  refine HC_of_awp mixed cf40 (by simp) fun hF => ?_
  unfold ac40 re40
  refine awp_env_i fun env hE => ?_; have e0 := hE 0; have e1 := hE 1; have e3 := hE 3; have e4 := hE 4; have e5 := hE 5; have e6 := hE 6; have e7 := hE 7; simp -implicitDefEqProofs only [push_cast] at e0 e1 e3 e4 e5 e6 e7; clear hE
  have hr := f64 [] t (by simp)
  rw [hR] at hr
  have hb := hR
  have h16 : ∀ t a b, (finW [] t a b)[16]? = some .nil := fun _ _ _ => rfl
  repeat' (first | ((try clear hf); with_reducible refine awp_ops_g fun env K hE hK hf => ?_; have n0 := hE 0; have n1 := hE 1; have n3 := hE 3; have n4 := hE 4; have n5 := hE 5; have n6 := hE 6; have n7 := hE 7; simp -implicitDefEqProofs only [push_cast, reduceIte, Nat.reduceEqDiff, e0, e1, e3, e4, e5, e6, e7] at n0 n1 n3 n4 n5 n6 n7; clear hE e0 e1 e3 e4 e5 e6 e7; have e0 := n0; have e1 := n1; have e3 := n3; have e4 := n4; have e5 := n5; have e6 := n6; have e7 := n7; clear n0 n1 n3 n4 n5 n6 n7) | (with_reducible refine hK _ _ ?_; clear hK K) | (with_reducible first | refine awp_seq_i ?_ | refine seqK_n_i ?_ | refine awp_block_i ?_ | refine awp_skip_i ?_ | refine blockK_n_i ?_ | refine awp_ret_i ?_ | refine seqK_r_i ?_ | refine blockK_r_i ?_ | refine awp_exit_i ?_ | refine seqK_e_i ?_ | refine blockK_e_i ?_ | refine blockK_ne_i (by decide) ?_ | refine PostF_n_i ?_ | refine PostF_r_i ?_ | refine sep_nil_i ?_ | refine condP_t ?_ | refine condP_f ?_ | refine condP_ta (by assumption) ?_ | refine condP_fa (by assumption) ?_) | (refine awp_cond_e rfl ?_) | (simp -implicitDefEqProofs only [push_cast, eq_self, reduceIte, Nat.reduceEqDiff, reduceCtorEq, Nat.reduceAdd, Nat.reduceMul, Nat.reduceSub, Nat.reduceLeDiff, Int.reduceToNat, Int.reduceLE, Int.reduceLT, Int.reduceAdd, Int.reduceSub, Int.reduceMul, Int.reduceNeg, e0, e1, e3, e4, e5, e6, e7, hF.at, hb, h16]) | (simp -implicitDefEqProofs (disch := omega) only [push_epn, put_epn, kill_epn, wrap64', e0, e1, e3, e4, e5, e6, e7, hF.at, hb, h16]) | (with_reducible refine sep_i ?_ ?_) | (refine awpOps_gd rfl (fun bb => ?_) (fun bb => ?_) <;> simp only [bb]) | (with_reducible refine condP_in (fun bb => ?_) (fun bb => ?_)) | ((with_reducible refine And.intro ?_ ?_); omega) | (refine call_imm hr ?_) | (refine call_nf (l := []) (by simp) (by simp) ?_; intro h F a b w hF; have hx0 : Ext h0 h := Ext.tr (by repeat (first | exact Ext.refl _ | assumption | refine Ext.tick ?_ | refine Ext.push ?_ (by omega) _ | refine Ext.put ?_ (by omega) _)) w.ex; have hb := w.fin) | (refine call_hc (HC.mono (f66'n (F := F) (t := t) (a := a) (b := b) hb (Nat.le_trans w.eF (by simp only [tick_ep]; omega))) fun r h' ⟨hr, hE⟩ hf => ?_); have hb := (hE.2 F (Nat.le_trans w.eF (by simp only [tick_ep]; omega))).trans hb; rw [hr]) | fail)
  have hE2 : Ext h0 h' := Ext.tr (Ext.tick (Ext.tick hx0)) hE
  exact (show Ext h0 _ from (by repeat (first | exact Ext.refl _ | assumption | refine Ext.tick ?_)))
theorem errR_ok {l : List Opn} {t : Tab} (h : errR l t = 0) : tabOK t ∧ l.length ≤ 1024 ∧ ∀ o ∈ l, opOK o := by
  unfold errR tabE at h
  by_cases h1 : tabOK t
  · by_cases h2 : 1024 < l.length
    · simp [h1, h2] at h
    · by_cases h3 : ∀ o ∈ l, opOK o
      · exact ⟨h1, by omega, h3⟩
      · simp only [if_pos h1, if_neg h2, if_neg h3] at h; simp at h
  · simp [h1] at h
/-- deps.Of, whatever the list. -/
theorem of_all {h0 : Hp} {l : List Opn} {t : Tab} (hl : ∀ o ∈ l, o.ok) :
    HC Try.prog 40 [.row (l.map opC), .agg (tabC t)] h0 fun r h' => Ext h0 h' ∧ ((errR l t ≠ 0 ∧ r = .tup [.nil, i64 (errR l t)]) ∨ (errR l t = 0 ∧ ∃ out, r = .tup [out, i64 0] ∧ OutR h' out (onceE l t l.length))) := by
  by_cases hR : errR l t = 0
  · obtain ⟨ht, hn, _⟩ := errR_ok hR
    by_cases hp : 0 < l.length
    · exact HC.mono (f40 hl ht hn hp hR) fun r h' ⟨out, h1, h2, h3⟩ => ⟨h3, .inr ⟨hR, out, h1, h2⟩⟩
    · obtain rfl : l = [] := List.length_eq_zero_iff.1 (by omega)
      exact HC.mono (f40'n hR) fun r h' ⟨h1, h2⟩ => ⟨h2, .inr ⟨hR, .nil, h1, .inl ⟨rfl, rfl⟩⟩⟩
  · exact HC.mono (f40'e hl hR) fun r h' ⟨h1, h2⟩ => ⟨h2, .inl ⟨hR, h1⟩⟩
end Go.Proofs.Hx

set_option linter.unusedVariables false
set_option linter.unusedSimpArgs false
namespace Go.Proofs.Hx
open Go Go.Proofs
/-! ### Slices that grow, whatever they lie in -/
def killA (h : Hp) (a : AV) : Hp := match idOf a with | some t => h.kill t | none => h
theorem killA_ep (h : Hp) (a : AV) : (killA h a).ep = h.ep := by unfold killA; split <;> rfl
theorem killA_ne (h : Hp) (a : AV) {x : Id} (hx : idOf a ≠ some x) : (killA h a).hp x = h.hp x := by
  unfold killA
  split
  · rename_i t e
    exact kill_ne _ _ _ (fun e' => hx (by rw [e, e']))
  · rfl
theorem Ext.killA {h g : Hp} (e : Ext h g) {a : AV} (ha : ∀ x, idOf a = some x → h.ep < x.1) : Ext h (Hx.killA g a) :=
  ⟨by rw [killA_ep]; exact e.1, fun x hx => by rw [killA_ne _ _ (fun e' => by have := ha x e'; omega)]; exact e.2 x hx⟩
/-- A slice of 'es', each with cells of its own. -/
structure SlO {α : Type} (f : α → List AV) (sz : Nat) (h : Hp) (a : AV) (es : List α) : Prop where
  st : (a = .nil ∧ es = []) ∨ (∃ id, a = .sl id 0 es.length sz ∧ h.hp id = some ⟨true, es.flatMap f⟩ ∧ id.1 ≤ h.ep)
theorem SlO.nil {α : Type} (f : α → List AV) (sz : Nat) (h : Hp) : SlO f sz h .nil [] := ⟨.inl ⟨rfl, rfl⟩⟩
theorem SlO.ext {α : Type} {f : α → List AV} {sz : Nat} {h g : Hp} {a : AV} {es : List α} (s : SlO f sz h a es) (he : Ext h g) : SlO f sz g a es := by
  rcases s.st with h1 | ⟨id, h1, h2, h3⟩
  · exact ⟨.inl h1⟩
  · exact ⟨.inr ⟨id, h1, (he.2 id h3).trans h2, Nat.le_trans h3 he.1⟩⟩
theorem SlO.len {α : Type} {f : α → List AV} {sz : Nat} {h : Hp} {a : AV} {es : List α} (s : SlO f sz h a es) : lenV a = some (i64 es.length) := by
  rcases s.st with ⟨rfl, rfl⟩ | ⟨id, rfl, h2, h3⟩
  · exact lenV_nil
  · exact lenV_sl _ _ _ _
theorem SlO.id_le {α : Type} {f : α → List AV} {sz : Nat} {h : Hp} {a : AV} {es : List α} (s : SlO f sz h a es) {x : Id} (hx : idOf a = some x) : x.1 ≤ h.ep := by
  rcases s.st with ⟨rfl, rfl⟩ | ⟨id, rfl, h2, h3⟩
  · simp [idOf] at hx
  · simp [idOf] at hx; subst hx; exact h3
/-- The same, where the slice has not been touched. -/
theorem SlO.keep {α : Type} {f : α → List AV} {sz : Nat} {h g : Hp} {a : AV} {es : List α} (s : SlO f sz h a es) (hk : ∀ x, idOf a = some x → g.hp x = h.hp x) (he : h.ep ≤ g.ep) : SlO f sz g a es := by
  rcases s.st with h1 | ⟨id, h1, h2, h3⟩
  · exact ⟨.inl h1⟩
  · exact ⟨.inr ⟨id, h1, (hk id (by rw [h1]; rfl)).trans h2, Nat.le_trans h3 he⟩⟩
/-- It has memory, where there is an element. -/
theorem SlO.blk {α : Type} {f : α → List AV} {sz : Nat} {h : Hp} {a : AV} {es : List α} (s : SlO f sz h a es) (hp : 0 < es.length) : ∃ e n, a = .sl (e, n) 0 es.length sz ∧ h.hp (e, n) = some ⟨true, es.flatMap f⟩ ∧ e ≤ h.ep := by
  rcases s.st with ⟨rfl, rfl⟩ | ⟨⟨e, n⟩, h1, h2, h3⟩
  · simp at hp
  · exact ⟨e, n, h1, h2, h3⟩
theorem flat_len {α : Type} {f : α → List AV} {sz : Nat} (hf : ∀ a, (f a).length = sz) (l : List α) : (l.flatMap f).length = l.length * sz := by
  induction l with
  | nil => simp
  | cons a l ih => rw [List.flatMap_cons, List.length_append, hf, ih, List.length_cons, Nat.add_mul]; omega
theorem flat_drop {α : Type} {f : α → List AV} {sz : Nat} (hf : ∀ a, (f a).length = sz) (l : List α) (k : Nat) : (l.flatMap f).drop (k * sz) = (l.drop k).flatMap f := by
  induction l generalizing k with
  | nil => simp
  | cons a l ih =>
    cases k with
    | zero => simp
    | succ k =>
      have : (k + 1) * sz = (f a).length + k * sz := by rw [hf a, Nat.add_mul]; omega
      rw [List.flatMap_cons, this, ← List.drop_drop, List.drop_left, ih]
      rfl
theorem flat_take {α : Type} {f : α → List AV} {sz : Nat} (hf : ∀ a, (f a).length = sz) (l : List α) {k : Nat} (hk : k < l.length) : ((l.flatMap f).drop (k * sz)).take sz = f l[k] := by
  rw [flat_drop hf, List.drop_eq_getElem_cons hk, List.flatMap_cons, ← hf l[k], List.take_left]
theorem flat_get {α : Type} {f : α → List AV} {sz : Nat} (hf : ∀ a, (f a).length = sz) (l : List α) {k : Nat} (hk : k < l.length) {i : Nat} (hi : i < sz) : (l.flatMap f)[k * sz + i]? = (f l[k])[i]? := by
  rw [← List.getElem?_drop, flat_drop hf, List.drop_eq_getElem_cons hk, List.flatMap_cons, List.getElem?_append_left (by rw [hf]; exact hi)]
theorem SlO.app {α : Type} {f : α → List AV} {sz : Nat} {h : Hp} {a : AV} {es : List α} (s : SlO f sz h a es) (hf : ∀ a, (f a).length = sz) {bytes n : Nat} {new : List AV} (id : Id) (hn : n ≠ 0) (ho : new.all one = true)
    (hb : (es.length + n + (es.length + n) / 4 + 512) * bytes ≤ 281474976710656) : appV h id sz bytes n new a = some (.sl id 0 (es.length + n) sz, (killA h a).push id (es.flatMap f ++ new)) := by
  rcases s.st with ⟨rfl, rfl⟩ | ⟨t, rfl, h2, h3⟩
  · simp only [List.length_nil, Nat.zero_add] at hb ⊢
    rw [appV_nil _ _ hn (Nat.le_trans (Nat.mul_le_mul_right bytes (by omega)) hb)]
    rfl
  · rw [appV_sl_eq, h2]
    simp only [Option.bind_some]
    rw [if_pos ⟨trivial, trivial, ho, hb⟩, List.drop_zero, ← flat_len hf, List.take_length]
    rfl
theorem OutR.slo {h : Hp} {a : AV} {es : List Edg} (o : OutR h a es) : SlO edC 5 h a es := ⟨o⟩
theorem rep1 (n : Nat) (a : AV) : (List.replicate n [a]).flatten = List.replicate n a := by
  induction n with
  | zero => rfl
  | succ n ih => rw [List.replicate_succ, List.flatten_cons, ih]; rfl
def intC (n : Int) : List AV := [i64 n]
theorem ints_imms (l : List Int) : immss (l.map intC) = true := immss_of_get fun i x hx => by simp at hx; obtain ⟨a, _, rfl⟩ := hx; rfl
theorem int_at {l : List Int} {k : Nat} (hk : k < l.length) (kd : IntKind) : idxAddrV none 1 (.row (l.map intC)) (.lit (.int kd (k : Int))) = some (.ip [i64 (l.getD k 0)]) := by
  rw [idxAddr_row intC 1 (fun _ => rfl) l kd hk]
  simp [intC, List.getD_eq_getElem?_getD, hk]
def iC (n : Int) : AV := i64 n
theorem rep_map (n : Nat) (v : Int) : List.replicate n (i64 v) = (List.replicate n v).map iC := by simp [iC]
theorem set_at {α : Type} (f : α → AV) (H : List α) {k : Nat} (hk : k < H.length) (v : α) : (H.map f).take k ++ [f v] ++ (H.map f).drop (k + 1) = (H.set k v).map f := by
  rw [← List.map_take, ← List.map_drop, List.set_eq_take_append_cons_drop, if_pos hk]
  simp
theorem set_cell (c : List AV) {k : Nat} (hk : k < c.length) (v : AV) : c.take k ++ [v] ++ c.drop (k + 1) = c.set k v := by
  rw [List.set_eq_take_append_cons_drop, if_pos hk]
  simp
/-! ### Rows of slices -/
structure RowsO {α : Type} (f : α → List AV) (sz : Nat) (h : Hp) (E : Nat) (c : List AV) (fs : Nat → List α) : Prop where
  get : ∀ (i : Nat) (a : AV), c[i]? = some a → SlO f sz h a (fs i) ∧ ∀ x, idOf a = some x → E < x.1
  sep : ∀ (i j : Nat) (a b : AV) (x : Id), c[i]? = some a → c[j]? = some b → i ≠ j → idOf a = some x → idOf b ≠ some x
theorem RowsO.keep {α : Type} {f : α → List AV} {sz : Nat} {h g : Hp} {E : Nat} {c : List AV} {fs : Nat → List α} (r : RowsO f sz h E c fs) (hk : ∀ x, E < x.1 → x.1 ≤ h.ep → g.hp x = h.hp x) (he : h.ep ≤ g.ep) : RowsO f sz g E c fs :=
  ⟨fun i a hi => ⟨(r.get i a hi).1.keep (fun x hx => hk x ((r.get i a hi).2 x hx) ((r.get i a hi).1.id_le hx)) he, (r.get i a hi).2⟩, r.sep⟩
theorem RowsO.ext {α : Type} {f : α → List AV} {sz : Nat} {h g : Hp} {E : Nat} {c : List AV} {fs : Nat → List α} (r : RowsO f sz h E c fs) (he : Ext h g) : RowsO f sz g E c fs := r.keep (fun x _ hx => he.2 x hx) he.1
/-- One of the rows grows. -/
theorem RowsO.app {α : Type} {f : α → List AV} {sz : Nat} {h g : Hp} {E : Nat} {c : List AV} {fs : Nat → List α} (r : RowsO f sz h E c fs) {k : Nat} {a : AV} (hk : c[k]? = some a) {id : Id} (hid : h.ep < id.1) (hE : E ≤ h.ep) (e : α)
    (hg : g.hp id = some ⟨true, (fs k).flatMap f ++ f e⟩) (hi : id.1 ≤ g.ep) (he : h.ep ≤ g.ep) (ho : ∀ x, E < x.1 → x.1 ≤ h.ep → idOf a ≠ some x → g.hp x = h.hp x) :
    RowsO f sz g E (c.set k (.sl id 0 ((fs k).length + 1) sz)) (fun i => if i = k then fs k ++ [e] else fs i) := by
  have hkl : k < c.length := (List.getElem?_eq_some_iff.1 hk).1
  have new : ∀ (i : Nat) (b : AV), (c.set k (.sl id 0 ((fs k).length + 1) sz))[i]? = some b → (i = k ∧ b = .sl id 0 ((fs k).length + 1) sz) ∨ (i ≠ k ∧ c[i]? = some b) := by
    intro i b hb
    rw [List.getElem?_set] at hb
    by_cases e1 : k = i
    · subst e1
      rw [if_pos rfl, if_pos hkl] at hb
      cases hb
      exact .inl ⟨rfl, rfl⟩
    · rw [if_neg e1] at hb
      exact .inr ⟨Ne.symm e1, hb⟩
  refine ⟨fun i b hb => ?_, fun i j b d x hb hd hij hx => ?_⟩
  · rcases new i b hb with ⟨rfl, rfl⟩ | ⟨h1, h2⟩
    · refine ⟨⟨.inr ⟨id, by simp, ?_, hi⟩⟩, fun x hx => by simp [idOf] at hx; subst hx; omega⟩
      rw [hg]
      simp
    · obtain ⟨g1, g2⟩ := r.get i b h2
      refine ⟨?_, g2⟩
      rw [if_neg h1]
      exact g1.keep (fun x hx => ho x (g2 x hx) (g1.id_le hx) (r.sep i k b a x h2 hk h1 hx)) he
  · rcases new i b hb with ⟨rfl, rfl⟩ | ⟨h1, h2⟩ <;> rcases new j d hd with ⟨rfl, rfl⟩ | ⟨h3, h4⟩
    · exact absurd rfl hij
    · simp [idOf] at hx
      subst hx
      intro h
      have := (r.get j d h4).1.id_le h
      omega
    · intro h
      simp [idOf] at h
      subst h
      have := (r.get i b h2).1.id_le hx
      omega
    · exact r.sep i j b d x h2 h4 hij hx
theorem sepV_old {a : AV} {i : Id} {o : Nat} {E : Nat} (ha : ∀ x, idOf a = some x → x.1 ≤ E) (hi : E < i.1) : sepV (.ptr i o) a = True := by
  simp only [sepV, eq_iff_iff, iff_true]
  split
  · rename_i x y h1 h2
    intro e
    have := ha y h2
    simp [idOf] at h1
    rw [h1, e] at hi
    omega
  · trivial
theorem i64_eq {x y : Int} (h : x = y) : (.lit (.int .i64 x) : AV) = i64 y := by rw [h]
theorem awp_fresh_i2 {P : Program} {l : List AOper} {s : List (Nat × Nat)} {b c : ACode} {Q : AEx → St → Prop} {env : Nat → AV} {h : Hp} (k : Fresh h → awp P (.seq (.seq (.ops l s) b) c) Q ⟨env, h⟩) : awp P (.seq (.seq (.ops l s) b) c) Q ⟨env, h⟩ := fun hf => k hf hf
theorem awp_fresh_i3 {P : Program} {l : List AOper} {s : List (Nat × Nat)} {b c d : ACode} {Q : AEx → St → Prop} {env : Nat → AV} {h : Hp} (k : Fresh h → awp P (.seq (.seq (.seq (.ops l s) b) c) d) Q ⟨env, h⟩) : awp P (.seq (.seq (.seq (.ops l s) b) c) d) Q ⟨env, h⟩ := fun hf => k hf hf
theorem ed_0 (e : Edg) : (edC e)[0]? = some (i64 e.f) := rfl
theorem ed_1 (e : Edg) : (edC e)[1]? = some (i64 e.t) := rfl
theorem ed_2 (e : Edg) : (edC e)[2]? = some (i64 e.l) := rfl
theorem ed_3 (e : Edg) : (edC e)[3]? = some (i64 e.d) := rfl
theorem ed_drop (e : Edg) : (edC e).drop 5 = [] := rfl
attribute [push_cast] lenV_row lenV_sl lenV_nil maxV_two op_0 one_sl ed_0 ed_1 ed_2 ed_3 edC_take edC_len edC_one ed_drop killA_ep
end Go.Proofs.Hx

set_option linter.unusedVariables false
set_option linter.unusedSimpArgs false
namespace Go.Proofs.Hx
open Go Go.Proofs
attribute [local irreducible] awpOps awp opK goV goM callG endOps awpOp runOp HV HVF HC
/-! ### How high -/
def mx (a b : Int) : Int := if b > a then b else a
def stepV1 (H : List Int) (a : Int) (x : Edg) : Int := mx a (x.l + H.getD x.t.toNat 0)
/-- The longest way from i, by what is behind. -/
def hOne (lat : Int) (E : List Edg) (H : List Int) : Int := E.foldl (stepV1 H) lat
def outE (E : List Edg) (i : Nat) : List Edg := E.filter fun e => decide (e.f = (i : Int))
def hM (l : List Opn) (t : Tab) (E : List Edg) : Nat → List Int
  | 0 => List.replicate l.length 0
  | m + 1 => (hM l t E m).set (l.length - 1 - m) (hOne (latS t (opAt l (l.length - 1 - m))) (outE E (l.length - 1 - m)) (hM l t E m))
def edOK (n : Nat) (e : Edg) : Prop := 0 ≤ e.f ∧ e.f < e.t ∧ e.t < n ∧ 0 ≤ e.l ∧ e.l ≤ 8
theorem onceE_ok {l : List Opn} {t : Tab} (ht : tabOK t) : ∀ j, ∀ e ∈ onceE l t j, edOK j e := by
  have key : ∀ (i j : Nat), i < j → ∀ e ∈ ijE l t i j, edOK (j + 1) e := by
    intro i j hij e he
    have h1 := latS_ok ht (opAt l i)
    have h2 := latS_ok ht (opAt l j)
    have h3 := ht.1 2 (by omega)
    unfold okC at h3
    unfold ijE at he
    rw [List.mem_append] at he
    rcases he with he | he
    · split at he
      · simp only [List.mem_singleton] at he; subst he
        unfold edOK; simp only; omega
      · simp at he
    · unfold pairE at he
      simp only [List.mem_append] at he
      rcases he with ((he | he) | he) | he <;> (split at he <;> (try (simp at he; done)))
      all_goals
        simp only [List.mem_singleton] at he; subst he
        unfold edOK; simp only
        refine ⟨by omega, by omega, by omega, ?_, ?_⟩ <;> (repeat' split) <;> omega
  have key2 : ∀ (j i : Nat), i ≤ j → ∀ e ∈ toE l t j i, edOK (j + 1) e := by
    intro j i
    induction i with
    | zero => intro _ e he; simp [toE] at he
    | succ i ih =>
      intro hi e he
      simp only [toE, List.mem_append] at he
      rcases he with he | he
      · exact ih (by omega) e he
      · exact key i j (by omega) e he
  intro j
  induction j with
  | zero => intro e he; simp [onceE] at he
  | succ j ih =>
    intro e he
    simp only [onceE, List.mem_append] at he
    rcases he with he | he
    · have := ih e he
      unfold edOK at this ⊢
      omega
    · exact key2 j j (Nat.le_refl _) e he
theorem hM_len (l : List Opn) (t : Tab) (E : List Edg) (m : Nat) : (hM l t E m).length = l.length := by
  induction m with
  | zero => simp [hM]
  | succ m ih => simp [hM, ih]
theorem hM_bnd {l : List Opn} {t : Tab} {E : List Edg} (ht : tabOK t) (hE : ∀ e ∈ E, edOK l.length e) (m : Nat) : ∀ k, 0 ≤ (hM l t E m).getD k 0 ∧ (hM l t E m).getD k 0 ≤ 8 * m := by
  induction m with
  | zero => intro k; simp [hM, List.getD_eq_getElem?_getD, List.getElem?_replicate]; split <;> simp
  | succ m ih =>
    have h1 := latS_ok ht (opAt l (l.length - 1 - m))
    have key : ∀ (L : List Edg) (a : Int), (∀ e ∈ L, edOK l.length e) → 0 ≤ a → a ≤ 8 * (m + 1 : Nat) → 0 ≤ L.foldl (stepV1 (hM l t E m)) a ∧ L.foldl (stepV1 (hM l t E m)) a ≤ 8 * (m + 1 : Nat) := by
      intro L
      induction L with
      | nil => intro a _ h0 h1; exact ⟨h0, h1⟩
      | cons x L ihL =>
        intro a hL h0 h1
        have hx := hL x (List.mem_cons_self ..)
        have := ih x.t.toNat
        unfold edOK at hx
        rw [List.foldl_cons]
        refine ihL _ (fun e he => hL e (List.mem_cons_of_mem _ he)) ?_ ?_ <;> (unfold stepV1 mx; split <;> omega)
    have h2 := key (outE E (l.length - 1 - m)) (latS t (opAt l (l.length - 1 - m))) (fun e he => hE e (List.mem_filter.1 he).1) (by omega) (by omega)
    intro k
    simp only [hM, List.getD_eq_getElem?_getD, List.getElem?_set, hM_len]
    split
    · split
      · simpa [hOne] using h2
      · simp; omega
    · have := ih k
      rw [List.getD_eq_getElem?_getD] at this
      omega
theorem outE_len (E : List Edg) (k i : Nat) : (outE (E.take k) i).length ≤ k := by
  have := List.length_filter_le (fun e : Edg => decide (e.f = (i : Int))) (E.take k)
  simp [outE] at this ⊢; omega
theorem outE_next (E : List Edg) (k i : Nat) (x : Edg) (hx : x.f = i) (h : E.take (k + 1) = E.take k ++ [x]) : outE (E.take (k + 1)) = fun j => if j = i then outE (E.take k) i ++ [x] else outE (E.take k) j := by
  funext j
  rw [h]
  simp only [outE, List.filter_append]
  by_cases hj : j = i
  · subst hj; simp [hx]
  · rw [if_neg hj]
    have : ¬ (i : Int) = (j : Int) := by omega
    simp [hx, this]
def heightS (l : List Opn) (t : Tab) : List Int := hM l t (onceE l t l.length) l.length
end Go.Proofs.Hx
