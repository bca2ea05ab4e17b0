import Derived.Test.YtcdibfkebojefaaX10
set_option linter.unusedVariables false
set_option linter.unusedSimpArgs false
namespace Go.Proofs.Hx
open Go Go.Proofs
attribute [local irreducible] awpOps awp opK goV goM callG endOps awpOp runOp HV HVF HC
/-- 'g' holds what 'h' held, and perhaps more. -/
def Ext (h g : Hp) : Prop := h.ep ≤ g.ep ∧ ∀ x : Id, x.1 ≤ h.ep → g.hp x = h.hp x
theorem Ext.refl (h : Hp) : Ext h h := ⟨Nat.le_refl _, fun _ _ => rfl⟩
theorem Ext.tick {h g : Hp} (e : Ext h g) : Ext h g.tick := ⟨Nat.le_succ_of_le e.1, e.2⟩
theorem Ext.push {h g : Hp} (e : Ext h g) {a b : Nat} (hid : h.ep < a) (cells : List AV) : Ext h (g.push (a, b) cells) :=
  ⟨e.1, fun x hx => by rw [push_ne _ _ _ _ (fun e' => by rw [e'] at hx; simp at hx; omega)]; exact e.2 x hx⟩
theorem Ext.put {h g : Hp} (e : Ext h g) {a b : Nat} (hid : h.ep < a) (cells : List AV) : Ext h (g.put (a, b) cells) :=
  ⟨e.1, fun x hx => by rw [put_ne _ _ _ _ (fun e' => by rw [e'] at hx; simp at hx; omega)]; exact e.2 x hx⟩
/-- The finder's cells. -/
def finC (l : List Opn) (t : Tab) (rid did : Id) (out : AV) : List AV := .row (l.map opC) :: (tabC t ++ [.sl rid 0 l.length 1, .sl did 0 l.length 1, out])
theorem finC_0 (l : List Opn) (t : Tab) (rid did : Id) (out : AV) : (finC l t rid did out)[0]? = some (.row (l.map opC)) := rfl
theorem finC_7 (l : List Opn) (t : Tab) (rid did : Id) (out : AV) : (finC l t rid did out)[7]? = some (i64 (t.l 2)) := rfl
theorem finC_14 (l : List Opn) (t : Tab) (rid did : Id) (out : AV) : (finC l t rid did out)[14]? = some (.sl rid 0 l.length 1) := rfl
theorem finC_15 (l : List Opn) (t : Tab) (rid did : Id) (out : AV) : (finC l t rid did out)[15]? = some (.sl did 0 l.length 1) := rfl
theorem finC_16 (l : List Opn) (t : Tab) (rid did : Id) (out : AV) : (finC l t rid did out)[16]? = some out := rfl
/-- What steps behind the finder leave. -/
def FS (h : Hp) (F : Id) (out : AV) (h' : Hp) (out' : AV) : Prop := h.ep ≤ h'.ep ∧ ∀ x : Id, x.1 ≤ h.ep → x ≠ F → idOf out ≠ some x → h'.hp x = h.hp x ∧ idOf out' ≠ some x
theorem FS.refl (h : Hp) (F : Id) (out : AV) : FS h F out h out := ⟨Nat.le_refl _, fun _ _ _ h => ⟨rfl, h⟩⟩
theorem FS.trans {h h1 h2 : Hp} {F : Id} {o o1 o2 : AV} (a : FS h F o h1 o1) (b : FS h1 F o1 h2 o2) : FS h F o h2 o2 :=
  ⟨Nat.le_trans a.1 b.1, fun x hx hF ho => by
    obtain ⟨a1, a2⟩ := a.2 x hx hF ho
    obtain ⟨b1, b2⟩ := b.2 x (Nat.le_trans hx a.1) hF a2
    exact ⟨b1.trans a1, b2⟩⟩
theorem FS.tick {h h1 : Hp} {F : Id} {o o1 : AV} (a : FS h F o h1 o1) : FS h F o h1.tick o1 := ⟨Nat.le_succ_of_le a.1, a.2⟩
/-- The finder in the heap, with the edges so far. -/
structure FinH (h : Hp) (F : Id) (l : List Opn) (t : Tab) (es : List Edg) (rid did : Id) (out : AV) : Prop where
  fin : h.hp F = some ⟨true, finC l t rid did out⟩
  rds : h.hp rid = some ⟨true, l.flatMap regRow⟩
  ds : h.hp did = some ⟨true, l.flatMap dRow⟩
  outr : OutR h out es
  eF : F.1 ≤ h.ep
  er : rid.1 ≤ h.ep
  ed : did.1 ≤ h.ep
  rF : rid ≠ F
  dF : did ≠ F
  rd : rid ≠ did
  oF : ∀ id, idOf out = some id → id ≠ F ∧ id ≠ rid ∧ id ≠ did
theorem edrows_imms (l : List Edg) : immss (l.map edC) = true := immss_of_get fun i x hx => by simp at hx; obtain ⟨o, _, rfl⟩ := hx; rfl
theorem eflat_imms {l : List Edg} : imms (l.flatMap edC) = true := by
  induction l with
  | nil => rfl
  | cons o l ih => simp only [List.flatMap_cons]; exact imms_app (edC_imms o) ih
theorem flat1_len {α : Type} {f : α → List AV} (hf : ∀ a, (f a).length = 1) (l : List α) : (l.flatMap f).length = l.length * 1 := by
  induction l with
  | nil => rfl
  | cons o l ih => rw [List.flatMap_cons, List.length_append, ih, hf, List.length_cons]; omega
theorem flat_imms' {α : Type} {f : α → List AV} (hf : ∀ a, imms (f a) = true) (l : List α) : imms (l.flatMap f) = true := by
  induction l with
  | nil => rfl
  | cons o l ih => simp only [List.flatMap_cons]; exact imms_app (hf o) ih
theorem lend_rows_d (d : Nat) {α : Type} {f : α → List AV} {sz : Nat} (hf : ∀ a, (f a).length = sz) (hi : ∀ a, imms (f a) = true) {h : Hp} {id : Id} {l : List α} (hb : h.hp id = some ⟨true, l.flatMap f⟩) (hl : (l.flatMap f).length = l.length * sz) :
    lend (d + 1) h (.sl id 0 l.length sz) = some (.row (l.map f)) := by
  rw [lend_sl_d d hb (flat_imms' hi l) (by omega), List.drop_zero, ← hl, List.take_length, chunks_map f sz hf]
theorem mapO_app {α β : Type} (f : α → Option β) : ∀ (a b : List α) {x y : List β}, mapO f a = some x → mapO f b = some y → mapO f (a ++ b) = some (x ++ y)
  | [], b, x, y, h1, h2 => by simp [mapO] at h1; subst h1; exact h2
  | v :: a, b, x, y, h1, h2 => by
    simp only [mapO] at h1
    split at h1
    · rename_i u us e1 e2
      cases h1
      simp only [List.cons_append, mapO, e1, mapO_app f a b e2 h2]
    · cases h1
theorem lend_fin {h g : Hp} {F : Id} {l : List Opn} {t : Tab} {es : List Edg} {rid did : Id} {out : AV} (hX : FinH h F l t es rid did out) (hg : Ext h g) :
    ∃ o', imm o' = true ∧ lend fuelL g (.ptr F 0) = some (.ip (finA l t o')) := by
  have h1 := (hg.2 F hX.eF).trans hX.fin
  have h2 := (hg.2 rid hX.er).trans hX.rds
  have h3 := (hg.2 did hX.ed).trans hX.ds
  obtain ⟨o', hi, ho⟩ : ∃ o', imm o' = true ∧ lend 7 g out = some o' := by
    rcases hX.outr with ⟨rfl, _⟩ | ⟨id, rfl, hb, he⟩
    · exact ⟨.nil, rfl, lend_imm rfl⟩
    · exact ⟨_, by simp only [imm]; exact edrows_imms es, lend_rows_d 6 edC_len edC_imms ((hg.2 id he).trans hb) (eflat_len es)⟩
  refine ⟨o', hi, ?_⟩
  rw [lend_ptrF, h1]
  simp only [Option.bind_some, List.drop_zero, finC]
  have e1 : mapO (lend 7 g) [.sl rid 0 l.length 1, .sl did 0 l.length 1, out] = some [.row (l.map regRow), .row (l.map dRow), o'] := by
    simp only [mapO, lend_rows_d 6 (f := regRow) (sz := 1) (fun _ => rfl) regRow_imms h2 (flat1_len (fun _ => rfl) l), lend_rows_d 6 (f := dRow) (sz := 1) (fun _ => rfl) (fun _ => rfl) h3 (flat1_len (fun _ => rfl) l), ho]
  have e2 : mapO (lend 7 g) (tabC t) = some (tabC t) := lends_imm (tab_imms t)
  simp only [mapO, lend_opsrow, mapO_app _ _ _ e2 e1, Option.map_some]
  rfl
/-- A call that only reads the finder. -/
theorem call_fin {P : Program} {d : Option Nat} {K : St → Prop} {env : Nat → AV} {h g : Hp} {fn : Nat} {F : Id} {l : List Opn} {t : Tab} {es : List Edg} {rid did : Id} {out : AV} {args : List AV} {v : Value} (hX : FinH h F l t es rid did out) (hg : Ext h g)
    (hv : ∀ o, imm o = true → HV P fn (.ip (finA l t o) :: args) (.lit v)) (hi : imms args = true) (k : K ⟨putA env d (.lit v), g.tick⟩) : callG P d K env g false (.fn fn []) (.ptr F 0 :: args) := by
  obtain ⟨o', hi', hl⟩ := lend_fin hX hg
  refine call_lend (args' := .ip (finA l t o') :: args) ?_ (hv o' hi') rfl k
  rw [List.append_nil, mapO_cons, hl, lends_imm hi]
  rfl
/-- 'put' behind the finder. -/
theorem call_put {d : Option Nat} {K : St → Prop} {env : Nat → AV} {h g : Hp} {F S : Id} {l : List Opn} {t : Tab} {es : List Edg} {rid did : Id} {out : AV} {e : Edg} {i j dist : Int} (hX : FinH h F l t es rid did out) (hg : Ext h g)
    (hS : g.hp S = some ⟨true, edC e⟩) (hS1 : h.ep < S.1) (hS2 : S.1 ≤ g.ep) (hn : es.length ≤ 100000000)
    (k : ∀ h' out', FinH h' F l t (es ++ [⟨i, j, e.l, dist, e.w⟩]) rid did out' → Fresh h' → FS h F out h' out' → K ⟨putA env d (.tup []), h'.tick⟩) :
    callG Try.prog d K env g false (.fn 97 []) [.ptr F 0, i64 i, i64 j, i64 dist, .sl S 0 1 5] := by
  have hlt : ∀ {x : Id}, x.1 ≤ h.ep → x ≠ S := fun hx e => by rw [e] at hx; omega
  have hge := hg.1
  refine call_hc (HC.mono (f97 g F S _ out es e i j dist ((hg.2 F hX.eF).trans hX.fin) rfl rfl hS (fun e => hlt hX.eF e.symm) (Nat.le_trans hX.eF hge) hS2 ?_ ?_ hn) ?_)
  · rcases hX.outr with h1 | ⟨id, h1, h2, h3⟩
    · exact .inl h1
    · exact .inr ⟨id, h1, (hg.2 id h3).trans h2, Nat.le_trans h3 hge⟩
  · intro id hid
    refine ⟨(hX.oF id hid).1, ?_⟩
    rcases hX.outr with ⟨h1, _⟩ | ⟨id', h1, h2, h3⟩
    · rw [h1] at hid; cases hid
    · rw [h1] at hid
      simp only [idOf, Option.some.injEq] at hid
      subst hid
      exact hlt h3
  · rintro r h' ⟨rfl, hP⟩ hF'
    obtain ⟨p1, p2, id, p3, p4, p5, p6⟩ := hP
    have keep : ∀ x : Id, x.1 ≤ h.ep → x ≠ F → idOf out ≠ some x → h'.hp x = h.hp x := fun x hx hxF hxo => (p2 x (Nat.le_trans hx hge) hxF hxo).trans (hg.2 x hx)
    have hne : ∀ {x : Id}, x.1 ≤ h.ep → x ≠ id := fun hx e => by rw [e] at hx; omega
    refine k h' (.sl id 0 (es ++ [⟨i, j, e.l, dist, e.w⟩] : List Edg).length 5) ⟨?_, ?_, ?_, ?_, ?_, ?_, ?_, hX.rF, hX.dF, hX.rd, ?_⟩ hF' ⟨Nat.le_trans hge p1, fun x hx hxF hxo => ⟨keep x hx hxF hxo, by simp only [idOf, ne_eq, Option.some.injEq]; exact Ne.symm (hne hx)⟩⟩
    · rw [p6]; rfl
    · rw [keep rid hX.er hX.rF (fun e => (hX.oF _ e).2.1 rfl)]; exact hX.rds
    · rw [keep did hX.ed hX.dF (fun e => (hX.oF _ e).2.2 rfl)]; exact hX.ds
    · exact .inr ⟨id, rfl, p5, p4⟩
    · exact Nat.le_trans (Nat.le_trans hX.eF hge) p1
    · exact Nat.le_trans (Nat.le_trans hX.er hge) p1
    · exact Nat.le_trans (Nat.le_trans hX.ed hge) p1
    · intro x hx
      simp only [idOf, Option.some.injEq] at hx
      subst hx
      exact ⟨Ne.symm (hne hX.eF), Ne.symm (hne hX.er), Ne.symm (hne hX.ed)⟩
theorem FinH.ext {h g : Hp} {F : Id} {l : List Opn} {t : Tab} {es : List Edg} {rid did : Id} {out : AV} (hX : FinH h F l t es rid did out) (hg : Ext h g) : FinH g F l t es rid did out :=
  ⟨(hg.2 _ hX.eF).trans hX.fin, (hg.2 _ hX.er).trans hX.rds, (hg.2 _ hX.ed).trans hX.ds, by
    rcases hX.outr with h1 | ⟨id, h1, h2, h3⟩
    · exact .inl h1
    · exact .inr ⟨id, h1, (hg.2 _ h3).trans h2, Nat.le_trans h3 hg.1⟩, Nat.le_trans hX.eF hg.1, Nat.le_trans hX.er hg.1, Nat.le_trans hX.ed hg.1, hX.rF, hX.dF, hX.rd, hX.oF⟩
theorem FS.ext {h0 h g : Hp} {F : Id} {o o1 : AV} (a : FS h0 F o h o1) (hg : Ext h g) : FS h0 F o g o1 :=
  ⟨Nat.le_trans a.1 hg.1, fun x hx hF ho => ⟨(hg.2 x (Nat.le_trans hx a.1)).trans (a.2 x hx hF ho).1, (a.2 x hx hF ho).2⟩⟩
/-- The register that an operation writes, or -1. -/
def dS (o : Opn) : Int := if (wrS o).2 then (wrS o).1 else -1
theorem dS_at {l : List Opn} {k : Nat} (hk : k < l.length) : (l.flatMap dRow)[k]? = some (i64 (dS l[k])) := by
  induction l generalizing k with
  | nil => simp at hk
  | cons o l ih =>
    cases k with
    | zero => rfl
    | succ k => simpa [List.flatMap_cons, dRow] using ih (by simpa using hk)
def stS (o : Opn) : Bool := decide (o.k = 16)
/-- The dependences of a pair, but for the true ones. -/
def pairE (t : Tab) (a b : Opn) (i j : Int) (dist : Int) (meet : Bool) : List Edg :=
  (if 0 ≤ dS b ∧ seesS a (dS b) = true then [⟨i, j, 0, dist, 1⟩] else []) ++
  (if 0 ≤ dS b ∧ dS a = dS b then [⟨i, j, if latS t a - latS t b + 1 > 0 then latS t a - latS t b + 1 else 0, dist, 2⟩] else []) ++
  (if meet = true ∧ (stS a = true ∨ stS b = true) then [⟨i, j, if stS a = true ∧ stS b = true then 1 else if stS a = true then t.l 2 else 0, dist, 3⟩] else []) ++
  (if effS a = true ∧ effS b = true then [⟨i, j, 1, dist, 4⟩] else [])
theorem latS_ok {t : Tab} (ht : tabOK t) (o : Opn) : 1 ≤ latS t o ∧ latS t o ≤ 8 := by
  have := ht.1 _ (clsN_lt o)
  unfold okC at this
  unfold latS
  omega
end Go.Proofs.Hx
