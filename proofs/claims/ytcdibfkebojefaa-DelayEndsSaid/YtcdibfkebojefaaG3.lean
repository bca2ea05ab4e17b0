import Derived.Test.YtcdibfkebojefaaG2
set_option linter.unusedVariables false
set_option linter.unusedSimpArgs false
namespace Go.Proofs.Hx

/-! The heap, told slot by slot. -/
theorem emp_hp (id : Id) : emp.hp id = none := rfl
theorem emp_ep : emp.ep = 0 := rfl
theorem put_slot (h : Hp) (e e' s s' : Nat) (cs : List AV) (hs : s ≠ s') : (h.put (e, s) cs).hp (e', s') = h.hp (e', s') := put_ne _ _ _ _ fun x => hs (by cases x; rfl)
theorem kill_slot (h : Hp) (e e' s s' : Nat) (hs : s ≠ s') : (h.kill (e, s)).hp (e', s') = h.hp (e', s') := kill_ne _ _ _ fun x => hs (by cases x; rfl)
theorem kill_self (h : Hp) (id : Id) : (h.kill id).hp id = none := by simp [Hp.kill, upd]
theorem yH (h : Hp) (e e' s s' : Nat) (cs : List AV) (hs : e ≠ e') : (h.push (e, s) cs).hp (e', s') = h.hp (e', s') := push_ne _ _ _ _ fun x => hs (by cases x; rfl)
theorem yM (h : Hp) (e e' s s' : Nat) (cs : List AV) (hs : e ≠ e') : (h.put (e, s) cs).hp (e', s') = h.hp (e', s') := put_ne _ _ _ _ fun x => hs (by cases x; rfl)
theorem yI (h : Hp) (e e' s s' : Nat) (hs : e ≠ e') : (h.kill (e, s)).hp (e', s') = h.hp (e', s') := kill_ne _ _ _ fun x => hs (by cases x; rfl)
theorem qZ.at {h : Hp} (hf : qZ h) {e s : Nat} (he : h.ep < e) : h.hp (e, s) = none := (hf e s he).1
theorem allocV_ok (h : Hp) (id : Id) (z : List AV) : allocV h id z = if h.hp id = none then some (.ptr id 0, h.push id z) else none := by
  unfold allocV
  cases h.hp id <;> simp
theorem yG {n : Int} (h1 : -9223372036854775808 ≤ n) (h2 : n ≤ 9223372036854775807) : IntKind.wrap .i64 n = n := qN h1 h2
theorem splice_whole {α : Type} (z cs : List α) : splice z 0 cs = cs ++ z.drop cs.length := by simp [splice]
theorem some_eq {α : Type} (a b : α) : (some a = some b) = (a = b) := by simp

theorem fillA_nil (z : List AV) : fillA z [] = some z := rfl
theorem fillA_cons (z : List AV) (off size : Nat) (v : AV) (rest : List (Nat × Nat × AV)) : fillA z ((off, size, v) :: rest) = (qX v).bind fun cs => if cs.length = size ∧ off + size ≤ z.length then fillA (splice z off cs) rest else none := by
  simp only [fillA]
  cases qX v <;> rfl
theorem cellsA_lit_some {v : AV} (h : one v = true) (ha : ∀ cs, v ≠ .agg cs) : qX v = some [v] := by
  cases v <;> simp_all [qX]
theorem splice_eq {α : Type} (z : List α) (off : Nat) (cs : List α) : splice z off cs = z.take off ++ cs ++ z.drop (off + cs.length) := rfl
theorem lend_tup2 (n : Nat) (h : Hp) (a b : AV) (ha : imm a = true) (hb : imm b = true) : lend n h (.tup [a, b]) = some (.tup [a, b]) := lend_imm (by simp [imm, imms, ha, hb])
theorem lend_agg (n : Nat) (h : Hp) (cs : List AV) (ha : imms cs = true) : lend n h (.agg cs) = some (.agg cs) := lend_imm (by simp [imm, ha])
theorem imm_lit (v : Value) : imm (.lit v) = true := rfl
theorem imm_agg (cs : List AV) : imm (.agg cs) = imms cs := by simp [imm]
theorem imm_tup (cs : List AV) : imm (.tup cs) = imms cs := by simp [imm]
theorem imms_nil : imms [] = true := rfl
theorem imms_cons (a : AV) (cs : List AV) : imms (a :: cs) = (imm a && imms cs) := by simp [imms]
theorem one_int (k : IntKind) (n : Int) : one (.lit (.int k n)) = true := rfl
theorem one_bool (b : Bool) : one (.lit (.bool b)) = true := rfl
theorem one_str (s : ByteArray) : one (.lit (.string s)) = true := rfl

/-! The walk's small steps: the goal is taken apart from its head on, what comes after stays shut. -/
theorem awp_ops_k {P : Program} {l : List yB} {seps : List (Nat × Nat)} {Q : AEx → St → Prop} {env : Nat → AV} {h : Hp}
    (k : ∀ K : St → Prop, (∀ env' h', (sepAll seps env' ∧ Q .normal ⟨env', h'⟩) → K ⟨env', h'⟩) → qZ h → yS P l K ⟨env, h.tick⟩) : awp P (.ops l seps) Q ⟨env, h⟩ :=
  fun hf => k _ (fun _ _ h => h) hf
theorem sep_nil_i {env : Nat → AV} {p : Prop} (h : p) : sepAll [] env ∧ p := ⟨trivial, h⟩
theorem yO {seps : List (Nat × Nat)} {env : Nat → AV} {p : Prop} (h1 : sepAll seps env) (h : p) : sepAll seps env ∧ p := ⟨h1, h⟩
theorem awp_skip_i {P : Program} {Q : AEx → St → Prop} {σ : St} (h : Q .normal σ) : awp P .skip Q σ := h
theorem awp_seq_i {P : Program} {a b : ACode} {Q : AEx → St → Prop} {σ : St} (h : awp P a (seqK P (awp P b Q) Q) σ) : awp P (.seq a b) Q σ := h
theorem awp_exit_i {P : Program} {n : Nat} {Q : AEx → St → Prop} {σ : St} (h : Q (.exit n) σ) : awp P (.exit n) Q σ := h
theorem awp_ret_i {P : Program} {Q : AEx → St → Prop} {σ : St} (h : Q .ret σ) : awp P .ret Q σ := h
theorem awp_block_i {P : Program} {n : Nat} {c : ACode} {Q : AEx → St → Prop} {σ : St} (h : awp P c (YG n Q) σ) : awp P (.block n c) Q σ := h
theorem seqK_n_i {P : Program} {k : St → Prop} {Q : AEx → St → Prop} {σ : St} (h : k σ) : seqK P k Q .normal σ := h
theorem seqK_e_i {P : Program} {k : St → Prop} {Q : AEx → St → Prop} {n : Nat} {σ : St} (h : Q (.exit n) σ) : seqK P k Q (.exit n) σ := h
theorem seqK_r_i {P : Program} {k : St → Prop} {Q : AEx → St → Prop} {σ : St} (h : Q .ret σ) : seqK P k Q .ret σ := h
theorem blockK_n_i {n : Nat} {Q : AEx → St → Prop} {σ : St} (h : Q .normal σ) : YG n Q .normal σ := h
theorem blockK_r_i {n : Nat} {Q : AEx → St → Prop} {σ : St} (h : Q .ret σ) : YG n Q .ret σ := h
theorem blockK_e_i {n : Nat} {Q : AEx → St → Prop} {σ : St} (h : Q .normal σ) : YG n Q (.exit n) σ := by simpa [YG] using h
theorem yC {n m : Nat} {Q : AEx → St → Prop} {σ : St} (hne : m ≠ n) (h : Q (.exit m) σ) : YG n Q (.exit m) σ := by simpa [YG, hne] using h
theorem PostF_n_i {res : List AOp} {K : AV → Hp → Prop} {σ : St} (h : endK res K σ) : PostF res K .normal σ := h
theorem PostF_r_i {res : List AOp} {K : AV → Hp → Prop} {σ : St} (h : endK res K σ) : PostF res K .ret σ := h
theorem awp_cond_t_i {P : Program} {x : AOpd} {a b : ACode} {Q : AEx → St → Prop} {env : Nat → AV} {h : Hp} (e : evA env x = .lit (.bool true)) (k : awp P a Q ⟨env, h⟩) : awp P (.cond x a b) Q ⟨env, h⟩ := by rw [awp_cond_t e]; exact k
theorem awp_cond_f_i {P : Program} {x : AOpd} {a b : ACode} {Q : AEx → St → Prop} {env : Nat → AV} {h : Hp} (e : evA env x = .lit (.bool false)) (k : awp P b Q ⟨env, h⟩) : awp P (.cond x a b) Q ⟨env, h⟩ := by rw [awp_cond_f e]; exact k
/-- A condition, by its value. -/
def condP (b : Bool) (p q : Prop) : Prop := (b = true → p) ∧ (b = false → q)
theorem yD {P : Program} {x : AOpd} {a b : ACode} {Q : AEx → St → Prop} {env : Nat → AV} {h : Hp} {t : Bool} (e : evA env x = .lit (.bool t)) (k : condP t (awp P a Q ⟨env, h⟩) (awp P b Q ⟨env, h⟩)) : awp P (.cond x a b) Q ⟨env, h⟩ := awp_cond_in e k.1 k.2
theorem condP_t {p q : Prop} (h : p) : condP true p q := ⟨fun _ => h, fun h => by cases h⟩
theorem condP_f {p q : Prop} (h : q) : condP false p q := ⟨fun h => (by cases h), fun _ => h⟩
theorem yJ {b : Bool} {p q : Prop} (hb : b = true) (h : p) : condP b p q := by subst hb; exact condP_t h
theorem yL {b : Bool} {p q : Prop} (hb : b = false) (h : q) : condP b p q := by subst hb; exact condP_f h
theorem yK {b : Bool} {p q : Prop} (h1 : b = true → p) (h0 : b = false → q) : condP b p q := ⟨h1, h0⟩
/-- The slots under a name of their own. -/
theorem yQ {P : Program} {c : ACode} {Q : AEx → St → Prop} {env : Nat → AV} {h : Hp} (k : ∀ env' : Nat → AV, (∀ i, env' i = env i) → awp P c Q ⟨env', h⟩) : awp P c Q ⟨env, h⟩ := k env fun _ => rfl
theorem yE {P : Program} {l : List yB} {seps : List (Nat × Nat)} {Q : AEx → St → Prop} {env : Nat → AV} {h : Hp}
    (k : ∀ (env0 : Nat → AV) (K : St → Prop), (∀ i, env0 i = env i) → (∀ env' h', (sepAll seps env' ∧ Q .normal ⟨env', h'⟩) → K ⟨env', h'⟩) → qZ h → yS P l K ⟨env0, h.tick⟩) : awp P (.ops l seps) Q ⟨env, h⟩ :=
  fun hf => k env _ (fun _ => rfl) (fun _ _ h => h) hf
theorem yV {P : Program} {l : List yB} {s : List (Nat × Nat)} {b : ACode} {Q : AEx → St → Prop} {env : Nat → AV} {h : Hp} (k : qZ h → awp P (.seq (.ops l s) b) Q ⟨env, h⟩) : awp P (.seq (.ops l s) b) Q ⟨env, h⟩ := fun hf => k hf hf

/-! Slices. -/
theorem bnd_none (d : Nat) : qT d none = some d := rfl
theorem bnd_some (d : Nat) (k : IntKind) (i : Int) : qT d (some (.lit (.int k i))) = if 0 ≤ i then some i.toNat else none := rfl
theorem slice_sl {id : Id} {off n sz : Nat} {lo hi mx : Option AV} {l h m : Nat} (hx : (mx.isSome && hi.isNone) = false) (h1 : qT 0 lo = some l) (h2 : qT n hi = some h) (h3 : qT n mx = some m) (h4 : l ≤ h) (h5 : h ≤ m) (h6 : m ≤ n) :
    sliceV none sz (.sl id off n sz) lo hi mx = some (.sl id (off + l * sz) (h - l) sz) := by
  simp [sliceV, hx, h1, h2, h3, h4, h5, h6]
theorem slice_row {xs : List (List AV)} {sz : Nat} {lo hi mx : Option AV} {l h m : Nat} (hx : (mx.isSome && hi.isNone) = false) (h1 : qT 0 lo = some l) (h2 : qT xs.length hi = some h) (h3 : qT xs.length mx = some m) (h4 : l ≤ h) (h5 : h ≤ m) (h6 : m ≤ xs.length)
    (h7 : ∀ x ∈ xs, x.length = sz) : sliceV none sz (.row xs) lo hi mx = some (.row ((xs.drop l).take (h - l))) := by
  have : (xs.all fun x => decide (x.length = sz)) = true := by simpa using h7
  simp [sliceV, hx, h1, h2, h3, h4, h5, h6]
  exact fun x hx' => h7 x hx'
theorem lendF_sl {h : Hp} {id : Id} {off len sz d : Nat} {cells : List AV} (hb : h.hp id = some ⟨true, cells⟩) (hl : off + len * sz ≤ cells.length) (ha : ∀ x ∈ (cells.drop off).take (len * sz), atom x = true) :
    lendF (d + 1) h (.sl id off len sz) = some (.row (YN sz ((cells.drop off).take (len * sz)) len)) := by
  have key : ∀ xs : List AV, (∀ x ∈ xs, atom x = true) → mapO (lendF d h) xs = some xs := by
    intro xs
    induction xs with
    | nil => intro _; rfl
    | cons x xs ih =>
      intro hx
      have h1 := hx x (List.mem_cons_self ..)
      simp only [mapO, ih fun y hy => hx y (List.mem_cons_of_mem _ hy)]
      cases d <;> simp [lendF, h1]
  simp only [lendF, atom, Bool.false_eq_true, if_false, hb, if_true]
  by_cases h0 : len = 0
  · subst h0; simp [YN]
  · rw [if_neg h0, if_pos hl, key _ ha]
    rfl
theorem lendF_lit (d : Nat) (h : Hp) (v : Value) : lendF d h (.lit v) = some (.lit v) := by cases d <;> simp [lendF, atom]
theorem lendF_nil (d : Nat) (h : Hp) : lendF (d + 1) h .nil = some (.row []) := by simp [lendF, atom]
theorem lendF_tup (d : Nat) (h : Hp) (vs : List AV) : lendF (d + 1) h (.tup vs) = (mapO (lendF d h) vs).map .tup := by simp [lendF, atom]
theorem lendF_agg (d : Nat) (h : Hp) (vs : List AV) : lendF (d + 1) h (.agg vs) = (mapO (lendF d h) vs).map .agg := by simp [lendF, atom]
theorem chunks_one (cells : List AV) : YN 1 cells cells.length = cells.map fun c => [c] := by
  unfold YN
  apply List.ext_getElem?
  intro i
  rw [List.getElem?_map, List.getElem?_map]
  by_cases hi : i < cells.length
  · rw [List.getElem?_range hi, List.getElem?_eq_getElem hi]
    simp only [Option.map_some, Nat.mul_one, Option.some.injEq]
    rw [List.drop_eq_getElem_cons hi]; rfl
  · rw [List.getElem?_eq_none (by simpa using hi), List.getElem?_eq_none (by simpa using hi)]; rfl
theorem chunks_map {α : Type} (f : α → List AV) (sz : Nat) (hf : ∀ a, (f a).length = sz) (l : List α) : YN sz (l.flatMap f) l.length = l.map f := by
  unfold YN
  apply List.ext_getElem?
  intro i
  rw [List.getElem?_map, List.getElem?_map]
  by_cases hi : i < l.length
  · rw [List.getElem?_range hi, List.getElem?_eq_getElem hi]
    simp only [Option.map_some, Option.some.injEq]
    have key : ∀ (l : List α) (i : Nat) (hi : i < l.length), ((l.flatMap f).drop (i * sz)).take sz = f l[i] := by
      intro l
      induction l with
      | nil => intro i hi; simp at hi
      | cons a l ih =>
        intro i hi
        cases i with
        | zero => simp [← hf a]
        | succ i =>
          have : (i + 1) * sz = (f a).length + i * sz := by rw [hf a, Nat.add_mul]; omega
          rw [List.flatMap_cons, this, ← List.drop_drop, List.drop_left]
          simpa using ih i (by simpa using hi)
    exact key l i hi
  · rw [List.getElem?_eq_none (by simpa using hi), List.getElem?_eq_none (by simpa using hi)]; rfl

/-! Slices that are made, appended to. -/
section
variable (ρ : AOpd → AV) (h : Hp) (id : Id)
def buildSlV (h : Hp) (id : Id) (sz len : Nat) (r : Option (List AV)) : Option (AV × Hp) := if h.hp id = none then r.map (fun cs => if len = 0 then (.nil, h) else (.sl id 0 len sz, h.push id cs)) else none
theorem heapV_buildSl (sz len : Nat) (z : List AV) (ps : List (Nat × Nat × AOpd)) : yY (.buildSl sz len z ps) ρ h id = buildSlV h id sz len (fillA z (ps.map fun p => (p.1, p.2.1, ρ p.2.2))) := by
  simp only [yY, buildSlV]
  cases h.hp id <;> simp
theorem buildSlV_some (sz len : Nat) (cs : List AV) : buildSlV h id sz (len + 1) (some cs) = if h.hp id = none then some (.sl id 0 (len + 1) sz, h.push id cs) else none := by simp [buildSlV]
theorem buildSlV_zero (sz : Nat) (cs : List AV) : buildSlV h id sz 0 (some cs) = if h.hp id = none then some (.nil, h) else none := by simp [buildSlV]
def mkslV (h : Hp) (id : Id) (sz bytes : Nat) (z : List AV) : AV → AV → Option (AV × Hp)
  | .lit (.int _ l), .lit (.int _ c) => if h.hp id = none ∧ 0 ≤ l ∧ l ≤ c ∧ c ≤ 281474976710656 ∧ bytes * c ≤ 281474976710656 then some (.sl id 0 l.toNat sz, h.push id (List.replicate l.toNat z).flatten) else none
  | _, _ => none
theorem heapV_mksl (sz bytes : Nat) (z : List AV) (l c : AOpd) : yY (.mksl sz bytes z l c) ρ h id = mkslV h id sz bytes z (ρ l) (ρ c) := by
  simp only [yY]
  cases ρ l <;> cases ρ c <;> simp only [mkslV] <;> (try rfl)
  rename_i a b
  cases a <;> cases b <;> simp only [mkslV]
  cases h.hp id <;> simp
theorem mkslV_int (sz bytes : Nat) (z : List AV) (k k' : IntKind) (l c : Int) : mkslV h id sz bytes z (.lit (.int k l)) (.lit (.int k' c)) = if h.hp id = none ∧ 0 ≤ l ∧ l ≤ c ∧ c ≤ 281474976710656 ∧ bytes * c ≤ 281474976710656 then some (.sl id 0 l.toNat sz, h.push id (List.replicate l.toNat z).flatten) else none := rfl
def appV (h : Hp) (id : Id) (sz bytes : Nat) (n : Nat) (new : List AV) : AV → Option (AV × Hp)
  | .nil => if n = 0 then some (.nil, h) else if n * bytes ≤ 281474976710656 then some (.sl id 0 n sz, h.push id new) else none
  | .sl t off len sz' => (h.hp t).bind fun blk => if sz' = sz ∧ blk.wr = true ∧ new.all one ∧ (len + n + (len + n) / 4 + 512) * bytes ≤ 281474976710656 then
      some (.sl id 0 (len + n) sz, (h.kill t).push id ((blk.cells.drop off).take (len * sz) ++ new)) else none
  | _ => none
theorem heapV_append (sz bytes : Nat) (s x : AOpd) : yY (.append sz bytes s x) ρ h id = (appSrc h sz (ρ x)).bind fun p => appV h id sz bytes p.1 p.2 (ρ s) := by
  simp only [yY]
  cases appSrc h sz (ρ x) with
  | none => rfl
  | some p =>
    simp only [Option.bind_some]
    cases ρ s <;> simp only [appV]
    rename_i t off len sz'
    cases h.hp t <;> rfl
theorem appSrc_nil (sz : Nat) : appSrc h sz .nil = some (0, []) := rfl
theorem appSrc_sl {sz off len : Nat} {t : Id} {cells : List AV} (hb : h.hp t = some ⟨true, cells⟩) : appSrc h sz (.sl t off len sz) = some (len, (cells.drop off).take (len * sz)) := by simp [appSrc, hb]
theorem appSrc_row {sz : Nat} {xs : List (List AV)} (hx : ∀ x ∈ xs, x.length = sz) : appSrc h sz (.row xs) = some (xs.length, xs.flatten) := by
  have : (xs.all fun x => decide (x.length = sz)) = true := by simpa using hx
  simp only [appSrc, this, if_true]
theorem appV_nil {sz bytes n : Nat} {new : List AV} (h0 : n ≠ 0) (h1 : n * bytes ≤ 281474976710656) : appV h id sz bytes n new .nil = some (.sl id 0 n sz, h.push id new) := by simp [appV, h0, h1]
theorem appV_nil0 (sz bytes : Nat) (new : List AV) : appV h id sz bytes 0 new .nil = some (.nil, h) := by simp [appV]
theorem appV_sl {sz bytes n off len : Nat} {new cells : List AV} {t : Id} (hb : h.hp t = some ⟨true, cells⟩) (h2 : new.all one = true) (h3 : (len + n + (len + n) / 4 + 512) * bytes ≤ 281474976710656) :
    appV h id sz bytes n new (.sl t off len sz) = some (.sl id 0 (len + n) sz, (h.kill t).push id ((cells.drop off).take (len * sz) ++ new)) := by
  simp [appV, hb, h2, h3]
end

theorem slice_sl_eq (id : Id) (off n sz sz' : Nat) (lo hi mx : Option AV) : sliceV none sz (.sl id off n sz') lo hi mx = if (mx.isSome && hi.isNone) = true then none else (qT 0 lo).bind fun l => (qT n hi).bind fun h => (qT n mx).bind fun m => if l ≤ h ∧ h ≤ m ∧ m ≤ n ∧ sz' = sz then some (.sl id (off + l * sz) (h - l) sz) else none := by
  simp only [sliceV]
  by_cases hc : (mx.isSome && hi.isNone) = true
  · simp only [hc, if_true]
  · simp only [hc, if_false]
    cases qT 0 lo <;> cases qT n hi <;> cases qT n mx <;> rfl
theorem slice_row_eq {α : Type} (f : α → List AV) (sz : Nat) (xs : List α) (hf : ∀ a, (f a).length = sz) (lo hi mx : Option AV) : sliceV none sz (.row (xs.map f)) lo hi mx = if (mx.isSome && hi.isNone) = true then none else (qT 0 lo).bind fun l => (qT xs.length hi).bind fun h => (qT xs.length mx).bind fun m => if l ≤ h ∧ h ≤ m ∧ m ≤ xs.length then some (.row (((xs.drop l).take (h - l)).map f)) else none := by
  have : ((xs.map f).all fun x => decide (x.length = sz)) = true := by simp [hf]
  simp only [sliceV, this, and_true, List.length_map]
  by_cases hc : (mx.isSome && hi.isNone) = true
  · simp only [hc, if_true]
  · simp only [hc, if_false]
    cases qT 0 lo <;> cases qT xs.length hi <;> cases qT xs.length mx <;> simp [List.map_take, List.map_drop]
theorem ite_bind {α β : Type} (c : Prop) [Decidable c] (a : α) (f : α → Option β) : (if c then some a else none).bind f = if c then f a else none := by split <;> rfl
theorem lendF_nilF (h : Hp) : lendF fuelL h .nil = some (.row []) := rfl
theorem lendF_slF (h : Hp) (id : Id) (off len sz : Nat) : lendF fuelL h (.sl id off len sz) = (h.hp id).bind fun blk => if blk.wr = true then (if len = 0 then some (.row []) else if off + len * sz ≤ blk.cells.length then (mapO (lendF 7 h) ((blk.cells.drop off).take (len * sz))).map fun cells => .row (YN sz cells len) else none) else none := by
  show lendF (7 + 1) h (.sl id off len sz) = _
  simp only [lendF, atom, Bool.false_eq_true, if_false]
  cases h.hp id <;> rfl
theorem chunks_zero {α : Type} (sz : Nat) (cells : List α) : YN sz cells 0 = [] := rfl
theorem chunks_succ {α : Type} (sz : Nat) (cells : List α) (n : Nat) : YN sz cells (n + 1) = cells.take sz :: YN sz (cells.drop sz) n := by
  simp only [YN, List.range_succ_eq_map, List.map_cons, Nat.zero_mul, List.drop_zero, List.map_map]
  congr 1
  apply List.map_congr_left
  intro i _
  simp only [Function.comp, List.drop_drop, Nat.succ_eq_add_one, Nat.add_mul, Nat.one_mul, Nat.add_comm]
theorem imms_app {a b : List AV} (ha : imms a = true) (hb : imms b = true) : imms (a ++ b) = true := by
  induction a with
  | nil => exact hb
  | cons x a ih => simp only [List.cons_append, imms, Bool.and_eq_true] at ha ⊢; exact ⟨ha.1, ih ha.2⟩
theorem imms_take {a : List AV} (n : Nat) (ha : imms a = true) : imms (a.take n) = true := imms_of_get fun i x hx => by
  rw [List.getElem?_take] at hx
  split at hx
  · exact imms_get ha hx
  · cases hx
theorem imms_drop {a : List AV} (n : Nat) (ha : imms a = true) : imms (a.drop n) = true := imms_of_get fun i x hx => by
  rw [List.getElem?_drop] at hx
  exact imms_get ha hx
theorem lend_sl_d (d : Nat) {h : Hp} {id : Id} {off len sz : Nat} {cells : List AV} (hb : h.hp id = some ⟨true, cells⟩) (hi : imms cells = true) (hl : off + len * sz ≤ cells.length) :
    lend (d + 1) h (.sl id off len sz) = some (.row (YN sz ((cells.drop off).take (len * sz)) len)) := by
  simp only [lend, imm, Bool.false_eq_true, if_false, hb]
  by_cases h0 : len = 0
  · subst h0; simp [YN]
  · rw [if_neg h0, if_pos hl, YK (imms_take _ (imms_drop _ hi))]
    rfl
theorem lend_sl {h : Hp} {id : Id} {off len sz : Nat} {cells : List AV} (hb : h.hp id = some ⟨true, cells⟩) (hi : imms cells = true) (hl : off + len * sz ≤ cells.length) :
    lend fuelL h (.sl id off len sz) = some (.row (YN sz ((cells.drop off).take (len * sz)) len)) := lend_sl_d 7 hb hi hl
theorem appSrc_sl_eq (h : Hp) (sz sz' off len : Nat) (t : Id) : appSrc h sz (.sl t off len sz') = if sz' = sz then (h.hp t).map fun blk => (len, (blk.cells.drop off).take (len * sz)) else none := by
  simp only [appSrc]
  by_cases hs : sz' = sz
  · simp only [hs, if_true]; cases h.hp t <;> rfl
  · simp only [hs, if_false]

/-! ### The walk's set of rewritings -/
attribute [push_cast] heapV_buildSl buildSlV_some buildSlV_zero heapV_mksl mkslV_int heapV_append appSrc_nil appSrc_sl_eq appV_nil0 bnd_none bnd_some slice_sl_eq ite_bind lendF_lit lendF_nilF lendF_slF chunks_zero chunks_succ decide_true decide_false Option.isSome_none Option.isNone_some Option.isNone_none Bool.and_false Bool.false_and Prod.mk.injEq and_false false_and not_false_eq_true fillA_nil fillA_cons splice_eq List.take_succ_cons List.drop_succ_cons List.take_zero List.drop_zero List.take_nil List.drop_nil List.all_cons List.all_nil one_int one_bool one_str Bool.and_true Bool.true_and Nat.le_refl imm_lit imm_agg imm_tup imms_nil imms_cons lend_tup2 lend_agg emp_hp emp_ep put_slot kill_slot kill_self awpOps_nil awpOps_go awpOps_gt awpOps_gf awpOps_gu endOps_eq opK_call evA_t evA_c putA_none putA_some upd_get initEnv_eq List.getD_cons_zero
   List.getD_cons_succ List.getD_nil List.map_cons List.map_nil List.append_nil List.nil_append List.cons_append Option.map_some Option.map_none Option.getD_some Option.getD_none
   awp_skip awp_seq awp_exit awp_ret awp_block awp_cond_t awp_cond_f sepAll_nil seqK_n seqK_e seqK_r blockK_n blockK_r blockK_e blockK_ne PostF_n PostF_r endK_eq mapO_nil mapO_cons
   resV_mv resV_load retV_one retV_two retV_three retV_nil lend_lit ob_some ob_none goV_some goV_none goM_some goM_none goV_ite goV_ite0 goM_ite opK_mv opK_pick opK_build opK_nilchk
   opK_bin opK_beq opK_aeq pureV_aeq opK_un opK_conv opK_mkfn opK_fieldAddr opK_field opK_idxAddr opK_idx opK_ext opK_len opK_lenStr opK_maxs opK_mins opK_load opK_slice0 opK_slice1 opK_alloc opK_box
   opK_buildSl opK_mksl opK_store opK_append pickV_t pickV_f pickV_eq pureV_pick pureV_bin pureV_un pureV_build pureV_nilchk pureV_beq pureV_conv pureV_mkfn pureV_fieldAddr
   pureV_field pureV_idxAddr pureV_idx pureV_ext pureV_len0 pureV_len1 pureV_maxs pureV_mins readV_load loadV_ip loadV_ptr partV_f partV_t bin_add bin_sub bin_mul bin_eql bin_neq
   bin_lss bin_leq bin_gtr bin_geq bin_quo bin_rem un_not conv_int fieldAddr_ip fieldAddr_ptr field_agg idxAddr_ptr idxAddr_ip qC idx_agg heapV_store storeV_ptr storeC_wr
   extV_tup sepAll_cons sepV_pp sepV_ps sepV_sp sepV_ss sepV_undef sepV_undef' sepV_tup sepV_tup' sepV_ip sepV_ip' sepV_row sepV_row' sepV_nil sepV_nil' List.length_cons
   List.length_nil List.getElem?_cons_zero List.getElem?_cons_succ YA YE push_ep put_ep kill_ep push_self put_self push_keep push_slot heapV_alloc heapV_box allocV_ok
   cellsA_agg cellsA_int cellsA_bool cellsA_str cellsA_sl cellsA_row cellsA_nil cellsA_fn cellsA_ptr Option.isSome_some Int.toNat_natCast Nat.mul_one Nat.zero_add true_and and_true
   Bool.not_true Bool.not_false and_self ne_eq not_false_eq_true not_true_eq_false Option.bind_some implies_true forall_const if_true if_false Bool.false_eq_true Bool.true_eq_false
inductive Zs : Prop → Prop
  | a1 {P : Program} {a b : ACode} {Q : AEx → St → Prop} {σ : St} (h : awp P a (seqK P (awp P b Q) Q) σ) : Zs (awp P (.seq a b) Q σ)
  | a2 {P : Program} {k : St → Prop} {Q : AEx → St → Prop} {σ : St} (h : k σ) : Zs (seqK P k Q .normal σ)
  | a3 {P : Program} {n : Nat} {c : ACode} {Q : AEx → St → Prop} {σ : St} (h : awp P c (YG n Q) σ) : Zs (awp P (.block n c) Q σ)
  | a4 {P : Program} {Q : AEx → St → Prop} {σ : St} (h : Q .normal σ) : Zs (awp P .skip Q σ)
  | a5 {n : Nat} {Q : AEx → St → Prop} {σ : St} (h : Q .normal σ) : Zs (YG n Q .normal σ)
  | a6 {P : Program} {Q : AEx → St → Prop} {σ : St} (h : Q .ret σ) : Zs (awp P .ret Q σ)
  | a7 {P : Program} {k : St → Prop} {Q : AEx → St → Prop} {σ : St} (h : Q .ret σ) : Zs (seqK P k Q .ret σ)
  | a8 {n : Nat} {Q : AEx → St → Prop} {σ : St} (h : Q .ret σ) : Zs (YG n Q .ret σ)
  | a9 {P : Program} {n : Nat} {Q : AEx → St → Prop} {σ : St} (h : Q (.exit n) σ) : Zs (awp P (.exit n) Q σ)
  | b1 {P : Program} {k : St → Prop} {Q : AEx → St → Prop} {n : Nat} {σ : St} (h : Q (.exit n) σ) : Zs (seqK P k Q (.exit n) σ)
  | b2 {n : Nat} {Q : AEx → St → Prop} {σ : St} (h : Q .normal σ) : Zs (YG n Q (.exit n) σ)
  | b3 {res : List AOp} {K : AV → Hp → Prop} {σ : St} (h : endK res K σ) : Zs (PostF res K .normal σ)
  | b4 {res : List AOp} {K : AV → Hp → Prop} {σ : St} (h : endK res K σ) : Zs (PostF res K .ret σ)
  | b5 {env : Nat → AV} {p : Prop} (h : p) : Zs (sepAll [] env ∧ p)
  | b6 {p q : Prop} (h : p) : Zs (condP true p q)
  | b7 {p q : Prop} (h : q) : Zs (condP false p q)
theorem Zi {p : Prop} (h : Zs p) : p := by
  cases h with
  | a1 h => exact awp_seq_i h
  | a2 h => exact seqK_n_i h
  | a3 h => exact awp_block_i h
  | a4 h => exact awp_skip_i h
  | a5 h => exact blockK_n_i h
  | a6 h => exact awp_ret_i h
  | a7 h => exact seqK_r_i h
  | a8 h => exact blockK_r_i h
  | a9 h => exact awp_exit_i h
  | b1 h => exact seqK_e_i h
  | b2 h => exact blockK_e_i h
  | b3 h => exact PostF_n_i h
  | b4 h => exact PostF_r_i h
  | b5 h => exact sep_nil_i h
  | b6 h => exact condP_t h
  | b7 h => exact condP_f h
theorem oT {p : Prop} [Decidable p] (h : decide p = true) : p := of_decide_eq_true h
theorem oF {p : Prop} [Decidable p] (h : decide p = false) : ¬ p := of_decide_eq_false h
theorem dT {p : Prop} [Decidable p] (h : p) : decide p = true := decide_eq_true h
theorem dF {p : Prop} [Decidable p] (h : ¬ p) : decide p = false := decide_eq_false h
theorem cj3 {P : Nat → Prop} (h : ∀ i, P i) (a0 a1 a2 : Nat) : P a0 ∧ P a1 ∧ P a2 := ⟨h a0, h a1, h a2⟩
theorem cj4 {P : Nat → Prop} (h : ∀ i, P i) (a0 a1 a2 a3 : Nat) : P a0 ∧ P a1 ∧ P a2 ∧ P a3 := ⟨h a0, h a1, h a2, h a3⟩
theorem cj5 {P : Nat → Prop} (h : ∀ i, P i) (a0 a1 a2 a3 a4 : Nat) : P a0 ∧ P a1 ∧ P a2 ∧ P a3 ∧ P a4 := ⟨h a0, h a1, h a2, h a3, h a4⟩
theorem cj6 {P : Nat → Prop} (h : ∀ i, P i) (a0 a1 a2 a3 a4 a5 : Nat) : P a0 ∧ P a1 ∧ P a2 ∧ P a3 ∧ P a4 ∧ P a5 := ⟨h a0, h a1, h a2, h a3, h a4, h a5⟩
theorem cj7 {P : Nat → Prop} (h : ∀ i, P i) (a0 a1 a2 a3 a4 a5 a6 : Nat) : P a0 ∧ P a1 ∧ P a2 ∧ P a3 ∧ P a4 ∧ P a5 ∧ P a6 := ⟨h a0, h a1, h a2, h a3, h a4, h a5, h a6⟩
theorem cj8 {P : Nat → Prop} (h : ∀ i, P i) (a0 a1 a2 a3 a4 a5 a6 a7 : Nat) : P a0 ∧ P a1 ∧ P a2 ∧ P a3 ∧ P a4 ∧ P a5 ∧ P a6 ∧ P a7 := ⟨h a0, h a1, h a2, h a3, h a4, h a5, h a6, h a7⟩
theorem cj9 {P : Nat → Prop} (h : ∀ i, P i) (a0 a1 a2 a3 a4 a5 a6 a7 a8 : Nat) : P a0 ∧ P a1 ∧ P a2 ∧ P a3 ∧ P a4 ∧ P a5 ∧ P a6 ∧ P a7 ∧ P a8 := ⟨h a0, h a1, h a2, h a3, h a4, h a5, h a6, h a7, h a8⟩
theorem cj10 {P : Nat → Prop} (h : ∀ i, P i) (a0 a1 a2 a3 a4 a5 a6 a7 a8 a9 : Nat) : P a0 ∧ P a1 ∧ P a2 ∧ P a3 ∧ P a4 ∧ P a5 ∧ P a6 ∧ P a7 ∧ P a8 ∧ P a9 := ⟨h a0, h a1, h a2, h a3, h a4, h a5, h a6, h a7, h a8, h a9⟩
theorem cj11 {P : Nat → Prop} (h : ∀ i, P i) (a0 a1 a2 a3 a4 a5 a6 a7 a8 a9 a10 : Nat) : P a0 ∧ P a1 ∧ P a2 ∧ P a3 ∧ P a4 ∧ P a5 ∧ P a6 ∧ P a7 ∧ P a8 ∧ P a9 ∧ P a10 := ⟨h a0, h a1, h a2, h a3, h a4, h a5, h a6, h a7, h a8, h a9, h a10⟩
theorem cj12 {P : Nat → Prop} (h : ∀ i, P i) (a0 a1 a2 a3 a4 a5 a6 a7 a8 a9 a10 a11 : Nat) : P a0 ∧ P a1 ∧ P a2 ∧ P a3 ∧ P a4 ∧ P a5 ∧ P a6 ∧ P a7 ∧ P a8 ∧ P a9 ∧ P a10 ∧ P a11 := ⟨h a0, h a1, h a2, h a3, h a4, h a5, h a6, h a7, h a8, h a9, h a10, h a11⟩
theorem cj13 {P : Nat → Prop} (h : ∀ i, P i) (a0 a1 a2 a3 a4 a5 a6 a7 a8 a9 a10 a11 a12 : Nat) : P a0 ∧ P a1 ∧ P a2 ∧ P a3 ∧ P a4 ∧ P a5 ∧ P a6 ∧ P a7 ∧ P a8 ∧ P a9 ∧ P a10 ∧ P a11 ∧ P a12 := ⟨h a0, h a1, h a2, h a3, h a4, h a5, h a6, h a7, h a8, h a9, h a10, h a11, h a12⟩
theorem cj14 {P : Nat → Prop} (h : ∀ i, P i) (a0 a1 a2 a3 a4 a5 a6 a7 a8 a9 a10 a11 a12 a13 : Nat) : P a0 ∧ P a1 ∧ P a2 ∧ P a3 ∧ P a4 ∧ P a5 ∧ P a6 ∧ P a7 ∧ P a8 ∧ P a9 ∧ P a10 ∧ P a11 ∧ P a12 ∧ P a13 := ⟨h a0, h a1, h a2, h a3, h a4, h a5, h a6, h a7, h a8, h a9, h a10, h a11, h a12, h a13⟩
theorem cj15 {P : Nat → Prop} (h : ∀ i, P i) (a0 a1 a2 a3 a4 a5 a6 a7 a8 a9 a10 a11 a12 a13 a14 : Nat) : P a0 ∧ P a1 ∧ P a2 ∧ P a3 ∧ P a4 ∧ P a5 ∧ P a6 ∧ P a7 ∧ P a8 ∧ P a9 ∧ P a10 ∧ P a11 ∧ P a12 ∧ P a13 ∧ P a14 := ⟨h a0, h a1, h a2, h a3, h a4, h a5, h a6, h a7, h a8, h a9, h a10, h a11, h a12, h a13, h a14⟩
theorem cj16 {P : Nat → Prop} (h : ∀ i, P i) (a0 a1 a2 a3 a4 a5 a6 a7 a8 a9 a10 a11 a12 a13 a14 a15 : Nat) : P a0 ∧ P a1 ∧ P a2 ∧ P a3 ∧ P a4 ∧ P a5 ∧ P a6 ∧ P a7 ∧ P a8 ∧ P a9 ∧ P a10 ∧ P a11 ∧ P a12 ∧ P a13 ∧ P a14 ∧ P a15 := ⟨h a0, h a1, h a2, h a3, h a4, h a5, h a6, h a7, h a8, h a9, h a10, h a11, h a12, h a13, h a14, h a15⟩
theorem cj19 {P : Nat → Prop} (h : ∀ i, P i) (a0 a1 a2 a3 a4 a5 a6 a7 a8 a9 a10 a11 a12 a13 a14 a15 a16 a17 a18 : Nat) : P a0 ∧ P a1 ∧ P a2 ∧ P a3 ∧ P a4 ∧ P a5 ∧ P a6 ∧ P a7 ∧ P a8 ∧ P a9 ∧ P a10 ∧ P a11 ∧ P a12 ∧ P a13 ∧ P a14 ∧ P a15 ∧ P a16 ∧ P a17 ∧ P a18 := ⟨h a0, h a1, h a2, h a3, h a4, h a5, h a6, h a7, h a8, h a9, h a10, h a11, h a12, h a13, h a14, h a15, h a16, h a17, h a18⟩
end Go.Proofs.Hx

set_option linter.unusedVariables false
set_option linter.unusedSimpArgs false
namespace Go.Proofs.Hx
/-! ### Maps in the walk -/
def lookE (g : Bool) (ls : List (Nat × Nat)) (sz : Nat) (z : AV) (es : List (AV × AV)) (k : AV) : Option AV :=
  (keyC g sz k).bind fun ks => (findE ls sz (keyC g sz) ks es).bind fun r => match r with | none => some z | some i => (es[i]?).map fun e => e.2
def putE (g : Bool) (ls : List (Nat × Nat)) (sz : Nat) (es : List (AV × AV)) (k v : AV) : Option (List (AV × AV)) :=
  (keyC g sz k).bind fun ks => (findE ls sz (keyC g sz) ks es).bind fun r => match r with | none => some (es ++ [(k, v)]) | some i => some (es.set i (k, v))
def entsOf : Option MB → Option (List (AV × AV))
  | some (.ents es) => some es
  | _ => none
theorem entsOf_some (es : List (AV × AV)) : entsOf (some (.ents es)) = some es := rfl
def lookV (g : Bool) (ls : List (Nat × Nat)) (sz : Nat) (z : AV) (h : Hp) : AV → AV → Option AV
  | .map m, k => (entsOf (h.mp m)).bind fun es => lookE g ls sz z es k
  | _, _ => none
def putV (g : Bool) (ls : List (Nat × Nat)) (sz : Nat) (h : Hp) : AV → AV → AV → Option (AV × Hp)
  | .map m, k, v => (entsOf (h.mp m)).bind fun es => (putE g ls sz es k v).map fun es' => (.undef, h.setm m (.ents es'))
  | _, _, _ => none
def mkV (h : Hp) (id : Id) : Option (AV × Hp) := if h.mp id = none ∧ h.hp id = none then some (.map id, h.setm id (.ents [])) else none
def rangeV (h : Hp) (id : Id) : AV → Option (AV × Hp)
  | .map m => (entsOf (h.mp m)).bind fun es => if h.mp id = none ∧ h.hp id = none then some (.ptr id 0, h.setm id (.iter m es.length [] es.length)) else none
  | _ => none
section
variable (P : Program) (d : Option Nat) (K : St → Prop) (env : Nat → AV) (h : Hp)
theorem opK_mkbf (f : Nat) (fs : List AOpd) : opK P d (.mkbf f fs) K env h = K ⟨putA env d (.bf f (fs.map (evA env))), h⟩ := rfl
theorem opK_peq (neg : Bool) (x y : AOpd) : opK P d (.peq neg x y) K env h = goV d K env h (peqV neg (evA env x) (evA env y)) := by
  simp only [opK, yW, qJ, yR, goV]
  cases hp : peqV neg (evA env x) (evA env y) <;> simp [qI, yY, ob]
theorem peq_ptr (neg : Bool) (id : Id) (off : Nat) : peqV neg (.ptr id off) (.lit (.pointer none)) = some (.lit (.bool neg)) := rfl
theorem peq_nil (neg : Bool) : peqV neg (.lit (.pointer none)) (.lit (.pointer none)) = some (.lit (.bool (!neg))) := rfl
theorem lookV_map (g : Bool) (ls : List (Nat × Nat)) (sz : Nat) (z : AV) (m : Id) (k : AV) : lookV g ls sz z h (.map m) k = (entsOf (h.mp m)).bind fun es => lookE g ls sz z es k := rfl
theorem putV_map (g : Bool) (ls : List (Nat × Nat)) (sz : Nat) (m : Id) (k v : AV) : putV g ls sz h (.map m) k v = (entsOf (h.mp m)).bind fun es => (putE g ls sz es k v).map fun es' => (.undef, h.setm m (.ents es')) := rfl
theorem rangeV_map (m id : Id) : rangeV h id (.map m) = (entsOf (h.mp m)).bind fun es => if h.mp id = none ∧ h.hp id = none then some (.ptr id 0, h.setm id (.iter m es.length [] es.length)) else none := rfl
theorem mop_look (g : Bool) (ls : List (Nat × Nat)) (sz : Nat) (z m k : AV) (id : Id) : mopV (.look g ls sz z) [m, k] h id = (lookV g ls sz z h m k).map fun v => (v, h) := by
  cases m <;> simp only [lookV, Option.map_none] <;> try rfl
  rename_i m
  simp only [mopV]
  cases hm : h.mp m with
  | none => rfl
  | some b =>
    cases b with
    | iter => rfl
    | ents es =>
      simp only [entsOf, Option.bind_some, lookE]
      cases keyC g sz k with
      | none => rfl
      | some ks =>
        simp only [Option.bind_some]
        cases findE ls sz (keyC g sz) ks es with
        | none => rfl
        | some r =>
          simp only [Option.bind_some]
          cases r with
          | none => rfl
          | some i =>
            show Option.map (fun e => (e.2, h)) es[i]? = Option.map (fun v => (v, h)) (Option.map (fun e => e.2) es[i]?)
            rw [Option.map_map]; rfl
theorem mop_put (g : Bool) (ls : List (Nat × Nat)) (sz : Nat) (m k v : AV) (id : Id) : mopV (.put g ls sz) [m, k, v] h id = putV g ls sz h m k v := by
  cases m <;> simp only [putV] <;> try rfl
  rename_i m
  simp only [mopV]
  cases hm : h.mp m with
  | none => rfl
  | some b =>
    cases b with
    | iter => rfl
    | ents es =>
      simp only [entsOf, Option.bind_some, putE]
      cases keyC g sz k with
      | none => rfl
      | some ks =>
        simp only [Option.bind_some]
        cases findE ls sz (keyC g sz) ks es with
        | none => rfl
        | some r =>
          simp only [Option.bind_some]
          cases r <;> rfl
theorem opK_look (g : Bool) (ls : List (Nat × Nat)) (sz : Nat) (z : AV) (m k : AOpd) : opK P d (.mop (.look g ls sz z) [m, k]) K env h = goV d K env h (lookV g ls sz z h (evA env m) (evA env k)) := by
  simp only [opK, yW, qJ, yR, qI, yY, List.map_cons, List.map_nil, mop_look, goV]
  cases lookV g ls sz z h (evA env m) (evA env k) <;> rfl
theorem opK_mput (g : Bool) (ls : List (Nat × Nat)) (sz : Nat) (m k v : AOpd) : opK P d (.mop (.put g ls sz) [m, k, v]) K env h = goM d K env (putV g ls sz h (evA env m) (evA env k) (evA env v)) := by
  simp only [opK, yW, qJ, yR, qI, yY, List.map_cons, List.map_nil, mop_put, goM]
theorem opK_mkmap : opK P d (.mop .mk []) K env h = goM d K env (mkV h (h.ep, d.getD 0)) := by
  simp only [opK, yW, qJ, yR, qI, yY, List.map_nil, mopV, mkV, goM, Option.isNone_iff_eq_none]
theorem opK_range (x : AOpd) : opK P d (.mop .range [x]) K env h = goM d K env (rangeV h (h.ep, d.getD 0) (evA env x)) := by
  simp only [opK, yW, qJ, yR, qI, yY, List.map_cons, List.map_nil, goM]
  congr 1
  cases evA env x <;> simp only [rangeV] <;> try rfl
  rename_i m
  simp only [mopV]
  cases hm : h.mp m with
  | none => rfl
  | some b => cases b <;> simp [entsOf]
theorem opK_next (x : AOpd) : opK P d (.mop .next [x]) K env h = nextA [evA env x] h fun r h' => K ⟨putA env d r, h'⟩ := rfl
theorem opK_entry (i m : Id) (since st p : Nat) (seen : List Nat) (es : List (AV × AV)) (e : AV × AV) (h1 : h.mp i = some (.iter m since (seen ++ [p]) es.length)) (h2 : h.mp m = some (.ents es)) (h3 : es[p]? = some e) (x : AOpd) (hx : evA env x = .ptr i 0) : opK P d (.mop .entry [x]) K env h = K ⟨putA env d (.tup [e.1, e.2]), h⟩ := by
  simp only [opK, yW, qJ, yR, qI, yY, List.map_cons, List.map_nil, hx, mopV, h1, h2, if_true, List.getLast?_append, List.getLast?_singleton, Option.some_or, Option.bind_some, h3, Option.map_some, ob]
theorem next_of {i m : Id} {since st : Nat} {seen : List Nat} {es : List (AV × AV)} {K : AV → Hp → Prop} (h1 : h.mp i = some (.iter m since seen st)) (h2 : h.mp m = some (.ents es)) (h3 : since = es.length) (k1 : (∀ p, p < es.length → p ∈ seen) → K (.tup [.lit (.bool false)]) h)
    (k2 : ∀ p e, es[p]? = some e → p ∉ seen → K (.tup [.lit (.bool true), e.1, e.2]) (h.setm i (.iter m since (seen ++ [p]) es.length))) : nextA [.ptr i 0] h K := by
  simp only [nextA, h1, h2]
  exact ⟨h3, k1, k2⟩
end
theorem call_bf {P : Program} {d : Option Nat} {K : St → Prop} {env : Nat → AV} {h : Hp} {g : Nat} {fs args : List AV} (hc : HC P g (fs ++ args) h fun r h' => qZ h' → K ⟨putA env d r, h'.tick⟩) : qB P d K env h false (.bf g fs) args := hc
theorem setm_hp (h : Hp) (id : Id) (b : MB) : (h.setm id b).hp = h.hp := rfl
theorem setm_ep (h : Hp) (id : Id) (b : MB) : (h.setm id b).ep = h.ep := rfl
theorem setm_self (h : Hp) (id : Id) (b : MB) : (h.setm id b).mp id = some b := by simp [Hp.setm]
theorem setm_ne (h : Hp) {id j : Id} (b : MB) (e : j ≠ id) : (h.setm id b).mp j = h.mp j := by simp only [Hp.setm]; exact qD _ _ e
theorem setm_slot (h : Hp) (e e' s s' : Nat) (b : MB) (hs : s ≠ s') : (h.setm (e, s) b).mp (e', s') = h.mp (e', s') := setm_ne h b fun x => hs (by cases x; rfl)
theorem push_mp (h : Hp) (id : Id) (c : List AV) : (h.push id c).mp = h.mp := rfl
theorem put_mp (h : Hp) (id : Id) (c : List AV) : (h.put id c).mp = h.mp := rfl
theorem kill_mp (h : Hp) (id : Id) : (h.kill id).mp = h.mp := rfl
theorem emp_mp (id : Id) : emp.mp id = none := rfl
theorem cellsA_map (id : Id) : qX (.map id) = some [.map id] := rfl
theorem cellsA_bf (f : Nat) (fs : List AV) : qX (.bf f fs) = some [.bf f fs] := rfl
theorem one_map (id : Id) : one (.map id) = true := rfl
theorem one_bf (f : Nat) (fs : List AV) : one (.bf f fs) = true := rfl
theorem mkV_ok (h : Hp) (id : Id) : mkV h id = if h.mp id = none ∧ h.hp id = none then some (.map id, h.setm id (.ents [])) else none := rfl
attribute [push_cast] opK_mkbf opK_peq peq_ptr peq_nil lookV_map putV_map rangeV_map opK_look opK_mput opK_mkmap opK_range opK_next setm_hp setm_ep setm_self setm_slot push_mp put_mp kill_mp emp_mp tick_mp cellsA_map cellsA_bf one_map one_bf entsOf_some mkV_ok
end Go.Proofs.Hx
