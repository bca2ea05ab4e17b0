import Derived.Test.YtdpaimmheoconaaG2
import Derived.Carry
import Derived.SizedLaws
import Derived.OpenShut
import Derived.ShutString
import Derived.ChangeOld
import Derived.KernelRfl
set_option linter.unusedVariables false
set_option linter.unusedSimpArgs false
namespace Go.Proofs.Hx
open Go.ChangeShapes Go.WideShapes Go.RowKit
inductive CT where
  | int (k : IntKind)
  | bool
  | str
  | sl (bytes : Nat) (e : List CT)
mutual
def CTok : CT → AV → Prop
  | .int k, a => ∃ n, a = .lit (.int k n) ∧ (Lit.int k n).wf = true
  | .bool, a => ∃ b, a = .lit (.bool b)
  | .str, a => ∃ s : ByteArray, a = .lit (.string s) ∧ s.size ≤ 140737488351232
  | .sl bytes e, a => ∃ xs : List (List AV), a = .row xs ∧ xs.length * bytes ≤ 140737488351232 ∧ ∀ x ∈ xs, qO e x
def qO : List CT → List AV → Prop
  | [], as => as = []
  | t :: ts, as => ∃ a r, as = a :: r ∧ CTok t a ∧ qO ts r
end
mutual
theorem CTok.imm : ∀ {t : CT} {a : AV}, CTok t a → imm a = true
  | .int k, a, h => by simp only [CTok] at h; obtain ⟨n, rfl, _⟩ := h; rfl
  | .bool, a, h => by simp only [CTok] at h; obtain ⟨b, rfl⟩ := h; rfl
  | .str, a, h => by simp only [CTok] at h; obtain ⟨s, rfl, _⟩ := h; rfl
  | .sl bytes e, a, h => by
    simp only [CTok] at h
    obtain ⟨xs, rfl, _, hx⟩ := h
    simp only [Hx.imm]
    exact qV fun i x hi => qO.imms (hx x (List.mem_of_getElem? hi))
theorem qO.imms : ∀ {ts : List CT} {as : List AV}, qO ts as → imms as = true
  | [], as, h => by simp only [qO] at h; subst h; rfl
  | t :: ts, as, h => by
    simp only [qO] at h
    obtain ⟨a, r, rfl, h1, h2⟩ := h
    simp only [Hx.imms, Bool.and_eq_true]
    exact ⟨CTok.imm h1, qO.imms h2⟩
end
theorem qO.append : ∀ {ts us : List CT} {as bs : List AV}, qO ts as → qO us bs → qO (ts ++ us) (as ++ bs)
  | [], us, as, bs, h, k => by simp only [qO] at h; subst h; simpa using k
  | t :: ts, us, as, bs, h, k => by
    simp only [qO] at h
    obtain ⟨a, r, rfl, h1, h2⟩ := h
    simp only [List.cons_append, qO]
    exact ⟨a, r ++ bs, rfl, h1, qO.append h2 k⟩
theorem qO.length : ∀ {ts : List CT} {as : List AV}, qO ts as → as.length = ts.length
  | [], as, h => by simp only [qO] at h; subst h; rfl
  | t :: ts, as, h => by
    simp only [qO] at h
    obtain ⟨a, r, rfl, h1, h2⟩ := h
    simp [qO.length h2]

def partsOk (P : Program) : Nat → List Field → Option Nat
  | off, [] => some off
  | off, f :: fs => if f.offset = off then partsOk P (off + P.cellsOf f.type) fs else none
def UL (P : Program) : Nat → TypeId → Option (List CT)
  | 0, _ => none
  | n + 1, t =>
    match P.underlying t with
    | some .bool => some [.bool]
    | some (.int k) => some [.int k]
    | some .string => some [.str]
    | some (.slice e) => if P.cellsOf e = 0 then none else (UL P n e).bind fun l => if l.length = P.cellsOf e then some [.sl (P.bytesOf e) l] else none
    | some (.struct fs) => if partsOk P 0 fs.toList = some (P.cellsOf t) then (fs.toList.mapM fun f => (UL P n f.type).bind fun l => if l.length = P.cellsOf f.type then some l else none).map List.flatten else none
    | some (.array m e) => if P.cellsOf t = m * P.cellsOf e then (UL P n e).bind fun l => if l.length = P.cellsOf e then some (List.replicate m l).flatten else none else none
    | _ => none

section
variable {H : Type} {enc : TypeId × Value → H} {P : Program} {w : World} {base : Nat} {spare : Nat → Bool} {held : Bool}

def Cw (w : World) : Cx := Cx0 w (fun b => b < w.heap.size)
theorem all_app {l m : List Nat} {p : Nat → Bool} (h : (l ++ m).all p = true) : l.all p = true ∧ m.all p = true := by
  simpa [List.all_append] using h

theorem UD : ∀ {ds : List (DataW H)} {e : TypeId} {p : Nat → Bool}, (DataW.weightsAll P e ds).all p = true → ∀ d ∈ ds, (d.weights P e).all p = true
  | [], _, _, _, d, hd => by simp at hd
  | x :: ds, e, p, h, d, hd => by
    simp only [DataW.weightsAll] at h
    obtain ⟨h1, h2⟩ := all_app h
    rcases List.mem_cons.1 hd with rfl | hd
    · exact h1
    · exact UD h2 d hd
theorem kW : ∀ {ts : List TypeId} {ds : List (DataW H)} {p : Nat → Bool}, (DataW.weightsEach P ts ds).all p = true → ∀ {i : Nat} {t : TypeId} {d : DataW H}, ts[i]? = some t → ds[i]? = some d → (d.weights P t).all p = true
  | [], _, _, _, i, t, d, ht, hd => by simp at ht
  | _ :: _, [], _, _, i, t, d, ht, hd => by simp at hd
  | t0 :: ts, d0 :: ds, p, h, 0, t, d, ht, hd => by
    simp only [DataW.weightsEach] at h
    simp at ht hd; subst ht; subst hd
    exact (all_app h).1
  | t0 :: ts, d0 :: ds, p, h, i + 1, t, d, ht, hd => by
    simp only [DataW.weightsEach] at h
    exact kW (all_app h).2 (by simpa using ht) (by simpa using hd)

theorem crep_of_cells {b off : Nat} {cs : List Value} {as : List AV} (hc : ∀ i, i < cs.length → w.cell? ⟨b, off + i, none⟩ = cs[i]?) (hr : Reps (Cw w) cs as) : CRep (Cw w) b off as :=
  CRep.of_get fun i x hx => by
    obtain ⟨v, h1, h2⟩ := hr.get hx
    have hlt : i < cs.length := (List.getElem?_eq_some_iff.1 h1).1
    exact ⟨v, by show w.cell? _ = _; rw [hc i hlt, h1], h2⟩
theorem open_fields {n m : Nat} (hrec : ∀ (t : TypeId) (cs : List Value) (x : DataW H × List MemPlace) (l : List CT), UL P m t = some l → DataW.trod enc P w base spare held n t cs = some x → (x.1.weights P t).all (· ≤ reachBytes) = true →
      ∃ as, Reps (Cw w) cs as ∧ qO l as) :
    ∀ (fs : List Field) (off : Nat) (cs : List Value) (xs : List (DataW H × List MemPlace)) (ls : List (List CT)), partsOk P off fs = some cs.length → off ≤ cs.length →
      fs.mapM (fun f => (UL P m f.type).bind fun l => if l.length = P.cellsOf f.type then some l else none) = some ls →
      (∀ (i : Nat) (f : Field), fs[i]? = some f → DataW.trod enc P w base spare held n f.type ((cs.drop f.offset).take (P.cellsOf f.type)) = xs[i]?) →
      (∀ (i : Nat) (f : Field) x, fs[i]? = some f → xs[i]? = some x → (x.1.weights P f.type).all (· ≤ reachBytes) = true) → fs.length = xs.length →
      ∃ as, Reps (Cw w) (cs.drop off) as ∧ qO ls.flatten as
  | [], off, cs, xs, ls, hp, ho, hm, hx, hw, hl => by
    simp only [partsOk, Option.some.injEq] at hp
    simp at hm
    subst hm; subst hp
    exact ⟨[], by simp [Reps], by simp [qO]⟩
  | f :: fs, off, cs, xs, ls, hp, ho, hm, hx, hw, hl => by
    simp only [partsOk] at hp
    split at hp
    · rename_i hoff
      rw [List.mapM_cons] at hm
      cases h1 : ((UL P m f.type).bind fun l => if l.length = P.cellsOf f.type then some l else none) with
      | none => rw [h1] at hm; cases hm
      | some l =>
        rw [h1] at hm
        cases h2 : fs.mapM (fun f => (UL P m f.type).bind fun l => if l.length = P.cellsOf f.type then some l else none) with
        | none => rw [h2] at hm; cases hm
        | some ls' =>
          rw [h2] at hm
          cases hm
          simp only [Option.bind_eq_some_iff] at h1
          obtain ⟨l', h3, h4⟩ := h1
          split at h4
          · rename_i h5
            cases h4
            cases xs with
            | nil => simp at hl
            | cons x xs =>
              obtain ⟨as1, r1, c1⟩ := hrec _ _ x _ h3 (hx 0 f rfl) (hw 0 f x rfl rfl)
              have hk : as1.length = P.cellsOf f.type := by rw [c1.length, h5]
              have hle : off + P.cellsOf f.type ≤ cs.length := by
                have := r1.length
                simp only [List.length_take, List.length_drop, hk, hoff] at this
                omega
              obtain ⟨as2, r2, c2⟩ := open_fields hrec fs (off + P.cellsOf f.type) cs xs ls' hp hle h2 (fun i g hg => by simpa using hx (i + 1) g (by simpa using hg)) (fun i g y hg hy => hw (i + 1) g y (by simpa using hg) (by simpa using hy)) (by simpa using hl)
              refine ⟨as1 ++ as2, ?_, by simpa using c1.append c2⟩
              have : cs.drop off = (cs.drop off).take (P.cellsOf f.type) ++ cs.drop (off + P.cellsOf f.type) := by
                rw [← List.drop_drop, List.take_append_drop]
              rw [this]
              rw [hoff] at r1
              exact r1.append r2
          · cases h4
    · cases hp

theorem open_elems {n m k : Nat} {e : TypeId} {l : List CT} (hl : UL P m e = some l) (hk : l.length = P.cellsOf e) (hrec : ∀ (t : TypeId) (cs : List Value) (x : DataW H × List MemPlace) (l : List CT), UL P m t = some l → DataW.trod enc P w base spare held n t cs = some x → (x.1.weights P t).all (· ≤ reachBytes) = true →
      ∃ as, Reps (Cw w) cs as ∧ qO l as) :
    ∀ (k : Nat) (cs : List Value) (xs : List (DataW H × List MemPlace)), cs.length = k * P.cellsOf e → xs.length = k →
      (∀ i, i < k → DataW.trod enc P w base spare held n e ((cs.drop (i * P.cellsOf e)).take (P.cellsOf e)) = xs[i]?) →
      (∀ x ∈ xs, (x.1.weights P e).all (· ≤ reachBytes) = true) →
      ∃ as, Reps (Cw w) cs as ∧ qO (List.replicate k l).flatten as
  | 0, cs, xs, hcs, hxs, hx, hw => by
    have : cs = [] := by simpa using hcs
    subst this
    exact ⟨[], by simp [Reps], by simp [qO]⟩
  | k + 1, cs, xs, hcs, hxs, hx, hw => by
    cases xs with
    | nil => simp at hxs
    | cons x xs =>
      have h0 := hx 0 (by omega)
      simp only [Nat.zero_mul, List.drop_zero, List.getElem?_cons_zero] at h0
      obtain ⟨as1, r1, c1⟩ := hrec _ _ x _ hl h0 (hw x (List.mem_cons_self ..))
      rw [Nat.add_mul, Nat.one_mul] at hcs
      obtain ⟨as2, r2, c2⟩ := open_elems (k := k) hl hk hrec k (cs.drop (P.cellsOf e)) xs (by simp; omega) (by simpa using hxs) (fun i hi => by
        have := hx (i + 1) (by omega)
        rw [List.drop_drop]
        simpa [Nat.add_mul, Nat.add_comm] using this) (fun y hy => hw y (List.mem_cons_of_mem _ hy))
      refine ⟨as1 ++ as2, ?_, by rw [List.replicate_succ, List.flatten_cons]; exact c1.append c2⟩
      rw [← List.take_append_drop (P.cellsOf e) cs]
      exact r1.append r2

theorem open_cells : ∀ (n m : Nat) (t : TypeId) (cs : List Value) (x : DataW H × List MemPlace) (l : List CT), UL P m t = some l → DataW.trod enc P w base spare held n t cs = some x → (x.1.weights P t).all (· ≤ reachBytes) = true →
      ∃ as, Reps (Cw w) cs as ∧ qO l as
  | 0, _, _, _, _, _, _, h, _ => by simp [DataW.trod] at h
  | n + 1, 0, _, _, _, _, h, _, _ => by simp [UL] at h
  | n + 1, m + 1, t, cs, x, l, hl, h, hw => by
    have ih := open_cells n m
    simp only [UL] at hl
    split at hl
    · rename_i hu
      cases hl
      obtain ⟨b, rfl, rfl⟩ := DataW.trod_bool hu h
      exact ⟨[.lit (.bool b)], by simp [Reps, VRep], by simp [qO, CTok]⟩
    · rename_i k hu
      cases hl
      obtain ⟨v, rfl, rfl, hwf⟩ := DataW.trod_int hu h
      exact ⟨[.lit (.int k v)], by simp [Reps, VRep], by simp only [qO, CTok]; exact ⟨_, _, rfl, ⟨v, rfl, hwf⟩, rfl⟩⟩
    · rename_i hu
      cases hl
      obtain ⟨s, rfl, rfl, hs⟩ := DataW.trod_string hu h
      have hsz : s.size ≤ 140737488351232 := by
        simp only [DataW.weights, List.all_cons, List.all_nil, Bool.and_true] at hw
        have := of_decide_eq_true hw
        rw [Array.length_toList] at this
        exact this
      exact ⟨[.lit (.string s)], by simp [Reps, VRep], by simp only [qO, CTok]; exact ⟨_, _, rfl, ⟨s, rfl, hsz⟩, rfl⟩⟩
    · rename_i e hu
      split at hl
      · cases hl
      · rename_i hpos
        simp only [Option.bind_eq_some_iff] at hl
        obtain ⟨le, hle, h1⟩ := hl
        split at h1
        · rename_i hlen
          cases h1
          rcases DataW.trod_slice hu h with ⟨rfl, rfl⟩ | ⟨a, len, cap, elems, rest, n', hn, rfl, rfl, hb, hlc, hm, hel, hget, _, _⟩
          · refine ⟨[.row []], ?_, ?_⟩
            · simp only [Reps, VRep, and_true]
              exact ⟨none, 0, rfl, Nat.le_refl _, fun h => absurd rfl h⟩
            · simp only [qO, CTok]
              exact ⟨_, _, rfl, ⟨[], rfl, by simp, by simp⟩, rfl⟩
          · cases hn
            simp only [DataW.weights, hu, List.all_cons, Bool.and_eq_true, List.all_append, decide_eq_true_eq] at hw
            obtain ⟨hsz, hwe, _⟩ := hw
            have hwm := UD hwe
            have hspot : 0 < len → a.spot = none := by
              intro hi
              have h2 := hget 0 hi
              have hi' : 0 < elems.length := by omega
              rw [List.getElem?_eq_getElem hi'] at h2
              simp only [Option.bind_eq_some_iff] at h2
              obtain ⟨cs', h3, h4⟩ := h2
              obtain ⟨_, h5, h6⟩ := World.cells?_some h3
              have h0 := h6 0 (by omega)
              have hne : 0 < cs'.length := by omega
              rw [List.getElem?_eq_getElem hne] at h0
              have := World.cell?_spot h0
              simpa [Addr.add] using this
            -- each element
            have each : ∀ i, i < len → ∃ as, CRep (Cw w) a.block (a.off + i * P.cellsOf e) as ∧ qO le as ∧ a.spot = none ∧ a.block < w.heap.size := by
              intro i hi
              have h2 := hget i hi
              have hi' : i < elems.length := by omega
              rw [List.getElem?_eq_getElem hi'] at h2
              simp only [Option.bind_eq_some_iff] at h2
              obtain ⟨cs', h3, h4⟩ := h2
              obtain ⟨_, h5, h6⟩ := World.cells?_some h3
              obtain ⟨as, r1, c1⟩ := ih e cs' _ le hle h4 (hwm _ (List.mem_map.2 ⟨_, List.getElem_mem hi', rfl⟩))
              have h0 := h6 0 (by omega)
              have hne : 0 < cs'.length := by omega
              rw [List.getElem?_eq_getElem hne] at h0
              have hs : a.spot = none := hspot (by omega)
              obtain ⟨ab, ao, asp⟩ := a
              simp only at hs
              subst hs
              simp only [add_plain, Nat.add_zero] at h0 h6
              have hblk : ab < w.heap.size := by
                unfold World.cell? at h0
                split at h0
                · rename_i arr el fr he
                  exact (Array.getElem?_eq_some_iff.1 he).1
                · cases h0
              exact ⟨as, crep_of_cells (cs := cs') (fun j hj => h6 j (by omega)) r1, c1, rfl, hblk⟩
            have pick : ∃ f : Nat → List AV, ∀ i, i < len → CRep (Cw w) a.block (a.off + i * P.cellsOf e) (f i) ∧ qO le (f i) := by
              refine ⟨fun i => if hi : i < len then (each i hi).choose else [], fun i hi => ?_⟩
              simp only [hi, dif_pos]
              exact ⟨(each i hi).choose_spec.1, (each i hi).choose_spec.2.1⟩
            obtain ⟨f, hf⟩ := pick
            refine ⟨[.row ((List.range len).map f)], ?_, ?_⟩
            · simp only [Reps, VRep, and_true]
              refine ⟨some a, cap, by simp, by simpa using hlc, fun hne => ?_⟩
              have h0 : 0 < len := by
                rcases Nat.eq_zero_or_pos len with h | h
                · subst h; simp at hne
                · exact h
              obtain ⟨_, _, _, hs, hblk⟩ := each 0 h0
              obtain ⟨ab, ao, asp⟩ := a
              simp only at hs
              subst hs
              refine ⟨ab, ao, P.cellsOf e, rfl, hblk, RRep.of_get fun i x hx => ?_⟩
              have hi : i < len := by
                have := (List.getElem?_eq_some_iff.1 hx).1
                simpa using this
              rw [List.getElem?_map, List.getElem?_range hi] at hx
              cases hx
              exact ⟨by rw [(hf i hi).2.length, hlen], (hf i hi).1⟩
            · simp only [qO, CTok]
              refine ⟨_, _, rfl, ⟨_, rfl, ?_, fun x hx => ?_⟩, rfl⟩
              · simp only [List.length_map, List.length_range]
                simp only [List.length_map, hel, reachBytes] at hsz
                exact Nat.le_trans (Nat.mul_le_mul_right _ (Nat.le_add_right _ _)) hsz
              · obtain ⟨i, hi, rfl⟩ := List.mem_map.1 hx
                exact (hf i (List.mem_range.1 hi)).2
        · cases h1
    · rename_i fs hu
      split at hl
      · rename_i hp
        simp only [Option.map_eq_some_iff] at hl
        obtain ⟨ls, h1, rfl⟩ := hl
        obtain ⟨xs, n', hn, rfl, hcl, hxl, hget⟩ := DataW.trod_struct hu h
        cases hn
        simp only [DataW.weights, hu] at hw
        obtain ⟨as, r1, c1⟩ := open_fields ih fs.toList 0 cs xs ls (by rw [hp, hcl]) (Nat.zero_le _) h1 (fun i f hf => hget i f (by simpa using hf)) (fun i f x hf hx =>
          kW hw (i := i) (by rw [List.getElem?_map, hf]; rfl) (by rw [List.getElem?_map, hx]; rfl)) (by simpa using hxl.symm)
        exact ⟨as, by simpa using r1, c1⟩
      · cases hl
    · rename_i k e hu
      split at hl
      · rename_i hp
        simp only [Option.bind_eq_some_iff] at hl
        obtain ⟨le, hle, h1⟩ := hl
        split at h1
        · rename_i hlen
          cases h1
          obtain ⟨xs, n', hn, rfl, hcl, hxl, hget⟩ := DataW.trod_array hu h
          cases hn
          simp only [DataW.weights, hu] at hw
          exact open_elems (k := k) hle hlen ih k cs xs (by rw [hcl, hp]) hxl hget fun x hx => UD hw _ (List.mem_map.2 ⟨x, hx, rfl⟩)
        · cases h1
      · cases hl
    · cases hl
def WZ (g : Bool) (l : List CT) (a : AV) : Prop := if g then ∃ as, a = .agg as ∧ qO l as else ∃ a', qO l [a'] ∧ a = a'
theorem open_val {r : Reach} {b0 : Nat} {t : TypeId} {v : Value} {d : DataW H} {ps : List MemPlace} {l : List CT} {g : Bool} (m : Nat) (hl : UL P m t = some l) (hg : wR P t = some g)
    (hval : Value.okWide P w r b0 t v) (hd : DataW.Trod enc P w base spare held t v d ps) (hw : (d.weights P t).all (· ≤ reachBytes) = true) : ∃ a, VRep (Cw w) v a ∧ WZ g l a := by
  obtain ⟨n, hd⟩ := hd
  obtain ⟨as, r1, c1⟩ := open_cells n m t _ (d, ps) l hl hd hw
  unfold wR at hg
  have one : ∀ {x : CT} {bs : List AV}, qO [x] bs → ∃ a, bs = [a] := fun h => by
    simp only [qO] at h
    obtain ⟨a, r, rfl, _, rfl⟩ := h
    exact ⟨a, rfl⟩
  have scal : ∀ x, v.cells = #[v] → g = false → as = [x] → ∃ a, VRep (Cw w) v a ∧ WZ g l a := by
    intro x hc hgf hx
    subst hx; subst hgf
    rw [hc] at r1
    simp only [Reps, and_true] at r1
    exact ⟨x, r1, by simp only [WZ]; exact ⟨x, c1, rfl⟩⟩
  have agg : ∀ cs, v = .agg cs → g = true → ∃ a, VRep (Cw w) v a ∧ WZ g l a := by
    intro cs hv hgt
    subst hv; subst hgt
    simp only [Value.cells] at r1
    exact ⟨.agg as, by simp only [VRep]; exact ⟨cs, rfl, r1⟩, by simp only [WZ]; exact ⟨as, rfl, c1⟩⟩
  cases m with
  | zero => cases hl
  | succ m =>
    simp only [UL] at hl
    split at hl
    · rename_i hu
      obtain ⟨b, rfl⟩ := okWide_bool hu hval
      cases hl
      rw [hu] at hg
      cases hg
      obtain ⟨a, rfl⟩ := one c1
      exact scal a rfl rfl rfl
    · rename_i k hu
      obtain ⟨b, rfl⟩ := okWide_int hu hval
      cases hl
      rw [hu] at hg
      cases hg
      obtain ⟨a, rfl⟩ := one c1
      exact scal a rfl rfl rfl
    · rename_i hu
      obtain ⟨b, rfl⟩ := okWide_string hu hval
      cases hl
      rw [hu] at hg
      cases hg
      obtain ⟨a, rfl⟩ := one c1
      exact scal a rfl rfl rfl
    · rename_i e hu
      obtain ⟨x, y, z, rfl⟩ := okWide_slice hu hval
      rw [hu] at hg
      cases hg
      split at hl
      · cases hl
      · simp only [Option.bind_eq_some_iff] at hl
        obtain ⟨le, hle, h1⟩ := hl
        split at h1
        · cases h1
          obtain ⟨a, rfl⟩ := one c1
          exact scal a rfl rfl rfl
        · cases h1
    · rename_i fs hu
      unfold Value.okWide at hval
      rw [hu] at hg hval
      cases hg
      obtain ⟨cs, h1, _⟩ := hval
      exact agg cs h1 rfl
    · rename_i k e hu
      unfold Value.okWide at hval
      rw [hu] at hg hval
      cases hg
      obtain ⟨cs, h1, _⟩ := hval
      exact agg cs h1 rfl
    · cases hl

def ArgsOk : List (Bool × List CT) → List AV → Prop
  | [], as => as = []
  | p :: ps, as => ∃ a r, as = a :: r ∧ WZ p.1 p.2 a ∧ ArgsOk ps r
theorem WZ.imm {g : Bool} {l : List CT} {a : AV} (h : WZ g l a) : imm a = true := by
  cases g
  · simp only [WZ, Bool.false_eq_true, if_false] at h
    obtain ⟨a', h, rfl⟩ := h
    have := qO.imms h
    simpa [Hx.imms] using this
  · simp only [WZ, if_true] at h
    obtain ⟨as, rfl, h⟩ := h
    simpa [Hx.imm] using qO.imms h
def parOk (P : Program) (t : TypeId) (p : Bool × List CT) : Prop := UL P 20 t = some p.2 ∧ wR P t = some p.1 ∧ P.readableRec t = true ∧ t < P.types.size
def parsOk (P : Program) : List TypeId → List (Bool × List CT) → Prop
  | [], ps => ps = []
  | t :: ts, ps => ∃ p r, ps = p :: r ∧ parOk P t p ∧ parsOk P ts r

theorem open_args {W : World} {b0 : Nat} : ∀ {ts : List TypeId} {cts : List (Bool × List CT)} {vs : List Value} {ds : List (DataW H)} {ps : List MemPlace}, parsOk P ts cts →
    (∀ (j : Nat) t v, ts[j]? = some t → vs[j]? = some v → Value.okWide P W .any b0 t v) → DataW.TrodAll enc P W 0 (fun _ => true) true ts vs ds ps → (DataW.weightsEach P ts ds).all (· ≤ reachBytes) = true →
    (∃ as, Reps (Cw W) vs as ∧ ArgsOk cts as) ∧ ds.length = ts.length ∧
      (laidOutB P = true → ∀ W', Below W.heap.size W W' → DataW.TrodAll enc P W' 0 (fun b => decide (b < W.heap.size)) true ts vs ds ps)
  | [], cts, vs, ds, ps, hc, hv, hd, hw => by
    simp only [parsOk] at hc
    subst hc
    obtain ⟨rfl, rfl, rfl⟩ := trodAll_nil hd
    exact ⟨⟨[], by simp [Reps], by simp [ArgsOk]⟩, rfl, fun _ _ _ => trodAll_mk0⟩
  | t :: ts, cts, vs, ds, ps, hc, hv, hd, hw => by
    simp only [parsOk] at hc
    obtain ⟨p, r, rfl, ⟨h1, h2, h3, h4⟩, hc⟩ := hc
    obtain ⟨v, vs', d, ds', q, q', rfl, rfl, rfl, hd1, hd2⟩ := trodAll_cons hd
    simp only [DataW.weightsEach] at hw
    obtain ⟨hw1, hw2⟩ := all_app hw
    obtain ⟨⟨as, r1, c1⟩, hl, hk⟩ := open_args (ts := ts) hc (fun j t v ht hv' => hv (j + 1) t v (by simpa using ht) (by simpa using hv')) hd2 hw2
    obtain ⟨a, r2, c2⟩ := open_val 20 h1 h2 (hv 0 t v rfl rfl) hd1 hw1
    refine ⟨⟨a :: as, by simp only [Reps]; exact ⟨r2, r1⟩, by simp only [ArgsOk]; exact ⟨a, as, rfl, c2, c1⟩⟩, by simp [hl], fun hlo W' hb => trodAll_cons_mk ?_ (hk hlo W' hb)⟩
    refine Below.trod hlo h3 h4 hd1 hb fun x hx => ?_
    obtain ⟨n, hn⟩ := hd1
    exact DataW.trod_lt n _ _ _ hn x hx
theorem law_post {f : Nat} {fn : Func} {s : ChangeSpec} {rt : TypeId} {cts : List (Bool × List CT)} (hlo : laidOutB P = true) (hres : fn.resultTypes = #[rt]) (hrt : P.underlying rt = some .bool) (hvars : s.vars = []) (hc : parsOk P fn.params.toList cts)
    (hs : ∀ ds : List (DataW H), ds.length = fn.params.size → (s.fn H ds).results = [.lit (.bool true)] ∧ (s.fn H ds).args = ds ∧ (s.fn H ds).vars = [])
    (hv : ∀ as, ArgsOk cts as → HV P f as (.lit (.bool true)))
    (W : World) (b0 : Nat) (args : Array Value) (ds gs : List (DataW H)) (before : List MemPlace) (hval : ∀ (j : Nat) t v, fn.params[j]? = some t → args[j]? = some v → Value.okWide P W .any b0 t v)
    (hW : DataW.Whole enc P fn.params.toList s.vars false W args.toList ds gs before) (hsz : (DataW.weightsEach P (fn.params.toList ++ s.plain.varTypes P) (ds ++ gs)).all (· ≤ reachBytes) = true) :
    Calls P f args W fun e W' => ∃ v, e = .returned v ∧ s.post enc P fn false true false false W args v W' := by
  have hW' := hW
  obtain ⟨p, q, hA, hV, hb, hfz, hnd⟩ := hW
  rw [hvars] at hV
  obtain ⟨rfl, rfl⟩ := trodVars_none hV
  have hdl : ds.length = fn.params.toList.length := by
    have : ∀ {ts : List TypeId} {vs : List Value} {ds : List (DataW H)} {ps : List MemPlace}, DataW.TrodAll enc P W 0 (fun _ => true) true ts vs ds ps → ds.length = ts.length := by
      intro ts
      induction ts with
      | nil => intro vs ds ps h; obtain ⟨_, rfl, _⟩ := trodAll_nil h; rfl
      | cons t ts ih => intro vs ds ps h; obtain ⟨v, vs', d, ds', q, q', rfl, rfl, rfl, _, h2⟩ := trodAll_cons h; simp [ih h2]
    exact this hA
  have hsz' : (DataW.weightsEach P fn.params.toList ds).all (· ≤ reachBytes) = true := by
    have key : ∀ (ts us : List TypeId) (ds : List (DataW H)), ds.length = ts.length → DataW.weightsEach P (ts ++ us) ds = DataW.weightsEach P ts ds := by
      intro ts us
      induction ts with
      | nil => intro ds h; have : ds = [] := by simpa using h
               subst this; cases us <;> simp [DataW.weightsEach]
      | cons t ts ih => intro ds h; cases ds with
        | nil => simp at h
        | cons d ds => simp only [List.cons_append, DataW.weightsEach]; rw [ih ds (by simpa using h)]
    rw [List.append_nil, key _ _ _ hdl] at hsz
    exact hsz
  obtain ⟨⟨as, r1, c1⟩, _, hk⟩ := open_args hc (fun j t v ht hv' => hval j t v (by simpa using ht) (by simpa using hv')) hA hsz'
  refine ((hv as c1).2.2.2 W (fun b => b < W.heap.size) args (fun b h => h) r1).mono fun e W' hh => ?_
  obtain ⟨v, rfl, hvr, hfr⟩ := hh
  have hvv : v = .bool true := by simpa [VRep] using hvr
  subst hvv
  have bel : Below W.heap.size W W' := ⟨hfr.os, hfr.tape, hfr.output, hfr.size, hfr.block⟩
  obtain ⟨s1, s2, s3⟩ := hs ds (by simpa using hdl)
  refine ⟨_, rfl, ds, [], before, [], p, [], hW', ?_, ?_, ?_, bel.frame _, fun h => by cases h⟩
  · rw [List.append_nil, s1, hres]
    exact trodAll_mk1 ⟨1, by simp [DataW.trod, Value.cells, hrt]⟩
  · rw [List.append_nil, s2]
    exact hk hlo W' bel
  · rw [List.append_nil, s3, hvars]
    rfl

theorem len2 {α : Type} {l : List α} (h : l.length = 2) : ∃ d0 d1, l = [d0, d1] := by
  match l, h with
  | [d0, d1], _ => exact ⟨d0, d1, rfl⟩
theorem rows_of {α : Type} {f : α → List AV} {ok : α → Prop} {b : Nat} {e : List CT} {v : AV} (hf : ∀ x, qO e x → ∃ a, x = f a ∧ ok a) (h : WZ false [.sl b e] v) :
    ∃ l : List α, v = .row (l.map f) ∧ l.length * b ≤ 140737488351232 ∧ ∀ a ∈ l, ok a := by
  simp only [WZ, Bool.false_eq_true, if_false, qO, CTok] at h
  obtain ⟨_, ⟨a, r, h1, ⟨xs, rfl, h2, h3⟩, rfl⟩, rfl⟩ := h
  cases h1
  have key : ∀ xs : List (List AV), (∀ x ∈ xs, qO e x) → ∃ l : List α, xs = l.map f ∧ ∀ a ∈ l, ok a := by
    intro xs
    induction xs with
    | nil => intro _; exact ⟨[], rfl, by simp⟩
    | cons x xs ih =>
      intro h
      obtain ⟨a, rfl, ha⟩ := hf x (h x (List.mem_cons_self ..))
      obtain ⟨l, rfl, hl⟩ := ih fun y hy => h y (List.mem_cons_of_mem _ hy)
      exact ⟨a :: l, rfl, fun b hb => by rcases List.mem_cons.1 hb with rfl | hb; exact ha; exact hl b hb⟩
  obtain ⟨l, rfl, hl⟩ := key xs h3
  exact ⟨l, rfl, by simpa using h2, hl⟩
end
end Go.Proofs.Hx
