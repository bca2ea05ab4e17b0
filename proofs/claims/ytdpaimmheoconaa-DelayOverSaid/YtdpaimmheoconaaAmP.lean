import Derived.Test.YtdpaimmheoconaaG2
set_option linter.unusedVariables false
set_option linter.unusedSimpArgs false
namespace Go.Proofs.Hx
def lookE (g : Bool) (ls : List (Nat × Nat)) (sz : Nat) (z : AV) (es : List (AV × AV)) (k : AV) : Option AV :=
 (keyC g sz k).bind fun ks => (WU ls sz (keyC g sz) ks es).bind fun r => match r with | none => some z | some i => (es[i]?).map fun e => e.2
def putE (g : Bool) (ls : List (Nat × Nat)) (sz : Nat) (es : List (AV × AV)) (k v : AV) : Option (List (AV × AV)) :=
 (keyC g sz k).bind fun ks => (WU ls sz (keyC g sz) ks es).bind fun r => match r with | none => some (es ++ [(k, v)]) | some i => some (es.set i (k, v))
def WK : Option MB → Option (List (AV × AV))
 | some (.ents es) => some es
 | _ => none
theorem entsOf_some (es : List (AV × AV)) : WK (some (.ents es)) = some es := rfl
def lookV (g : Bool) (ls : List (Nat × Nat)) (sz : Nat) (z : AV) (h : Hp) : AV → AV → Option AV
 | .map m, k => (WK (h.mp m)).bind fun es => lookE g ls sz z es k
 | _, _ => none
def putV (g : Bool) (ls : List (Nat × Nat)) (sz : Nat) (h : Hp) : AV → AV → AV → Option (AV × Hp)
 | .map m, k, v => (WK (h.mp m)).bind fun es => (putE g ls sz es k v).map fun es' => (.undef, h.setm m (.ents es'))
 | _, _, _ => none
def mkV (h : Hp) (id : Id) : Option (AV × Hp) := if h.mp id = none ∧ h.hp id = none then some (.map id, h.setm id (.ents [])) else none
def rangeV (h : Hp) (id : Id) : AV → Option (AV × Hp)
 | .map m => (WK (h.mp m)).bind fun es => if h.mp id = none ∧ h.hp id = none then some (.ptr id 0, h.setm id (.iter m es.length [] es.length)) else none
 | _ => none
section
variable (P : Program) (d : Option Nat) (K : St → Prop) (env : Nat → AV) (h : Hp)
theorem opK_mkbf (f : Nat) (fs : List AOpd) : opK P d (.mkbf f fs) K env h = K ⟨putA env d (.bf f (fs.map (evA env))), h⟩ := rfl
theorem opK_peq (neg : Bool) (x y : AOpd) : opK P d (.peq neg x y) K env h = goV d K env h (peqV neg (evA env x) (evA env y)) := by
 simp only [opK, yT, qL, yQ, goV]
 cases hp : peqV neg (evA env x) (evA env y) <;> simp [qI, qA, ob]
theorem peq_ptr (neg : Bool) (id : Id) (off : Nat) : peqV neg (.ptr id off) (.lit (.pointer none)) = some (.lit (.bool neg)) := rfl
theorem peq_nil (neg : Bool) : peqV neg (.lit (.pointer none)) (.lit (.pointer none)) = some (.lit (.bool (!neg))) := rfl
theorem lookV_map (g : Bool) (ls : List (Nat × Nat)) (sz : Nat) (z : AV) (m : Id) (k : AV) : lookV g ls sz z h (.map m) k = (WK (h.mp m)).bind fun es => lookE g ls sz z es k := rfl
theorem putV_map (g : Bool) (ls : List (Nat × Nat)) (sz : Nat) (m : Id) (k v : AV) : putV g ls sz h (.map m) k v = (WK (h.mp m)).bind fun es => (putE g ls sz es k v).map fun es' => (.undef, h.setm m (.ents es')) := rfl
theorem rangeV_map (m id : Id) : rangeV h id (.map m) = (WK (h.mp m)).bind fun es => if h.mp id = none ∧ h.hp id = none then some (.ptr id 0, h.setm id (.iter m es.length [] es.length)) else none := rfl
theorem mop_look (g : Bool) (ls : List (Nat × Nat)) (sz : Nat) (z m k : AV) (id : Id) : mopV (.look g ls sz z) [m, k] h id = (lookV g ls sz z h m k).map fun v => (v, h) := by
 cases m <;> simp only [lookV, Option.map_none] <;> try rfl
 rename_i m
 simp only [mopV]
 cases hm : h.mp m with
 | none => rfl
 | some b =>
   cases b with
   | iter => rfl
   | ents es =>
     simp only [WK, Option.bind_some, lookE]
     cases keyC g sz k with
     | none => rfl
     | some ks =>
       simp only [Option.bind_some]
       cases WU ls sz (keyC g sz) ks es with
       | none => rfl
       | some r =>
         simp only [Option.bind_some]
         cases r with
         | none => rfl
         | some i =>
           show Option.map (fun e => (e.2, h)) es[i]? = Option.map (fun v => (v, h)) (Option.map (fun e => e.2) es[i]?)
           rw [Option.map_map]; rfl
theorem mop_put (g : Bool) (ls : List (Nat × Nat)) (sz : Nat) (m k v : AV) (id : Id) : mopV (.put g ls sz) [m, k, v] h id = putV g ls sz h m k v := by
 cases m <;> simp only [putV] <;> try rfl
 rename_i m
 simp only [mopV]
 cases hm : h.mp m with
 | none => rfl
 | some b =>
   cases b with
   | iter => rfl
   | ents es =>
     simp only [WK, Option.bind_some, putE]
     cases keyC g sz k with
     | none => rfl
     | some ks =>
       simp only [Option.bind_some]
       cases WU ls sz (keyC g sz) ks es with
       | none => rfl
       | some r =>
         simp only [Option.bind_some]
         cases r <;> rfl
theorem opK_look (g : Bool) (ls : List (Nat × Nat)) (sz : Nat) (z : AV) (m k : AOpd) : opK P d (.mop (.look g ls sz z) [m, k]) K env h = goV d K env h (lookV g ls sz z h (evA env m) (evA env k)) := by
 simp only [opK, yT, qL, yQ, qI, qA, List.map_cons, List.map_nil, mop_look, goV]
 cases lookV g ls sz z h (evA env m) (evA env k) <;> rfl
theorem opK_mput (g : Bool) (ls : List (Nat × Nat)) (sz : Nat) (m k v : AOpd) : opK P d (.mop (.put g ls sz) [m, k, v]) K env h = goM d K env (putV g ls sz h (evA env m) (evA env k) (evA env v)) := by
 simp only [opK, yT, qL, yQ, qI, qA, List.map_cons, List.map_nil, mop_put, goM]
theorem opK_mkmap : opK P d (.mop .mk []) K env h = goM d K env (mkV h (h.ep, d.getD 0)) := by
 simp only [opK, yT, qL, yQ, qI, qA, List.map_nil, mopV, mkV, goM, Option.isNone_iff_eq_none]
theorem opK_range (x : AOpd) : opK P d (.mop .range [x]) K env h = goM d K env (rangeV h (h.ep, d.getD 0) (evA env x)) := by
 simp only [opK, yT, qL, yQ, qI, qA, List.map_cons, List.map_nil, goM]
 congr 1
 cases evA env x <;> simp only [rangeV] <;> try rfl
 rename_i m
 simp only [mopV]
 cases hm : h.mp m with
 | none => rfl
 | some b => cases b <;> simp [WK]
theorem opK_next (x : AOpd) : opK P d (.mop .next [x]) K env h = kF [evA env x] h fun r h' => K ⟨putA env d r, h'⟩ := rfl
theorem next_of {i m : Id} {since st : Nat} {seen : List Nat} {es : List (AV × AV)} {K : AV → Hp → Prop} (h1 : h.mp i = some (.iter m since seen st)) (h2 : h.mp m = some (.ents es)) (h3 : since = es.length) (k1 : (∀ p, p < es.length → p ∈ seen) → K (.tup [.lit (.bool false)]) h)
 (k2 : ∀ p e, es[p]? = some e → p ∉ seen → K (.tup [.lit (.bool true), e.1, e.2]) (h.setm i (.iter m since (seen ++ [p]) es.length))) : kF [.ptr i 0] h K := by
 simp only [kF, h1, h2]
 exact ⟨h3, k1, k2⟩
end
theorem call_bf {P : Program} {d : Option Nat} {K : St → Prop} {env : Nat → AV} {h : Hp} {g : Nat} {fs args : List AV} (hc : HC P g (fs ++ args) h fun r h' => qY h' → K ⟨putA env d r, h'.tick⟩) : qB P d K env h false (.bf g fs) args := hc
theorem setm_hp (h : Hp) (id : Id) (b : MB) : (h.setm id b).hp = h.hp := rfl
theorem setm_ep (h : Hp) (id : Id) (b : MB) : (h.setm id b).ep = h.ep := rfl
theorem uY (h : Hp) (id : Id) (b : MB) : (h.setm id b).mp id = some b := by simp [Hp.setm]
theorem YU (h : Hp) {id j : Id} (b : MB) (e : j ≠ id) : (h.setm id b).mp j = h.mp j := by simp only [Hp.setm]; exact qF _ _ e
theorem setm_slot (h : Hp) (e e' s s' : Nat) (b : MB) (hs : s ≠ s') : (h.setm (e, s) b).mp (e', s') = h.mp (e', s') := YU h b fun x => hs (by cases x; rfl)
theorem push_mp (h : Hp) (id : Id) (c : List AV) : (h.push id c).mp = h.mp := rfl
theorem put_mp (h : Hp) (id : Id) (c : List AV) : (h.put id c).mp = h.mp := rfl
theorem kill_mp (h : Hp) (id : Id) : (h.kill id).mp = h.mp := rfl
theorem emp_mp (id : Id) : emp.mp id = none := rfl
theorem cellsA_map (id : Id) : qU (.map id) = some [.map id] := rfl
theorem cellsA_bf (f : Nat) (fs : List AV) : qU (.bf f fs) = some [.bf f fs] := rfl
theorem one_map (id : Id) : one (.map id) = true := rfl
theorem one_bf (f : Nat) (fs : List AV) : one (.bf f fs) = true := rfl
theorem mkV_ok (h : Hp) (id : Id) : mkV h id = if h.mp id = none ∧ h.hp id = none then some (.map id, h.setm id (.ents [])) else none := rfl
attribute [push_cast] opK_mkbf opK_peq peq_ptr peq_nil lookV_map putV_map rangeV_map opK_look opK_mput opK_mkmap opK_range opK_next setm_hp setm_ep uY setm_slot push_mp put_mp kill_mp emp_mp tick_mp cellsA_map cellsA_bf one_map one_bf entsOf_some mkV_ok
end Go.Proofs.Hx
