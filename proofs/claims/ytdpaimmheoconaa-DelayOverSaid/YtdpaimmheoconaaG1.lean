import Derived.Test.YtdpaimmheoconaaG0
set_option linter.unusedVariables false
set_option linter.unusedSimpArgs false
namespace Go.Proofs.Hx
open Go.ChangeMaps (setBlock)
section
variable {P : Program} {c : Cx}
theorem keyLs_inv {kt : TypeId} {g : Bool} {ls : List (Nat × Nat)} {sz : Nat} (h : keyLs P kt = some (g, ls, sz)) :
 (g = false ∧ ls = [(0, 0)] ∧ sz = 1 ∧ ∃ kk, P.underlying kt = some (.int kk)) ∨
 (g = true ∧ eqLv P 8 kt = some ls ∧ (∃ i, P.info? kt = some i ∧ i.size = sz) ∧ (∀ p ∈ ls, p.2 = 0) ∧ (∀ j, j < sz → ∃ p ∈ ls, p.1 = j) ∧
  ∃ fs, P.underlying kt = some (.struct fs) ∧ ∀ f ∈ fs.toList, (∃ kk, P.underlying f.type = some (.int kk)) ∧ f.offset < sz ∧ f.name ≠ "_") := by
 unfold keyLs at h
 split at h
 · rename_i kk hu
   cases h
   exact .inl ⟨rfl, rfl, rfl, kk, hu⟩
 · rename_i fs hu
   simp only [oB] at h
   obtain ⟨ls', h1, i, h2, h3⟩ := h
   split at h3
   · rename_i hc
     cases h3
     simp only [Bool.and_eq_true, List.all_eq_true, beq_iff_eq, List.any_eq_true, List.mem_range] at hc
     refine .inr ⟨rfl, h1, ⟨i, h2, rfl⟩, fun p hp => hc.1.2 p hp, fun j hj => hc.2 j hj, fs, hu, fun f hf => ?_⟩
     have := hc.1.1 f hf
     split at this
     · rename_i kk hk
       simp only [Bool.and_eq_true, decide_eq_true_eq, bne_iff_ne, ne_eq] at this
       exact ⟨⟨kk, hk⟩, this⟩
     · cases this
   · cases h3
 · cases h
theorem checkKey_run {kt : TypeId} {g : Bool} {ls : List (Nat × Nat)} {sz : Nat} (h : keyLs P kt = some (g, ls, sz)) {k : Value} {ka : AV} (hka : VRep c k ka) {ks : List AV} (hks : keyC g sz ka = some ks) (e : Bool) : (Instr.checkKey e 10000 kt k).run P c.w = .ok () c.w := by
 rcases keyLs_inv h with ⟨rfl, _, _, kk, hu⟩ | ⟨rfl, _, _, _, _, fs, hu, hf⟩
 · rw [show (10000 : Nat) = 9999 + 1 from rfl, Instr.checkKey]
   simp only [Sem.run_bind, run_underlying hu, Result.andThen_ok]
   rfl
 · unfold keyC at hks
   split at hks
   · rename_i cs
     split at hks
     · rename_i hlen
       simp only [Bool.true_and, beq_iff_eq] at hlen
       cases hks
       simp only [VRep] at hka
       obtain ⟨arr, rfl, hr⟩ := hka
       rw [show (10000 : Nat) = 9998 + 1 + 1 from rfl, Instr.checkKey]
       simp only [Sem.run_bind, run_underlying hu, Result.andThen_ok]
       rw [← Array.forIn_toList]
       generalize fs.toList = L at hf
       clear hu
       induction L with
       | nil => simp
       | cons f L ih =>
         obtain ⟨⟨kk, hk⟩, hoff, hn⟩ := hf f (by simp)
         have hlt : f.offset < arr.size := by have := hr.length; simp at this; omega
         have hp : (part f.type arr f.offset).run P c.w = .ok arr[f.offset] c.w := by
          obtain ⟨i, hi⟩ := info_of_underlying hk
          have hag : (isAgg f.type).run P c.w = .ok false c.w := by simp [isAgg, run_underlying hk]
          simp [part, hag, hlt]
         have hc2 : (Instr.checkKey e (9998 + 1) f.type arr[f.offset]).run P c.w = .ok () c.w := by
          rw [Instr.checkKey]
          simp only [Sem.run_bind, run_underlying hk, Result.andThen_ok]
          rfl
         simp only [List.forIn_cons, Sem.run_bind, hn, ne_eq, not_false_eq_true, if_true, Result.andThen_ok, hp, hc2, Sem.run_pure]
         exact ih (fun y hy => hf y (by simp [hy]))
     · cases hks
   · split at hks <;> first | (rename_i hh; simp at hh; done) | cases hks
   · cases hks
theorem key_equal {kt : TypeId} {ls : List (Nat × Nat)} {sz : Nat} (h : keyLs P kt = some (true, ls, sz)) {k k' : Value} {ka ka' : AV} (hka : VRep c k ka) (hka' : VRep c k' ka') {ks ks' : List AV} (hks : keyC true sz ka = some ks) (hks' : keyC true sz ka' = some ks') {b : Bool} (hb : YQ ks ks' ls = some b) :
 (Op.equal kt k k').run P c.w = .ok b c.w := by
 rcases keyLs_inv h with ⟨h0, _⟩ | ⟨_, h1, _, _, _, fs, hu, _⟩
 · cases h0
 · have inv : ∀ {v : Value} {a : AV} {cs : List AV}, VRep c v a → keyC true sz a = some cs → ∃ arr, v = .agg arr ∧ Reps c arr.toList cs := fun {v a cs} hv hk => by
    unfold keyC at hk
    split at hk
    · split at hk
      · cases hk; simpa [VRep] using hv
      · cases hk
    · simp at hk
    · cases hk
   obtain ⟨va, rfl, r1⟩ := inv hka hks
   obtain ⟨ua, rfl, r2⟩ := inv hka' hks'
   exact eqIn_struct (d := 8) (D := 10000) (by decide) hu h1 r1 r2 hb
theorem kH {kt : TypeId} {ls : List (Nat × Nat)} {sz : Nat} (h : keyLs P kt = some (true, ls, sz)) {k : Value} {ka : AV} (hka : VRep c k ka) {ks : List AV} (hks : keyC true sz ka = some ks) :
 ∀ (es : List MapEntry) (xs : List (AV × AV)) (i0 : Nat) (r : Option Nat), ERep c es xs → WU ls sz (keyC true sz) ks xs = some r →
   (r = none ∧ (Instr.findAsking kt k es i0).run P c.w = .ok none c.w) ∨ ∃ i e, r = some i ∧ es[i]? = some e ∧ (Instr.findAsking kt k es i0).run P c.w = .ok (some (i0 + i, e.val)) c.w
 | [], [], i0, r, _, hr => by simp [WU] at hr; subst hr; exact .inl ⟨rfl, rfl⟩
 | e :: es, x :: xs, i0, r, he, hr => by
   simp only [ERep] at he
   simp only [WU, oB] at hr
   obtain ⟨ks', h1, b, h2, h3⟩ := hr
   have hq := key_equal h hka he.1.1 hks h1 h2
   cases b with
   | true =>
     simp only [if_true] at h3
     cases h3
     exact .inr ⟨0, e, rfl, rfl, by simp [Instr.findAsking, hq]⟩
   | false =>
     simp only [Bool.false_eq_true, if_false, oM] at h3
     obtain ⟨r', h4, rfl⟩ := h3
     rcases kH h hka hks es xs (i0 + 1) r' he.2 h4 with ⟨rfl, h5⟩ | ⟨i, e', rfl, h5, h6⟩
     · exact .inl ⟨rfl, by simp [Instr.findAsking, hq, h5]⟩
     · exact .inr ⟨i + 1, e', rfl, by simpa using h5, by simp only [Instr.findAsking, Sem.run_bind, hq, Result.andThen_ok, Bool.false_eq_true, if_false, h6]; rw [show i0 + 1 + i = i0 + (i + 1) by omega]⟩
 | [], _ :: _, _, _, he, _ => by simp [ERep] at he
 | _ :: _, [], _, _, he, _ => by simp [ERep] at he
theorem findNow_sound {kk : IntKind} {sz : Nat} {k : Value} {ka : AV} (hka : VRep c k ka) {ks : List AV} (hks : keyC false sz ka = some ks) :
 ∀ (es : List MapEntry) (xs : List (AV × AV)) (i0 : Nat) (r : Option Nat), ERep c es xs → WU [(0, 0)] sz (keyC false sz) ks xs = some r →
   (r = none ∧ Instr.findNow (.int kk) k es i0 = some none) ∨ ∃ i e, r = some i ∧ es[i]? = some e ∧ Instr.findNow (.int kk) k es i0 = some (some (i0 + i, e.val))
 | [], [], i0, r, _, hr => by simp [WU] at hr; subst hr; exact .inl ⟨rfl, rfl⟩
 | e :: es, x :: xs, i0, r, he, hr => by
   simp only [ERep] at he
   simp only [WU, oB] at hr
   obtain ⟨ks', h1, b, h2, h3⟩ := hr
   have inv : ∀ {v : Value} {a : AV} {cs : List AV}, VRep c v a → keyC false sz a = some cs → cs = [.lit v] := fun {v a cs} hv hk => by
    unfold keyC at hk
    split at hk
    · simp at hk
    · simp only [Bool.false_eq_true, if_false, oI] at hk
      subst hk
      rw [hv.lit]
    · cases hk
   rw [inv hka hks, inv he.1.1 h1] at h2
   have hs : Instr.sameNow (.int kk) k e.key = some b := by
    simp only [YQ, List.getElem?_cons_zero, oB, oM, oI] at h2
    obtain ⟨b1, h6, b2, rfl, rfl⟩ := h2
    rw [Bool.and_true]
    revert h6
    cases k <;> cases e.key <;> simp [scEq, Instr.sameNow]
   cases b with
   | true =>
     simp only [if_true] at h3
     cases h3
     exact .inr ⟨0, e, rfl, rfl, by simp [Instr.findNow, hs]⟩
   | false =>
     simp only [Bool.false_eq_true, if_false, oM] at h3
     obtain ⟨r', h4, rfl⟩ := h3
     rcases findNow_sound (kk := kk) hka hks es xs (i0 + 1) r' he.2 h4 with ⟨rfl, h5⟩ | ⟨i, e', rfl, h5, h6⟩
     · exact .inl ⟨rfl, by simp [Instr.findNow, hs, h5]⟩
     · exact .inr ⟨i + 1, e', rfl, by simpa using h5, by simp only [Instr.findNow, hs, h6]; rw [show i0 + 1 + i = i0 + (i + 1) by omega]⟩
 | [], _ :: _, _, _, he, _ => by simp [ERep] at he
 | _ :: _, [], _, _, he, _ => by simp [ERep] at he
theorem findKey_sound {kt : TypeId} {g : Bool} {ls : List (Nat × Nat)} {sz : Nat} (h : keyLs P kt = some (g, ls, sz)) {k : Value} {ka : AV} (hka : VRep c k ka) {ks : List AV} (hks : keyC g sz ka = some ks) {es : List MapEntry} {xs : List (AV × AV)} {r : Option Nat} (he : ERep c es xs) (hr : WU ls sz (keyC g sz) ks xs = some r) :
 (r = none ∧ (Instr.findKey kt k es).run P c.w = .ok none c.w) ∨ ∃ i e, r = some i ∧ es[i]? = some e ∧ (Instr.findKey kt k es).run P c.w = .ok (some (i, e.val)) c.w := by
 rcases keyLs_inv h with ⟨rfl, rfl, _, kk, hu⟩ | ⟨rfl, _, _, _, _, fs, hu, hf⟩
 · rcases findNow_sound (kk := kk) hka hks es xs 0 r he hr with ⟨h1, h2⟩ | ⟨i, e, h1, h2, h3⟩
   · exact .inl ⟨h1, by simp [Instr.findKey, run_underlying hu, h2]⟩
   · exact .inr ⟨i, e, h1, h2, by simp [Instr.findKey, run_underlying hu, h3]⟩
 · rw [run_findKey_eq c.w (by rw [hu])]
   rcases kH h hka hks es xs 0 r he hr with h1 | ⟨i, e, h1, h2, h3⟩
   · exact .inl h1
   · exact .inr ⟨i, e, h1, h2, by rw [Nat.zero_add] at h3; exact h3⟩
theorem ERep.get {es : List MapEntry} {xs : List (AV × AV)} : ERep c es xs → ∀ {i : Nat} {e : MapEntry}, es[i]? = some e → ∃ x, xs[i]? = some x ∧ VRep c e.key x.1 ∧ VRep c e.val x.2 := by
 induction es generalizing xs with
 | nil => intro _ i e h; simp at h
 | cons y es ih =>
   intro hr i e h
   cases xs with
   | nil => simp [ERep] at hr
   | cons x xs =>
     simp only [ERep] at hr
     cases i with
     | zero => simp at h; subst h; exact ⟨x, rfl, hr.1⟩
     | succ i =>
       obtain ⟨x', hx⟩ := ih hr.2 (i := i) (by simpa using h)
       exact ⟨x', by simpa using hx⟩
theorem ERep.length : ∀ {es : List MapEntry} {xs : List (AV × AV)}, ERep c es xs → es.length = xs.length
 | [], [], _ => rfl
 | _ :: _, _ :: _, h => by simp only [ERep] at h; simp [ERep.length h.2]
 | [], _ :: _, h => by simp [ERep] at h
 | _ :: _, [], h => by simp [ERep] at h
theorem ERep.of_get : ∀ {es : List MapEntry} {xs : List (AV × AV)}, es.length = xs.length → (∀ (i : Nat) e x, es[i]? = some e → xs[i]? = some x → VRep c e.key x.1 ∧ VRep c e.val x.2) → ERep c es xs
 | [], [], _, _ => by simp [ERep]
 | e :: es, x :: xs, hl, h => by
   simp only [ERep]
   exact ⟨h 0 e x rfl rfl, ERep.of_get (by simpa using hl) fun i a b ha hb => h (i + 1) a b (by simpa using ha) (by simpa using hb)⟩
 | [], _ :: _, h, _ => by simp at h
 | _ :: _, [], h, _ => by simp at h
theorem map_at (hH : HRep c) {m : Id} {xs : List (AV × AV)} (h : c.h.mp m = some (.ents xs)) : ∃ ents : Array MapEntry, c.w.heap[(c.φ m).1]? = some (.map ents ents.size) ∧ ERep c ents.toList xs ∧ ∀ (i : Nat) e, ents[i]? = some e → e.born = i := by
 obtain ⟨_, _, _, o, h4, h5⟩ := hH.mp m _ h
 cases o <;> simp only [MRep] at h5
 rename_i ents clock
 obtain ⟨h6, rfl, h7⟩ := h5
 exact ⟨ents, h4, h6, h7⟩
theorem zeroAV_run {t : TypeId} {z : AV} (h : zeroAV P t = some z) : ∃ v, (zeroValue t).run P c.w = .ok v c.w ∧ VRep c v z := by
 simp only [zeroAV, oB] at h
 obtain ⟨i, h1, v, h2, h3⟩ := h
 refine ⟨v, WS h1 h2 c.w, ?_⟩
 split at h3
 · rename_i cs
   simp only [oM] at h3
   obtain ⟨xs, h4, rfl⟩ := h3
   simp only [VRep]
   exact ⟨cs, rfl, WL h4⟩
 · exact kO h3
theorem look_op {t : TypeId} {m k : Operand} {ao : AOp} {q : Bool} (hc : cOp P q (.lookup t m k false) = some ao) (hH : HRep c) {ρ : Operand → Value} {ρA : AOpd → AV} (hρ : ∀ x y, cOpd x = some y → VRep c (ρ x) (ρA y)) {K : MK} {xs : List AOpd} (ha : ao = .mop K xs) {id : Id} {r : AV} {h' : Hp} (hp : mopV K (xs.map ρA) c.h id = some (r, h')) :
 h' = c.h ∧ YY P c (Instr.lookup t (ρ m) (ρ k) false) r := by
 simp only [cOp, Bool.false_eq_true, if_false] at hc
 split at hc
 · rename_i kt et hu
   simp only [oB, oM] at hc
   obtain ⟨⟨g, ls, sz⟩, h1, z, h2, mA, h3, kA, h4, h5⟩ := hc
   subst ha
   cases h5
   simp only [List.map_cons, List.map_nil] at hp
   have hm := hρ m mA h3
   have hk := hρ k kA h4
   generalize ρA kA = ka at hp hk
   cases hma : ρA mA <;> rw [hma] at hp hm <;> simp only [mopV, reduceCtorEq] at hp
   rename_i mi
   simp only [VRep] at hm
   split at hp
   · rename_i es hes
     obtain ⟨ents, q1, q2, q3⟩ := map_at hH hes
     simp only [oB] at hp
     obtain ⟨ks, p1, r', p2, p3⟩ := hp
     have hck := checkKey_run h1 hk p1
     have hget : (getObj (c.φ mi).1).run P c.w = .ok (.map ents ents.size) c.w := MapKept.run_getObj_map q1
     rcases findKey_sound h1 hk p1 q2 p2 with ⟨rfl, f1⟩ | ⟨i, e, rfl, f0, f1⟩
     · simp only [oI, Prod.mk.injEq] at p3
       obtain ⟨rfl, rfl⟩ := p3
       obtain ⟨v, z1, z2⟩ := zeroAV_run (c := c) h2
       exact ⟨rfl, v, by simp [Instr.lookup, run_underlying hu, hm.2, hget, hck, f1, z1], z2⟩
     · obtain ⟨x, x1, x2, x3⟩ := q2.get f0
       simp only [x1, Option.map_some, oI, Prod.mk.injEq] at p3
       obtain ⟨rfl, rfl⟩ := p3
       exact ⟨rfl, e.val, by simp [Instr.lookup, run_underlying hu, hm.2, hget, hck, f1], x3⟩
   · cases hp
 · cases hc
theorem same_bits {kt : TypeId} {g : Bool} {ls : List (Nat × Nat)} {sz : Nat} (h : keyLs P kt = some (g, ls, sz)) {k k' : Value} {ka ka' : AV} (hka : VRep c k ka) (hka' : VRep c k' ka') {ks ks' : List AV} (hks : keyC g sz ka = some ks) (hks' : keyC g sz ka' = some ks') (hb : YQ ks' ks ls = some true) :
 Instr.sameBits 10000 k k' = true := by
 have one : ∀ {u v : Value}, scEq 0 v u = some true → ∀ n, Instr.sameBits (n + 1) u v = true := fun {u v} hh n => by
  cases u <;> cases v <;> simp only [scEq, reduceCtorEq] at hh
  split at hh
  · rename_i e
    subst e
    simp only [oI, beq_iff_eq] at hh
    subst hh
    simp [Instr.sameBits]
  · cases hh
 have all : ∀ (l : List (Nat × Nat)) , YQ ks' ks l = some true → ∀ p ∈ l, ∃ u v, ks'[p.1]? = some (.lit u) ∧ ks[p.1]? = some (.lit v) ∧ scEq p.2 u v = some true := by
  intro l
  induction l with
  | nil => intro _ p hp; cases hp
  | cons q l ih =>
    intro he p hp
    obtain ⟨o, gg⟩ := q
    simp only [YQ] at he
    split at he
    · rename_i u v e1 e2
      simp only [oB, oM] at he
      obtain ⟨b1, h3, b2, h4, h5⟩ := he
      simp only [Bool.and_eq_true] at h5
      obtain ⟨rfl, rfl⟩ := h5
      rcases List.mem_cons.1 hp with rfl | hp
      · exact ⟨u, v, e1, e2, h3⟩
      · exact ih h4 p hp
    · cases he
 rcases keyLs_inv h with ⟨rfl, rfl, rfl, kk, hu⟩ | ⟨rfl, _, _, h0, hcov, fs, hu, hf⟩
 · have inv : ∀ {v : Value} {a : AV} {cs : List AV}, VRep c v a → keyC false 1 a = some cs → cs = [.lit v] := fun {v a cs} hv hk => by
    unfold keyC at hk
    split at hk
    · simp at hk
    · simp only [Bool.false_eq_true, if_false, oI] at hk
      subst hk
      rw [hv.lit]
    · cases hk
   obtain ⟨u, v, e1, e2, e3⟩ := all _ hb (0, 0) (by simp)
   rw [inv hka' hks'] at e1
   rw [inv hka hks] at e2
   simp only [List.getElem?_cons_zero, oI, AV.lit.injEq] at e1 e2
   subst e1 e2
   exact one e3 9999
 · have inv : ∀ {v : Value} {a : AV} {cs : List AV}, VRep c v a → keyC true sz a = some cs → ∃ arr, v = .agg arr ∧ Reps c arr.toList cs ∧ cs.length = sz := fun {v a cs} hv hk => by
    unfold keyC at hk
    split at hk
    · split at hk
      · rename_i hl
        simp only [Bool.true_and, beq_iff_eq] at hl
        cases hk
        simp only [VRep] at hv
        obtain ⟨arr, e, hr⟩ := hv
        exact ⟨arr, e, hr, hl⟩
      · cases hk
    · simp at hk
    · cases hk
   obtain ⟨va, rfl, r1, l1⟩ := inv hka hks
   obtain ⟨ua, rfl, r2, l2⟩ := inv hka' hks'
   have s1 : va.size = sz := by have := r1.length; simp at this; omega
   have s2 : ua.size = sz := by have := r2.length; simp at this; omega
   rw [show (10000 : Nat) = 9998 + 1 + 1 from rfl]
   simp only [Instr.sameBits, Bool.and_eq_true, beq_iff_eq, List.all_eq_true]
   refine ⟨by rw [s1, s2], fun p hp => ?_⟩
   obtain ⟨j, hj⟩ := List.mem_iff_getElem?.1 hp
   rw [List.getElem?_zip_eq_some] at hj
   have hjs : j < sz := by have := (List.getElem?_eq_some_iff.1 hj.1).1; simp at this; omega
   obtain ⟨q, hq, rfl⟩ := hcov j hjs
   obtain ⟨u, v, e1, e2, e3⟩ := all _ hb q hq
   rw [h0 q hq] at e3
   obtain ⟨u', f1, f2⟩ := r2.get e1
   obtain ⟨v', f3, f4⟩ := r1.get e2
   rw [f1] at hj
   rw [f3] at hj
   have g1 := f2.lit
   have g2 := f4.lit
   simp only [oI] at hj
   rw [← hj.1, ← hj.2, g1, g2]
   exact one e3 9998
theorem put_op {t : TypeId} {m k v : Operand} {ao : AOp} {q : Bool} (hc : cOp P q (.mapUpdate t m k v) = some ao) (hH : HRep c) {ρ : Operand → Value} {ρA : AOpd → AV} (hρ : ∀ x y, cOpd x = some y → VRep c (ρ x) (ρA y)) {K : MK} {xs : List AOpd} (ha : ao = .mop K xs) {id : Id} {r : AV} {h' : Hp} (hp : mopV K (xs.map ρA) c.h id = some (r, h')) :
 r = .undef ∧ ∃ c' : Cx, (Instr.mapUpdate t (ρ m) (ρ k) (ρ v)).run P c.w = .ok () c'.w ∧ c'.h = h' ∧ Le c c' ∧ HRep c' ∧ Fr c c' ∧ c'.al = c.al := by
 simp only [cOp] at hc
 split at hc
 · rename_i kt et hu
   simp only [oB, oM] at hc
   obtain ⟨⟨g, ls, sz⟩, h1, mA, h3, kA, h4, vA, h6, h5⟩ := hc
   subst ha
   cases h5
   simp only [List.map_cons, List.map_nil] at hp
   have hm := hρ m mA h3
   have hk := hρ k kA h4
   have hv := hρ v vA h6
   generalize ρA kA = ka at hp hk
   generalize ρA vA = va at hp hv
   cases hma : ρA mA <;> rw [hma] at hp hm <;> simp only [mopV, reduceCtorEq] at hp
   rename_i mi
   simp only [VRep] at hm
   split at hp
   · rename_i es hes
     obtain ⟨ents, q1, q2, q3⟩ := map_at hH hes
     simp only [oB] at hp
     obtain ⟨ks, p1, r', p2, p3⟩ := hp
     have hck := checkKey_run h1 hk p1
     have hget : (getObj (c.φ mi).1).run P c.w = .ok (.map ents ents.size) c.w := MapKept.run_getObj_map q1
     have hlen := q2.length
     simp only [Array.length_toList] at hlen
     have hset : ∀ (w : World) (o' : Obj), w = c.w → (setObj (c.φ mi).1 o').run P w = .ok () (setBlock w (c.φ mi).1 o') := fun w o' hw => by
      subst hw
      simp [setObj, Sem.run, q1, setBlock]
     rcases findKey_sound h1 hk p1 q2 p2 with ⟨rfl, f1⟩ | ⟨i, e, rfl, f0, f1⟩
     · simp only [oI, Prod.mk.injEq] at p3
       obtain ⟨rfl, rfl⟩ := p3
       obtain ⟨c', g1, g2, g3, g4, g5, g6⟩ := setm_step hH hes (w' := setBlock c.w (c.φ mi).1 (.map (ents.push { key := ρ k, val := ρ v, born := ents.size }) (ents.size + 1))) (o := .map (ents.push { key := ρ k, val := ρ v, born := ents.size }) (ents.size + 1)) (b := .ents (es ++ [(ka, va)])) rfl rfl rfl rfl
        ⟨by
         rw [Array.toList_push]
         refine ERep.of_get (by simp [hlen]) fun j e x hj hx => ?_
         by_cases hlt : j < ents.size
         · rw [List.getElem?_append_left (by simpa using hlt)] at hj
           rw [List.getElem?_append_left (by omega)] at hx
           obtain ⟨x', x1, x2⟩ := q2.get hj
           rw [x1] at hx; cases hx; exact x2
         · rw [List.getElem?_append_right (by simp; omega)] at hj
           rw [List.getElem?_append_right (by omega)] at hx
           have hj0 : j - ents.size = 0 := by
            have := (List.getElem?_eq_some_iff.1 hj).1
            simp at this; omega
           simp only [Array.length_toList, hj0, List.getElem?_cons_zero, oI] at hj
           rw [← hlen, hj0] at hx
           simp only [List.getElem?_cons_zero, oI] at hx
           subst hj hx
           exact ⟨hk, hv⟩, by simp, fun j e hj => by
           rw [Array.getElem?_push] at hj
           split at hj
           · rename_i e0; cases hj; exact e0.symm
           · exact q3 j e hj⟩
       refine ⟨rfl, c', ?_, g2, g3, g4, g5, g6⟩
       rw [g1]
       simp [Instr.mapUpdate, run_underlying hu, hm.2, hget, hck, f1, hset c.w _ rfl]
     · simp only [oI, Prod.mk.injEq] at p3
       obtain ⟨rfl, rfl⟩ := p3
       obtain ⟨x, x1, x2, x3⟩ := q2.get f0
       have hi : i < ents.size := by have := (List.getElem?_eq_some_iff.1 f0).1; simpa using this
       -- the key that stays is the new one
       have hkey : ∃ ks', keyC g sz x.1 = some ks' ∧ YQ ks ks' ls = some true := by
        clear f1 f0 q1 hget hset q3 hes hlen hi x2 x3
        have : ∀ (xs : List (AV × AV)) (i : Nat), WU ls sz (keyC g sz) ks xs = some (some i) → ∀ x, xs[i]? = some x → ∃ ks', keyC g sz x.1 = some ks' ∧ YQ ks ks' ls = some true := by
         intro xs
         induction xs with
         | nil => intro i h; simp [WU] at h
         | cons y ys ih =>
           intro i h x hx
           simp only [WU, oB] at h
           obtain ⟨ks', y1, b, y2, y3⟩ := h
           cases b with
           | true => simp only [if_true] at y3; cases y3; simp at hx; subst hx; exact ⟨ks', y1, y2⟩
           | false =>
             simp only [Bool.false_eq_true, if_false, oM] at y3
             obtain ⟨r', y4, y5⟩ := y3
             obtain ⟨w, rfl, rfl⟩ := y5
             exact ih w y4 x (by simpa using hx)
        exact this es i p2 x x1
       obtain ⟨ks', k1, k2⟩ := hkey
       have hsb := same_bits h1 x2 hk k1 p1 k2
       have hstay : (Instr.keyThatStays e.key (ρ k)).run P c.w = .ok (ρ k) c.w := by simp [Instr.keyThatStays, hsb]
       obtain ⟨c', g1, g2, g3, g4, g5, g6⟩ := setm_step hH hes (w' := setBlock c.w (c.φ mi).1 (.map (ents.modify i fun e => { e with key := ρ k, val := ρ v }) ents.size)) (o := .map (ents.modify i fun e => { e with key := ρ k, val := ρ v }) ents.size) (b := .ents (es.set i (ka, va))) rfl rfl rfl rfl
        ⟨by
         refine ERep.of_get (by simp [hlen]) fun j e' x' hj hx => ?_
         rw [Array.getElem?_toList, Array.getElem?_modify] at hj
         rw [List.getElem?_set] at hx
         by_cases hij : i = j
         · subst hij
           rw [if_pos rfl] at hj hx
           rw [if_pos (by omega)] at hx
           simp only [oM] at hj
           obtain ⟨e0, _, rfl⟩ := hj
           cases hx
           exact ⟨hk, hv⟩
         · rw [if_neg hij] at hj hx
           obtain ⟨x0, y1, y2⟩ := q2.get (i := j) (e := e') (by simpa using hj)
           rw [y1] at hx; cases hx; exact y2, by simp, fun j e' hj => by
         rw [Array.getElem?_modify] at hj
         split at hj
         · simp only [oM] at hj
           obtain ⟨e0, z1, rfl⟩ := hj
           exact q3 j e0 z1
         · exact q3 j e' hj⟩
       refine ⟨rfl, c', ?_, g2, g3, g4, g5, g6⟩
       rw [g1]
       have f0' : ents[i]? = some e := by simpa using f0
       simp [Instr.mapUpdate, run_underlying hu, hm.2, hget, hck, f1, f0', hstay, hset c.w _ rfl]
   · cases hp
 · cases hc
theorem mkmap_op {t : TypeId} {rs : Option Operand} {ao : AOp} {q : Bool} (hc : cOp P q (.makeMap t rs) = some ao) (hH : HRep c) {id : Id} (hn : ¬ c.al id) {ρ : Operand → Value} {ρA : AOpd → AV} {K : MK} {xs : List AOpd} (ha : ao = .mop K xs) {r : AV} {h' : Hp} (hp : mopV K (xs.map ρA) c.h id = some (r, h')) :
 Makes P c id (Instr.makeMap t (rs.map ρ)) r h' := by
 simp only [cOp] at hc
 split at hc
 · rename_i hr
   cases rs with
   | some _ => simp at hr
   | none =>
     subst ha
     cases hc
     simp only [List.map_nil, mopV] at hp
     split at hp
     · simp only [oI, Prod.mk.injEq] at hp
       obtain ⟨rfl, rfl⟩ := hp
       obtain ⟨c', e1, e2, e3, e4, e5, e6, e7⟩ := newm_step hH hn (w' := c.w.alloc (.map #[] 0)) (o := .map #[] 0) (b := .ents []) rfl rfl rfl rfl ⟨by simp [ERep], by simp, fun i e h => by simp at h⟩
       refine ⟨.map (some c.w.heap.size), c', by rw [e1]; rfl, e2, ?_, e4, e5, e6, fun i hi => by rw [e7] at hi; exact hi⟩
       simp only [VRep]
       exact ⟨by rw [e7]; simp, by rw [e3]⟩
     · cases hp
 · cases hc
theorem range_op {t : TypeId} {x : Operand} {ao : AOp} {q : Bool} (hc : cOp P q (.range t x) = some ao) (hH : HRep c) {id : Id} (hn : ¬ c.al id) {ρ : Operand → Value} {ρA : AOpd → AV} (hρ : ∀ x y, cOpd x = some y → VRep c (ρ x) (ρA y)) {K : MK} {xs : List AOpd} (ha : ao = .mop K xs) {r : AV} {h' : Hp} (hp : mopV K (xs.map ρA) c.h id = some (r, h')) :
 Makes P c id (Instr.range t (ρ x)) r h' := by
 simp only [cOp] at hc
 split at hc
 · rename_i kt et hu
   simp only [oM] at hc
   obtain ⟨xA, h1, h2⟩ := hc
   subst ha
   cases h2
   simp only [List.map_cons, List.map_nil] at hp
   have hm := hρ x xA h1
   cases hma : ρA xA <;> rw [hma] at hp hm <;> simp only [mopV, reduceCtorEq] at hp
   rename_i mi
   simp only [VRep] at hm
   split at hp
   · rename_i es hes
     split at hp
     · simp only [oI, Prod.mk.injEq] at hp
       obtain ⟨rfl, rfl⟩ := hp
       obtain ⟨ents, q1, q2, q3⟩ := map_at hH hes
       have hlen := q2.length
       simp only [Array.length_toList] at hlen
       obtain ⟨c', e1, e2, e3, e4, e5, e6, e7⟩ := newm_step hH hn (w' := c.w.alloc (.mapIter (some (c.φ mi).1) ents.size #[] ents.size)) (o := .mapIter (some (c.φ mi).1) ents.size #[] ents.size) (b := .iter mi es.length [] es.length) rfl rfl rfl rfl
        ⟨⟨hm.1, rfl⟩, hlen, rfl, hlen, Nat.le_refl _, rfl⟩
       refine ⟨.pointer (some ⟨c.w.heap.size, 0, none⟩), c', ?_, e2, ptr_mk (by rw [e7]; simp) e3, e4, e5, e6, fun i hi => by rw [e7] at hi; exact hi⟩
       rw [e1, hm.2]
       exact run_range_map c.w t kt et _ ents ents.size hu q1
     · cases hp
   · cases hp
 · cases hc
theorem iter_at (hH : HRep c) {i m : Id} {since st : Nat} {seen : List Nat} (h : c.h.mp i = some (.iter m since seen st)) : (c.φ i).2 = 0 ∧ since ≤ st ∧ ∃ sa : Array Nat, sa.toList = seen ∧ c.w.heap[(c.φ i).1]? = some (.mapIter (some (c.φ m).1) since sa st) ∧ c.al m := by
 obtain ⟨_, _, _, o, h4, h5⟩ := hH.mp i _ h
 cases o <;> simp only [MRep] at h5
 rename_i mm s1 sa st'
 cases mm <;> simp only at h5
 obtain ⟨⟨h6, h7⟩, rfl, h8, rfl, h9, h10⟩ := h5
 exact ⟨h10, h9, sa, h8, by rw [h4, h7], h6⟩
theorem born_nodup {ents : Array MapEntry} (h : ∀ (i : Nat) e, ents[i]? = some e → e.born = i) : (ents.toList.map (·.born)).Nodup := by
 have : ents.toList.map (·.born) = List.range ents.size := by
  apply List.ext_getElem?
  intro i
  by_cases hi : i < ents.size
  · rw [List.getElem?_map, List.getElem?_range hi]
    have := h i ents[i] (by simp [hi])
    simp [hi, this]
  · rw [List.getElem?_eq_none (by simp; omega), List.getElem?_eq_none (by simp; omega)]
 rw [this]
 exact List.nodup_range
theorem entry_op {x : Operand} {ao : AOp} {q : Bool} (hc : cOp P q (.entry x) = some ao) (hH : HRep c) {ρ : Operand → Value} {ρA : AOpd → AV} (hρ : ∀ x y, cOpd x = some y → VRep c (ρ x) (ρA y)) {K : MK} {xs : List AOpd} (ha : ao = .mop K xs) {id : Id} {r : AV} {h' : Hp} (hp : mopV K (xs.map ρA) c.h id = some (r, h')) :
 h' = c.h ∧ YY P c (Instr.entry (ρ x)) r := by
 simp only [cOp, oM] at hc
 obtain ⟨xA, h1, h2⟩ := hc
 subst ha
 cases h2
 simp only [List.map_cons, List.map_nil] at hp
 have hm := hρ x xA h1
 cases hma : ρA xA <;> rw [hma] at hp hm <;> simp only [mopV, reduceCtorEq] at hp
 rename_i ii off
 cases off with
 | succ _ => simp [mopV] at hp
 | zero =>
   simp only [mopV] at hp
   split at hp
   · rename_i m since seen st hit
     split at hp
     · rename_i es hes
       split at hp
       · rename_i hst
         simp only [oB, oM, Prod.mk.injEq] at hp
         obtain ⟨p, p1, e, p2, rfl, rfl⟩ := hp
         obtain ⟨ents, q1, q2, q3⟩ := map_at hH hes
         obtain ⟨o0, o1, sa, o2, o3, _⟩ := iter_at hH hit
         have hlen := q2.length
         simp only [Array.length_toList] at hlen
         have hpl : p < es.length := (List.getElem?_eq_some_iff.1 p2).1
         obtain ⟨x', x1, x2, x3⟩ := q2.get (i := p) (e := ents[p]'(by omega)) (by simp)
         rw [x1] at p2
         cases p2
         have hb : (ents[p]'(by omega)).born = p := q3 p _ (by simp)
         have hsa : sa = sa.pop.push p := by
          have : sa.back? = some p := by rw [← Array.getLast?_toList, o2]; exact p1
          rw [Array.back?_eq_some_iff] at this
          obtain ⟨ys, rfl⟩ := this
          simp
         have hv : ρ x = .pointer (some ⟨(c.φ ii).1, 0, none⟩) := by
          simp only [VRep] at hm
          rw [hm.2, o0]
         refine ⟨rfl, .tuple #[(ents[p]'(by omega)).key, (ents[p]'(by omega)).val], ?_, ?_⟩
         · rw [hv]
           refine run_entry_at c.w _ (c.φ m).1 since sa.pop ents ents.size _ ?_ q1 (by simp) (born_nodup q3)
           rw [hb, ← hsa, o3, hst, hlen]
         · simp only [VRep]
           exact ⟨_, rfl, by simp only [Reps]; exact ⟨x2, x3, trivial⟩⟩
       · cases hp
     · cases hp
   · cases hp
theorem next_op {x : Operand} {s : Bool} {ao : AOp} {q : Bool} (hc : cOp P q (.next x s) = some ao) (hH : HRep c) {ρ : Operand → Value} {ρA : AOpd → AV} (hρ : ∀ x y, cOpd x = some y → VRep c (ρ x) (ρA y)) {xs : List AOpd} {K' : MK} (ha : ao = .mop K' xs) {ty : TypeId} {K : AV → Hp → Prop} (hp : kF (xs.map ρA) c.h K) :
 s = false ∧ K' = .next ∧ ∃ (v : Value) (c' : Cx) (r : AV), (Instr.next (ρ x) false ty).run P c.w = .ok v c'.w ∧ K r c'.h ∧ VRep c' v r ∧ Le c c' ∧ HRep c' ∧ Fr c c' ∧ c'.al = c.al ∧ c'.h.ep = c.h.ep := by
 simp only [cOp] at hc
 split at hc
 · cases hc
 rename_i hs
 have hs : s = false := by simpa using hs
 simp only [oM] at hc
 obtain ⟨xA, h1, h2⟩ := hc
 subst ha
 cases h2
 refine ⟨hs, rfl, ?_⟩
 simp only [List.map_cons, List.map_nil] at hp
 have hm := hρ x xA h1
 cases hma : ρA xA <;> rw [hma] at hp hm <;> simp only [kF] at hp
 rename_i ii off
 cases off with
 | succ _ => simp [kF] at hp
 | zero =>
   simp only [kF] at hp
   split at hp
   · rename_i m since seen st hit
     split at hp
     · rename_i es hes
       obtain ⟨hsin, hp1, hp2⟩ := hp
       obtain ⟨ents, q1, q2, q3⟩ := map_at hH hes
       obtain ⟨o0, o1, sa, o2, o3, o4⟩ := iter_at hH hit
       have hlen := q2.length
       simp only [Array.length_toList] at hlen
       have hv : ρ x = .pointer (some ⟨(c.φ ii).1, 0, none⟩) := by
        simp only [VRep] at hm
        rw [hm.2, o0]
       have hold : ∀ y ∈ ents.toList, y.born < since := fun y hy => by
        obtain ⟨j, hj⟩ := List.mem_iff_getElem?.1 hy
        have hb := q3 j y (by simpa using hj)
        have := (List.getElem?_eq_some_iff.1 hj).1
        simp only [Array.length_toList] at this
        omega
       rw [hv]
       rcases run_next_at (P := P) c.w ty _ _ since st sa ents ents.size o3 q1 hold o1 with ⟨g1, g2⟩ | ⟨e, g1, w1, g2, g3⟩
       · refine ⟨_, c, _, g2, hp1 fun p hpl => ?_, ?_, Le.refl c, hH, Fr.refl c, rfl, rfl⟩
         · have hin : ¬ (ents[p]'(by omega)) ∈ (leftOf ents sa) := fun hmem => by
            have := Array.size_pos_of_mem hmem
            omega
           have hb : (ents[p]'(by omega)).born = p := q3 p _ (by simp)
           simp only [leftOf, Array.mem_filter, Array.getElem_mem, true_and, hb] at hin
           rw [← o2]
           simpa using hin
         · simp only [VRep]
           exact ⟨_, rfl, by simp only [Reps]; exact ⟨by simp [VRep], trivial⟩⟩
       · simp only [leftOf, Array.toList_filter, List.mem_filter, Array.mem_toList_iff] at g1
         obtain ⟨g4, g5⟩ := g1
         obtain ⟨p, hpl, hpe⟩ := Array.mem_iff_getElem.1 g4
         have hb : e.born = p := q3 p e (by rw [← hpe]; simp)
         obtain ⟨x', x1, x2, x3⟩ := q2.get (i := p) (e := e) (by rw [← hpe]; simp)
         have hns : p ∉ seen := fun hmem => by
          rw [hb] at g5
          rw [← o2] at hmem
          simp at g5
          exact g5 (by simpa using hmem)
         have hw1 : w1.heap = c.w.heap ∧ w1.os = c.w.os ∧ w1.tape = c.w.tape ∧ w1.output = c.w.output := by rcases g2 with rfl | rfl <;> exact ⟨rfl, rfl, rfl, rfl⟩
         obtain ⟨c', e1, e2, e3, e4, e5, e6⟩ := setm_step hH hit (w' := setBlock w1 (c.φ ii).1 (.mapIter (some (c.φ m).1) since (sa.push e.born) ents.size)) (o := .mapIter (some (c.φ m).1) since (sa.push e.born) ents.size) (b := .iter m since (seen ++ [p]) es.length)
          (by simp [setBlock, hw1.1]) hw1.2.1 hw1.2.2.1 hw1.2.2.2 ⟨⟨o4, rfl⟩, rfl, by simp [o2, hb], hlen, by omega, o0⟩
         refine ⟨_, c', _, by rw [e1]; exact g3, by rw [e2]; exact hp2 p x' x1 hns, ?_, e3, e4, e5, e6, by rw [e2]; rfl⟩
         simp only [VRep]
         exact ⟨_, rfl, by simp only [Reps]; exact ⟨by simp [VRep], VRep.mono e3 _ _ x2, VRep.mono e3 _ _ x3, trivial⟩⟩
     · exact hp.elim
   · exact hp.elim
theorem mopV_ep {k : MK} {xs : List AV} {h h' : Hp} {id : Id} {r : AV} (hp : mopV k xs h id = some (r, h')) : h'.ep = h.ep := by
 unfold mopV at hp
 split at hp
 · split at hp <;> cases hp; rfl
 · split at hp
   · simp only [oB] at hp
     obtain ⟨_, _, r', _, hp⟩ := hp
     cases r' with
     | none => cases hp; rfl
     | some i => simp only [oM, Prod.mk.injEq] at hp; obtain ⟨_, _, _, rfl⟩ := hp; rfl
   · cases hp
 · split at hp
   · simp only [oB] at hp
     obtain ⟨_, _, r', _, hp⟩ := hp
     cases r' <;> cases hp <;> rfl
   · cases hp
 · split at hp
   · split at hp <;> cases hp; rfl
   · cases hp
 · split at hp
   · split at hp
     · split at hp
       · simp only [oB, oM, Prod.mk.injEq] at hp
         obtain ⟨_, _, _, _, _, rfl⟩ := hp; rfl
       · cases hp
     · cases hp
   · cases hp
 · cases hp
def tgtM (k : MK) (xs : List AV) (id : Id) : Option Id :=
 match k with
 | .mk | .range => some id
 | .put .. => match xs with | .map m :: _ => some m | _ => none
 | _ => none
theorem mopV_tgt {k : MK} {xs : List AV} {h h' : Hp} {id : Id} {r : AV} (hp : mopV k xs h id = some (r, h')) : (tgtM k xs id = none ∧ h' = h) ∨ ∃ t b, tgtM k xs id = some t ∧ h'.mp t = some b ∧ h' = h.setm t b := by
 have sm : ∀ t b, (h.setm t b).mp t = some b := fun t b => by simp [Hp.setm]
 unfold mopV at hp
 split at hp
 · split at hp <;> cases hp; exact .inr ⟨_, _, rfl, sm _ _, rfl⟩
 · split at hp
   · simp only [oB] at hp
     obtain ⟨_, _, r', _, hp⟩ := hp
     cases r' with
     | none => cases hp; exact .inl ⟨rfl, rfl⟩
     | some i => simp only [oM, Prod.mk.injEq] at hp; obtain ⟨_, _, _, rfl⟩ := hp; exact .inl ⟨rfl, rfl⟩
   · cases hp
 · split at hp
   · simp only [oB] at hp
     obtain ⟨_, _, r', _, hp⟩ := hp
     cases r' <;> cases hp <;> exact .inr ⟨_, _, rfl, sm _ _, rfl⟩
   · cases hp
 · split at hp
   · split at hp <;> cases hp; exact .inr ⟨_, _, rfl, sm _ _, rfl⟩
   · cases hp
 · split at hp
   · split at hp
     · split at hp
       · simp only [oB, oM, Prod.mk.injEq] at hp
         obtain ⟨_, _, _, _, _, rfl⟩ := hp; exact .inl ⟨rfl, rfl⟩
       · cases hp
     · cases hp
   · cases hp
 · cases hp
end
structure yU where
 dst : Option Nat
 op : AOp
 guard : Option (Nat × Bool)
inductive ACode where
 | skip
 | ops (l : List yU) (seps : List (Nat × Nat))
 | seq (a b : ACode)
 | cond (c : AOpd) (a b : ACode)
 | block (id : Nat) (c : ACode)
 | loop (c : ACode)
 | exit (id : Nat)
 | ret
inductive AEx where
 | normal
 | exit (id : Nat)
 | ret
def gB : Nat := 1000000
def AEx.toExit : AEx → Exit
 | .normal => .normal
 | .exit id => if id < gB then .exit id else .goto (id - gB)
 | .ret => .ret
structure St where
 env : Nat → AV
 h : Hp
def putA (env : Nat → AV) (dst : Option Nat) (v : AV) : Nat → AV :=
 match dst with
 | some d => upd env d v
 | none => env
def mapO {α β : Type} (f : α → Option β) : List α → Option (List β)
 | [] => some []
 | x :: xs => match f x, mapO f xs with | some y, some ys => some (y :: ys) | _, _ => none
def YO {α : Type} (sz : Nat) (cells : List α) (len : Nat) : List (List α) := (List.range len).map fun i => (cells.drop (i * sz)).take sz
mutual
def imm : AV → Bool
 | .undef | .lit _ | .nil => true
 | .agg cs | .tup cs | .ip cs | .fn _ cs => imms cs
 | .row xs => immss xs
 | .sl .. | .ptr .. | .map _ | .bf .. => false
def imms : List AV → Bool
 | [] => true
 | x :: xs => imm x && imms xs
def immss : List (List AV) → Bool
 | [] => true
 | x :: xs => imms x && immss xs
end
def lend : Nat → Hp → AV → Option AV
 | 0, _, a => if imm a then some a else none
 | d + 1, h, a =>
   if imm a then some a else
   match a with
   | .agg cs => (mapO (lend d h) cs).map .agg
   | .tup cs => (mapO (lend d h) cs).map .tup
   | .fn f cs => (mapO (lend d h) cs).map (.fn f)
   | .sl id off len sz => match h.hp id with
     | some blk => if len = 0 then some (.row []) else if off + len * sz ≤ blk.cells.length then (mapO (lend d h) ((blk.cells.drop off).take (len * sz))).map fun cells => .row (YO sz cells len) else none
     | none => none
   | .ptr id off => match h.hp id with
     | some blk => (mapO (lend d h) (blk.cells.drop off)).map .ip
     | none => none
   | _ => none
def emp : Hp := ⟨fun _ => none, fun _ => none, 0⟩
def Cx0 (w : World) (S : Nat → Prop) : Cx := ⟨w, S, emp, fun _ => (0, 0), fun _ => False⟩
mutual
theorem imm_tr {c c' : Cx} (hS : ∀ b, c.S b → c'.S b ∧ c'.w.heap[b]? = c.w.heap[b]?) (v : Value) : ∀ a : AV, imm a = true → VRep c v a → VRep c' v a
 | .undef, _, _ => trivial
 | .lit u, _, hv => by simpa [VRep] using hv
 | .nil, _, hv => by simpa [VRep] using hv
 | .agg cs, hi, hv => by
   simp only [VRep] at hv ⊢
   simp only [imm] at hi
   obtain ⟨arr, e, hr⟩ := hv
   exact ⟨arr, e, imms_tr hS _ cs hi hr⟩
 | .tup cs, hi, hv => by
   simp only [VRep] at hv ⊢
   simp only [imm] at hi
   obtain ⟨arr, e, hr⟩ := hv
   exact ⟨arr, e, imms_tr hS _ cs hi hr⟩
 | .fn f cs, hi, hv => by
   simp only [VRep] at hv ⊢
   simp only [imm] at hi
   obtain ⟨arr, e, hr⟩ := hv
   exact ⟨arr, e, imms_tr hS _ cs hi hr⟩
 | .ip cs, hi, hv => by
   simp only [VRep] at hv ⊢
   simp only [imm] at hi
   obtain ⟨b, off, e, hs, hr⟩ := hv
   exact ⟨b, off, e, (hS b hs).1, immsC_tr hS b (hS b hs).2 off cs hi hr⟩
 | .row xs, hi, hv => by
   simp only [VRep] at hv ⊢
   simp only [imm] at hi
   obtain ⟨addr, cap, e, hc, hr⟩ := hv
   refine ⟨addr, cap, e, hc, fun hx => ?_⟩
   obtain ⟨b, off, sz, e1, hs, hr⟩ := hr hx
   exact ⟨b, off, sz, e1, (hS b hs).1, immss_tr hS b sz (hS b hs).2 off xs hi hr⟩
 | .sl .., hi, _ => by simp [imm] at hi
 | .ptr .., hi, _ => by simp [imm] at hi
 | .map _, hi, _ => by simp [imm] at hi
 | .bf .., hi, _ => by simp [imm] at hi
theorem imms_tr {c c' : Cx} (hS : ∀ b, c.S b → c'.S b ∧ c'.w.heap[b]? = c.w.heap[b]?) : ∀ (vs : List Value) (as : List AV), imms as = true → Reps c vs as → Reps c' vs as
 | [], [], _, _ => by simp [Reps]
 | v :: vs, x :: xs, hi, hr => by
   simp only [Reps] at hr ⊢
   simp only [imms, Bool.and_eq_true] at hi
   exact ⟨imm_tr hS v x hi.1 hr.1, imms_tr hS vs xs hi.2 hr.2⟩
 | [], _ :: _, _, hr => by simp [Reps] at hr
 | _ :: _, [], _, hr => by simp [Reps] at hr
theorem immsC_tr {c c' : Cx} (hS : ∀ b, c.S b → c'.S b ∧ c'.w.heap[b]? = c.w.heap[b]?) (b : Nat) (hs : c'.w.heap[b]? = c.w.heap[b]?) : ∀ (off : Nat) (as : List AV), imms as = true → CRep c b off as → CRep c' b off as
 | _, [], _, _ => by simp [CRep]
 | off, x :: xs, hi, hr => by
   simp only [CRep] at hr ⊢
   simp only [imms, Bool.and_eq_true] at hi
   obtain ⟨⟨v, e, hv⟩, hr⟩ := hr
   exact ⟨⟨v, by rw [cell_of_heap hs]; exact e, imm_tr hS v x hi.1 hv⟩, immsC_tr hS b hs (off + 1) xs hi.2 hr⟩
theorem immss_tr {c c' : Cx} (hS : ∀ b, c.S b → c'.S b ∧ c'.w.heap[b]? = c.w.heap[b]?) (b sz : Nat) (hs : c'.w.heap[b]? = c.w.heap[b]?) : ∀ (off : Nat) (as : List (List AV)), immss as = true → RRep c b sz off as → RRep c' b sz off as
 | _, [], _, _ => by simp [RRep]
 | off, x :: xs, hi, hr => by
   simp only [RRep] at hr ⊢
   simp only [immss, Bool.and_eq_true] at hi
   exact ⟨hr.1, immsC_tr hS b hs off x hi.1 hr.2.1, immss_tr hS b sz hs (off + sz) xs hi.2 hr.2.2⟩
end
theorem wN {α β : Type} {f : α → Option β} : ∀ {xs : List α} {ys : List β}, mapO f xs = some ys → ys.length = xs.length
 | [], ys, h => by simp [mapO] at h; subst h; rfl
 | x :: xs, ys, h => by
   simp only [mapO] at h
   split at h
   · rename_i y zs _ h2
     cases h
     simp [wN h2]
   · cases h
theorem wO {α β : Type} {f : α → Option β} : ∀ {xs : List α} {ys : List β}, mapO f xs = some ys → ∀ {i : Nat} {y : β}, ys[i]? = some y → ∃ x, xs[i]? = some x ∧ f x = some y
 | [], ys, h, i, y, hy => by simp [mapO] at h; subst h; simp at hy
 | x :: xs, ys, h, i, y, hy => by
   simp only [mapO] at h
   split at h
   · rename_i y' zs h1 h2
     cases h
     cases i with
     | zero => simp at hy; subst hy; exact ⟨x, rfl, h1⟩
     | succ i => simp at hy; simpa using wO h2 hy
   · cases h
theorem YL : ∀ {as : List AV}, (∀ (i : Nat) x, as[i]? = some x → imm x = true) → imms as = true
 | [], _ => rfl
 | x :: xs, h => by simp only [imms, Bool.and_eq_true]; exact ⟨h 0 x rfl, YL fun i y hy => h (i + 1) y (by simpa using hy)⟩
theorem imms_get : ∀ {as : List AV}, imms as = true → ∀ {i : Nat} {x : AV}, as[i]? = some x → imm x = true
 | [], _, _, _, h => by simp at h
 | y :: ys, h, 0, x, hx => by simp only [imms, Bool.and_eq_true] at h; simp at hx; subst hx; exact h.1
 | y :: ys, h, i + 1, x, hx => by simp only [imms, Bool.and_eq_true] at h; simp at hx; exact imms_get h.2 hx
theorem qV : ∀ {as : List (List AV)}, (∀ (i : Nat) x, as[i]? = some x → imms x = true) → immss as = true
 | [], _ => rfl
 | x :: xs, h => by simp only [immss, Bool.and_eq_true]; exact ⟨h 0 x rfl, qV fun i y hy => h (i + 1) y (by simpa using hy)⟩
theorem UG {c : Cx} (hH : HRep c) {S0 : Nat → Prop} (hS : ∀ b, c.S b → S0 b) (hA : ∀ id blk, c.h.hp id = some blk → S0 (c.φ id).1) : ∀ (d : Nat) (v : Value) (a a' : AV), lend d c.h a = some a' → VRep c v a → VRep (Cx0 c.w S0) v a' ∧ imm a' = true
 | d, v, a, a', h, hv => by
   have tr : imm a = true → VRep (Cx0 c.w S0) v a := fun hi => imm_tr (c := c) (c' := Cx0 c.w S0) (fun b hb => ⟨hS b hb, rfl⟩) v a hi hv
   cases d with
   | zero =>
     simp only [lend] at h
     split at h
     · cases h; exact ⟨tr (by assumption), by assumption⟩
     · cases h
   | succ d =>
     have ih := UG hH hS hA d
     have lst : ∀ (vs : List Value) (as as' : List AV), mapO (lend d c.h) as = some as' → Reps c vs as → Reps (Cx0 c.w S0) vs as' ∧ imms as' = true := fun vs as as' h hr => by
      refine ⟨Reps.of_get (by rw [hr.length, wN h]) fun i u x hu hx => ?_, YL fun i x hx => ?_⟩
      · obtain ⟨y, hy, e⟩ := wO h hx
        obtain ⟨u', h1, h2⟩ := hr.get hy
        rw [hu] at h1
        cases h1
        exact (ih u y x e h2).1
      · obtain ⟨y, hy, e⟩ := wO h hx
        obtain ⟨u', h1, h2⟩ := hr.get hy
        exact (ih u' y x e h2).2
     have cel : ∀ (b off : Nat) (as as' : List AV), mapO (lend d c.h) as = some as' → CRep c b off as → CRep (Cx0 c.w S0) b off as' ∧ imms as' = true := fun b off as as' h hr => by
      refine ⟨CRep.of_get fun i x hx => ?_, YL fun i x hx => ?_⟩
      · obtain ⟨y, hy, e⟩ := wO h hx
        obtain ⟨u', h1, h2⟩ := hr.get hy
        exact ⟨u', h1, (ih u' y x e h2).1⟩
      · obtain ⟨y, hy, e⟩ := wO h hx
        obtain ⟨u', h1, h2⟩ := hr.get hy
        exact (ih u' y x e h2).2
     simp only [lend] at h
     split at h
     · cases h; exact ⟨tr (by assumption), by assumption⟩
     · split at h
       · rename_i cs
         simp only [oM] at h
         obtain ⟨cs', h1, rfl⟩ := h
         simp only [VRep] at hv ⊢
         obtain ⟨arr, e, hr⟩ := hv
         exact ⟨⟨arr, e, (lst _ _ _ h1 hr).1⟩, by simp only [imm]; exact (lst _ _ _ h1 hr).2⟩
       · rename_i cs
         simp only [oM] at h
         obtain ⟨cs', h1, rfl⟩ := h
         simp only [VRep] at hv ⊢
         obtain ⟨arr, e, hr⟩ := hv
         exact ⟨⟨arr, e, (lst _ _ _ h1 hr).1⟩, by simp only [imm]; exact (lst _ _ _ h1 hr).2⟩
       · rename_i f cs
         simp only [oM] at h
         obtain ⟨cs', h1, rfl⟩ := h
         simp only [VRep] at hv ⊢
         obtain ⟨arr, e, hr⟩ := hv
         exact ⟨⟨arr, e, (lst _ _ _ h1 hr).1⟩, by simp only [imm]; exact (lst _ _ _ h1 hr).2⟩
       · rename_i id off len sz _
         simp only [VRep] at hv
         obtain ⟨hid, hv⟩ := hv
         split at h
         · rename_i blk hb
           obtain ⟨_, _, hcr, _⟩ := hH.blk id blk hb
           split at h
           · rename_i h0
             cases h
             subst h0
             refine ⟨?_, rfl⟩
             simp only [VRep]
             rcases hv with ⟨cap, rfl, hc, h7⟩ | ⟨_, a, rfl⟩
             · exact ⟨_, cap, rfl, by simp, fun hh => absurd rfl hh⟩
             · exact ⟨a, 0, rfl, by simp, fun hh => absurd rfl hh⟩
           · rename_i h0
             split at h
             · rename_i hl
               simp only [oM] at h
               obtain ⟨cells, h1, rfl⟩ := h
               have hlc : cells.length = len * sz := by rw [wN h1]; simp; omega
               rcases hv with ⟨cap, rfl, hc, h7⟩ | ⟨h0', _⟩
               · obtain ⟨h8, h9⟩ := cel _ _ _ _ h1 ((hcr.drop off).take (len * sz))
                 refine ⟨?_, ?_⟩
                 · simp only [VRep]
                   refine ⟨some ⟨(c.φ id).1, (c.φ id).2 + off, none⟩, cap, by simp [YO], by simpa [YO] using hc, fun _ => ⟨_, _, sz, rfl, hA id blk hb, RRep.of_get fun i x hx => ?_⟩⟩
                   simp only [YO, List.getElem?_map, oM] at hx
                   obtain ⟨k, hk, rfl⟩ := hx
                   have hk' : k = i ∧ i < len := by
                    rw [List.getElem?_eq_some_iff] at hk
                    obtain ⟨hlt, hk⟩ := hk
                    simp at hk hlt
                    omega
                   obtain ⟨rfl, hlt⟩ := hk'
                   have hle : k * sz + sz ≤ len * sz := by
                    have := UA (a := k + 1) (b := len) (s := sz) (by omega)
                    rwa [Nat.add_mul, Nat.one_mul] at this
                   exact ⟨by simp; omega, (h8.drop (k * sz)).take sz⟩
                 · simp only [imm]
                   refine qV fun i x hx => YL fun j y hy => ?_
                   simp only [YO, List.getElem?_map, oM] at hx
                   obtain ⟨k, hk, rfl⟩ := hx
                   rw [List.getElem?_take] at hy
                   split at hy
                   · rw [List.getElem?_drop] at hy
                     exact imms_get h9 hy
                   · cases hy
               · exact absurd h0' h0
             · cases h
         · cases h
       · rename_i id off _
         simp only [VRep] at hv
         obtain ⟨hid, rfl⟩ := hv
         split at h
         · rename_i blk hb
           simp only [oM] at h
           obtain ⟨cells, h1, rfl⟩ := h
           obtain ⟨_, _, hcr, _⟩ := hH.blk id blk hb
           obtain ⟨h8, h9⟩ := cel _ _ _ _ h1 (hcr.drop off)
           exact ⟨by simp only [VRep]; exact ⟨_, _, rfl, hA id blk hb, h8⟩, by simp only [imm]; exact h9⟩
         · cases h
       · cases h
def atom : AV → Bool
 | .undef | .lit _ => true
 | _ => false
def lendF : Nat → Hp → AV → Option AV
 | 0, _, a => if atom a then some a else none
 | d + 1, h, a =>
   if atom a then some a else
   match a with
   | .nil => some (.row [])
   | .agg cs => (mapO (lendF d h) cs).map .agg
   | .tup cs => (mapO (lendF d h) cs).map .tup
   | .fn f cs => (mapO (lendF d h) cs).map (.fn f)
   | .sl id off len sz => match h.hp id with
     | some blk => if blk.wr = true then (if len = 0 then some (.row []) else if off + len * sz ≤ blk.cells.length then (mapO (lendF d h) ((blk.cells.drop off).take (len * sz))).map fun cells => .row (YO sz cells len) else none) else none
     | none => none
   | .ptr id off => match h.hp id with
     | some blk => if blk.wr = true then (mapO (lendF d h) (blk.cells.drop off)).map .ip else none
     | none => none
   | _ => none
theorem lendF_sound {c : Cx} (hH : HRep c) {S0 : Nat → Prop} (hA : ∀ id blk, c.h.hp id = some blk → blk.wr = true → S0 (c.φ id).1) : ∀ (d : Nat) (v : Value) (a a' : AV), lendF d c.h a = some a' → VRep c v a → VRep (Cx0 c.w S0) v a' ∧ imm a' = true
 | d, v, a, a', h, hv => by
   have tr : atom a = true → VRep (Cx0 c.w S0) v a ∧ imm a = true := fun hi => by
    cases a <;> simp only [atom, Bool.false_eq_true] at hi
    · exact ⟨trivial, rfl⟩
    · exact ⟨by simpa [VRep] using hv, rfl⟩
   cases d with
   | zero =>
     simp only [lendF] at h
     split at h
     · cases h; exact tr (by assumption)
     · cases h
   | succ d =>
     have ih := lendF_sound hH hA d
     have lst : ∀ (vs : List Value) (as as' : List AV), mapO (lendF d c.h) as = some as' → Reps c vs as → Reps (Cx0 c.w S0) vs as' ∧ imms as' = true := fun vs as as' h hr => by
      refine ⟨Reps.of_get (by rw [hr.length, wN h]) fun i u x hu hx => ?_, YL fun i x hx => ?_⟩
      · obtain ⟨y, hy, e⟩ := wO h hx
        obtain ⟨u', h1, h2⟩ := hr.get hy
        rw [hu] at h1
        cases h1
        exact (ih u y x e h2).1
      · obtain ⟨y, hy, e⟩ := wO h hx
        obtain ⟨u', h1, h2⟩ := hr.get hy
        exact (ih u' y x e h2).2
     have cel : ∀ (b off : Nat) (as as' : List AV), mapO (lendF d c.h) as = some as' → CRep c b off as → CRep (Cx0 c.w S0) b off as' ∧ imms as' = true := fun b off as as' h hr => by
      refine ⟨CRep.of_get fun i x hx => ?_, YL fun i x hx => ?_⟩
      · obtain ⟨y, hy, e⟩ := wO h hx
        obtain ⟨u', h1, h2⟩ := hr.get hy
        exact ⟨u', h1, (ih u' y x e h2).1⟩
      · obtain ⟨y, hy, e⟩ := wO h hx
        obtain ⟨u', h1, h2⟩ := hr.get hy
        exact (ih u' y x e h2).2
     simp only [lendF] at h
     split at h
     · cases h; exact tr (by assumption)
     · split at h
       · cases h
         simp only [VRep] at hv
         obtain ⟨a, rfl⟩ := hv
         exact ⟨by simp only [VRep]; exact ⟨a, 0, rfl, by simp, fun hh => absurd rfl hh⟩, rfl⟩
       · rename_i cs
         simp only [oM] at h
         obtain ⟨cs', h1, rfl⟩ := h
         simp only [VRep] at hv ⊢
         obtain ⟨arr, e, hr⟩ := hv
         exact ⟨⟨arr, e, (lst _ _ _ h1 hr).1⟩, by simp only [imm]; exact (lst _ _ _ h1 hr).2⟩
       · rename_i cs
         simp only [oM] at h
         obtain ⟨cs', h1, rfl⟩ := h
         simp only [VRep] at hv ⊢
         obtain ⟨arr, e, hr⟩ := hv
         exact ⟨⟨arr, e, (lst _ _ _ h1 hr).1⟩, by simp only [imm]; exact (lst _ _ _ h1 hr).2⟩
       · rename_i f cs
         simp only [oM] at h
         obtain ⟨cs', h1, rfl⟩ := h
         simp only [VRep] at hv ⊢
         obtain ⟨arr, e, hr⟩ := hv
         exact ⟨⟨arr, e, (lst _ _ _ h1 hr).1⟩, by simp only [imm]; exact (lst _ _ _ h1 hr).2⟩
       · rename_i id off len sz _
         simp only [VRep] at hv
         obtain ⟨hid, hv⟩ := hv
         split at h
         · rename_i blk hb
           obtain ⟨_, _, hcr, _⟩ := hH.blk id blk hb
           by_cases hwr : blk.wr = true
           rotate_left
           · rw [if_neg hwr] at h; cases h
           rw [if_pos hwr] at h
           split at h
           · rename_i h0
             cases h
             subst h0
             refine ⟨?_, rfl⟩
             simp only [VRep]
             rcases hv with ⟨cap, rfl, hc, h7⟩ | ⟨_, a, rfl⟩
             · exact ⟨_, cap, rfl, by simp, fun hh => absurd rfl hh⟩
             · exact ⟨a, 0, rfl, by simp, fun hh => absurd rfl hh⟩
           · rename_i h0
             split at h
             · rename_i hl
               simp only [oM] at h
               obtain ⟨cells, h1, rfl⟩ := h
               have hlc : cells.length = len * sz := by rw [wN h1]; simp; omega
               rcases hv with ⟨cap, rfl, hc, h7⟩ | ⟨h0', _⟩
               · obtain ⟨h8, h9⟩ := cel _ _ _ _ h1 ((hcr.drop off).take (len * sz))
                 refine ⟨?_, ?_⟩
                 · simp only [VRep]
                   refine ⟨some ⟨(c.φ id).1, (c.φ id).2 + off, none⟩, cap, by simp [YO], by simpa [YO] using hc, fun _ => ⟨_, _, sz, rfl, hA id blk hb hwr, RRep.of_get fun i x hx => ?_⟩⟩
                   simp only [YO, List.getElem?_map, oM] at hx
                   obtain ⟨k, hk, rfl⟩ := hx
                   have hk' : k = i ∧ i < len := by
                    rw [List.getElem?_eq_some_iff] at hk
                    obtain ⟨hlt, hk⟩ := hk
                    simp at hk hlt
                    omega
                   obtain ⟨rfl, hlt⟩ := hk'
                   have hle : k * sz + sz ≤ len * sz := by
                    have := UA (a := k + 1) (b := len) (s := sz) (by omega)
                    rwa [Nat.add_mul, Nat.one_mul] at this
                   exact ⟨by simp; omega, (h8.drop (k * sz)).take sz⟩
                 · simp only [imm]
                   refine qV fun i x hx => YL fun j y hy => ?_
                   simp only [YO, List.getElem?_map, oM] at hx
                   obtain ⟨k, hk, rfl⟩ := hx
                   rw [List.getElem?_take] at hy
                   split at hy
                   · rw [List.getElem?_drop] at hy
                     exact imms_get h9 hy
                   · cases hy
               · exact absurd h0' h0
             · cases h
         · cases h
       · rename_i id off _
         simp only [VRep] at hv
         obtain ⟨hid, rfl⟩ := hv
         split at h
         · rename_i blk hb
           obtain ⟨_, _, hcr, _⟩ := hH.blk id blk hb
           by_cases hwr : blk.wr = true
           rotate_left
           · rw [if_neg hwr] at h; cases h
           rw [if_pos hwr] at h
           simp only [oM] at h
           obtain ⟨cells, h1, rfl⟩ := h
           obtain ⟨h8, h9⟩ := cel _ _ _ _ h1 (hcr.drop off)
           exact ⟨by simp only [VRep]; exact ⟨_, _, rfl, hA id blk hb hwr, h8⟩, by simp only [imm]; exact h9⟩
         · cases h
       · cases h
def okFn (P : Program) (f : Nat) : Prop := ∃ fn b, P.funcs[f]? = some fn ∧ fn.name ≠ "runtime.NumGoroutine" ∧ fn.body = some b
def EB (c : Cx) : Prop := ∀ id, c.al id → id.1 ≤ c.h.ep
structure Later (c c' : Cx) : Prop where
 ep : c.h.ep ≤ c'.h.ep
 al : ∀ id, c'.al id → c.al id ∨ c.h.ep < id.1
def qY (h : Hp) : Prop := ∀ e s, h.ep < e → h.hp (e, s) = none ∧ h.mp (e, s) = none
theorem fresh_of {c : Cx} (hH : HRep c) (hEB : EB c) : qY c.h := fun e s hlt => by
 have key : ¬ c.al (e, s) := fun h => by have := hEB _ h; simp at this; omega
 refine ⟨?_, ?_⟩
 · cases hb : c.h.hp (e, s) with
   | none => rfl
   | some blk => exact (key (hH.blk _ _ hb).1).elim
 · cases hb : c.h.mp (e, s) with
   | none => rfl
   | some es => exact (key (hH.mp _ _ hb).1).elim
def HC (P : Program) (f : Nat) (args : List AV) (h : Hp) (K : AV → Hp → Prop) : Prop :=
 okFn P f ∧ ∀ (c : Cx) (vs : Array Value), c.h = h → HRep c → EB c → Reps c vs.toList args →
  Calls P f vs c.w fun e w' => ∃ v c' r, e = .returned v ∧ c'.w = w' ∧ VRep c' v r ∧ Le c c' ∧ HRep c' ∧ Fr c c' ∧ EB c' ∧ Later c c' ∧ K r c'.h
structure FrW (w w' : World) : Prop where
 os : w'.os = w.os
 tape : w'.tape = w.tape
 output : w'.output = w.output
 size : w.heap.size ≤ w'.heap.size
 block : ∀ b, b < w.heap.size → w'.heap[b]? = w.heap[b]?
def HV (P : Program) (f : Nat) (args : List AV) (r : AV) : Prop :=
 okFn P f ∧ imms args = true ∧ imm r = true ∧ ∀ (w : World) (S : Nat → Prop) (vs : Array Value), (∀ b, S b → b < w.heap.size) → Reps (Cx0 w S) vs.toList args →
  Calls P f vs w fun e w' => ∃ v, e = .returned v ∧ VRep (Cx0 w' fun b => S b ∨ (w.heap.size ≤ b ∧ b < w'.heap.size)) v r ∧ FrW w w'
def HVF (P : Program) (f : Nat) (args : List AV) (r : AV) : Prop :=
 okFn P f ∧ imms args = true ∧ imm r = true ∧ ∀ (w : World) (S : Nat → Prop) (vs : Array Value), (∀ b, S b → b < w.heap.size) → Reps (Cx0 w S) vs.toList args →
  Calls P f vs w fun e w' => ∃ v, e = .returned v ∧ VRep (Cx0 w' fun b => w.heap.size ≤ b ∧ b < w'.heap.size) v r ∧ FrW w w'
theorem HVF.hv {P : Program} {f : Nat} {args : List AV} {r : AV} (h : HVF P f args r) : HV P f args r :=
 ⟨h.1, h.2.1, h.2.2.1, fun w S vs hS hr => (h.2.2.2 w S vs hS hr).mono fun e w' ⟨v, h1, h2, h3⟩ => ⟨v, h1, imm_tr (c := Cx0 w' fun b => w.heap.size ≤ b ∧ b < w'.heap.size) (c' := Cx0 w' fun b => S b ∨ (w.heap.size ≤ b ∧ b < w'.heap.size)) (fun b hb => ⟨Or.inr hb, rfl⟩) v r h.2.2.1 h2, h3⟩⟩
def flat : AV → Bool
 | .undef | .lit _ | .nil => true
 | .tup vs => vs.all fun | .lit _ => true | _ => false
 | .agg vs => vs.all fun | .lit _ => true | _ => false
 | _ => false
def ob {α : Type} (o : Option α) (k : α → Prop) : Prop :=
 match o with
 | some a => k a
 | none => False
def kQ (g : Option (Nat × Bool)) (env : Nat → AV) (k1 k0 : Prop) : Prop :=
 match g with
 | none => k1
 | some (s, w) => match env s with | .lit (.bool b) => (b = w → k1) ∧ (b = !w → k0) | .tup [] => k0 | _ => False
def qL (op : AOp) (ρ : AOpd → AV) (h : Hp) (id : Id) : Option (AV × Hp) :=
 match yQ op ρ with
 | some r => some (r, h)
 | none => match qI op ρ h with
   | some r => some (r, h)
   | none => qA op ρ h id
def YW : Nat := 8
def QCall (P : Program) (f : Nat) (args : List AV) (h : Hp) (r : AV) : Prop :=
 ∃ args', mapO (lend YW h) args = some args' ∧ ((HV P f args' r ∧ (flat r = true ∨ imms args = true)) ∨ HVF P f args' r)
def callA (P : Program) (q : Bool) (f : AV) (args : List AV) (h : Hp) (K : AV → Hp → Prop) : Prop :=
 match f with
 | .fn g caps => if q then ∃ r, QCall P g (args ++ caps) h r ∧ K r h else HC P g (args ++ caps) h fun r h' => qY h' → K r h'.tick
 | .bf g fs => if q then False else HC P g (fs ++ args) h fun r h' => qY h' → K r h'.tick
 | _ => False
def yT (P : Program) (dst : Option Nat) (op : AOp) (K : St → Prop) (σ : St) : Prop :=
 match op with
 | .call q f args => callA P q (evA σ.env f) (args.map (evA σ.env)) σ.h fun r h' => K ⟨putA σ.env dst r, h'⟩
 | .mop .next xs => kF (xs.map (evA σ.env)) σ.h fun r h' => K ⟨putA σ.env dst r, h'⟩
 | op => ob (qL op (evA σ.env) σ.h (σ.h.ep, dst.getD 0)) fun x => K ⟨putA σ.env dst x.1, x.2⟩
def qE (P : Program) (o : yU) (K : St → Prop) (σ : St) : Prop :=
 kQ o.guard σ.env (yT P o.dst o.op K σ) (K ⟨putA σ.env o.dst (.tup []), σ.h⟩)
def yR (P : Program) : List yU → (St → Prop) → St → Prop
 | [], K, σ => K σ
 | o :: l, K, σ => qE P o (yR P l K) σ
def idOf : AV → Option Id
 | .ptr id _ | .sl id .. | .map id => some id
 | _ => none
def sepV (x y : AV) : Prop :=
 match idOf x, idOf y with
 | some i, some j => i ≠ j
 | _, _ => True
def YN : List (Nat × Nat) → (Nat → AV) → Prop
 | [], _ => True
 | (a, b) :: r, env => sepV (env a) (env b) ∧ YN r env
def seqK (P : Program) (k : St → Prop) (Q : AEx → St → Prop) : AEx → St → Prop
 | .normal, σ => k σ
 | e, σ => Q e σ
def YA (id : Nat) (Q : AEx → St → Prop) : AEx → St → Prop
 | .exit id', σ => if id' = id then Q .normal σ else Q (.exit id') σ
 | e, σ => Q e σ
def awp (P : Program) : ACode → (AEx → St → Prop) → St → Prop
 | .skip, Q, σ => Q .normal σ
 | .ops l seps, Q, σ => qY σ.h → yR P l (fun σ' => YN seps σ'.env ∧ Q .normal σ') ⟨σ.env, σ.h.tick⟩
 | .seq a b, Q, σ => awp P a (seqK P (awp P b Q) Q) σ
 | .cond c a b, Q, σ => match evA σ.env c with | .lit (.bool t) => (t = true → awp P a Q σ) ∧ (t = false → awp P b Q σ) | _ => False
 | .block id c, Q, σ => awp P c (YA id Q) σ
 | .loop c, Q, σ => ∃ (I : Nat → St → Prop), (∃ n, I n σ) ∧ ∀ n σ, I n σ → awp P c (seqK P (fun σ' => ∃ m, m < n ∧ I m σ') Q) σ
 | .exit id, Q, σ => Q (.exit id) σ
 | .ret, Q, σ => Q .ret σ
def dstOk (N : Nat) : Option Nat → Bool
 | some d => decide (d < N)
 | none => true
def cOper (P : Program) (q : Bool) (N : Nat) (ops : Array Oper) (o : Oper) : Option yU :=
 match cOp P q o.op with
 | none => none
 | some op =>
   if dstOk N o.dst = true then
    match o.guard with
    | none => some ⟨o.dst, op, none⟩
    | some (j, want) => match (ops[j]?).bind (·.dst) with
      | some s => if s < N then some ⟨o.dst, op, some (s, want)⟩ else none
      | none => none
   else none
def RS (N : Nat) (c0 : Cx) (D : Nat → Prop) (σ : St) (a : Act) (w : World) : Prop :=
 ∃ c : Cx, c.w = w ∧ c.h = σ.h ∧ HRep c ∧ (∀ i, VRep c (a.tmps.getD i undef) (σ.env i)) ∧ a.tmps.size = N ∧ a.defers = [] ∧ Le c0 c ∧ Fr c0 c ∧ Later c0 c ∧
   c0.h.ep < c.h.ep ∧ ∀ id, c.al id → id.1 < c.h.ep ∨ (id.1 = c.h.ep ∧ D id.2)
section
variable {P : Program}
theorem env_rep {c : Cx} {a : Act} {env : Nat → AV} (h : ∀ i, VRep c (a.tmps.getD i undef) (env i)) : ∀ x y, cOpd x = some y → VRep c (a.eval x) (evA env y) := by
 intro x y hxy
 cases x with
 | tmp t => simp only [cOpd, oI] at hxy; subst hxy; exact h t
 | const v => simp only [cOpd, oM] at hxy; obtain ⟨z, h1, rfl⟩ := hxy; exact kO h1
 | func f => simp only [cOpd, oI] at hxy; subst hxy; simp only [evA, VRep, Act.eval]; exact ⟨#[], rfl, by simp [Reps]⟩
 | global g => simp [cOpd] at hxy
theorem put_rep {c : Cx} {a : Act} {env : Nat → AV} {dst : Option Nat} {v : Value} {r : AV} (h : ∀ i, VRep c (a.tmps.getD i undef) (env i)) (hv : VRep c v r) (hd : ∀ d, dst = some d → d < a.tmps.size) :
 ∀ i, VRep c ((a.put dst v).tmps.getD i undef) (putA env dst r i) := by
 intro i
 cases dst with
 | none => exact h i
 | some d =>
   have hd := hd d rfl
   simp only [Act.put, putA, upd]
   by_cases e : i = d
   · subst e
     rw [if_pos rfl]
     simpa [hd] using hv
   · rw [if_neg e]
     have := h i
     have he : (a.tmps.setIfInBounds d v).getD i undef = a.tmps.getD i undef := by
      simp [Array.getElem?_setIfInBounds_ne (Ne.symm e)]
     rw [he]
     exact this
theorem put_size (a : Act) (dst : Option Nat) (v : Value) : (a.put dst v).tmps.size = a.tmps.size := by cases dst <;> simp [Act.put]
theorem put_defers (a : Act) (dst : Option Nat) (v : Value) : (a.put dst v).defers = a.defers := by cases dst <;> rfl
theorem RS.step {N : Nat} {c0 c c' : Cx} {D : Nat → Prop} {σ : St} {a : Act} {dst : Option Nat} {v : Value} {r : AV} (hE : ∀ i, VRep c (a.tmps.getD i undef) (σ.env i)) (hN : a.tmps.size = N) (hD : a.defers = []) (h0 : Le c0 c) (f0 : Fr c0 c) (l0 : Later c0 c) (hlt : c0.h.ep < c.h.ep)
 (hd : ∀ d, dst = some d → d < N) (hle : Le c c') (hH' : HRep c') (hfr : Fr c c') (hv : VRep c' v r) (hlt' : c.h.ep ≤ c'.h.ep) (hal1 : ∀ id, c'.al id → c.al id ∨ c.h.ep ≤ id.1) (hal2 : ∀ id, c'.al id → id.1 < c'.h.ep ∨ (id.1 = c'.h.ep ∧ D id.2)) :
 RS N c0 D ⟨putA σ.env dst r, c'.h⟩ (a.put dst v) c'.w :=
 ⟨c', rfl, rfl, hH', put_rep (fun i => VRep.mono hle _ _ (hE i)) hv (by rw [hN]; exact hd), by rw [put_size, hN], by rw [put_defers, hD], h0.trans hle, f0.trans hfr,
  ⟨Nat.le_trans l0.ep hlt', fun id h => by
   rcases hal1 id h with h | h
   · exact l0.al id h
   · exact .inr (Nat.lt_of_lt_of_le hlt h)⟩, Nat.lt_of_lt_of_le hlt hlt', hal2⟩
def YB (o : yU) (env : Nat → AV) : Option Bool :=
 match o.guard with
 | none => some true
 | some (s, want) => match env s with | .lit (.bool b) => some (b == want) | .tup [] => some false | _ => none
theorem WG {o : yU} {env : Nat → AV} {k1 k0 : Prop} : kQ o.guard env k1 k0 ↔ match YB o env with | none => False | some true => k1 | some false => k0 := by
 unfold kQ YB
 cases o.guard with
 | none => rfl
 | some p =>
   obtain ⟨s, w⟩ := p
   simp only
   cases env s <;> try rfl
   · rename_i u
     cases u <;> try rfl
     rename_i b
     cases b <;> cases w <;> simp
   · rename_i u
     cases u <;> rfl
theorem guard_want {N : Nat} {q : Bool} {ops : Array Oper} {o : Oper} {ao : yU} {c : Cx} {a : Act} {env : Nat → AV} (hc : cOper P q N ops o = some ao) (hE : ∀ i, VRep c (a.tmps.getD i undef) (env i)) (hN : a.tmps.size = N) {b : Bool}
 (hw : YB ao env = some b) : Region.wanted o (yielded ops a.tmps) = b := by
 unfold cOper at hc
 split at hc
 · cases hc
 · split at hc
   · split at hc
     · rename_i hg
       cases hc
       simp only [YB, oI] at hw
       subst hw
       simp [Region.wanted, hg]
     · rename_i j want hg
       split at hc
       · rename_i s hs
         split at hc
         · rename_i hsN
           cases hc
           simp only [YB] at hw
           split at hw
           · rename_i t ht
             simp only [oI] at hw
             subst hw
             have := hE s
             rw [ht] at this
             have hv := this.lit
             have hy : yielded ops a.tmps j = some t := by
              unfold yielded
              rw [hs]
              have hlt : s < a.tmps.size := hN ▸ hsN
              have e : a.tmps[s]? = some (.bool t) := by
               rw [Array.getElem?_eq_getElem hlt]
               simpa [hlt] using hv
              simp [e]
             simp only [Region.wanted, hg, hy]
             cases t <;> cases want <;> rfl
           · rename_i ht
             simp only [oI] at hw
             subst hw
             have := hE s
             rw [ht] at this
             simp only [VRep] at this
             obtain ⟨arr, hv, hr⟩ := this
             have hy : yielded ops a.tmps j = none := by
              unfold yielded
              rw [hs]
              have hlt : s < a.tmps.size := hN ▸ hsN
              have e : a.tmps[s]? = some (.tuple arr) := by
               rw [Array.getElem?_eq_getElem hlt]
               simpa [hlt] using hv
              simp [e]
             simp only [Region.wanted, hg, hy]
             cases want <;> rfl
           · cases hw
         · cases hc
       · cases hc
   · cases hc
theorem dst_ok {N : Nat} {q : Bool} {ops : Array Oper} {o : Oper} {ao : yU} (hc : cOper P q N ops o = some ao) : cOp P q o.op = some ao.op ∧ ao.dst = o.dst ∧ ∀ d, o.dst = some d → d < N := by
 unfold cOper at hc
 split at hc
 · cases hc
 · rename_i op hop
   split at hc
   · rename_i hd
     have hd' : ∀ d, o.dst = some d → d < N := fun d h => by rw [h] at hd; simpa [dstOk] using hd
     split at hc
     · cases hc; exact ⟨hop, rfl, hd'⟩
     · split at hc
       · split at hc
         · cases hc; exact ⟨hop, rfl, hd'⟩
         · cases hc
       · cases hc
   · cases hc
theorem execOp_call {ρ : Operand → Value} {o : Oper} {cl : Call} {f : Operand} (ho : o.op = .call cl) (hf : cl.callee = .value f) {g : Nat} {cap : Array Value} (hv : ρ f = .func (.func g) #[] cap) (hok : okFn P g) (w : World) :
 (execOp ρ o).run P w = .ok (.enter g (cl.args.map ρ ++ cap)) w := by
 obtain ⟨dst, op, type, pos, after, guard⟩ := o
 obtain ⟨callee, args, tys⟩ := cl
 simp only at ho hf
 subst ho hf
 obtain ⟨fn, b, h1, h2, h3⟩ := hok
 simp [execOp, resolve, hv, Deferred.ofValue, Go.invoke, callFunc, h1, h2, h3]
theorem qcall_sound {c : Cx} (hH : HRep c) {g : Nat} {args : List AV} {r : AV} (hq : QCall P g args c.h r) {vs : Array Value} (hr : Reps c vs.toList args) :
 okFn P g ∧ Calls P g vs c.w fun e w' => ∃ v c', e = .returned v ∧ c'.w = w' ∧ c'.h = c.h ∧ VRep c' v r ∧ Le c c' ∧ HRep c' ∧ Fr c c' ∧ c'.al = c.al := by
 obtain ⟨args', hl, hq⟩ := hq
 refine ⟨by rcases hq with ⟨h, _⟩ | h <;> exact h.1, ?_⟩
 have hblt : ∀ id blk, c.h.hp id = some blk → (c.φ id).1 < c.w.heap.size := fun id blk hb => by
  obtain ⟨_, ⟨arr, el, h1, _⟩, _⟩ := hH.blk id blk hb
  exact (Array.getElem?_eq_some_iff.1 h1).1
 have hmlt : ∀ id es, c.h.mp id = some es → (c.φ id).1 < c.w.heap.size := fun id es hb => by
  obtain ⟨_, _, _, ob, h1, _⟩ := hH.mp id es hb
  exact (Array.getElem?_eq_some_iff.1 h1).1
 -- the context behind the call, for a set of blocks that stay
 have ctx : ∀ (w' : World) (S' : Nat → Prop), FrW c.w w' → (∀ b, c.S b → S' b) → (∀ b, S' b → c.S b ∨ (c.w.heap.size ≤ b ∧ b < w'.heap.size)) →
  Le c ⟨w', S', c.h, c.φ, c.al⟩ ∧ HRep ⟨w', S', c.h, c.φ, c.al⟩ ∧ Fr c ⟨w', S', c.h, c.φ, c.al⟩ := by
  intro w' S' hfr h1 h2
  have hle : Le c ⟨w', S', c.h, c.φ, c.al⟩ := ⟨fun b hb => ⟨h1 b hb, hfr.block b (hH.slt b hb)⟩, fun _ h => h, fun _ _ => rfl, fun id _ blk hb => ⟨blk, hb, rfl, fun arr el fr ha => ⟨arr, by
   rw [hfr.block _ (hblt id blk hb)]; exact ha, rfl⟩⟩⟩
  refine ⟨hle, ⟨fun b hb => ?_, fun id blk hb => ?_, fun id es hb => ?_, hH.inj⟩, ⟨hfr.os, hfr.tape, hfr.output, hfr.size, fun b hb _ => hfr.block b hb, fun b hb => .inl hb, fun b hb => ?_⟩⟩
  · rcases h2 b hb with h | h
    · exact Nat.lt_of_lt_of_le (hH.slt b h) hfr.size
    · exact h.2
  · obtain ⟨a1, ⟨arr, el, a2, a3⟩, a4, a5, a6⟩ := hH.blk id blk hb
    have he := hfr.block _ (hblt id blk hb)
    refine ⟨a1, ⟨arr, el, by rw [he]; exact a2, a3⟩, CRep.mono hle _ he _ _ a4, fun hw hs => ?_, fun hw => h1 _ (a6 hw)⟩
    rcases h2 _ hs with h | h
    · exact a5 hw h
    · have h' : c.w.heap.size ≤ (c.φ id).1 := h.1
      have := hblt id blk hb; omega
  · obtain ⟨a1, a2, a3, ob, a4, a5⟩ := hH.mp id es hb
    have he := hfr.block _ (hmlt id es hb)
    refine ⟨a1, a2, fun hs => ?_, ob, by rw [he]; exact a4, MRep.mono hle a5⟩
    rcases h2 _ hs with h | h
    · exact a3 h
    · have h' : c.w.heap.size ≤ (c.φ id).1 := h.1
      have := hmlt id es hb; omega
  · rcases h2 b hb with h | h
    · exact .inl h
    · exact .inr (.inr h.1)
 have hrepL : Reps (Cx0 c.w fun b => b < c.w.heap.size) vs.toList args' := by
  refine Reps.of_get (by rw [hr.length, wN hl]) fun i u x hu hx => ?_
  obtain ⟨y, hy, e⟩ := wO hl hx
  obtain ⟨u', h1, h2⟩ := hr.get hy
  rw [hu] at h1
  cases h1
  exact (UG hH (S0 := fun b => b < c.w.heap.size) hH.slt (fun id blk hb => hblt id blk hb) _ _ _ _ e h2).1
 rcases hq with ⟨⟨hok, hia, hir, hv⟩, hcase⟩ | ⟨hok, hia, hir, hv⟩
 rotate_left
 · refine (hv c.w (fun b => b < c.w.heap.size) vs (fun b h => h) hrepL).mono fun e w' hh => ?_
   obtain ⟨v, he, hvr, hfr⟩ := hh
   obtain ⟨h1, h2, h3⟩ := ctx w' (fun b => c.S b ∨ (c.w.heap.size ≤ b ∧ b < w'.heap.size)) hfr (fun b h => .inl h) (fun b h => h)
   exact ⟨v, ⟨w', fun b => c.S b ∨ (c.w.heap.size ≤ b ∧ b < w'.heap.size), c.h, c.φ, c.al⟩, he, rfl, rfl, imm_tr (c := Cx0 w' fun b => c.w.heap.size ≤ b ∧ b < w'.heap.size) (c' := ⟨w', fun b => c.S b ∨ (c.w.heap.size ≤ b ∧ b < w'.heap.size), c.h, c.φ, c.al⟩) (fun b h => ⟨.inr h, rfl⟩) _ _ hir hvr, h1, h2, h3, rfl⟩
 rcases hcase with hflat | himm
 · -- lent
   have hrep : Reps (Cx0 c.w fun b => b < c.w.heap.size) vs.toList args' := by
    refine Reps.of_get (by rw [hr.length, wN hl]) fun i u x hu hx => ?_
    obtain ⟨y, hy, e⟩ := wO hl hx
    obtain ⟨u', h1, h2⟩ := hr.get hy
    rw [hu] at h1
    cases h1
    exact (UG hH (S0 := fun b => b < c.w.heap.size) hH.slt (fun id blk hb => hblt id blk hb) _ _ _ _ e h2).1
   refine (hv c.w (fun b => b < c.w.heap.size) vs (fun b h => h) hrep).mono fun e w' hh => ?_
   obtain ⟨v, he, hvr, hfr⟩ := hh
   obtain ⟨h1, h2, h3⟩ := ctx w' c.S hfr (fun b h => h) (fun b h => .inl h)
   refine ⟨v, ⟨w', c.S, c.h, c.φ, c.al⟩, he, rfl, rfl, ?_, h1, h2, h3, rfl⟩
   -- flat values
   have fl : ∀ (us : List Value) (xs : List AV), (xs.all fun | .lit _ => true | _ => false) = true → Reps (Cx0 w' fun b => b < c.w.heap.size ∨ (c.w.heap.size ≤ b ∧ b < w'.heap.size)) us xs → Reps ⟨w', c.S, c.h, c.φ, c.al⟩ us xs := by
    intro us xs hx hr
    refine Reps.of_get hr.length fun i u x hu hxi => ?_
    obtain ⟨u', h4, h5⟩ := hr.get hxi
    rw [hu] at h4
    cases h4
    have := List.all_eq_true.1 hx x (List.mem_of_getElem? hxi)
    cases x <;> simp at this
    simpa [VRep] using h5
   cases r <;> simp only [flat, Bool.false_eq_true] at hflat
   case undef => trivial
   case lit u => simpa [VRep] using hvr
   case nil => simpa [VRep] using hvr
   case tup xs => simp only [VRep] at hvr ⊢; obtain ⟨arr, e, hr⟩ := hvr; exact ⟨arr, e, fl _ _ hflat hr⟩
   case agg xs => simp only [VRep] at hvr ⊢; obtain ⟨arr, e, hr⟩ := hvr; exact ⟨arr, e, fl _ _ hflat hr⟩
 · -- nothing lent
   have same : args' = args := by
    have : ∀ (xs ys : List AV), imms xs = true → mapO (lend YW c.h) xs = some ys → ys = xs := by
     intro xs
     induction xs with
     | nil => intro ys _ h; simp [mapO] at h; exact h
     | cons x xs ih =>
       intro ys hi h
       simp only [imms, Bool.and_eq_true] at hi
       simp only [mapO] at h
       split at h
       · rename_i y zs h1 h2
         cases h
         have : y = x := by
          unfold YW at h1
          rw [show (8 : Nat) = 7 + 1 from rfl] at h1
          simp only [lend, hi.1, if_true, oI] at h1
          exact h1.symm
         rw [this, ih zs hi.2 h2]
       · cases h
    exact this args args' himm hl
   subst same
   have hrep : Reps (Cx0 c.w c.S) vs.toList args' := imms_tr (c := c) (c' := Cx0 c.w c.S) (fun b h => ⟨h, rfl⟩) _ _ hia hr
   refine (hv c.w c.S vs hH.slt hrep).mono fun e w' hh => ?_
   obtain ⟨v, he, hvr, hfr⟩ := hh
   obtain ⟨h1, h2, h3⟩ := ctx w' (fun b => c.S b ∨ (c.w.heap.size ≤ b ∧ b < w'.heap.size)) hfr (fun b h => .inl h) (fun b h => h)
   exact ⟨v, ⟨w', fun b => c.S b ∨ (c.w.heap.size ≤ b ∧ b < w'.heap.size), c.h, c.φ, c.al⟩, he, rfl, rfl, imm_tr (c := Cx0 w' fun b => c.S b ∨ (c.w.heap.size ≤ b ∧ b < w'.heap.size)) (c' := ⟨w', fun b => c.S b ∨ (c.w.heap.size ≤ b ∧ b < w'.heap.size), c.h, c.φ, c.al⟩) (fun b h => ⟨h, rfl⟩) _ _ hir hvr, h1, h2, h3, rfl⟩
theorem HC.of_HV {f : Nat} {args : List AV} {h : Hp} {r : AV} {K : AV → Hp → Prop} (hq : QCall P f args h r) (hk : K r h) : HC P f args h K := by
 have hok : okFn P f := by obtain ⟨_, _, ⟨h1, _⟩ | h1⟩ := hq <;> exact h1.1
 refine ⟨hok, fun c vs hc hH hEB hr => ?_⟩
 subst hc
 refine (qcall_sound hH hq hr).2.mono fun e w' hh => ?_
 obtain ⟨v, c', h1, h2, h3, h4, h5, h6, h7, h8⟩ := hh
 exact ⟨v, c', r, h1, h2, h4, h5, h6, h7, fun id h => by rw [h8] at h; rw [h3]; exact hEB id h, ⟨by rw [h3]; exact Nat.le_refl _, fun id h => by rw [h8] at h; exact .inl h⟩, by rw [h3]; exact hk⟩
theorem HC.mono {f : Nat} {args : List AV} {h : Hp} {K K' : AV → Hp → Prop} (hh : HC P f args h K) (hk : ∀ r h', K r h' → K' r h') : HC P f args h K' := by
 refine ⟨hh.1, fun c vs hc hH hEB hr => (hh.2 c vs hc hH hEB hr).mono fun e w' hx => ?_⟩
 obtain ⟨v, c', r, h1, h2, h3, h4, h5, h6, h7, h8, h9⟩ := hx
 exact ⟨v, c', r, h1, h2, h3, h4, h5, h6, h7, h8, hk _ _ h9⟩
end
def aTag : AOp → Nat
 | .mv _ => 0 | .pick .. => 1 | .alloc _ => 2 | .box _ => 3 | .build .. => 4 | .buildSl .. => 5 | .load .. => 6 | .store .. => 7 | .nilchk _ => 8 | .bin .. => 9 | .beq .. => 9 | .aeq .. => 9 | .peq .. => 9
 | .un .. => 10 | .conv .. => 11 | .mkfn .. => 12 | .mkbf .. => 12 | .mksl .. => 13 | .slice .. => 14 | .fieldAddr .. => 15 | .field .. => 16 | .idxAddr .. => 17 | .idx .. => 18 | .ext .. => 19
 | .call .. => 20 | .len .. => 20 | .lenStr _ => 20 | .append .. => 20 | .maxs _ => 20 | .mins _ => 20
 | .mop .mk _ => 21 | .mop (.look ..) _ => 22 | .mop (.put ..) _ => 23 | .mop .range _ => 24 | .mop .next _ => 25 | .mop .entry _ => 26
def oTag : Op → Nat
 | .move _ => 0 | .assign _ => 0 | .pick .. => 1 | .alloc _ => 2 | .box .. => 3 | .build .. => 4 | .buildSlice .. => 5 | .load .. => 6 | .store .. => 7 | .nilCheck _ => 8 | .binOp .. => 9
 | .unOp .. => 10 | .convert .. => 11 | .makeFunc .. => 12 | .makeSlice .. => 13 | .slice .. => 14 | .fieldAddr .. => 15 | .field .. => 16 | .indexAddr .. => 17 | .index .. => 18 | .extract .. => 19
 | .call _ => 20 | .makeMap .. => 21 | .lookup .. => 22 | .mapUpdate .. => 23 | .range .. => 24 | .next .. => 25 | .entry _ => 26 | _ => 99
theorem tagO {α : Type} {x : Option α} {f : α → AOp} {ao : AOp} {n : Nat} (h : x.map f = some ao) (hf : ∀ a, aTag (f a) = n) : aTag ao = n := by
 cases x with
 | none => cases h
 | some a => simp at h; subst h; exact hf a
theorem tagB {α : Type} {x : Option α} {f : α → Option AOp} {ao : AOp} {n : Nat} (h : x.bind f = some ao) (hf : ∀ a, f a = some ao → aTag ao = n) : aTag ao = n := by
 cases x with
 | none => cases h
 | some a => exact hf a h
theorem cBuiltin_tag {P : Program} {b : Builtin} {as : List Operand} {tys : Array TypeId} {ao : AOp} (h : uT P b as tys = some ao) : aTag ao = 20 := by
 unfold uT at h
 split at h
 · refine tagB h fun _ h => tagB h fun _ h => ?_
   split at h <;> first | (cases h; rfl) | cases h
 · refine tagB h fun _ h => tagB h fun _ h => tagB h fun _ h => tagB h fun _ h => ?_
   split at h
   · refine tagB h fun _ h => tagB h fun _ h => ?_
     split at h <;> first | (cases h; rfl) | cases h
   · cases h
 · exact tagO h fun _ => rfl
 · exact tagO h fun _ => rfl
 · cases h
theorem cOp_tag {P : Program} {q : Bool} {op : Op} {ao : AOp} (h : cOp P q op = some ao) : aTag ao = oTag op := by
 cases op <;> simp only [cOp, reduceCtorEq] at h <;> simp only [oTag]
 case move => exact tagO h fun _ => rfl
 case assign => exact tagO h fun _ => rfl
 case pick => exact tagB h fun _ h => tagB h fun _ h => tagO h fun _ => rfl
 case alloc => exact tagO h fun _ => rfl
 case box => exact tagO h fun _ => rfl
 case build => exact tagB h fun _ h => tagB h fun _ h => tagO h fun _ => rfl
 case buildSlice =>
  split at h
  · refine tagB h fun _ h => tagB h fun _ h => ?_
    split at h
    · exact tagO h fun _ => rfl
    · cases h
  · cases h
 case load => exact tagB h fun _ h => tagB h fun _ h => tagO h fun _ => rfl
 case store => exact tagB h fun _ h => tagB h fun _ h => tagO h fun _ => rfl
 case nilCheck => exact tagO h fun _ => rfl
 case binOp =>
  refine tagB h fun _ h => tagB h fun _ h => ?_
  split at h
  · split at h <;> first | (cases h; rfl) | cases h
  · split at h
    · cases h
    · split at h <;> first | exact tagO h fun _ => rfl | cases h
  · split at h <;> first | (cases h; rfl) | cases h
  · cases h; rfl
 case unOp => exact tagO h fun _ => rfl
 case convert =>
  split at h
  · exact tagO h fun _ => rfl
  · cases h
 case makeFunc fn first caps =>
  cases fn <;> simp only [cOp, reduceCtorEq] at h
  split at h
  · exact tagO h fun _ => rfl
  · split at h
    · exact tagO h fun _ => rfl
    · cases h
 case makeMap => split at h <;> cases h; rfl
 case lookup =>
  split at h
  · cases h
  · split at h
    · exact tagB h fun _ h => tagB h fun _ h => tagB h fun _ h => tagO h fun _ => rfl
    · cases h
 case mapUpdate =>
  split at h
  · exact tagB h fun _ h => tagB h fun _ h => tagB h fun _ h => tagO h fun _ => rfl
  · cases h
 case range =>
  split at h
  · exact tagO h fun _ => rfl
  · cases h
 case next =>
  split at h
  · cases h
  · exact tagO h fun _ => rfl
 case entry => exact tagO h fun _ => rfl
 case makeSlice =>
  split at h
  · refine tagB h fun _ h => tagB h fun _ h => tagB h fun _ h => tagB h fun _ h => ?_
    split at h
    · cases h; rfl
    · cases h
  · cases h
 case slice =>
  refine tagB h fun _ h => tagB h fun _ h => tagB h fun _ h => tagB h fun _ h => ?_
  split at h
  · exact tagO h fun _ => rfl
  · exact tagO h fun _ => rfl
  · cases h
 case fieldAddr =>
  split at h
  · refine tagB h fun _ h => tagB h fun _ h => ?_
    split at h
    · cases h
    · exact tagO h fun _ => rfl
  · cases h
 case field =>
  split at h
  · exact tagB h fun _ h => tagB h fun _ h => tagB h fun _ h => tagO h fun _ => rfl
  · cases h
 case indexAddr =>
  refine tagB h fun _ h => tagB h fun _ h => ?_
  split at h
  · exact tagO h fun _ => rfl
  · exact tagO h fun _ => rfl
  · cases h
 case index =>
  refine tagB h fun _ h => tagB h fun _ h => ?_
  split at h
  · exact tagB h fun _ h => tagO h fun _ => rfl
  · cases h
 case extract => exact tagO h fun _ => rfl
 case call cl =>
  split at h
  · exact tagB h fun _ h => tagO h fun _ => rfl
  · exact cBuiltin_tag h
  · cases h
def uO : AOp → Bool
 | .alloc _ | .box _ | .buildSl .. | .mksl .. | .append .. | .mop .mk _ | .mop .range _ => true
 | _ => false
section
variable {P : Program}
theorem tick_ctx {c : Cx} (hH : HRep c) (n : Nat) : Le c ⟨c.w, c.S, { c.h with ep := n }, c.φ, c.al⟩ ∧ HRep ⟨c.w, c.S, { c.h with ep := n }, c.φ, c.al⟩ ∧ Fr c ⟨c.w, c.S, { c.h with ep := n }, c.φ, c.al⟩ := by
 have hle : Le c ⟨c.w, c.S, { c.h with ep := n }, c.φ, c.al⟩ := ⟨fun b h => ⟨h, rfl⟩, fun _ h => h, fun _ _ => rfl, fun id _ blk h => ⟨blk, h, rfl, fun arr el fr h => ⟨arr, h, rfl⟩⟩⟩
 refine ⟨hle, ⟨hH.slt, fun id blk h => ?_, fun id es h => ?_, hH.inj⟩, ⟨rfl, rfl, rfl, Nat.le_refl _, fun _ _ _ => rfl, fun _ h => .inl h, fun _ h => .inl h⟩⟩
 · obtain ⟨a1, a2, a3, a4, a5⟩ := hH.blk id blk h
   exact ⟨a1, a2, CRep.mono hle _ rfl _ _ a3, a4, a5⟩
 · obtain ⟨a1, a2, a3, ob, a4, a5⟩ := hH.mp id es h
   exact ⟨a1, a2, a3, ob, a4, MRep.mono hle a5⟩
theorem step_sound {c : Cx} {q : Bool} {o : Oper} {ao : AOp} {id : Id} (hc : cOp P q o.op = some ao) (hH : HRep c) (hn : uO ao = true → ¬ c.al id) {ρ : Operand → Value} {ρA : AOpd → AV} (hρ : ∀ x y, cOpd x = some y → VRep c (ρ x) (ρA y)) {r : AV} {h' : Hp}
 (hs : qL ao ρA c.h id = some (r, h')) : h'.ep = c.h.ep ∧ ∃ (c' : Cx) (nxt : Next) (v : Value), (execOp ρ o).run P c.w = .ok nxt c'.w ∧ (nxt = .value v ∨ nxt = .skip ∧ v = undef) ∧ c'.h = h' ∧ VRep c' v r ∧ Le c c' ∧ HRep c' ∧ Fr c c' ∧
  ∀ i, c'.al i → c.al i ∨ (uO ao = true ∧ i = id) := by
 unfold qL at hs
 split at hs
 · rename_i r' hp
   cases hs
   obtain ⟨v, h1, h2⟩ := pure_sound hc hρ hp
   exact ⟨rfl, c, _, v, h1, .inl rfl, rfl, h2, Le.refl c, hH, Fr.refl c, fun _ h => .inl h⟩
 · split at hs
   · rename_i r' hp
     cases hs
     have htag := cOp_tag hc
     obtain ⟨dst, op, type, pos, after, guard⟩ := o
     simp only at htag hc
     cases ao <;> simp only [qI, reduceCtorEq] at hp <;> simp only [aTag] at htag
     case load g n x =>
      cases op <;> simp only [oTag] at htag <;> try (simp at htag; done)
      obtain ⟨v, h1, h2⟩ := load_op hc hH hρ (by simp only [qI]; exact hp)
      exact ⟨rfl, c, .value v, v, by simp [execOp, h1], .inl rfl, rfl, h2, Le.refl c, hH, Fr.refl c, fun _ h => .inl h⟩
     case slice arr sz x lo hi' mx =>
      cases op <;> simp only [oTag] at htag <;> try (simp at htag; done)
      obtain ⟨v, h1, h2⟩ := sliceArr_op hc hH hρ (by simp only [qI]; exact hp)
      exact ⟨rfl, c, .value v, v, by simp [execOp, h1], .inl rfl, rfl, h2, Le.refl c, hH, Fr.refl c, fun _ h => .inl h⟩
   · have htag := cOp_tag hc
     have hep : h'.ep = c.h.ep := by
      cases ao <;> simp only [qA, reduceCtorEq] at hs
      case alloc => split at hs <;> cases hs; rfl
      case box =>
       split at hs
       · simp only [oM, Prod.mk.injEq] at hs
         obtain ⟨_, _, _, rfl⟩ := hs; rfl
       · cases hs
      case buildSl =>
       split at hs
       · simp only [oM] at hs
         obtain ⟨_, _, hs⟩ := hs
         split at hs <;> cases hs <;> rfl
       · cases hs
      case mksl =>
       split at hs
       · split at hs <;> cases hs; rfl
       · cases hs
      case store =>
       split at hs
       · split at hs
         · split at hs
           · split at hs <;> cases hs; rfl
           · cases hs
         · cases hs
       · cases hs
      case append =>
       split at hs
       · cases hs
       · split at hs
         · split at hs
           · cases hs; rfl
           · split at hs <;> cases hs; rfl
         · split at hs
           · split at hs <;> cases hs; rfl
           · cases hs
         · cases hs
      case mop k xs => exact mopV_ep hs
     refine ⟨hep, ?_⟩
     obtain ⟨dst, op, type, pos, after, guard⟩ := o
     simp only at htag hc
     have fin : ∀ {x : Sem Value}, uO ao = true → Makes P c id x r h' → ∃ (c' : Cx) (nxt : Next) (v : Value), ((do pure (Next.value (← x)) : Sem Next)).run P c.w = .ok nxt c'.w ∧ (nxt = .value v ∨ nxt = .skip ∧ v = undef) ∧ c'.h = h' ∧ VRep c' v r ∧ Le c c' ∧ HRep c' ∧ Fr c c' ∧ ∀ i, c'.al i → c.al i ∨ (uO ao = true ∧ i = id) := by
      intro x hm ⟨v, c', h1, h2, h3, h4, h5, h6, h7⟩
      exact ⟨c', .value v, v, by simp [h1], .inl rfl, h2, h3, h4, h5, h6, fun i hi => (h7 i hi).imp (fun h => h) fun h => ⟨hm, h⟩⟩
     cases ao <;> (first | (simp only [qA, reduceCtorEq] at hs; done) | skip) <;> (try simp only [aTag] at htag)
     case mop k xs _ _ =>
      have hs : mopV k (xs.map ρA) c.h id = some (r, h') := hs
      cases k <;> simp only [aTag] at htag <;> cases op <;> simp only [oTag] at htag <;> try (simp at htag; done)
      case mk.makeMap => exact fin rfl (mkmap_op hc hH (hn rfl) rfl hs)
      case look.lookup t m k ok =>
       cases ok with
       | true => simp [cOp] at hc
       | false =>
         obtain ⟨rfl, v, h1, h2⟩ := look_op hc hH hρ rfl hs
         exact ⟨c, .value v, v, by simp [execOp, h1], .inl rfl, rfl, h2, Le.refl c, hH, Fr.refl c, fun _ h => .inl h⟩
      case put.mapUpdate =>
       obtain ⟨hr, c', h1, h2, h3, h4, h5, h6⟩ := put_op hc hH hρ rfl hs
       exact ⟨c', .skip, undef, by simp [execOp, h1], .inr ⟨rfl, rfl⟩, h2, by rw [hr]; trivial, h3, h4, h5, fun i hi => by rw [h6] at hi; exact .inl hi⟩
      case range.range => exact fin rfl (range_op hc hH (hn rfl) hρ rfl hs)
      case next.next => simp [mopV] at hs
      case entry.entry =>
       obtain ⟨rfl, v, h1, h2⟩ := entry_op hc hH hρ rfl hs
       exact ⟨c, .value v, v, by simp [execOp, h1], .inl rfl, rfl, h2, Le.refl c, hH, Fr.refl c, fun _ h => .inl h⟩
     case alloc z =>
      cases op <;> simp only [oTag] at htag <;> try (simp at htag; done)
      exact fin rfl (alloc_op hc hH (hn rfl) hs)
     case box x =>
      cases op <;> simp only [oTag] at htag <;> try (simp at htag; done)
      exact fin rfl (box_op hc hH (hn rfl) hρ hs)
     case buildSl =>
      cases op <;> simp only [oTag] at htag <;> try (simp at htag; done)
      exact fin rfl (buildSl_op hc hH (hn rfl) hρ hs)
     case mksl =>
      cases op <;> simp only [oTag] at htag <;> try (simp at htag; done)
      exact fin rfl (mksl_op hc hH (hn rfl) hρ hs)
     case store =>
      cases op <;> simp only [oTag] at htag <;> try (simp at htag; done)
      obtain ⟨hr, c', h1, h2, h3, h4, h5, h6⟩ := store_op hc hH hρ hs
      exact ⟨c', .skip, undef, by simp [execOp, h1], .inr ⟨rfl, rfl⟩, h2, by rw [hr]; trivial, h3, h4, h5, fun i hi => by rw [h6] at hi; exact .inl hi⟩
     case append =>
      cases op <;> simp only [oTag] at htag <;> try (simp at htag; done)
      rename_i cl
      obtain ⟨callee, args, tys⟩ := cl
      simp only [cOp] at hc
      split at hc
      · simp only [oB, oM, reduceCtorEq, and_false, exists_false] at hc
      · rename_i b hcal
        have hc' := hc
        unfold uT at hc
        split at hc
        · simp only [oB] at hc
          obtain ⟨_, _, _, _, hc⟩ := hc
          split at hc <;> simp at hc
        · rename_i s x hargs
          obtain rfl : args = #[s, x] := by cases args; simp_all
          have hm := append_op (ty := type) hH (hn rfl) hc' hρ hs
          obtain ⟨v, c', h1, h2, h3, h4, h5, h6, h7⟩ := hm
          exact ⟨c', .value v, v, by simp [execOp, resolve, Go.invoke, Go.builtin, h1], .inl rfl, h2, h3, h4, h5, h6, fun i hi => (h7 i hi).imp (fun h => h) fun h => ⟨rfl, h⟩⟩
        · simp only [oM, reduceCtorEq, and_false, exists_false] at hc
        · simp only [oM, reduceCtorEq, and_false, exists_false] at hc
        · cases hc
      · cases hc
theorem execOp_callB {ρ : Operand → Value} {o : Oper} {cl : Call} {f : Operand} (ho : o.op = .call cl) (hf : cl.callee = .value f) {g : Nat} {fs : Array Value} (hv : ρ f = .func (.func g) fs #[]) (hok : okFn P g) (w : World) :
 (execOp ρ o).run P w = .ok (.enter g (fs ++ cl.args.map ρ)) w := by
 obtain ⟨dst, op, type, pos, after, guard⟩ := o
 obtain ⟨callee, args, tys⟩ := cl
 simp only at ho hf
 subst ho hf
 obtain ⟨fn, b, h1, h2, h3⟩ := hok
 simp [execOp, resolve, hv, Deferred.ofValue, Go.invoke, callFunc, h1, h2, h3]
def Dn (D : Nat → Prop) (ao : yU) (s : Nat) : Prop := D s ∨ (uO ao.op = true ∧ ao.dst = some s)
theorem op_sound {N : Nat} {q : Bool} {ops : Array Oper} {i : Nat} {o : Oper} {ao : yU} (hi : ops[i]? = some o) (hc : cOper P q N ops o = some ao) {c0 : Cx} {D : Nat → Prop} (hmk : uO ao.op = true → ∃ d, ao.dst = some d ∧ ¬ D d) {σ : St} {a : Act} {w : World} {K : St → Prop} (h : qE P ao K σ) (hR : RS N c0 D σ a w)
 (Q : Exit → Act → World → Prop) : wpOp P ops Q i (fun a' w' => ∃ σ', K σ' ∧ RS N c0 (Dn D ao) σ' a' w') a w := by
 obtain ⟨c, hw, hh, hH, hE, hN, hD, h0, f0, l0, hlt, hal⟩ := hR
 subst hw
 obtain ⟨hop, hdst, hd⟩ := dst_ok hc
 unfold wpOp
 simp only [hi]
 unfold qE at h
 rw [WG] at h
 split at h
 · exact h.elim
 · rename_i hwant
   rw [guard_want hc hE hN hwant]
   simp only [if_true]
   refine .inl ?_
   have hρ := env_rep hE
   unfold Oper.wp
   unfold yT at h
   split at h
   · rename_i q' f as hao
     have htag := cOp_tag hop
     rw [hao] at hop htag
     obtain ⟨dst, op, type, pos, after, guard⟩ := o
     simp only [aTag] at htag
     simp only at hop hdst hd
     cases op <;> simp only [oTag] at htag <;> try (simp at htag; done)
     rename_i cl
     obtain ⟨callee, args, tys⟩ := cl
     simp only [cOp] at hop
     split at hop
     · rename_i fo
       simp only [oB, oM] at hop
       obtain ⟨fA, h1, asA, h2, h3⟩ := hop
       injection h3 with e1 e2 e3
       subst e1 e2 e3
       have hf := hρ fo fA h1
       unfold callA at h
       split at h
       · rename_i g caps hg
         rw [hg] at hf
         simp only [VRep] at hf
         obtain ⟨carr, hfv, hcr⟩ := hf
         have hargs : Reps c (args.map a.eval ++ carr).toList (asA.map (evA σ.env) ++ caps) := by
          simpa using Reps.append (uF hρ h2) hcr
         rw [hdst] at h
         cases q with
         | true =>
           simp only [if_true] at h
           obtain ⟨r, hq, hk⟩ := h
           rw [← hh] at hq
           obtain ⟨hok, hcalls⟩ := qcall_sound hH hq hargs
           rw [execOp_call (cl := ⟨.value fo, args, tys⟩) (f := fo) rfl rfl hfv hok]
           rw [Oper.upon_enter]
           refine hcalls.mono fun e w' hx => ?_
           obtain ⟨v, c', rfl, rfl, h6, h7, h8, h9, h10, h11⟩ := hx
           rw [← hh] at hk
           refine ⟨_, hk, ?_⟩
           rw [← h6]
           exact RS.step hE hN hD h0 f0 l0 hlt hd h8 h9 h10 h7 (by rw [h6]; exact Nat.le_refl _) (fun id h => by rw [h11] at h; exact .inl h) (fun id h => by
            rw [h11] at h; rw [h6]; exact (hal id h).imp (fun h => h) fun h => ⟨h.1, .inl h.2⟩)
         | false =>
           simp only [Bool.false_eq_true, if_false] at h
           rw [execOp_call (cl := ⟨.value fo, args, tys⟩) (f := fo) rfl rfl hfv h.1]
           rw [Oper.upon_enter]
           have hEB : EB c := fun id h => by rcases hal id h with h | h <;> omega
           refine (h.2 c _ hh hH hEB hargs).mono fun e w' hx => ?_
           obtain ⟨v, c', r, rfl, rfl, h5, h6, h7, h8, h9, h10, h11⟩ := hx
           obtain ⟨t1, t2, t3⟩ := tick_ctx h7 (c'.h.ep + 1)
           refine ⟨_, h11 (fresh_of h7 h9), ?_⟩
           exact RS.step (c' := ⟨c'.w, c'.S, { c'.h with ep := c'.h.ep + 1 }, c'.φ, c'.al⟩) hE hN hD h0 f0 l0 hlt hd (h6.trans t1) t2 (h8.trans t3) (VRep.mono t1 _ _ h5) (Nat.le_succ_of_le h10.ep)
            (fun id h => (h10.al id h).imp (fun h => h) fun h => Nat.le_of_lt h) (fun id h => .inl (Nat.lt_succ_of_le (h9 id h)))
       · rename_i g fs hg
         rw [hg] at hf
         simp only [VRep] at hf
         obtain ⟨carr, hfv, hcr⟩ := hf
         have hargs : Reps c (carr ++ args.map a.eval).toList (fs ++ asA.map (evA σ.env)) := by
          simpa using Reps.append hcr (uF hρ h2)
         rw [hdst] at h
         cases q with
         | true => exact absurd h (by simp)
         | false =>
           have h : HC P g (fs ++ asA.map (evA σ.env)) σ.h fun r h' => qY h' → K ⟨putA σ.env dst r, h'.tick⟩ := h
           rw [execOp_callB (cl := ⟨.value fo, args, tys⟩) (f := fo) rfl rfl hfv h.1]
           rw [Oper.upon_enter]
           have hEB : EB c := fun id h => by rcases hal id h with h | h <;> omega
           refine (h.2 c _ hh hH hEB hargs).mono fun e w' hx => ?_
           obtain ⟨v, c', r, rfl, rfl, h5, h6, h7, h8, h9, h10, h11⟩ := hx
           obtain ⟨t1, t2, t3⟩ := tick_ctx h7 (c'.h.ep + 1)
           refine ⟨_, h11 (fresh_of h7 h9), ?_⟩
           exact RS.step (c' := ⟨c'.w, c'.S, { c'.h with ep := c'.h.ep + 1 }, c'.φ, c'.al⟩) hE hN hD h0 f0 l0 hlt hd (h6.trans t1) t2 (h8.trans t3) (VRep.mono t1 _ _ h5) (Nat.le_succ_of_le h10.ep)
            (fun id h => (h10.al id h).imp (fun h => h) fun h => Nat.le_of_lt h) (fun id h => .inl (Nat.lt_succ_of_le (h9 id h)))
       · exact h.elim
     · rename_i b hcal
       have := cBuiltin_tag hop
       exfalso
       unfold uT at hop
       split at hop
       · simp only [oB] at hop
         obtain ⟨_, _, _, _, hop⟩ := hop
         split at hop <;> simp at hop
       · simp only [oB] at hop
         obtain ⟨_, _, _, _, _, _, _, _, hop⟩ := hop
         split at hop
         · simp only [oB] at hop
           obtain ⟨_, _, _, _, hop⟩ := hop
           split at hop <;> simp at hop
         · cases hop
       · simp only [oM, reduceCtorEq, and_false, exists_false] at hop
       · simp only [oM, reduceCtorEq, and_false, exists_false] at hop
       · cases hop
     · cases hop
   · rename_i xs hao
     have htag := cOp_tag hop
     have hop' := hop
     rw [hao] at hop htag
     obtain ⟨dst, op, type, pos, after, guard⟩ := o
     simp only [aTag] at htag
     simp only at hop hdst hd
     cases op <;> simp only [oTag] at htag <;> try (simp at htag; done)
     rename_i it s
     rw [← hh] at h
     obtain ⟨rfl, _, v, c', r, h1, h2, h3, h4, h5, h6, h7, h8⟩ := next_op (ty := type) hop hH hρ rfl h
     have hex : (execOp a.eval ⟨dst, .next it false, type, pos, after, guard⟩).run P c.w = .ok (.value v) c'.w := by simp [execOp, h1]
     rw [hex]
     rw [hdst] at h2
     refine ⟨_, h2, ?_⟩
     exact RS.step (D := Dn D ao) hE hN hD h0 f0 l0 hlt hd h4 h5 h6 h3 (by rw [h8]; exact Nat.le_refl _) (fun id h => by rw [h7] at h; exact .inl h) (fun id h => by
      rw [h7] at h; rw [h8]; exact (hal id h).imp (fun h => h) fun h => ⟨h.1, .inl h.2⟩)
   · unfold ob at h
     split at h
     · rename_i x hs
       obtain ⟨r, h'⟩ := x
       rw [← hh] at hs
       have hn : uO ao.op = true → ¬ c.al (c.h.ep, ao.dst.getD 0) := fun hm hcal => by
        obtain ⟨d, e1, e2⟩ := hmk hm
        rw [e1] at hcal
        rcases hal _ hcal with h | h
        · exact absurd h (Nat.lt_irrefl _)
        · exact e2 h.2
       obtain ⟨hep, c', nxt, v, h1, h2, h3, h4, h5, h6, h7, h8⟩ := step_sound hop hH hn hρ hs
       rw [h1]
       have hRS := RS.step (D := Dn D ao) hE hN hD h0 f0 l0 hlt hd h5 h6 h7 h4 (by rw [h3, hep]; exact Nat.le_refl _) (fun id h => (h8 id h).imp (fun h => h) fun h => by rw [h.2]; exact Nat.le_refl _) (fun id h => by
        rw [h3, hep]
        rcases h8 id h with h | ⟨hm, h⟩
        · exact (hal id h).imp (fun h => h) fun h => ⟨h.1, .inl h.2⟩
        · obtain ⟨d, e1, e2⟩ := hmk hm
          rw [h]
          exact .inr ⟨rfl, .inr ⟨hm, by rw [e1]; rfl⟩⟩)
       simp only at h
       rw [hdst, ← h3] at h
       rcases h2 with rfl | ⟨rfl, rfl⟩
       · exact ⟨_, h, hRS⟩
       · exact ⟨_, h, hRS⟩
     · exact h.elim
 · rename_i hwant
   rw [guard_want hc hE hN hwant]
   simp only [Bool.false_eq_true, if_false]
   refine ⟨_, h, ?_⟩
   rw [hdst, ← hh]
   exact RS.step hE hN hD h0 f0 l0 hlt hd (Le.refl c) hH (Fr.refl c) (by simp only [VRep]; exact ⟨#[], rfl, by simp [Reps]⟩) (Nat.le_refl _) (fun id h => .inl h) (fun id h => (hal id h).imp (fun h => h) fun h => ⟨h.1, .inl h.2⟩)
end
def aopds : AOp → List AOpd
 | .mv x | .box x | .load _ _ x | .nilchk x | .un _ x | .conv _ x | .fieldAddr _ x | .field _ _ _ x | .ext x _ | .len _ x | .lenStr x => [x]
 | .pick c a b => [c, a, b]
 | .alloc _ => []
 | .build _ ps | .buildSl _ _ _ ps => ps.map (·.2.2)
 | .store _ a x | .bin _ a x | .beq _ a x | .aeq _ _ a x | .peq _ a x | .mksl _ _ _ a x | .idxAddr _ _ a x | .idx _ _ _ a x | .append _ _ a x => [a, x]
 | .mkfn _ xs | .maxs xs | .mins xs | .mkbf _ xs | .mop _ xs => xs
 | .slice _ _ x lo hi mx => x :: (lo.toList ++ hi.toList ++ mx.toList)
 | .call _ f as => f :: as
def slotsOf : List AOpd → List Nat
 | [] => []
 | .t i :: l => i :: slotsOf l
 | .c _ :: l => slotsOf l
def wF (o : yU) : List Nat := (match o.guard with | some (s, _) => [s] | none => []) ++ slotsOf (aopds o.op)
def cls : AOp → Nat
 | .load .. => 1
 | .slice (some _) .. => 1
 | .alloc _ | .box _ | .buildSl .. | .mksl .. => 2
 | .store .. | .append .. => 3
 | .call q _ _ => if q then 5 else 4
 | .mop (.look ..) _ => 6
 | .mop (.put ..) _ => 7
 | .mop .. => 4
 | _ => 0
def UY : AOpd → List Nat
 | .t i => [i]
 | .c _ => []
def uW : AOp → List Nat
 | .load _ _ x => UY x
 | .slice (some _) _ x _ _ _ => UY x
 | _ => []
def UW : AOpd → Bool
 | .t _ => true
 | .c v => (match v with | .ptr .. | .sl .. | .map _ => false | _ => true)
def refOk : AOp → Bool
 | .load _ _ x => UW x
 | .slice (some _) _ x _ _ _ => UW x
 | .store _ a _ => UW a
 | .append _ _ a _ => UW a
 | _ => true
def uH : AOp → List Nat
 | .store _ a _ => UY a
 | .append _ _ a _ => UY a
 | _ => []
def selfOk (o : yU) : Bool :=
 (match o.dst with | some d => !(uW o.op ++ uH o.op).contains d | none => true) && (!uO o.op || o.dst.isSome) && refOk o.op
def WN (as bs : List Nat) : List (Nat × Nat) := as.flatMap fun a => bs.map fun b => (a, b)
def isApp : AOp → Bool
 | .append .. => true
 | _ => false
def newOk (y : yU) : Bool := y.guard.isNone && y.dst.isSome && (match y.op with | .buildSl _ len _ _ => len != 0 | .box _ | .alloc _ => true | _ => false)
def sepsOf (x y : yU) : Option (List (Nat × Nat)) :=
 let cx := cls x.op
 let cy := cls y.op
 if cx == 4 || cy == 4 || !selfOk x || !selfOk y then none
 else if cx == 0 || cy == 0 then some []
 else if cx == 7 || cy == 7 then none
 else if cx == 6 || cy == 6 then some []
 else if (cx == 1 || cx == 5) && (cy == 1 || cy == 5) then some []
 else if cx == 1 then some (WN (uW x.op) (y.dst.toList ++ uH y.op))
 else if cy == 1 then some (WN (uW y.op) (x.dst.toList ++ uH x.op))
 else if cx == 5 && cy == 2 then some []
 else if cx == 2 && cy == 2 then (if x.dst.isSome && y.dst.isSome then some [] else none)
 else if isApp x.op && x.dst.isSome && newOk y then some (WN (uH x.op) y.dst.toList)
 else none
def apartT (x y : yU) : Bool :=
 (match x.dst with | some d => !(wF y).contains d && y.dst != some d | none => true) &&
 (match y.dst with | some d => !(wF x).contains d | none => true)
theorem kG {l : List AOpd} {i : Nat} (h : AOpd.t i ∈ l) : i ∈ slotsOf l := by
 induction l with
 | nil => cases h
 | cons x l ih =>
   cases h with
   | head => simp [slotsOf]
   | tail _ h => cases x <;> simp [slotsOf, ih h]
theorem YZ {α β : Type} {f g : α → β} {l : List α} (h : ∀ x ∈ l, f x = g x) : l.map f = l.map g := List.map_congr_left h
theorem parts_congr {ρ ρ' : AOpd → AV} {ps : List (Nat × Nat × AOpd)} (h : ∀ x ∈ ps.map (·.2.2), ρ x = ρ' x) : (ps.map fun p => (p.1, p.2.1, ρ p.2.2)) = ps.map fun p => (p.1, p.2.1, ρ' p.2.2) :=
 List.map_congr_left fun p hp => by rw [h p.2.2 (List.mem_map.2 ⟨p, hp, rfl⟩)]
theorem opt_congr {ρ ρ' : AOpd → AV} {x : Option AOpd} (h : ∀ y ∈ x.toList, ρ y = ρ' y) : x.map ρ = x.map ρ' := by
 cases x with
 | none => rfl
 | some y => simp [h y (by simp)]
theorem stepV_congr {op : AOp} {ρ ρ' : AOpd → AV} {h : Hp} {id : Id} (e : ∀ x ∈ aopds op, ρ x = ρ' x) : qL op ρ h id = qL op ρ' h id := by
 cases op <;> simp only [aopds, List.mem_cons, List.not_mem_nil, or_false, forall_eq_or_imp, forall_eq] at e <;> simp only [qL, yQ, qI, qA]
 case build z ps => rw [parts_congr (by simpa using e)]
 case buildSl sz len z ps => rw [parts_congr (by simpa using e)]
 case mkfn f xs => rw [YZ e]
 case maxs xs => rw [YZ e]
 case mkbf f xs => rw [YZ e]
 case mop k xs => rw [YZ e]
 case mins xs => rw [YZ e]
 case slice arr sz x lo hi' mx =>
  obtain ⟨e1, e2⟩ := e
  have l1 := opt_congr (ρ := ρ) (ρ' := ρ') (x := lo) fun y hy => e2 y (by simp [hy])
  have l2 := opt_congr (ρ := ρ) (ρ' := ρ') (x := hi') fun y hy => e2 y (by simp [hy])
  have l3 := opt_congr (ρ := ρ) (ρ' := ρ') (x := mx) fun y hy => e2 y (by simp [hy])
  cases arr <;> simp only [e1, l1, l2, l3]
 all_goals first
  | rfl
  | (simp only [e]; done)
  | (obtain ⟨e1, e2⟩ := e; simp only [e1, e2]; done)
  | (obtain ⟨e1, e2, e3⟩ := e; simp only [e1, e2, e3]; done)
theorem putA_comm {env : Nat → AV} {a b : Option Nat} {u v : AV} (h : ∀ k, a = some k → b ≠ some k) : putA (putA env a u) b v = putA (putA env b v) a u := by
 cases a with
 | none => rfl
 | some i =>
   cases b with
   | none => rfl
   | some j =>
     have hne : i ≠ j := fun e => h i rfl (by rw [e])
     funext k
     simp only [putA, upd]
     by_cases e1 : k = i <;> by_cases e2 : k = j <;> simp [e1, e2]
     · omega
     · intro h'; omega
     · intro h'; omega
section
variable {P : Program}
theorem nextA_mono {x : List AV} {h : Hp} {K K' : AV → Hp → Prop} (hk : ∀ r h, K r h → K' r h) (hn : kF x h K) : kF x h K' := by
 unfold kF at *
 split at hn
 · split at hn
   · split at hn
     · exact ⟨hn.1, fun h => hk _ _ (hn.2.1 h), fun p e h1 h2 => hk _ _ (hn.2.2 p e h1 h2)⟩
     · exact hn.elim
   · exact hn.elim
 · exact hn.elim
theorem UP {o : yU} {K K' : St → Prop} {σ : St} (hk : ∀ σ, K σ → K' σ) (h : qE P o K σ) : qE P o K' σ := by
 unfold qE at *
 rw [WG] at *
 split at h
 · exact h.elim
 · unfold yT at *
   split at h
   · unfold callA at *
     split at h
     · split at h
       · rename_i hq
         simp only [hq, if_true]
         obtain ⟨r, h1, h2⟩ := h
         exact ⟨r, h1, hk _ h2⟩
       · rename_i hq
         simp only [hq, Bool.false_eq_true, if_false]
         exact HC.mono h fun r h' hx hf => hk _ (hx hf)
     · split at h
       · exact h.elim
       · rename_i hq
         simp only [hq, Bool.false_eq_true, if_false]
         exact HC.mono h fun r h' hx hf => hk _ (hx hf)
     · exact h.elim
   · exact nextA_mono (fun r h' hx => hk _ hx) h
   · unfold ob at *
     split at h
     · exact hk _ h
     · exact h.elim
 · exact hk _ h
def Ef (P : Program) (o : yU) (env : Nat → AV) (h : Hp) (r : AV) (h' : Hp) : Prop :=
 match YB o env with
 | none => False
 | some false => r = .tup [] ∧ h' = h
 | some true =>
   match o.op with
   | .call q f args => q = true ∧ (∃ g caps, evA env f = .fn g caps ∧ QCall P g (args.map (evA env) ++ caps) h r) ∧ h' = h
   | op => qL op (evA env) h (h.ep, o.dst.getD 0) = some (r, h')
theorem Ef.awp {o : yU} {K : St → Prop} {σ : St} (hcl : cls o.op ≠ 4) : qE P o K σ ↔ ∃ r h', Ef P o σ.env σ.h r h' ∧ K ⟨putA σ.env o.dst r, h'⟩ := by
 obtain ⟨dst, op, g⟩ := o
 simp only at hcl
 unfold qE Ef
 rw [WG]
 cases hw : YB ⟨dst, op, g⟩ σ.env with
 | none => simp
 | some b =>
   cases b with
   | false => exact ⟨fun h => ⟨_, _, ⟨rfl, rfl⟩, h⟩, fun ⟨r, h', ⟨e1, e2⟩, h⟩ => by rw [e1, e2] at h; exact h⟩
   | true =>
     simp only [yT]
     cases op
     case call q f args =>
      simp only [callA]
      have hq : q = true := by
       cases q with
       | true => rfl
       | false => simp [cls] at hcl
      subst hq
      cases hf : evA σ.env f <;> simp
      rename_i g' caps
      constructor
      · rintro ⟨r, h1, h2⟩
        exact ⟨r, σ.h, ⟨⟨_, _, ⟨rfl, rfl⟩, h1⟩, rfl⟩, h2⟩
      · rintro ⟨r, h', ⟨⟨_, _, ⟨rfl, rfl⟩, h1⟩, rfl⟩, h2⟩
        exact ⟨r, h1, h2⟩
     case mop k xs =>
      cases k
      case look g ls sz z =>
       simp only [ob]
       constructor
       · intro h
         split at h
         · rename_i x hs
           obtain ⟨r, h'⟩ := x
           exact ⟨r, h', hs, h⟩
         · exact h.elim
       · rintro ⟨r, h', hs, hk⟩
         rw [hs]
         exact hk
      case put g ls sz =>
       simp only [ob]
       constructor
       · intro h
         split at h
         · rename_i x hs
           obtain ⟨r, h'⟩ := x
           exact ⟨r, h', hs, h⟩
         · exact h.elim
       · rintro ⟨r, h', hs, hk⟩
         rw [hs]
         exact hk
      all_goals exact absurd rfl hcl
     all_goals
      simp only [ob]
      constructor
      · intro h
        split at h
        · rename_i x hs
          obtain ⟨r, h'⟩ := x
          exact ⟨r, h', hs, h⟩
        · exact h.elim
      · rintro ⟨r, h', hs, hk⟩
        rw [hs]
        exact hk
theorem wantedA_congr {o : yU} {env env' : Nat → AV} (h : ∀ s ∈ wF o, env s = env' s) : YB o env = YB o env' := by
 unfold YB
 cases hg : o.guard with
 | none => rfl
 | some p =>
   obtain ⟨s, w⟩ := p
   have := h s (by simp [wF, hg])
   simp only [this]
theorem Ef.congr {o : yU} {env env' : Nat → AV} {h h' : Hp} {r : AV} (e : ∀ s ∈ wF o, env s = env' s) (hh : Ef P o env h r h') : Ef P o env' h r h' := by
 have hev : ∀ x ∈ aopds o.op, evA env x = evA env' x := fun x hx => by
  cases x with
  | c v => rfl
  | t i => exact e i (by simp [wF, kG hx])
 obtain ⟨dst, op, g⟩ := o
 unfold Ef at *
 rw [← wantedA_congr e]
 cases hw : YB ⟨dst, op, g⟩ env with
 | none => rw [hw] at hh; exact hh
 | some b =>
   rw [hw] at hh
   cases b with
   | false => exact hh
   | true =>
     simp only at hev hh ⊢
     cases op
     case call q f args =>
      simp only [aopds] at hev
      have h1 := hev f (by simp)
      have h2 : args.map (evA env') = args.map (evA env) := YZ fun x hx => (hev x (by simp [hx])).symm
      simp only [← h1, h2]
      exact hh
     all_goals
      simp only at hh ⊢
      rw [← stepV_congr hev]
      exact hh
theorem Ef.cls0 {o : yU} {env : Nat → AV} {h h' : Hp} {r : AV} (hc : cls o.op = 0) (hh : Ef P o env h r h') : h' = h ∧ ∀ h2, Ef P o env h2 r h2 := by
 obtain ⟨dst, op, g⟩ := o
 unfold Ef at *
 cases hw : YB ⟨dst, op, g⟩ env with
 | none => rw [hw] at hh; exact hh.elim
 | some b =>
   rw [hw] at hh
   cases b with
   | false => exact ⟨hh.2, fun h2 => ⟨hh.1, rfl⟩⟩
   | true =>
     simp only at hc hh ⊢
     cases op <;> simp only [cls] at hc <;> try (simp at hc; done)
     case slice arr sz x lo hi' mx =>
      cases arr with
      | some n => simp at hc
      | none =>
        simp only [qL, qI, qA] at hh ⊢
        split at hh
        · rename_i r' hp
          cases hh
          exact ⟨rfl, fun h2 => rfl⟩
        · cases hh
     case call q f args => split at hc <;> simp at hc
     case mop k xs => cases k <;> simp at hc
     all_goals
      simp only [qL, qI, qA] at hh ⊢
      split at hh
      · rename_i r' hp
        cases hh
        exact ⟨rfl, fun h2 => rfl⟩
      · cases hh
theorem const_id {v : AV} (h : UW (.c v) = true) : idOf v = none := by
 cases v <;> first | rfl | simp [UW] at h
theorem Ef.cls1 {o : yU} {env : Nat → AV} {h h' : Hp} {r : AV} (hc : cls o.op = 1) (hro : refOk o.op = true) (hh : Ef P o env h r h') :
 h' = h ∧ ∀ h2 : Hp, (∀ s ∈ uW o.op, ∀ id, idOf (env s) = some id → h2.hp id = h.hp id) → Ef P o env h2 r h2 := by
 obtain ⟨dst, op, g⟩ := o
 unfold Ef at *
 cases hw : YB ⟨dst, op, g⟩ env with
 | none => rw [hw] at hh; exact hh.elim
 | some b =>
   rw [hw] at hh
   cases b with
   | false => exact ⟨hh.2, fun h2 _ => ⟨hh.1, rfl⟩⟩
   | true =>
     simp only at hc hro hh ⊢
     have at_ : ∀ (x : AOpd) (h2 : Hp) (id : Id) (off : Nat), UW x = true → (∀ s ∈ UY x, ∀ id, idOf (env s) = some id → h2.hp id = h.hp id) → evA env x = .ptr id off → h2.hp id = h.hp id := fun x h2 id off hco hs he => by
      cases x with
      | c v =>
        have := const_id hco
        simp only [evA] at he
        rw [he] at this
        simp [idOf] at this
      | t i => exact hs i (by simp [UY]) id (by simp only [evA] at he; rw [he]; rfl)
     cases op <;> simp only [cls] at hc <;> try (simp at hc; done)
     case call q f args => split at hc <;> simp at hc
     case mop k xs => cases k <;> simp at hc
     case load a n x =>
      simp only [qL, yQ, qA, uW] at hh ⊢
      split at hh
      · rename_i r' hp
        cases hh
        refine ⟨rfl, fun h2 hs => ?_⟩
        have : qI (.load a n x) (evA env) h2 = some r := by
         simp only [qI] at hp ⊢
         split at hp
         · rename_i id off e
           rw [at_ x h2 id off hro hs e]
           exact hp
         · exact hp
         · cases hp
        rw [this]
      · cases hh
     case slice arr sz x lo hi' mx =>
      cases arr with
      | none => simp at hc
      | some n =>
        simp only [qL, yQ, qA, uW] at hh ⊢
        split at hh
        · rename_i r' hp
          cases hh
          refine ⟨rfl, fun h2 hs => ?_⟩
          have : qI (.slice (some n) sz x lo hi' mx) (evA env) h2 = some r := by
           simp only [qI] at hp ⊢
           split at hp
           · rename_i id off e
             rw [at_ x h2 id off hro hs e]
             exact hp
           · cases hp
          rw [this]
        · cases hh
theorem lend_put {h h2 : Hp} (hs : ∀ id blk, h.hp id = some blk → h2.hp id = some blk) : ∀ (d : Nat) (a a' : AV), lend d h a = some a' → lend d h2 a = some a'
 | 0, a, a', e => by simpa [lend] using e
 | d + 1, a, a', e => by
   have ih := lend_put hs d
   have lst : ∀ (xs ys : List AV), mapO (lend d h) xs = some ys → mapO (lend d h2) xs = some ys := by
    intro xs
    induction xs with
    | nil => intro ys hy; simpa [mapO] using hy
    | cons x xs ih2 =>
      intro ys hy
      simp only [mapO] at hy ⊢
      split at hy
      · rename_i y zs h1 h2
        rw [ih _ _ h1, ih2 _ h2]
        exact hy
      · cases hy
   simp only [lend] at e ⊢
   split
   · rename_i hi; rw [if_pos hi] at e; exact e
   · rename_i hi
     rw [if_neg hi] at e
     split at e
     · simp only [oM] at e ⊢
       obtain ⟨cs, h1, h2⟩ := e
       exact ⟨cs, lst _ _ h1, h2⟩
     · simp only [oM] at e ⊢
       obtain ⟨cs, h1, h2⟩ := e
       exact ⟨cs, lst _ _ h1, h2⟩
     · simp only [oM] at e ⊢
       obtain ⟨cs, h1, h2⟩ := e
       exact ⟨cs, lst _ _ h1, h2⟩
     · split at e
       · rename_i blk hb
         simp only [hs _ _ hb]
         split
         · rename_i h0; rw [if_pos h0] at e; exact e
         · rename_i h0
           rw [if_neg h0] at e
           split
           · rename_i h1
             rw [if_pos h1] at e
             simp only [oM] at e ⊢
             obtain ⟨cs, h2, h3⟩ := e
             exact ⟨cs, lst _ _ h2, h3⟩
           · rename_i h1; rw [if_neg h1] at e; cases e
       · cases e
     · split at e
       · rename_i blk hb
         simp only [hs _ _ hb]
         simp only [oM] at e ⊢
         obtain ⟨cs, h2, h3⟩ := e
         exact ⟨cs, lst _ _ h2, h3⟩
       · cases e
     · cases e
theorem mapO_lend_put {h h2 : Hp} (hs : ∀ id blk, h.hp id = some blk → h2.hp id = some blk) {d : Nat} : ∀ {xs ys : List AV}, mapO (lend d h) xs = some ys → mapO (lend d h2) xs = some ys
 | [], ys, e => by simpa [mapO] using e
 | x :: xs, ys, e => by
   simp only [mapO] at e ⊢
   split at e
   · rename_i y zs h1 h2
     rw [lend_put hs _ _ _ h1, mapO_lend_put hs h2]
     exact e
   · cases e
theorem Ef.cls6 {o : yU} {env : Nat → AV} {h h' : Hp} {r : AV} (hc : cls o.op = 6) (hh : Ef P o env h r h') :
 h' = h ∧ ∀ h2 : Hp, h2.mp = h.mp → Ef P o env h2 r h2 := by
 obtain ⟨dst, op, g⟩ := o
 unfold Ef at *
 cases hw : YB ⟨dst, op, g⟩ env with
 | none => rw [hw] at hh; exact hh.elim
 | some b =>
   rw [hw] at hh
   cases b with
   | false => exact ⟨hh.2, fun h2 _ => ⟨hh.1, rfl⟩⟩
   | true =>
     simp only at hc hh ⊢
     cases op <;> simp only [cls] at hc <;> try (simp at hc; done)
     case slice arr sz x lo hi' mx => cases arr <;> simp at hc
     case call q f args => split at hc <;> simp at hc
     case mop k xs =>
      cases k <;> simp only [cls] at hc <;> try (simp at hc; done)
      rename_i g' ls sz z
      simp only [qL, yQ, qI, qA] at hh ⊢
      unfold mopV at hh ⊢
      split at hh
      · rename_i e _; cases e
      · split at hh
        · rename_i es hes
          simp only [oB] at hh
          obtain ⟨ks, p1, r', p2, p3⟩ := hh
          cases r' with
          | none =>
            simp only [oI, Prod.mk.injEq] at p3
            obtain ⟨rfl, rfl⟩ := p3
            exact ⟨rfl, fun h2 hm => by simp only [hm, hes, p1, p2, Option.bind_some]⟩
          | some i =>
            simp only [oM, Prod.mk.injEq] at p3
            obtain ⟨e, p4, rfl, rfl⟩ := p3
            exact ⟨rfl, fun h2 hm => by simp only [hm, hes, p1, p2, Option.bind_some, p4, Option.map_some]⟩
        · cases hh
      · rename_i e _; cases e
      · rename_i e _; cases e
      · rename_i e _; cases e
      · cases hh
theorem Ef.maps {o : yU} {env : Nat → AV} {h h' : Hp} {r : AV} (hc : cls o.op ≠ 4) (hc7 : cls o.op ≠ 7) (hh : Ef P o env h r h') : h'.mp = h.mp := by
 obtain ⟨dst, op, g⟩ := o
 unfold Ef at hh
 cases hw : YB ⟨dst, op, g⟩ env with
 | none => rw [hw] at hh; exact hh.elim
 | some b =>
   rw [hw] at hh
   cases b with
   | false => rw [hh.2]
   | true =>
     simp only at hc hc7 hh
     cases op
     case call q f args => rw [hh.2.2]
     case mop k xs =>
      cases k
      case look g' ls sz z =>
       have := (Ef.cls6 (P := P) (o := ⟨dst, .mop (.look g' ls sz z) xs, none⟩) (env := env) (h := h) (h' := h') (r := r) rfl (by unfold Ef; simpa [YB] using hh)).1
       rw [this]
      case put => exact absurd rfl hc7
      all_goals exact absurd rfl hc
     all_goals
      simp only [qL] at hh
      split at hh
      · cases hh; rfl
      · split at hh
        · cases hh; rfl
        · simp only [qA] at hh
          repeat' split at hh
          all_goals first
           | (cases hh; rfl)
           | (cases hh; done)
           | (simp only [oM, Prod.mk.injEq] at hh; obtain ⟨_, _, _, rfl⟩ := hh; rfl)
           | (simp only [oM] at hh; obtain ⟨_, _, hh⟩ := hh; split at hh <;> cases hh <;> rfl)
theorem Ef.cls5 {o : yU} {env : Nat → AV} {h h' : Hp} {r : AV} (hc : cls o.op = 5) (hh : Ef P o env h r h') :
 h' = h ∧ ∀ h2 : Hp, (∀ id blk, h.hp id = some blk → h2.hp id = some blk) → Ef P o env h2 r h2 := by
 obtain ⟨dst, op, g⟩ := o
 unfold Ef at *
 cases hw : YB ⟨dst, op, g⟩ env with
 | none => rw [hw] at hh; exact hh.elim
 | some b =>
   rw [hw] at hh
   cases b with
   | false => exact ⟨hh.2, fun h2 _ => ⟨hh.1, rfl⟩⟩
   | true =>
     simp only at hc hh ⊢
     cases op <;> simp only [cls] at hc <;> try (simp at hc; done)
     case slice arr sz x lo hi' mx => cases arr <;> simp at hc
     case mop k xs => cases k <;> simp at hc
     case call q f args =>
      obtain ⟨h1, ⟨g', caps, h2, args', h3, h4⟩, h6⟩ := hh
      exact ⟨h6, fun h2' hs => ⟨h1, ⟨g', caps, h2, args', mapO_lend_put hs h3, h4⟩, trivial⟩⟩
theorem Ef.cls2 {o : yU} {env : Nat → AV} {h h' : Hp} {r : AV} (hc : cls o.op = 2) (hh : Ef P o env h r h') :
 (h' = h ∧ ∀ g : Hp, g.ep = h.ep → ((g.hp (h.ep, o.dst.getD 0)).isNone = true ∨ (h.hp (h.ep, o.dst.getD 0)).isNone = false) → Ef P o env g r g) ∨
 ((h.hp (h.ep, o.dst.getD 0)).isNone = true ∧ idOf r = some (h.ep, o.dst.getD 0) ∧ ∃ cells, h' = h.push (h.ep, o.dst.getD 0) cells ∧ ∀ g : Hp, g.ep = h.ep → (g.hp (h.ep, o.dst.getD 0)).isNone = true → Ef P o env g r (g.push (h.ep, o.dst.getD 0) cells)) := by
 obtain ⟨dst, op, g⟩ := o
 unfold Ef at *
 cases hw : YB ⟨dst, op, g⟩ env with
 | none => rw [hw] at hh; exact hh.elim
 | some b =>
   rw [hw] at hh
   cases b with
   | false => exact .inl ⟨hh.2, fun g _ _ => ⟨hh.1, rfl⟩⟩
   | true =>
     simp only at hc hh ⊢
     cases op <;> simp only [cls] at hc <;> try (simp at hc; done)
     case slice arr sz x lo hi' mx => cases arr <;> simp at hc
     case call q f args => split at hc <;> simp at hc
     case mop k xs => cases k <;> simp at hc
     case alloc z =>
      simp only [qL, yQ, qI, qA] at hh ⊢
      split at hh
      · rename_i hn
        simp only [oI, Prod.mk.injEq] at hh
        obtain ⟨rfl, rfl⟩ := hh
        exact .inr ⟨hn, rfl, _, rfl, fun g he hg => by rw [he, if_pos hg]⟩
      · cases hh
     case box x =>
      simp only [qL, yQ, qI, qA] at hh ⊢
      split at hh
      · rename_i hn
        simp only [oM, Prod.mk.injEq] at hh
        obtain ⟨cs, h1, rfl, rfl⟩ := hh
        exact .inr ⟨hn, rfl, _, rfl, fun g he hg => by rw [he, if_pos hg, h1]; rfl⟩
      · cases hh
     case buildSl sz len z ps =>
      simp only [qL, yQ, qI, qA] at hh ⊢
      split at hh
      · rename_i hn
        simp only [oM] at hh
        obtain ⟨cs, h1, e⟩ := hh
        split at e
        · rename_i h0
          cases e
          exact .inl ⟨rfl, fun g he hg => by
           rcases hg with hg | hg
           · rw [he, if_pos hg, h1]; simp [h0]
           · rw [hn] at hg; cases hg⟩
        · rename_i h0
          cases e
          exact .inr ⟨hn, rfl, _, rfl, fun g he hg => by rw [he, if_pos hg, h1]; simp [h0]⟩
      · cases hh
     case mksl =>
      simp only [qL, yQ, qI, qA] at hh ⊢
      split at hh
      · rename_i k1 ln k2 cn e1 e2
        split at hh
        · rename_i hcond
          simp only [oI, Prod.mk.injEq] at hh
          obtain ⟨rfl, rfl⟩ := hh
          exact .inr ⟨hcond.1, rfl, _, rfl, fun g he hg => by rw [he, if_pos ⟨hg, hcond.2⟩]⟩
        · cases hh
      · cases hh
theorem Ef.new {o : yU} {env : Nat → AV} {h h' : Hp} {r : AV} (hn : newOk o = true) (hh : Ef P o env h r h') :
 (h.hp (h.ep, o.dst.getD 0)).isNone = true ∧ idOf r = some (h.ep, o.dst.getD 0) ∧ ∃ cells, h' = h.push (h.ep, o.dst.getD 0) cells ∧ ∀ g : Hp, g.ep = h.ep → (g.hp (h.ep, o.dst.getD 0)).isNone = true → Ef P o env g r (g.push (h.ep, o.dst.getD 0) cells) := by
 obtain ⟨dst, op, g⟩ := o
 simp only [newOk, Bool.and_eq_true] at hn
 obtain ⟨⟨hg, hd⟩, hop⟩ := hn
 have hg' : g = none := by cases g <;> simp_all
 subst hg'
 unfold Ef at *
 simp only [YB] at hh ⊢
 cases op <;> simp only at hop <;> try (simp at hop; done)
 case alloc z =>
  simp only [qL, yQ, qI, qA] at hh ⊢
  split at hh
  · rename_i hn
    simp only [oI, Prod.mk.injEq] at hh
    obtain ⟨rfl, rfl⟩ := hh
    exact ⟨hn, rfl, _, rfl, fun g he hg => by rw [he, if_pos hg]⟩
  · cases hh
 case box x =>
  simp only [qL, yQ, qI, qA] at hh ⊢
  split at hh
  · rename_i hn
    simp only [oM, Prod.mk.injEq] at hh
    obtain ⟨cs, h1, rfl, rfl⟩ := hh
    exact ⟨hn, rfl, _, rfl, fun g he hg => by rw [he, if_pos hg, h1]; rfl⟩
  · cases hh
 case buildSl sz len z ps =>
  have h0 : ¬ len = 0 := by simpa using hop
  simp only [qL, yQ, qI, qA] at hh ⊢
  split at hh
  · rename_i hn
    simp only [oM] at hh
    obtain ⟨cs, h1, e⟩ := hh
    (try rw [if_neg h0] at e)
    cases e
    exact ⟨hn, rfl, _, rfl, fun g he hg => by rw [he, if_pos hg, h1]; simp [h0]⟩
  · cases hh
theorem Ef.app {o : yU} {env : Nat → AV} {h h' : Hp} {r : AV} (ha : isApp o.op = true) (hh : Ef P o env h r h') {id : Id} {cells : List AV} (hn : h.hp id = none) (hid : id ≠ (h.ep, o.dst.getD 0)) :
 Ef P o env (h.push id cells) r (h'.push id cells) ∧ h'.ep = h.ep ∧ (idOf r ≠ some id) := by
 obtain ⟨dst, op, g⟩ := o
 cases op <;> simp only [isApp] at ha <;> try (cases ha; done)
 rename_i sz bytes s v
 unfold Ef at *
 cases hw : YB ⟨dst, .append sz bytes s v, g⟩ env with
 | none => rw [hw] at hh; exact hh.elim
 | some b =>
   rw [hw] at hh
   cases b with
   | false => obtain ⟨rfl, rfl⟩ := hh; exact ⟨⟨rfl, rfl⟩, rfl, by simp [idOf]⟩
   | true =>
     simp only [qL, yQ, qI, qA] at hh ⊢
     simp only at hid
     have alive : ∀ t blk, h.hp t = some blk → (h.push id cells).hp t = some blk := fun t blk ht => by
      simp only [Hp.push]
      rw [qF _ _ fun e => by rw [e, hn] at ht; cases ht]
      exact ht
     split at hh
     · cases hh
     · rename_i n new hsrc
       have hsrc' : UR (h.push id cells) sz (evA env v) = some (n, new) := by
        revert hsrc
        cases evA env v <;> simp only [UR] <;> try (intro h; exact h)
        rename_i t off len sz'
        split
        · intro h1
          split at h1
          · rename_i blk hb
            rw [alive _ _ hb]
            exact h1
          · cases h1
        · intro h; exact h
       rw [hsrc']
       simp only
       split at hh
       · rename_i hs
         (try rw [hs])
         (try simp only)
         split at hh
         · rename_i h0
           cases hh
           exact ⟨by rw [if_pos h0], rfl, by simp [idOf]⟩
         · rename_i h0
           split at hh
           · rename_i h1
             cases hh
             refine ⟨?_, rfl, by simp only [idOf, ne_eq, oI]; exact fun e => hid e.symm⟩
             rw [if_neg h0, if_pos h1]
             simp only [Hp.push]
             rw [upd_comm _ _ _ hid]
           · cases hh
       · rename_i t off len sz' hs
         (try rw [hs])
         (try simp only)
         split at hh
         · rename_i blk hb
           rw [alive _ _ hb]
           (try simp only)
           split at hh
           · rename_i h1
             cases hh
             refine ⟨?_, rfl, by simp only [idOf, ne_eq, oI]; exact fun e => hid e.symm⟩
             rw [if_pos h1]
             have htid : id ≠ t := fun e => by rw [← e, hn] at hb; cases hb
             simp only [Hp.push, Hp.kill]
             rw [upd_comm h.hp _ _ htid, upd_comm _ _ _ hid]
           · cases hh
         · cases hh
       · cases hh
theorem Ef.ep3 {o : yU} {env : Nat → AV} {h h' : Hp} {r : AV} (ha : isApp o.op = true) (hh : Ef P o env h r h') : h'.ep = h.ep := by
 obtain ⟨dst, op, g⟩ := o
 cases op <;> simp only [isApp] at ha <;> try (cases ha; done)
 unfold Ef at hh
 split at hh
 · exact hh.elim
 · rw [hh.2]
 · simp only [qL, yQ, qI, qA] at hh
   repeat' split at hh
   all_goals first | (cases hh; rfl) | cases hh
theorem Ef.app_id {o : yU} {env : Nat → AV} {h h' : Hp} {r : AV} (ha : isApp o.op = true) (hh : Ef P o env h r h') {id : Id} (hid : id ≠ (h.ep, o.dst.getD 0)) : idOf r ≠ some id := by
 obtain ⟨dst, op, g⟩ := o
 cases op <;> simp only [isApp] at ha <;> try (cases ha; done)
 unfold Ef at hh
 split at hh
 · exact hh.elim
 · rw [hh.1]; simp [idOf]
 · simp only [qL, yQ, qI, qA] at hh
   repeat' split at hh
   all_goals first | (cases hh; simp [idOf]; done) | (cases hh; simp only [idOf, ne_eq, oI]; exact fun e => hid e.symm) | cases hh
theorem Ef.other {o : yU} {env : Nat → AV} {h h' : Hp} {r : AV} (hc : cls o.op = 2 ∨ cls o.op = 3) (hro : refOk o.op = true) (hh : Ef P o env h r h') {id : Id} (h1 : idOf r ≠ some id) (h2 : ∀ s ∈ uH o.op, idOf (env s) ≠ some id) : h'.hp id = h.hp id := by
 rcases hc with hc | hc
 · rcases Ef.cls2 hc hh with ⟨rfl, _⟩ | ⟨_, h3, cells, rfl, _⟩
   · rfl
   · rw [h3] at h1
     simp only [Hp.push]
     exact qF _ _ fun e => h1 (by rw [e])
 · obtain ⟨dst, op, g⟩ := o
   unfold Ef at *
   cases hw : YB ⟨dst, op, g⟩ env with
   | none => rw [hw] at hh; exact hh.elim
   | some b =>
     rw [hw] at hh
     cases b with
     | false => rw [hh.2]
     | true =>
       simp only at hc hro hh h2
       have tg : ∀ (x : AOpd) (v : AV) (j : Id), UW x = true → (∀ s ∈ UY x, idOf (env s) ≠ some id) → evA env x = v → idOf v = some j → j ≠ id := fun x v j hco hs he hj e => by
        subst e
        cases x with
        | c u =>
          have := const_id hco
          simp only [evA] at he
          rw [he, hj] at this
          cases this
        | t i => exact hs i (by simp [UY]) (by simp only [evA] at he; rw [he]; exact hj)
       cases op <;> simp only [cls] at hc <;> try (simp at hc; done)
       case slice arr sz x lo hi' mx => cases arr <;> simp at hc
       case call q f args => split at hc <;> simp at hc
       case mop k xs => cases k <;> simp at hc
       case store n a x =>
        simp only [qL, yQ, qI, qA, refOk, uH] at hh hro h2
        split at hh
        · rename_i t off e
          split at hh
          · split at hh
            · split at hh
              · cases hh
                simp only [Hp.put]
                exact qF _ _ fun e' => tg a _ t hro h2 e rfl e'.symm
              · cases hh
            · cases hh
          · cases hh
        · cases hh
       case append sz bytes s x =>
        simp only [qL, yQ, qI, qA, refOk, uH] at hh hro h2
        split at hh
        · cases hh
        · split at hh
          · split at hh
            · cases hh; rfl
            · split at hh
              · cases hh
                simp only [Hp.push]
                exact qF _ _ fun e' => h1 (by rw [e']; rfl)
              · cases hh
          · rename_i t off len sz' e
            split at hh
            · split at hh
              · cases hh
                simp only [Hp.push, Hp.kill]
                rw [qF _ _ fun e' => h1 (by rw [e']; rfl)]
                exact qF _ _ fun e' => tg s _ t hro h2 e rfl e'.symm
              · cases hh
            · cases hh
          · cases hh
end
section
variable {P : Program}
theorem put_reads {o : yU} {env : Nat → AV} {d : Option Nat} {v : AV} (h : ∀ k, d = some k → k ∉ wF o) : ∀ s ∈ wF o, putA env d v s = env s := by
 intro s hs
 cases d with
 | none => rfl
 | some k =>
   have : s ≠ k := fun e => h k rfl (e ▸ hs)
   simp [putA, upd, this]
theorem apart_spec {x y : yU} (h : apartT x y = true) : (∀ d, x.dst = some d → d ∉ wF y) ∧ (∀ d, x.dst = some d → y.dst ≠ some d) ∧ (∀ d, y.dst = some d → d ∉ wF x) := by
 simp only [apartT, Bool.and_eq_true] at h
 obtain ⟨h1, h2⟩ := h
 refine ⟨fun d hd => ?_, fun d hd => ?_, fun d hd => ?_⟩
 · rw [hd] at h1; simp at h1; exact h1.1
 · rw [hd] at h1; simp at h1; exact h1.2
 · rw [hd] at h2; simpa using h2
theorem UE {o : yU} {s : Nat} (h : s ∈ uW o.op ∨ s ∈ uH o.op) : s ∈ wF o := by
 have sl : ∀ (x : AOpd) (s : Nat), s ∈ UY x → x = .t s := fun x s h => by cases x <;> simp [UY] at h; rw [h]
 unfold wF
 refine List.mem_append.2 (.inr ?_)
 rcases h with h | h
 · obtain ⟨dst, op, g⟩ := o
   cases op <;> simp only [uW, List.not_mem_nil] at h
   case load => exact kG (by rw [sl _ _ h]; simp [aopds])
   case slice arr sz x lo hi' mx =>
    cases arr <;> simp only [List.not_mem_nil] at h
    exact kG (by rw [sl _ _ h]; simp [aopds])
 · obtain ⟨dst, op, g⟩ := o
   cases op <;> simp only [uH, List.not_mem_nil] at h
   case store => exact kG (by rw [sl _ _ h]; simp [aopds])
   case append => exact kG (by rw [sl _ _ h]; simp [aopds])
theorem sepV_ne {x y : AV} {i : Id} (h : sepV x y) (hx : idOf x = some i) : idOf y ≠ some i := by
 intro hy
 simp only [sepV, hx, hy] at h
 exact h rfl
set_option maxHeartbeats 1000000 in
theorem comm {x y : yU} (ha : apartT x y = true) {l : List (Nat × Nat)} (hs : sepsOf x y = some l) {env : Nat → AV} {h h1 h2 : Hp} {r1 r2 : AV} (e1 : Ef P x env h r1 h1) (e2 : Ef P y (putA env x.dst r1) h1 r2 h2)
 (hsep : ∀ p ∈ l, sepV (putA (putA env x.dst r1) y.dst r2 p.1) (putA (putA env x.dst r1) y.dst r2 p.2)) :
 ∃ hm, Ef P y env h r2 hm ∧ Ef P x (putA env y.dst r2) hm r1 h2 ∧ putA (putA env x.dst r1) y.dst r2 = putA (putA env y.dst r2) x.dst r1 := by
 obtain ⟨p1, p2, p3⟩ := apart_spec ha
 have e2' : Ef P y env h1 r2 h2 := Ef.congr (put_reads p1) e2
 have fin : ∀ {hm : Hp}, Ef P y env h r2 hm → Ef P x env hm r1 h2 → ∃ hm, Ef P y env h r2 hm ∧ Ef P x (putA env y.dst r2) hm r1 h2 ∧ putA (putA env x.dst r1) y.dst r2 = putA (putA env y.dst r2) x.dst r1 := fun {hm} a1 a2 =>
  ⟨hm, a1, Ef.congr (fun s hs => (put_reads p3 s hs).symm) a2, putA_comm p2⟩
 -- slots of operands hold at the end what they held
 have hx2 : ∀ s, s ∈ wF x → x.dst ≠ some s → putA (putA env x.dst r1) y.dst r2 s = env s := fun s hs hd => by
  have n2 : ∀ d, y.dst = some d → s ≠ d := fun d hd' e => p3 d hd' (e ▸ hs)
  have n1 : ∀ d, x.dst = some d → s ≠ d := fun d hd' e => hd (by rw [hd', e])
  cases hxd : x.dst with
  | none => cases hyd : y.dst with
    | none => rfl
    | some d => simp only [putA]; exact qF _ _ (n2 d hyd)
  | some d => cases hyd : y.dst with
    | none => simp only [putA]; exact qF _ _ (n1 d hxd)
    | some d' => simp only [putA]; rw [qF _ _ (n2 d' hyd)]; exact qF _ _ (n1 d hxd)
 have hy2 : ∀ s, s ∈ wF y → y.dst ≠ some s → putA (putA env x.dst r1) y.dst r2 s = env s := fun s hs hd => by
  have n1 : ∀ d, x.dst = some d → s ≠ d := fun d hd' e => p1 d hd' (e ▸ hs)
  have n2 : ∀ d, y.dst = some d → s ≠ d := fun d hd' e => hd (by rw [hd', e])
  cases hxd : x.dst with
  | none => cases hyd : y.dst with
    | none => rfl
    | some d => simp only [putA]; exact qF _ _ (n2 d hyd)
  | some d => cases hyd : y.dst with
    | none => simp only [putA]; exact qF _ _ (n1 d hxd)
    | some d' => simp only [putA]; rw [qF _ _ (n2 d' hyd)]; exact qF _ _ (n1 d hxd)
 have rx : ∀ d, x.dst = some d → putA (putA env x.dst r1) y.dst r2 d = r1 := fun d hd => by
  have n : ∀ d', y.dst = some d' → d ≠ d' := fun d' hd' e => p2 d hd (by rw [hd', e])
  cases hyd : y.dst with
  | none => rw [hd]; simp [putA]
  | some d' => rw [hd]; simp only [putA]; rw [qF _ _ (n d' hyd)]; simp
 have ry : ∀ d, y.dst = some d → putA (putA env x.dst r1) y.dst r2 d = r2 := fun d hd => by rw [hd]; simp [putA]
 unfold sepsOf at hs
 simp only at hs
 split at hs
 · cases hs
 rename_i hno
 simp only [Bool.or_eq_true, beq_iff_eq, Bool.not_eq_true', not_or] at hno
 obtain ⟨⟨⟨hx4, hy4⟩, hsx⟩, hsy⟩ := hno
 have self : ∀ (o : yU), ¬ selfOk o = false → (∀ s ∈ uW o.op ++ uH o.op, o.dst ≠ some s) ∧ (uO o.op = true → o.dst.isSome = true) ∧ refOk o.op = true := fun o ho => by
  have ho : selfOk o = true := by cases h : selfOk o <;> simp_all
  simp only [selfOk, Bool.and_eq_true] at ho
  obtain ⟨⟨h1, h2⟩, h3⟩ := ho
  refine ⟨fun s hs hd => ?_, fun hm => by rw [hm] at h2; simpa using h2, h3⟩
  rw [hd] at h1
  simp at h1
  simp at hs
  rcases hs with hs | hs
  · exact h1.1 hs
  · exact h1.2 hs
 obtain ⟨sx1, sx2, sx3⟩ := self x hsx
 obtain ⟨sy1, sy2, sy3⟩ := self y hsy
 -- a result that no slot takes is no reference
 have nores : ∀ (o : yU) (env : Nat → AV) (h h' : Hp) (r : AV), cls o.op = 2 ∨ cls o.op = 3 → (uO o.op = true → o.dst.isSome = true) → Ef P o env h r h' → o.dst = none → idOf r = none := fun o env h h' r hc hm he hd => by
  obtain ⟨dst, op, g⟩ := o
  simp only at hc hm hd
  subst hd
  cases op
  case store n a x =>
   unfold Ef at he
   split at he
   · exact he.elim
   · rw [he.1]; rfl
   · simp only [qL, yQ, qI, qA] at he
     split at he
     · split at he
       · split at he
         · split at he
           · cases he; rfl
           · cases he
         · cases he
       · cases he
     · cases he
  case slice arr _ _ _ _ _ => cases arr <;> simp [cls] at hc
  case call q _ _ => cases q <;> simp [cls] at hc
  case mop k _ => cases k <;> simp [cls] at hc
  all_goals first
   | (exfalso; rcases hc with hc | hc <;> (simp only [cls] at hc; cases hc); done)
   | (simp [uO] at hm; done)
 split at hs
 · rename_i h0
   simp only [Bool.or_eq_true, beq_iff_eq] at h0
   rcases h0 with h0 | h0
   · obtain ⟨rfl, hall⟩ := Ef.cls0 h0 e1
     exact fin e2' (hall h2)
   · obtain ⟨rfl, hall⟩ := Ef.cls0 h0 e2'
     exact fin (hall h) e1
 split at hs
 · cases hs
 rename_i n0 n7
 simp only [Bool.or_eq_true, beq_iff_eq, not_or] at n0 n7
 split at hs
 · rename_i h0
   simp only [Bool.or_eq_true, beq_iff_eq] at h0
   rcases h0 with h0 | h0
   · obtain ⟨rfl, hall⟩ := Ef.cls6 h0 e1
     exact fin e2' (hall h2 (Ef.maps hy4 n7.2 e2'))
   · obtain ⟨rfl, hall⟩ := Ef.cls6 h0 e2'
     exact fin (hall h (Ef.maps hx4 n7.1 e1).symm) e1
 · split at hs
   · rename_i h0
     simp only [Bool.and_eq_true, Bool.or_eq_true, beq_iff_eq] at h0
     have hx : h1 = h := by
      rcases h0.1 with h0 | h0
      · exact (Ef.cls1 h0 sx3 e1).1
      · exact (Ef.cls5 h0 e1).1
     have hy : h2 = h1 := by
      rcases h0.2 with h0 | h0
      · exact (Ef.cls1 h0 sy3 e2').1
      · exact (Ef.cls5 h0 e2').1
     subst hx hy
     exact fin e2' e1
   · rename_i n6 n1
     simp only [Bool.or_eq_true, beq_iff_eq, not_or] at n6
     have range : ∀ (o : AOp), cls o ≠ 4 → cls o ≠ 0 → cls o ≠ 6 → cls o ≠ 7 → cls o = 1 ∨ cls o = 2 ∨ cls o = 3 ∨ cls o = 5 := fun o h4 h0 h6 h7 => by
      cases o
      case slice arr _ _ _ _ _ => cases arr <;> simp [cls] at h0 ⊢
      case call q _ _ => cases q <;> simp [cls] at h4 ⊢
      case mop k _ => cases k <;> simp [cls] at h4 h6 h7
      all_goals first
       | (exact absurd rfl h0)
       | (simp [cls]; done)
     have c1 := range x.op hx4 n0.1 n6.1 n7.1
     have c2 := range y.op hy4 n0.2 n6.2 n7.2
     split at hs
     · -- x reads, y uO or writes
       rename_i h0
       simp only [beq_iff_eq] at h0
       simp only [oI] at hs
       subst hs
       obtain ⟨rfl, hall⟩ := Ef.cls1 h0 sx3 e1
       have hy : cls y.op = 2 ∨ cls y.op = 3 := by
        simp only [h0] at n1
        rcases c2 with c | c | c | c
        · simp [c] at n1
        · exact .inl c
        · exact .inr c
        · simp [c] at n1
       refine fin e2' (hall h2 fun s hs id hid => ?_)
       have ha1 := hx2 s (UE (.inl hs)) (sx1 s (by simp [hs]))
       refine Ef.other hy sy3 e2' ?_ fun t ht => ?_
       · cases hyd : y.dst with
         | none => rw [nores y _ _ _ _ hy sy2 e2' hyd]; simp
         | some d =>
           have := hsep (s, d) (by simp only [WN, List.mem_flatMap, List.mem_map]; exact ⟨s, hs, d, by simp [hyd], rfl⟩)
           simp only at this
           rw [ha1, ry d hyd] at this
           exact sepV_ne this hid
       · have := hsep (s, t) (by simp only [WN, List.mem_flatMap, List.mem_map]; exact ⟨s, hs, t, by simp [ht], rfl⟩)
         simp only at this
         rw [ha1, hy2 t (UE (.inr ht)) (sy1 t (by simp [ht]))] at this
         exact sepV_ne this hid
     · split at hs
       · -- y reads, x uO or writes
         rename_i hx1 h0
         simp only [beq_iff_eq] at h0 hx1
         simp only [oI] at hs
         subst hs
         obtain ⟨rfl, hall⟩ := Ef.cls1 h0 sy3 e2'
         have hx : cls x.op = 2 ∨ cls x.op = 3 := by
          simp only [h0] at n1
          rcases c1 with c | c | c | c
          · exact absurd c hx1
          · exact .inl c
          · exact .inr c
          · simp [c] at n1
         refine fin (hall h fun s hs id hid => ?_) e1
         have ha1 := hy2 s (UE (.inl hs)) (sy1 s (by simp [hs]))
         refine (Ef.other hx sx3 e1 ?_ fun t ht => ?_).symm
         · cases hxd : x.dst with
           | none => rw [nores x _ _ _ _ hx sx2 e1 hxd]; simp
           | some d =>
             have := hsep (s, d) (by simp only [WN, List.mem_flatMap, List.mem_map]; exact ⟨s, hs, d, by simp [hxd], rfl⟩)
             simp only at this
             rw [ha1, rx d hxd] at this
             exact sepV_ne this hid
         · have := hsep (s, t) (by simp only [WN, List.mem_flatMap, List.mem_map]; exact ⟨s, hs, t, by simp [ht], rfl⟩)
           simp only at this
           rw [ha1, hx2 t (UE (.inr ht)) (sx1 t (by simp [ht]))] at this
           exact sepV_ne this hid
       · split at hs
         · -- a call on values, then memory is made
           rename_i h0
           simp only [Bool.and_eq_true, beq_iff_eq] at h0
           obtain ⟨rfl, hall⟩ := Ef.cls5 h0.1 e1
           rcases Ef.cls2 h0.2 e2' with ⟨rfl, _⟩ | ⟨hn, _, cells, rfl, _⟩
           · exact fin e2' e1
           · refine fin e2' (hall _ fun id blk hb => ?_)
             simp only [Hp.push]
             rw [qF _ _ fun e => by rw [← e, hb] at hn; simp at hn]
             exact hb
         · split at hs
           · -- two that make memory
             rename_i h0
             simp only [Bool.and_eq_true, beq_iff_eq] at h0
             split at hs
             · rename_i hd
               simp only [Bool.and_eq_true, Option.isSome_iff_exists] at hd
               obtain ⟨⟨dx, hdx⟩, ⟨dy, hdy⟩⟩ := hd
               have hne : dx ≠ dy := fun e => p2 dx hdx (by rw [hdy, e])
               have hidn : (h.ep, x.dst.getD 0) ≠ (h.ep, y.dst.getD 0) := by rw [hdx, hdy]; simp [hne]
               have hep1 : h1.ep = h.ep := by rcases Ef.cls2 h0.1 e1 with ⟨rfl, _⟩ | ⟨_, _, _, rfl, _⟩ <;> rfl
               rcases Ef.cls2 h0.1 e1 with ⟨rfl, hall1⟩ | ⟨hn1, _, cells1, rfl, hall1⟩
               · rcases Ef.cls2 h0.2 e2' with ⟨rfl, _⟩ | ⟨hn2, _, cells2, rfl, _⟩
                 · exact fin e2' e1
                 · refine fin e2' (hall1 _ rfl ?_)
                   simp only [Hp.push]
                   rw [qF _ _ hidn]
                   cases hq : (h1.hp (h1.ep, x.dst.getD 0)).isNone
                   · exact .inr rfl
                   · exact .inl rfl
               · have ho : (h.push (h.ep, x.dst.getD 0) cells1).hp (h.ep, y.dst.getD 0) = h.hp (h.ep, y.dst.getD 0) := by simp only [Hp.push]; exact qF _ _ (Ne.symm hidn)
                 have hep2 : (h.push (h.ep, x.dst.getD 0) cells1).ep = h.ep := rfl
                 rcases Ef.cls2 h0.2 e2' with ⟨rfl, hall2⟩ | ⟨hn2, _, cells2, rfl, hall2⟩
                 · rw [hep2, ho] at hall2
                   refine fin (hall2 h rfl ?_) e1
                   cases hq : (h.hp (h.ep, y.dst.getD 0)).isNone
                   · exact .inr rfl
                   · exact .inl rfl
                 · rw [hep2, ho] at hn2
                   rw [hep2] at hall2
                   have a1 := hall2 h rfl hn2
                   have a2 := hall1 (h.push (h.ep, y.dst.getD 0) cells2) rfl (by simp only [Hp.push]; rw [qF _ _ hidn]; exact hn1)
                   have e : (h.push (h.ep, y.dst.getD 0) cells2).push (h.ep, x.dst.getD 0) cells1 = (h.push (h.ep, x.dst.getD 0) cells1).push ((h.push (h.ep, x.dst.getD 0) cells1).ep, y.dst.getD 0) cells2 := by
                    simp only [Hp.push]
                    rw [upd_comm _ _ _ hidn]
                   rw [e] at a2
                   exact fin a1 a2
             · cases hs
           · split at hs
             · -- an append, then memory is made
               rename_i h0
               simp only [Bool.and_eq_true, Option.isSome_iff_exists] at h0
               obtain ⟨⟨happ, ⟨dx, hdx⟩⟩, hnew⟩ := h0
               simp only [oI] at hs
               subst hs
               obtain ⟨dy, hdy⟩ : ∃ dy, y.dst = some dy := by
                simp only [newOk, Bool.and_eq_true, Option.isSome_iff_exists] at hnew
                exact hnew.1.2
               obtain ⟨hn2, hid2, cells2, rfl, hall2⟩ := Ef.new hnew e2'
               have hne : dx ≠ dy := fun e => p2 dx hdx (by rw [hdy, e])
               have hx3 : cls x.op = 3 := by
                cases hop : x.op <;> simp [hop, isApp] at happ
                simp [cls]
               have hep : h1.ep = h.ep := Ef.ep3 happ e1
               have hidn : (h.ep, y.dst.getD 0) ≠ (h.ep, x.dst.getD 0) := by rw [hdx, hdy]; simp [Ne.symm hne]
               rw [hep] at hn2 hid2 hall2
               have hold : h.hp (h.ep, y.dst.getD 0) = none := by
                have hk : h1.hp (h.ep, y.dst.getD 0) = h.hp (h.ep, y.dst.getD 0) := by
                 refine Ef.other (.inr hx3) sx3 e1 (Ef.app_id happ e1 hidn) fun t ht => ?_
                 have := hsep (t, dy) (by simp only [WN, List.mem_flatMap, List.mem_map]; exact ⟨t, ht, dy, by simp [hdy], rfl⟩)
                 simp only at this
                 rw [hx2 t (UE (.inr ht)) (sx1 t (by simp [ht])), ry dy hdy] at this
                 intro e
                 simp only [sepV, e, hid2] at this
                 exact this rfl
                rw [hk] at hn2
                simpa using hn2
               have a1 := hall2 h rfl (by simp [hold])
               have a2 := (Ef.app (cells := cells2) happ e1 hold hidn).1
               refine fin a1 ?_
               rw [hep]
               exact a2
             · cases hs
end
end Go.Proofs.Hx
