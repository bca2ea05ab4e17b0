import Derived.Test.YtdpaimmheoconaaG9
set_option linter.unusedVariables false
set_option linter.unusedSimpArgs false
namespace Go.Proofs.Hx
open Go Go.Proofs
attribute [local irreducible] yR awp opK goV goM qB yW qE yT HV HVF HC
theorem merge_all {id : Id} {n : Nat} {f : AV} {key : Int → Int} {dom : Int → Prop} (hn : n ≤ 1000000) (hkey : ∀ x, dom x → -1000000 ≤ key x ∧ key x ≤ 1000000) : ∀ N, MergeC f key dom id n fun a m b => b - a < N
 | 0 => fun h0 D a m b h => absurd h (by simp)
 | N + 1 => fun h0 D a m b h => by
   by_cases h1 : m = a + 1
   · exact f144'a hn hkey h0 D a m b h1
   · by_cases h2 : b = m + 1
     · exact f144'b hn hkey h0 D a m b ⟨h1, h2⟩
     · exact f144'g hn hkey (merge_all hn hkey N) h0 D a m b ⟨h1, h2, by omega⟩
def Seg (key : Int → Int) (D : Nat → Int) (lo hi : Nat) : Prop := srt key D lo hi ∧ ∀ k, lo ≤ k → k < hi → (lo : Int) ≤ D k ∧ D k < hi
theorem Seg.congr {key : Int → Int} {D E : Nat → Int} {lo hi : Nat} (s : Seg key D lo hi) (h : ∀ k, lo ≤ k → k < hi → E k = D k) : Seg key E lo hi :=
 ⟨fun i j h1 h2 h3 => by rw [h i h1 (by omega), h j (by omega) h3]; exact s.1 i j h1 h2 h3, fun k h1 h2 => by rw [h k h1 h2]; exact s.2 k h1 h2⟩
theorem Seg.tie {key : Int → Int} {D : Nat → Int} {lo m hi : Nat} (s : Seg key D lo m) (t : Seg key D m hi) : tieP key D lo m hi := fun p q h1 h2 h3 h4 _ => by
 have := s.2 p h1 h2
 have := t.2 q h3 h4
 omega
theorem Seg.merge {key : Int → Int} {D E : Nat → Int} {lo m hi : Nat} (s : Seg key D lo m) (t : Seg key D m hi) (h1 : lo ≤ m) (h2 : m ≤ hi) (p : SP D E lo hi) (q : srt key E lo hi) : Seg key E lo hi :=
 ⟨q, p.all (Q := fun x => (lo : Int) ≤ x ∧ x < hi) fun k g1 g2 => by
  by_cases e : k < m
  · have := s.2 k g1 e; omega
  · have := t.2 k (by omega) g2; omega⟩
theorem Seg.ins {key : Int → Int} {D E : Nat → Int} {lo hi : Nat} (hid : ∀ k, lo ≤ k → k < hi → D k = k) (p : SP D E lo hi) (q : srt key E lo hi) : Seg key E lo hi :=
 ⟨q, p.all (Q := fun x => (lo : Int) ≤ x ∧ x < hi) fun k g1 g2 => by rw [hid k g1 g2]; omega⟩
def BlkS (key : Int → Int) (D : Nat → Int) (n w : Nat) : Prop := ∀ i, i * w < n → Seg key D (i * w) (min ((i + 1) * w) n)
def idD : Nat → Int := fun k => (k : Int)
set_option maxHeartbeats 2000000 in
theorem f123 {h0 : Hp} {id : Id} {n : Nat} {f : AV} {key : Int → Int} {dom : Int → Prop} (hc : ∀ g, Fr1 id h0 g → CmpAt Try.prog f key dom g) (hb : h0.hp id = some ⟨true, arrC n idD⟩) (hi : id.1 ≤ h0.ep) (hn : n ≤ 1000000)
 (hdom : ∀ k, k < n → dom (idD k)) (hkey : ∀ x, dom x → -1000000 ≤ key x ∧ key x ≤ 1000000) :
 HC Try.prog 123 [.sl id 0 n 1, i64 n, f] h0 (SortQ h0 id n fun d' => SP idD d' 0 n ∧ srt key d' 0 n) := by
 refine qJ qM cf123 (by simp) fun hF => ?_
 unfold ac123 re123
 refine yN fun env hE => ?_; have ee := cj7 hE 0 1 2 6 7 8 9; simp -implicitDefEqProofs only [push_cast] at ee; clear hE
 repeat' (first | ((try clear hf); with_reducible refine yD fun env K hE hK hf => ?_; have n := cj7 hE 0 1 2 6 7 8 9; simp -implicitDefEqProofs only [push_cast, reduceIte, Nat.reduceEqDiff, ee] at n; clear hE ee; have ee := n; clear n) | (with_reducible first | (refine hK _ _ ?_; clear hK K) | (refine Zi ?_; constructor) | refine yB (by decide) ?_ | refine yH (by assumption) ?_ | refine yJ (by assumption) ?_) | (refine yC rfl ?_) | (simp -implicitDefEqProofs only [push_cast, sevalprocAttr, eq_self, ee]) | (simp (disch := omega) only [yF, yK, yG, yL]) | ((first | refine yE rfl (fun bb => ?_) (fun bb => ?_) | with_reducible refine yI (fun bb => ?_) (fun bb => ?_)) <;> (first | have bp := oT bb | have bp := oF bb | skip) <;> try simp only [bb]) | ((with_reducible refine And.intro ?_ ?_); omega) | (with_reducible refine yM ?_ ?_))
 refine yN fun env hE => ?_; have n := cj7 hE 0 1 2 6 7 8 9; simp -implicitDefEqProofs only [push_cast, reduceIte, Nat.reduceEqDiff, ee] at n; clear hE ee; have ee := n; clear n; have E123_0 := ee; obtain ⟨e0, e1, e2, e6, e7, e8, e9⟩ := ee
 refine qC (fun nn σ => ∃ (q a : Nat) (D : Nat → Int), nn = n - a ∧ kp [0, 1, 2, 6] σ.env env ∧ σ.env 7 = i64 a ∧ σ.env 8 = i64 ((a : Int) + 20) ∧ (a = q * 20 ∧ a ≤ n ∧ (∀ i, i < q → Seg key D (i * 20) ((i + 1) * 20)) ∧ (∀ k, a ≤ k → D k = k) ∧ SP idD D 0 n ∧ σ.h.hp id = some ⟨true, arrC n D⟩ ∧ Fr1 id h0 σ.h)) _ ⟨0, 0, idD, rfl, qP _ _, by refine e7.trans ?_; first | rfl | exact yP (by omega) | exact i64w (by omega), by refine e8.trans ?_; first | rfl | exact yP (by omega) | exact i64w (by omega), ?_⟩ ?_
 · exact ⟨by omega, by omega, fun i hi => by omega, fun k hk => rfl, SP.refl _ _ _, by simp -implicitDefEqProofs only [push_cast, sevalprocAttr, eq_self, hb], (by repeat (first | assumption | exact Fr1.refl _ _ | refine Fr1.tick ?_ | refine Fr1.put ?_ _ | refine Fr1.push ?_ (by omega) _))⟩
 clear e0 e1 e2 e6 e7 e8 e9; rintro nn ⟨env, h⟩ ⟨q, a, D, rfl, q, e7, e8, hI⟩; simp only at e7 e8 hI; simp only [kp, and_true, E123_0] at q; have ee : _ ∧ _ ∧ _ := ⟨e7, e8, q⟩; clear e7 e8 q
 obtain ⟨q0, q1, q2, q3, hsp, hbk, hx⟩ := hI
 unfold l123_0
 (first | refine yS fun hF => ?_ | refine yY fun hF => ?_ | refine yX fun hF => ?_)
 have hle := hx.ep
 have hDd : ∀ k, k < n → dom (D k) := fun k hk => hsp.all (Q := dom) (fun k _ hk => hdom k hk) k (by omega) hk
 by_cases hlt : a + 20 ≤ n
 · have hd : decide ((a : Int) + 20 ≤ (n : Int)) = true := dT (by omega)
   obtain ⟨b, hab⟩ : ∃ b, b = a + 20 := ⟨_, rfl⟩
   have hcast : ((a : Int) + 20) = (b : Int) := by omega
   rw [hcast] at hd ee
   rw [← hab] at hlt
   repeat' (first | ((try clear hf); with_reducible refine yD fun env K hE hK hf => ?_; have n := cj7 hE 0 1 2 6 7 8 9; simp -implicitDefEqProofs only [push_cast, reduceIte, Nat.reduceEqDiff, ee] at n; clear hE ee; have ee := n; clear n) | (with_reducible first | (refine hK _ _ ?_; clear hK K) | (refine Zi ?_; constructor) | refine yB (by decide) ?_ | refine yH (by assumption) ?_ | refine yJ (by assumption) ?_) | (refine yC rfl ?_) | (simp -implicitDefEqProofs only [push_cast, sevalprocAttr, eq_self, ee, hd]) | (simp (disch := omega) only [yF, yK, yG, yL]) | ((first | refine yE rfl (fun bb => ?_) (fun bb => ?_) | with_reducible refine yI (fun bb => ?_) (fun bb => ?_)) <;> (first | have bp := oT bb | have bp := oF bb | skip) <;> try simp only [bb]) | ((with_reducible refine And.intro ?_ ?_); omega) | (refine qH (HC.mono (f143 (n := n) (d := D) (a := a) (b := b) (fun g hg => hc g (Fr1.trans (by repeat (first | assumption | exact Fr1.refl _ _ | refine Fr1.tick ?_ | refine Fr1.put ?_ _ | refine Fr1.push ?_ (by omega) _)) hg)) (by simp -implicitDefEqProofs only [push_cast, sevalprocAttr, eq_self, hbk]) (by simp -implicitDefEqProofs only [push_cast, sevalprocAttr, eq_self]; omega) hn (by omega) hlt hDd hkey (fun k h1 h2 => q3 k h1)) ?_); rintro r g ⟨rfl, hg, D', hb', hp1, hp2⟩ hF') | (with_reducible refine yM ?_ ?_))
   refine ⟨_, ?_, q + 1, b, D', rfl, by simp -implicitDefEqProofs only [kp, push_cast, reduceIte, Nat.reduceEqDiff, ee, E123_0, and_self], by first | rfl | exact yP (by omega) | exact i64w (by omega), by first | rfl | exact yP (by omega) | exact i64w (by omega), ?_⟩
   · omega
   · refine ⟨by omega, hlt, fun i hi => ?_, fun k hk => by rw [hp1.out k (.inr hk)]; exact q3 k (by omega), hsp.trans (hp1.widen (by omega) hlt (by omega)), hb', (Fr1.trans (by repeat (first | assumption | exact Fr1.refl _ _ | refine Fr1.tick ?_ | refine Fr1.put ?_ _ | refine Fr1.push ?_ (by omega) _)) hg).tick.tick.tick⟩
     by_cases e : i < q
     · exact (q2 i e).congr (fun k h1 h2 => hp1.out k (.inl (by omega)))
     · obtain rfl : i = q := by omega
       rw [show i * 20 = a by omega, show (i + 1) * 20 = b by omega]
       exact Seg.ins (fun k h1 h2 => q3 k h1) hp1 hp2
 · have hd : decide ((a : Int) + 20 ≤ (n : Int)) = false := dF (by omega)
   repeat' (first | ((try clear hf); with_reducible refine yD fun env K hE hK hf => ?_; have n := cj7 hE 0 1 2 6 7 8 9; simp -implicitDefEqProofs only [push_cast, reduceIte, Nat.reduceEqDiff, ee] at n; clear hE ee; have ee := n; clear n) | (with_reducible first | (refine hK _ _ ?_; clear hK K) | (refine Zi ?_; constructor) | refine yB (by decide) ?_ | refine yH (by assumption) ?_ | refine yJ (by assumption) ?_) | (refine yC rfl ?_) | (simp -implicitDefEqProofs only [push_cast, sevalprocAttr, eq_self, ee, hd]) | (simp (disch := omega) only [yF, yK, yG, yL]) | ((first | refine yE rfl (fun bb => ?_) (fun bb => ?_) | with_reducible refine yI (fun bb => ?_) (fun bb => ?_)) <;> (first | have bp := oT bb | have bp := oF bb | skip) <;> try simp only [bb]) | ((with_reducible refine And.intro ?_ ?_); omega) | (refine qH (HC.mono (f143 (n := n) (d := D) (a := a) (b := n) (fun g hg => hc g (Fr1.trans (by repeat (first | assumption | exact Fr1.refl _ _ | refine Fr1.tick ?_ | refine Fr1.put ?_ _ | refine Fr1.push ?_ (by omega) _)) hg)) (by simp -implicitDefEqProofs only [push_cast, sevalprocAttr, eq_self, hbk]) (by simp -implicitDefEqProofs only [push_cast, sevalprocAttr, eq_self]; omega) hn (by omega) (Nat.le_refl _) hDd hkey (fun k h1 h2 => q3 k h1)) ?_); rintro r g ⟨rfl, hg, D', hb', hp1, hp2⟩ hF') | (with_reducible refine yM ?_ ?_))
   have hS : BlkS key D' n 20 := by
    intro i hi
    by_cases e : i < q
    · rw [Nat.min_eq_left (by omega)]
      exact (q2 i e).congr (fun k h1 h2 => hp1.out k (.inl (by omega)))
    · obtain rfl : i = q := by omega
      rw [Nat.min_eq_right (by omega), show i * 20 = a by omega]
      exact Seg.ins (fun k h1 h2 => q3 k h1) hp1 hp2
   have hsp' := hsp.trans (hp1.widen (a' := 0) (b' := n) (by omega) (Nat.le_refl _) (by omega))
   have hx' : Fr1 id h0 g := Fr1.trans (by repeat (first | assumption | exact Fr1.refl _ _ | refine Fr1.tick ?_ | refine Fr1.put ?_ _ | refine Fr1.push ?_ (by omega) _)) hg
   clear hbk hx hsp q2 q3 hDd
   refine yN fun env hE => ?_; have n := cj7 hE 0 1 2 6 7 8 9; simp -implicitDefEqProofs only [push_cast, reduceIte, Nat.reduceEqDiff, ee] at n; clear hE ee; have ee := n; clear n; have E123_2 := ee; obtain ⟨e0, e1, e2, e6, e7, e8, e9⟩ := ee
   refine qC (fun nn σ => ∃ (w : Nat) (D : Nat → Int), nn = 2000000 - w ∧ kp [0, 1, 2] σ.env env ∧ σ.env 6 = i64 w ∧ (20 ≤ w ∧ w ≤ 2000000 ∧ BlkS key D n w ∧ SP idD D 0 n ∧ σ.h.hp id = some ⟨true, arrC n D⟩ ∧ Fr1 id h0 σ.h)) _ ⟨20, D', rfl, qP _ _, by refine e6.trans ?_; first | rfl | exact yP (by omega) | exact i64w (by omega), ?_⟩ ?_
   · exact ⟨by omega, by omega, hS, hsp', by simp -implicitDefEqProofs only [push_cast, sevalprocAttr, eq_self, hb'], hx'.tick⟩
   clear hS hsp' hx' hb' hp1 hp2 hg
   clear e0 e1 e2 e6 e7 e8 e9; rintro nn ⟨env, h⟩ ⟨w, D, rfl, q, e6, hI⟩; simp only at e6 hI; simp only [kp, and_true, E123_2] at q; have ee : _ ∧ _ := ⟨e6, q⟩; clear e6 q
   obtain ⟨w1, w2, hS, hsp, hbk, hx⟩ := hI
   unfold l123_2
   (first | refine yS fun hF => ?_ | refine yY fun hF => ?_ | refine yX fun hF => ?_)
   have hle := hx.ep
   by_cases hlt : w < n
   · have hd : decide ((w : Int) < (n : Int)) = true := dT (by omega)
     obtain ⟨W, hW⟩ : ∃ W, W = 2 * w := ⟨_, rfl⟩
     repeat' (first | ((try clear hf); with_reducible refine yD fun env K hE hK hf => ?_; have n := cj7 hE 0 1 2 6 7 8 9; simp -implicitDefEqProofs only [push_cast, reduceIte, Nat.reduceEqDiff, ee] at n; clear hE ee; have ee := n; clear n) | (with_reducible first | (refine hK _ _ ?_; clear hK K) | (refine Zi ?_; constructor) | refine yB (by decide) ?_ | refine yH (by assumption) ?_ | refine yJ (by assumption) ?_) | (refine yC rfl ?_) | (simp -implicitDefEqProofs only [push_cast, sevalprocAttr, eq_self, ee, hd]) | (simp (disch := omega) only [yF, yK, yG, yL]) | ((first | refine yE rfl (fun bb => ?_) (fun bb => ?_) | with_reducible refine yI (fun bb => ?_) (fun bb => ?_)) <;> (first | have bp := oT bb | have bp := oF bb | skip) <;> try simp only [bb]) | ((with_reducible refine And.intro ?_ ?_); omega) | (with_reducible refine yM ?_ ?_))
     refine yN fun env hE => ?_; have n := cj7 hE 0 1 2 6 7 8 9; simp -implicitDefEqProofs only [push_cast, reduceIte, Nat.reduceEqDiff, ee] at n; clear hE ee; have ee := n; clear n; have E123_1 := ee; obtain ⟨e0, e1, e2, e6, e7, e8, e9⟩ := ee
     refine qC (fun nn σ => ∃ (p a : Nat) (E : Nat → Int), nn = n - a ∧ kp [0, 1, 2, 6] σ.env env ∧ σ.env 7 = i64 a ∧ σ.env 8 = i64 ((a : Int) + (W : Int)) ∧ (a = p * W ∧ a ≤ n ∧ (∀ i, i < p → Seg key E (i * W) ((i + 1) * W)) ∧ (∀ k, a ≤ k → E k = D k) ∧ SP idD E 0 n ∧ σ.h.hp id = some ⟨true, arrC n E⟩ ∧ Fr1 id h0 σ.h)) _ ⟨0, 0, D, rfl, qP _ _, by refine e7.trans ?_; first | rfl | exact yP (by omega) | exact i64w (by omega), by refine e8.trans ?_; first | rfl | exact yP (by omega) | exact i64w (by omega), ?_⟩ ?_
     · exact ⟨by omega, by omega, fun i hi => by omega, fun k hk => rfl, hsp, by simp -implicitDefEqProofs only [push_cast, sevalprocAttr, eq_self, hbk], (by repeat (first | assumption | exact Fr1.refl _ _ | refine Fr1.tick ?_ | refine Fr1.put ?_ _ | refine Fr1.push ?_ (by omega) _))⟩
     clear hbk hx hle hsp
     clear e0 e1 e2 e6 e7 e8 e9; rintro nn ⟨env, h⟩ ⟨p, a, E, rfl, q, e7, e8, hI⟩; simp only at e7 e8 hI; simp only [kp, and_true, E123_1] at q; have ee : _ ∧ _ ∧ _ := ⟨e7, e8, q⟩; clear e7 e8 q
     obtain ⟨p0, p1, p2, p3, hsp, hbk, hx⟩ := hI
     unfold l123_1
     (first | refine yS fun hF => ?_ | refine yY fun hF => ?_ | refine yX fun hF => ?_)
     have hle := hx.ep
     have hEd : ∀ k, k < n → dom (E k) := fun k hk => hsp.all (Q := dom) (fun k _ hk => hdom k hk) k (by omega) hk
     have m0 : 2 * p * w = a := by rw [p0, hW, ← Nat.mul_assoc, Nat.mul_comm p 2]
     have m1 : (2 * p + 1) * w = a + w := by rw [Nat.add_mul, m0, Nat.one_mul]
     have m2 : (2 * p + 1 + 1) * w = a + W := by rw [Nat.add_mul, m1, Nat.one_mul]; omega
     have m3 : (p + 1) * W = a + W := by rw [Nat.add_mul, ← p0, Nat.one_mul]
     obtain ⟨m, hm⟩ : ∃ m, m = a + w := ⟨_, rfl⟩
     rw [← hm] at m1
     by_cases hlt2 : a + W ≤ n
     · obtain ⟨b, hb2⟩ : ∃ b, b = a + W := ⟨_, rfl⟩
       rw [← hb2] at m2 m3
       have hcast : ((a : Int) + (W : Int)) = (b : Int) := by omega
       have hcm : ((a : Int) + (w : Int)) = (m : Int) := by omega
       have hcb : ((b : Int) + 2 * (w : Int)) = (b : Int) + (W : Int) := by omega
       rw [hcast] at ee
       have hd : decide ((b : Int) ≤ (n : Int)) = true := dT (by omega)
       have g1 := hS (2 * p) (by omega)
       have g2 := hS (2 * p + 1) (by omega)
       rw [m0, m1, Nat.min_eq_left (by omega)] at g1
       rw [m1, m2, Nat.min_eq_left (by omega)] at g2
       have s1 := g1.congr (E := E) (fun k h1 h2 => p3 k h1)
       have s2 := g2.congr (E := E) (fun k h1 h2 => p3 k (by omega))
       repeat' (first | ((try clear hf); with_reducible refine yD fun env K hE hK hf => ?_; have n := cj7 hE 0 1 2 6 7 8 9; simp -implicitDefEqProofs only [push_cast, reduceIte, Nat.reduceEqDiff, ee] at n; clear hE ee; have ee := n; clear n) | (with_reducible first | (refine hK _ _ ?_; clear hK K) | (refine Zi ?_; constructor) | refine yB (by decide) ?_ | refine yH (by assumption) ?_ | refine yJ (by assumption) ?_) | (refine yC rfl ?_) | (simp -implicitDefEqProofs only [push_cast, sevalprocAttr, eq_self, ee, hd, hcm]) | (simp (disch := omega) only [yF, yK, yG, yL, hcm]) | ((first | refine yE rfl (fun bb => ?_) (fun bb => ?_) | with_reducible refine yI (fun bb => ?_) (fun bb => ?_)) <;> (first | have bp := oT bb | have bp := oF bb | skip) <;> try simp only [bb]) | ((with_reducible refine And.intro ?_ ?_); omega) | (refine qH (HC.mono (merge_all hn hkey (n + 1) _ E a m b (by omega) (fun g hg => hc g (Fr1.trans (by repeat (first | assumption | exact Fr1.refl _ _ | refine Fr1.tick ?_ | refine Fr1.put ?_ _ | refine Fr1.push ?_ (by omega) _)) hg)) (by simp -implicitDefEqProofs only [push_cast, sevalprocAttr, eq_self, hbk]) (by simp -implicitDefEqProofs only [push_cast, sevalprocAttr, eq_self]; omega) (by omega) (by omega) (by omega) hEd s1.1 s2.1 (s1.tie s2)) ?_); rintro r g ⟨rfl, hg, D', hb', hp1, hp2⟩ hF') | (with_reducible refine yM ?_ ?_))
       refine ⟨_, ?_, p + 1, b, D', rfl, by simp -implicitDefEqProofs only [kp, push_cast, reduceIte, Nat.reduceEqDiff, ee, E123_1, and_self], by first | rfl | exact yP (by omega) | (simp only [hcb]; exact yP (by omega)) | exact i64w (by omega), by first | rfl | exact yP (by omega) | (simp only [hcb]; exact yP (by omega)) | exact i64w (by omega), ?_⟩
       · omega
       · refine ⟨m3.symm, by omega, fun i hi => ?_, fun k hk => by rw [hp1.out k (.inr hk)]; exact p3 k (by omega), hsp.trans (hp1.widen (by omega) (by omega) (by omega)), hb', (Fr1.trans (by repeat (first | assumption | exact Fr1.refl _ _ | refine Fr1.tick ?_ | refine Fr1.put ?_ _ | refine Fr1.push ?_ (by omega) _)) hg).tick.tick.tick⟩
         by_cases e : i < p
         · refine (p2 i e).congr (fun k h1 h2 => hp1.out k (.inl ?_))
           have := Nat.mul_le_mul_right W (show i + 1 ≤ p by omega)
           omega
         · obtain rfl : i = p := by omega
           rw [← p0, m3]
           exact s1.merge s2 (by omega) (by omega) hp1 hp2
     · have hd : decide ((a : Int) + (W : Int) ≤ (n : Int)) = false := dF (by omega)
       have hcm : ((a : Int) + (w : Int)) = (m : Int) := by omega
       have hblk : ∀ F : Nat → Int, (∀ k, k < a → F k = E k) → (a < n → Seg key F a n) → BlkS key F n W := by
        intro F f1 f2 i hi
        by_cases e : i < p
        · have h1 := Nat.mul_le_mul_right W (show i + 1 ≤ p by omega)
          rw [Nat.min_eq_left (by omega)]
          exact (p2 i e).congr (fun k h1 h2 => f1 k (by omega))
        · by_cases e2 : i = p
          · subst e2
            rw [m3, Nat.min_eq_right (by omega), ← p0]
            exact f2 (by omega)
          · have h1 := Nat.mul_le_mul_right W (show p + 1 ≤ i by omega)
            omega
       by_cases hmn : m < n
       · have hd2 : decide ((m : Int) < (n : Int)) = true := dT (by omega)
         have g1 := hS (2 * p) (by omega)
         have g2 := hS (2 * p + 1) (by omega)
         rw [m0, m1, Nat.min_eq_left (by omega)] at g1
         rw [m1, m2, Nat.min_eq_right (by omega)] at g2
         have s1 := g1.congr (E := E) (fun k h1 h2 => p3 k h1)
         have s2 := g2.congr (E := E) (fun k h1 h2 => p3 k (by omega))
         repeat' (first | ((try clear hf); with_reducible refine yD fun env K hE hK hf => ?_; have n := cj7 hE 0 1 2 6 7 8 9; simp -implicitDefEqProofs only [push_cast, reduceIte, Nat.reduceEqDiff, ee] at n; clear hE ee; have ee := n; clear n) | (with_reducible first | (refine hK _ _ ?_; clear hK K) | (refine Zi ?_; constructor) | refine yB (by decide) ?_ | refine yH (by assumption) ?_ | refine yJ (by assumption) ?_) | (refine yC rfl ?_) | (simp -implicitDefEqProofs only [push_cast, sevalprocAttr, eq_self, ee, hd, hd2, hcm]) | (simp (disch := omega) only [yF, yK, yG, yL, hcm]) | ((first | refine yE rfl (fun bb => ?_) (fun bb => ?_) | with_reducible refine yI (fun bb => ?_) (fun bb => ?_)) <;> (first | have bp := oT bb | have bp := oF bb | skip) <;> try simp only [bb]) | ((with_reducible refine And.intro ?_ ?_); omega) | (refine qH (HC.mono (merge_all hn hkey (n + 1) _ E a m n (by omega) (fun g hg => hc g (Fr1.trans (by repeat (first | assumption | exact Fr1.refl _ _ | refine Fr1.tick ?_ | refine Fr1.put ?_ _ | refine Fr1.push ?_ (by omega) _)) hg)) (by simp -implicitDefEqProofs only [push_cast, sevalprocAttr, eq_self, hbk]) (by simp -implicitDefEqProofs only [push_cast, sevalprocAttr, eq_self]; omega) (by omega) (by omega) (by omega) hEd s1.1 s2.1 (s1.tie s2)) ?_); rintro r g ⟨rfl, hg, D', hb', hp1, hp2⟩ hF') | (with_reducible refine yM ?_ ?_))
         refine ⟨_, ?_, W, D', rfl, by simp -implicitDefEqProofs only [kp, push_cast, reduceIte, Nat.reduceEqDiff, ee, E123_2, and_self], by first | rfl | exact yP (by omega) | exact i64w (by omega), ?_⟩
         · omega
         · exact ⟨by omega, by omega, hblk D' (fun k hk => hp1.out k (.inl hk)) (fun _ => s1.merge s2 (by omega) (by omega) hp1 hp2), hsp.trans (hp1.widen (by omega) (by omega) (by omega)), hb', (Fr1.trans (by repeat (first | assumption | exact Fr1.refl _ _ | refine Fr1.tick ?_ | refine Fr1.put ?_ _ | refine Fr1.push ?_ (by omega) _)) hg).tick.tick⟩
       · have hd2 : decide ((m : Int) < (n : Int)) = false := dF (by omega)
         repeat' (first | ((try clear hf); with_reducible refine yD fun env K hE hK hf => ?_; have n := cj7 hE 0 1 2 6 7 8 9; simp -implicitDefEqProofs only [push_cast, reduceIte, Nat.reduceEqDiff, ee] at n; clear hE ee; have ee := n; clear n) | (with_reducible first | (refine hK _ _ ?_; clear hK K) | (refine Zi ?_; constructor) | refine yB (by decide) ?_ | refine yH (by assumption) ?_ | refine yJ (by assumption) ?_) | (refine yC rfl ?_) | (simp -implicitDefEqProofs only [push_cast, sevalprocAttr, eq_self, ee, hd, hd2, hcm]) | (simp (disch := omega) only [yF, yK, yG, yL, hcm]) | ((first | refine yE rfl (fun bb => ?_) (fun bb => ?_) | with_reducible refine yI (fun bb => ?_) (fun bb => ?_)) <;> (first | have bp := oT bb | have bp := oF bb | skip) <;> try simp only [bb]) | ((with_reducible refine And.intro ?_ ?_); omega) | (with_reducible refine yM ?_ ?_))
         refine ⟨_, ?_, W, E, rfl, by simp -implicitDefEqProofs only [kp, push_cast, reduceIte, Nat.reduceEqDiff, ee, E123_2, and_self], by first | rfl | exact yP (by omega) | exact i64w (by omega), ?_⟩
         · omega
         · refine ⟨by omega, by omega, hblk E (fun k hk => rfl) (fun ha => ?_), hsp, hbk, (by repeat (first | assumption | exact Fr1.refl _ _ | refine Fr1.tick ?_ | refine Fr1.put ?_ _ | refine Fr1.push ?_ (by omega) _))⟩
           have g1 := hS (2 * p) (by omega)
           rw [m0, m1, Nat.min_eq_right (by omega)] at g1
           exact g1.congr (E := E) (fun k h1 h2 => p3 k h1)
   · have hd : decide ((w : Int) < (n : Int)) = false := dF (by omega)
     repeat' (first | ((try clear hf); with_reducible refine yD fun env K hE hK hf => ?_; have n := cj7 hE 0 1 2 6 7 8 9; simp -implicitDefEqProofs only [push_cast, reduceIte, Nat.reduceEqDiff, ee] at n; clear hE ee; have ee := n; clear n) | (with_reducible first | (refine hK _ _ ?_; clear hK K) | (refine Zi ?_; constructor) | refine yB (by decide) ?_ | refine yH (by assumption) ?_ | refine yJ (by assumption) ?_) | (refine yC rfl ?_) | (simp -implicitDefEqProofs only [push_cast, sevalprocAttr, eq_self, ee, hd]) | (simp (disch := omega) only [yF, yK, yG, yL]) | ((first | refine yE rfl (fun bb => ?_) (fun bb => ?_) | with_reducible refine yI (fun bb => ?_) (fun bb => ?_)) <;> (first | have bp := oT bb | have bp := oF bb | skip) <;> try simp only [bb]) | ((with_reducible refine And.intro ?_ ?_); omega) | (with_reducible refine yM ?_ ?_))
     refine ⟨rfl, (by repeat (first | assumption | exact Fr1.refl _ _ | refine Fr1.tick ?_ | refine Fr1.put ?_ _ | refine Fr1.push ?_ (by omega) _)), D, by simp -implicitDefEqProofs only [push_cast, sevalprocAttr, eq_self, hbk], hsp, ?_⟩
     by_cases h0 : n = 0
     · subst h0; intro i j h1 h2 h3; omega
     · have := hS 0 (by omega)
       rw [Nat.zero_mul, Nat.min_eq_right (by omega)] at this
       exact this.1
theorem f108 {h0 : Hp} {id : Id} {n : Nat} {f : AV} {key : Int → Int} {dom : Int → Prop} (hc : ∀ g, Fr1 id h0 g → CmpAt Try.prog f key dom g) (hb : h0.hp id = some ⟨true, arrC n idD⟩) (hi : id.1 ≤ h0.ep) (hn : n ≤ 1000000)
 (hdom : ∀ k, k < n → dom (idD k)) (hkey : ∀ x, dom x → -1000000 ≤ key x ∧ key x ≤ 1000000) :
 HC Try.prog 108 [.sl id 0 n 1, f] h0 (SortQ h0 id n fun d' => SP idD d' 0 n ∧ srt key d' 0 n) := by
 refine qJ qM cf108 (by simp) fun hF => ?_
 unfold ac108 re108
 refine yN fun env hE => ?_; have ee := cj2 hE 0 1; simp -implicitDefEqProofs only [push_cast] at ee; clear hE
 repeat' (first | ((try clear hf); with_reducible refine yD fun env K hE hK hf => ?_; have n := cj2 hE 0 1; simp -implicitDefEqProofs only [push_cast, reduceIte, Nat.reduceEqDiff, ee] at n; clear hE ee; have ee := n; clear n) | (with_reducible first | (refine hK _ _ ?_; clear hK K) | (refine Zi ?_; constructor) | refine yB (by decide) ?_ | refine yH (by assumption) ?_ | refine yJ (by assumption) ?_) | (refine yC rfl ?_) | (simp -implicitDefEqProofs only [push_cast, sevalprocAttr, eq_self, ee]) | (simp (disch := omega) only [yF, yK, yG, yL]) | ((first | refine yE rfl (fun bb => ?_) (fun bb => ?_) | with_reducible refine yI (fun bb => ?_) (fun bb => ?_)) <;> (first | have bp := oT bb | have bp := oF bb | skip) <;> try simp only [bb]) | ((with_reducible refine And.intro ?_ ?_); omega) | (refine qH (HC.mono (f123 (n := n) (fun g hg => hc g (Fr1.trans (by repeat (first | assumption | exact Fr1.refl _ _ | refine Fr1.tick ?_ | refine Fr1.put ?_ _ | refine Fr1.push ?_ (by omega) _)) hg)) (by simp -implicitDefEqProofs only [push_cast, sevalprocAttr, eq_self, hb]) (by simp -implicitDefEqProofs only [push_cast, sevalprocAttr, eq_self]; omega) hn hdom hkey) ?_); rintro r g ⟨rfl, hg, D', hb', hp1, hp2⟩ hF') | (with_reducible refine yM ?_ ?_))
 exact ⟨rfl, (Fr1.trans (by repeat (first | assumption | exact Fr1.refl _ _ | refine Fr1.tick ?_ | refine Fr1.put ?_ _ | refine Fr1.push ?_ (by omega) _)) hg).tick, D', hb', hp1, hp2⟩
theorem f84 (x y : Int) (h1 : -1000000 ≤ x ∧ x ≤ 1000000) (h2 : -1000000 ≤ y ∧ y ≤ 1000000) : HV Try.prog 84 [i64 x, i64 y] (i64 (y - x)) := by
 refine qK qM cf84 (by simp) (by simp [imms, imm]) ?_ rfl
 unfold ac84 re84
 refine yN fun env hE => ?_; have ee := cj3 hE 0 1 4; simp -implicitDefEqProofs only [push_cast] at ee; clear hE
 have hw : IntKind.i64.wrap (y - x) = y - x := qS (by omega) (by omega)
 repeat' (first | ((try clear hf); with_reducible refine yD fun env K hE hK hf => ?_; have n := cj3 hE 0 1 4; simp -implicitDefEqProofs only [push_cast, reduceIte, Nat.reduceEqDiff, ee] at n; clear hE ee; have ee := n; clear n) | (with_reducible first | (refine hK _ _ ?_; clear hK K) | (refine Zi ?_; constructor) | refine yB (by decide) ?_ | refine yH (by assumption) ?_ | refine yJ (by assumption) ?_) | (refine yC rfl ?_) | (simp -implicitDefEqProofs only [push_cast, sevalprocAttr, eq_self, ee, hw]) | (simp (disch := omega) only [yF, yK, yG, yL]) | ((first | refine yE rfl (fun bb => ?_) (fun bb => ?_) | with_reducible refine yI (fun bb => ?_) (fun bb => ?_)) <;> (first | have bp := oT bb | have bp := oF bb | skip) <;> try simp only [bb]) | ((with_reducible refine And.intro ?_ ?_); omega) | (with_reducible refine yM ?_ ?_))
theorem f109 {H : List Int} {a b : Int} (ha : 0 ≤ a ∧ a < H.length) (hb : 0 ≤ b ∧ b < H.length) (hH : ∀ k, -1000000 ≤ H.getD k 0 ∧ H.getD k 0 ≤ 1000000) : HV Try.prog 109 [i64 a, i64 b, .ip [.fn 84 []], .ip [.row (H.map intC)]] (i64 (H.getD b.toNat 0 - H.getD a.toNat 0)) := by
 refine qK qM cf109 (by simp) (by simp [imms, imm, ints_imms]) ?_ rfl
 unfold ac109 re109
 refine yN fun env hE => ?_; have ee := cj5 hE 0 1 2 3 6; simp -implicitDefEqProofs only [push_cast] at ee; clear hE
 obtain ⟨i, rfl⟩ : ∃ i : Nat, a = i := ⟨a.toNat, by omega⟩
 obtain ⟨j, rfl⟩ : ∃ i : Nat, b = i := ⟨b.toNat, by omega⟩
 have hri := int_at (l := H) (k := i) (by omega) .i64
 have hrj := int_at (l := H) (k := j) (by omega) .i64
 repeat' (first | ((try clear hf); with_reducible refine yD fun env K hE hK hf => ?_; have n := cj5 hE 0 1 2 3 6; simp -implicitDefEqProofs only [push_cast, reduceIte, Nat.reduceEqDiff, ee] at n; clear hE ee; have ee := n; clear n) | (with_reducible first | (refine hK _ _ ?_; clear hK K) | (refine Zi ?_; constructor) | refine yB (by decide) ?_ | refine yH (by assumption) ?_ | refine yJ (by assumption) ?_) | (refine yC rfl ?_) | (simp -implicitDefEqProofs only [push_cast, sevalprocAttr, eq_self, ee, hri, hrj]) | (simp (disch := omega) only [yF, yK, yG, yL, hri, hrj]) | ((first | refine yE rfl (fun bb => ?_) (fun bb => ?_) | with_reducible refine yI (fun bb => ?_) (fun bb => ?_)) <;> (first | have bp := oT bb | have bp := oF bb | skip) <;> try simp only [bb]) | ((with_reducible refine And.intro ?_ ?_); omega) | (refine call_immq (f84 _ _ (hH _) (hH _)) ?_) | (with_reducible refine yM ?_ ?_))
theorem flat_intC (H : List Int) : H.flatMap intC = H.map iC := by
 induction H with
 | nil => rfl
 | cons a l ih => rw [List.flatMap_cons, ih]; rfl
def upto (k : Nat) : Nat → Int := fun j => if j < k then (j : Int) else 0
theorem arrC_upto (n : Nat) (k : Nat) : arrC n (fset (upto k) k k) = arrC n (upto (k + 1)) := by
 apply arrC_congr
 intro j _
 simp only [fset, upto]
 by_cases h1 : j = k
 · subst h1; simp
 · rw [if_neg h1]
   by_cases h2 : j < k
   · rw [if_pos h2, if_pos (by omega)]
   · rw [if_neg h2, if_neg (by omega)]
def keyH (H : List Int) (x : Int) : Int := H.getD x.toNat 0
set_option maxHeartbeats 1000000 in
theorem f83 {h0 : Hp} {ih : Id} {H : List Int} (hb : h0.hp ih = some ⟨true, H.map iC⟩) (hi : ih.1 ≤ h0.ep) (hn : H.length ≤ 1000000) (hHb : ∀ k, -1000000 ≤ H.getD k 0 ∧ H.getD k 0 ≤ 1000000) :
 HC Try.prog 83 [.sl ih 0 H.length 1, .fn 84 []] h0 fun r h' => ∃ id d, r = .sl id 0 H.length 1 ∧ h'.hp id = some ⟨true, arrC H.length d⟩ ∧ SP idD d 0 H.length ∧ srt (keyH H) d 0 H.length ∧ h0.ep < id.1 ∧ id.1 ≤ h'.ep ∧ Ext h0 h' := by
 refine qJ qM cf83 (by simp) fun hF => ?_
 unfold ac83 re83
 refine yN fun env hE => ?_; have ee := cj10 hE 0 1 2 3 4 5 6 11 12 13; simp -implicitDefEqProofs only [push_cast] at ee; clear hE
 have hz : ∀ n, List.replicate n (AV.lit (.int .i64 0)) = arrC n (upto 0) := fun n => by
  apply List.ext_getElem?
  intro r
  by_cases hr : r < n
  · rw [YJ _ hr]; simp [hr, upto]
  · rw [List.getElem?_eq_none (by simp; omega), List.getElem?_eq_none (by simp [WY]; omega)]
 repeat' (first | ((try clear hf); with_reducible refine yD fun env K hE hK hf => ?_; have n := cj10 hE 0 1 2 3 4 5 6 11 12 13; simp -implicitDefEqProofs only [push_cast, reduceIte, Nat.reduceEqDiff, ee] at n; clear hE ee; have ee := n; clear n) | (with_reducible first | (refine hK _ _ ?_; clear hK K) | (refine Zi ?_; constructor) | refine yB (by decide) ?_ | refine yH (by assumption) ?_ | refine yJ (by assumption) ?_) | (refine yC rfl ?_) | (simp -implicitDefEqProofs only [push_cast, sevalprocAttr, eq_self, ee, hF.at, rep1, hz]) | (simp (disch := omega) only [yF, yK, yG, yL, hF.at, rep1, hz]) | ((first | refine yE rfl (fun bb => ?_) (fun bb => ?_) | with_reducible refine yI (fun bb => ?_) (fun bb => ?_)) <;> (first | have bp := oT bb | have bp := oF bb | skip) <;> try simp only [bb]) | ((with_reducible refine And.intro ?_ ?_); omega) | (with_reducible refine yM ?_ ?_))
 generalize hH : H.length = n at *
 generalize hO : (h0.ep + 1 + 1 + 1, 9) = O at *
 obtain ⟨Oe, Os⟩ := O
 have hOe : Oe = h0.ep + 1 + 1 + 1 := by cases hO; rfl
 refine yN fun env hE => ?_; have n := cj10 hE 0 1 2 3 4 5 6 11 12 13; simp -implicitDefEqProofs only [push_cast, reduceIte, Nat.reduceEqDiff, ee] at n; clear hE ee; have ee := n; clear n; have E83_0 := ee; obtain ⟨e0, e1, e2, e3, e4, e5, e6, e11, e12, e13⟩ := ee
 refine qC (fun nn σ => ∃ (k : Nat), nn = n - k ∧ kp [0, 1, 2, 3, 4, 5, 11] σ.env env ∧ σ.env 12 = i64 k ∧ (k ≤ n ∧ σ.h.hp (Oe, Os) = some ⟨true, arrC n (upto k)⟩ ∧ σ.h.hp (h0.ep + 1 + 1, 2) = some ⟨true, [.sl ih 0 n 1]⟩ ∧ σ.h.hp (h0.ep + 1 + 1, 3) = some ⟨true, [.fn 84 []]⟩ ∧ σ.h.hp ih = some ⟨true, H.map iC⟩ ∧ Ext h0 σ.h ∧ Oe ≤ σ.h.ep)) _ ⟨0, rfl, qP _ _, by refine e12.trans ?_; first | rfl | exact yP (by omega) | exact i64w (by omega), ?_⟩ ?_
 · obtain ⟨ie, is⟩ := ih
   simp only at hi
   refine ⟨by omega, by simp -implicitDefEqProofs only [push_cast, sevalprocAttr, eq_self], ?_, ?_, ?_, (by repeat' (first | exact Ext.refl _ | assumption | omega | (with_reducible (refine Eg ?_; constructor)))), (by first | omega | (simp -implicitDefEqProofs only [push_cast, sevalprocAttr, eq_self]; first | done | omega))⟩
   · simp -implicitDefEqProofs (disch := omega) only [yF, yK, yG, yL, qN, YF, wW]
   · simp -implicitDefEqProofs (disch := omega) only [yF, yK, yG, yL, qN, YF, wW]
   · simp -implicitDefEqProofs (disch := omega) only [yF, yK, yG, yL, qN, YF, hb]
 clear e0 e1 e2 e3 e4 e5 e6 e11 e12 e13; rintro nn ⟨env, h⟩ ⟨k, rfl, q, e12, hI⟩; simp only at e12 hI; simp only [kp, and_true, E83_0] at q; have ee : _ ∧ _ := ⟨e12, q⟩; clear e12 q
 obtain ⟨hk, hbO, hb2, hb3, hbh, hx, hle⟩ := hI
 unfold l83_0
 (first | refine yS fun hF => ?_ | refine yY fun hF => ?_ | refine yX fun hF => ?_)
 by_cases hlt : k < n
 · have hd : decide ((k : Int) < (n : Int)) = true := dT (by omega)
   have hp1 := fun D => WX (n := n) D (k := k) hlt
   repeat' (first | ((try clear hf); with_reducible refine yD fun env K hE hK hf => ?_; have n := cj10 hE 0 1 2 3 4 5 6 11 12 13; simp -implicitDefEqProofs only [push_cast, reduceIte, Nat.reduceEqDiff, ee] at n; clear hE ee; have ee := n; clear n) | (with_reducible first | (refine hK _ _ ?_; clear hK K) | (refine Zi ?_; constructor) | refine yB (by decide) ?_ | refine yH (by assumption) ?_ | refine yJ (by assumption) ?_) | (refine yC rfl ?_) | (simp -implicitDefEqProofs only [push_cast, sevalprocAttr, eq_self, ee, hd, hbO, hp1, arrC_upto]) | (simp (disch := omega) only [yF, yK, yG, yL, hbO, hp1, arrC_upto]) | ((first | refine yE rfl (fun bb => ?_) (fun bb => ?_) | with_reducible refine yI (fun bb => ?_) (fun bb => ?_)) <;> (first | have bp := oT bb | have bp := oF bb | skip) <;> try simp only [bb]) | ((with_reducible refine And.intro ?_ ?_); omega) | (with_reducible refine yM ?_ ?_))
   have hne : ∀ {x : Id}, x.1 < Oe → ∀ (g : Hp) (c : List AV), (g.put (Oe, Os) c).hp x = g.hp x := fun h g c => YD _ _ _ _ (fun e => by rw [e] at h; simp at h)
   refine ⟨_, ?_, k + 1, rfl, by simp -implicitDefEqProofs only [kp, push_cast, reduceIte, Nat.reduceEqDiff, ee, E83_0, and_self], by first | rfl | exact yP (by omega) | exact i64w (by omega), ?_⟩
   · omega
   · refine ⟨by omega, rfl, ?_, ?_, ?_, (by repeat' (first | exact Ext.refl _ | assumption | omega | (with_reducible (refine Eg ?_; constructor)))), (by first | omega | (simp -implicitDefEqProofs only [push_cast, sevalprocAttr, eq_self]; first | done | omega))⟩
     · first | exact hb2 | exact (hne (by simp only; omega) _ _).trans hb2
     · first | exact hb3 | exact (hne (by simp only; omega) _ _).trans hb3
     · exact (hne (by omega) _ _).trans hbh
 · have hd : decide ((k : Int) < (n : Int)) = false := dF (by omega)
   obtain rfl : k = n := by omega
   have hc : ∀ g, Fr1 (Oe, Os) h g → CmpAt Try.prog (.fn 109 [.ptr (h0.ep + 1 + 1, 3) 0, .ptr (h0.ep + 1 + 1, 2) 0]) (keyH H) (fun x => 0 ≤ x ∧ x < k) g := by
    intro g hg d K env a b ha hb kk
    have g2 := (hg.hp (h0.ep + 1 + 1, 2) (by simp only; omega) (by simp; omega)).trans hb2
    have g3 := (hg.hp (h0.ep + 1 + 1, 3) (by simp only; omega) (by simp; omega)).trans hb3
    have gh := (hg.hp ih (by omega) (fun e => by rw [e] at hi; simp at hi; omega)).trans hbh
    refine call_lendq ?_ (f109 (H := H) (a := a) (b := b) (by omega) (by omega) hHb) rfl kk
    rw [← flat_intC] at gh
    have l1 := uP 6 (f := intC) (sz := 1) (fun _ => rfl) (fun _ => rfl) gh (UC (fun _ => rfl) H)
    rw [hH] at l1
    simp -implicitDefEqProofs only [push_cast, sevalprocAttr, eq_self, lend_ptrF, g2, g3, l1]
    rfl
   have hbI : h.hp (Oe, Os) = some ⟨true, arrC k idD⟩ := by rw [hbO, arrC_congr (fun j hj => by simp [upto, idD, hj] : ∀ j, j < k → upto k j = idD j)]
   have hcall : HC Try.prog 108 [.sl (Oe, Os) 0 k 1, .fn 109 [.ptr (h0.ep + 1 + 1, 3) 0, .ptr (h0.ep + 1 + 1, 2) 0]] h.tick.tick (SortQ h.tick.tick (Oe, Os) k fun d' => SP idD d' 0 k ∧ srt (keyH H) d' 0 k) :=
    f108 (fun g hg => hc g (Fr1.trans (by repeat (first | assumption | exact Fr1.refl _ _ | refine Fr1.tick ?_ | refine Fr1.put ?_ _ | refine Fr1.push ?_ (by omega) _)) hg)) (by simp -implicitDefEqProofs only [push_cast, sevalprocAttr, eq_self, hbI]) (by simp -implicitDefEqProofs only [push_cast, sevalprocAttr, eq_self]; omega) hn (fun j hj => by unfold idD; omega) (fun x _ => hHb _)
   repeat' (first | ((try clear hf); with_reducible refine yD fun env K hE hK hf => ?_; have n := cj10 hE 0 1 2 3 4 5 6 11 12 13; simp -implicitDefEqProofs only [push_cast, reduceIte, Nat.reduceEqDiff, ee] at n; clear hE ee; have ee := n; clear n) | (with_reducible first | (refine hK _ _ ?_; clear hK K) | (refine Zi ?_; constructor) | refine yB (by decide) ?_ | refine yH (by assumption) ?_ | refine yJ (by assumption) ?_) | (refine yC rfl ?_) | (simp -implicitDefEqProofs only [push_cast, sevalprocAttr, eq_self, ee, hd]) | (simp (disch := omega) only [yF, yK, yG, yL]) | ((first | refine yE rfl (fun bb => ?_) (fun bb => ?_) | with_reducible refine yI (fun bb => ?_) (fun bb => ?_)) <;> (first | have bp := oT bb | have bp := oF bb | skip) <;> try simp only [bb]) | ((with_reducible refine And.intro ?_ ?_); omega) | (refine qH (HC.mono hcall ?_); rintro r g ⟨rfl, hg, D', hb', hp1, hp2⟩ hF') | (with_reducible refine yM ?_ ?_))
   have hle2 := hg.ep
   simp only [qG] at hle2
   refine ⟨(Oe, Os), D', rfl, hb', hp1, hp2, by simp only; omega, (by first | omega | (simp -implicitDefEqProofs only [push_cast, sevalprocAttr, eq_self]; first | done | omega)), ?_⟩
   have hx2 : Ext h0 g := ⟨by have := hx.1; omega, fun x hx' => (hg.hp x (by have := hx.1; simp only [qG]; omega) (fun e => by rw [e] at hx'; simp at hx'; omega)).trans (hx.2 x hx')⟩
   exact (by repeat' (first | exact Ext.refl _ | assumption | omega | (with_reducible (refine Eg ?_; constructor))))
theorem heightS_len (l : List Opn) (t : Tab) : (wH l t).length = l.length := hM_len _ _ _ _
theorem heightS_bnd {l : List Opn} {t : Tab} (hR : errR l t = 0) (k : Nat) : 0 ≤ (wH l t).getD k 0 ∧ (wH l t).getD k 0 ≤ 8 * l.length := by
 obtain ⟨ht, hn, hop⟩ := wX hR
 exact hM_bnd ht (uN (l := l) ht l.length) l.length k
def OrdP (H : List Int) (n : Nat) (d : Nat → Int) : Prop := SP idD d 0 n ∧ srt (keyH H) d 0 n
set_option maxHeartbeats 1000000 in
theorem f50 {h0 : Hp} {l : List Opn} {t : Tab} (hl : ∀ o ∈ l, o.ok) :
 HC Try.prog 50 [.row (l.map opC), .agg (tabC t)] h0 fun r h' => Ext h0 h' ∧ ((errR l t ≠ 0 ∧ r = .tup [.nil, i64 (errR l t)]) ∨ (errR l t = 0 ∧ ∃ id d, r = .tup [.sl id 0 l.length 1, i64 0] ∧ h'.hp id = some ⟨true, arrC l.length d⟩ ∧ OrdP (wH l t) l.length d ∧ h0.ep < id.1 ∧ id.1 ≤ h'.ep)) := by
 refine qJ qM cf50 (by simp) fun hF => ?_
 unfold ac50 re50
 refine yN fun env hE => ?_; have ee := cj7 hE 0 1 3 4 5 6 7; simp -implicitDefEqProofs only [push_cast] at ee; clear hE
 by_cases hR : errR l t = 0
 · obtain ⟨ht, hn, hop⟩ := wX hR
   have hHl := heightS_len l t
   have hHb := heightS_bnd hR
   generalize hH : wH l t = H at *
   repeat' (first | ((try clear hf); with_reducible refine yD fun env K hE hK hf => ?_; have n := cj7 hE 0 1 3 4 5 6 7; simp -implicitDefEqProofs only [push_cast, reduceIte, Nat.reduceEqDiff, ee] at n; clear hE ee; have ee := n; clear n) | (with_reducible first | (refine hK _ _ ?_; clear hK K) | (refine Zi ?_; constructor) | refine yB (by decide) ?_ | refine yH (by assumption) ?_ | refine yJ (by assumption) ?_) | (refine yC rfl ?_) | (simp -implicitDefEqProofs only [push_cast, sevalprocAttr, eq_self, ee, hF.at]) | (simp (disch := omega) only [yF, yK, yG, yL, hF.at]) | ((first | refine yE rfl (fun bb => ?_) (fun bb => ?_) | with_reducible refine yI (fun bb => ?_) (fun bb => ?_)) <;> (first | have bp := oT bb | have bp := oF bb | skip) <;> try simp only [bb]) | ((with_reducible refine And.intro ?_ ?_); omega) | (refine qH (HC.mono (height_all hl) ?_); rintro r h1 ⟨hx, hr⟩ hF; rcases hr with ⟨hr, _⟩ | ⟨_, id, hr, hbH, hi1, hi2⟩; exact absurd hR hr; subst hr; rw [hH] at hbH) | (with_reducible refine yM ?_ ?_))
   have hcall := f83 (h0 := h1.tick.tick.tick) (H := H) hbH (by simp only [qG]; omega) (by omega) (fun k => by have := hHb k; omega)
   rw [hHl] at hcall
   repeat' (first | ((try clear hf); with_reducible refine yD fun env K hE hK hf => ?_; have n := cj7 hE 0 1 3 4 5 6 7; simp -implicitDefEqProofs only [push_cast, reduceIte, Nat.reduceEqDiff, ee] at n; clear hE ee; have ee := n; clear n) | (with_reducible first | (refine hK _ _ ?_; clear hK K) | (refine Zi ?_; constructor) | refine yB (by decide) ?_ | refine yH (by assumption) ?_ | refine yJ (by assumption) ?_) | (refine yC rfl ?_) | (simp -implicitDefEqProofs only [push_cast, sevalprocAttr, eq_self, ee]) | (simp (disch := omega) only [yF, yK, yG, yL]) | ((first | refine yE rfl (fun bb => ?_) (fun bb => ?_) | with_reducible refine yI (fun bb => ?_) (fun bb => ?_)) <;> (first | have bp := oT bb | have bp := oF bb | skip) <;> try simp only [bb]) | ((with_reducible refine And.intro ?_ ?_); omega) | (refine qH (HC.mono hcall ?_); rintro r g ⟨jd, D', rfl, hb', hp1, hp2, j1, j2, hxg⟩ hF') | (with_reducible refine yM ?_ ?_))
   have hX01 : Ext h0 h1 := Ext.tr (by repeat' (first | exact Ext.refl _ | assumption | omega | (with_reducible (refine Eg ?_; constructor)))) hx
   have hX02 : Ext h0 g := Ext.tr (by repeat' (first | exact Ext.refl _ | assumption | omega | (with_reducible (refine Eg ?_; constructor)))) hxg
   have := hX01.1
   simp only [qG] at j1
   refine ⟨(by repeat' (first | exact Ext.refl _ | assumption | omega | (with_reducible (refine Eg ?_; constructor)))), .inr ⟨hR, jd, D', rfl, hb', ⟨hp1, hp2⟩, by omega, (by first | omega | (simp -implicitDefEqProofs only [push_cast, sevalprocAttr, eq_self]; first | done | omega))⟩⟩
 · have hd : decide (errR l t ≠ 0) = true := dT hR
   repeat' (first | ((try clear hf); with_reducible refine yD fun env K hE hK hf => ?_; have n := cj7 hE 0 1 3 4 5 6 7; simp -implicitDefEqProofs only [push_cast, reduceIte, Nat.reduceEqDiff, ee] at n; clear hE ee; have ee := n; clear n) | (with_reducible first | (refine hK _ _ ?_; clear hK K) | (refine Zi ?_; constructor) | refine yB (by decide) ?_ | refine yH (by assumption) ?_ | refine yJ (by assumption) ?_) | (refine yC rfl ?_) | (simp -implicitDefEqProofs only [push_cast, sevalprocAttr, eq_self, ee, hF.at, hd]) | (simp (disch := omega) only [yF, yK, yG, yL, hF.at]) | ((first | refine yE rfl (fun bb => ?_) (fun bb => ?_) | with_reducible refine yI (fun bb => ?_) (fun bb => ?_)) <;> (first | have bp := oT bb | have bp := oF bb | skip) <;> try simp only [bb]) | ((with_reducible refine And.intro ?_ ?_); omega) | (refine qH (HC.mono (height_all hl) ?_); rintro r h1 ⟨hx, hr⟩ hF; rcases hr with ⟨_, hr⟩ | ⟨hr, _⟩; rotate_left; exact absurd hr hR; subst hr) | (with_reducible refine yM ?_ ?_))
   have hX01 : Ext h0 h1 := Ext.tr (by repeat' (first | exact Ext.refl _ | assumption | omega | (with_reducible (refine Eg ?_; constructor)))) hx
   exact ⟨(by repeat' (first | exact Ext.refl _ | assumption | omega | (with_reducible (refine Eg ?_; constructor)))), .inl hR⟩
end Go.Proofs.Hx
set_option linter.unusedVariables false
set_option linter.unusedSimpArgs false
namespace Go.Proofs.Hx
open Go Go.Proofs
theorem OrdP.rng {H : List Int} {n : Nat} {d : Nat → Int} (o : OrdP H n d) : ∀ k, k < n → 0 ≤ d k ∧ d k < n := fun k hk => o.1.all (Q := fun x => 0 ≤ x ∧ x < (n : Int)) (fun k _ hk => by unfold idD; omega) k (by omega) hk
theorem kR.irr {key : Int → Int} {x : Int} : ¬ kR key x x := by unfold kR; omega
theorem kR.asym {key : Int → Int} {x y : Int} (h : kR key x y) : ¬ kR key y x := by unfold kR at *; omega
theorem OrdP.inj {H : List Int} {n : Nat} {d : Nat → Int} (o : OrdP H n d) {i j : Nat} (hi : i < n) (hj : j < n) (h : d i = d j) : i = j := by
 rcases Nat.lt_trichotomy i j with h1 | h1 | h1
 · have := o.2 i j (by omega) h1 hj; rw [h] at this; exact absurd this kR.irr
 · exact h1
 · have := o.2 j i (by omega) h1 hi; rw [h] at this; exact absurd this kR.irr
theorem OrdP.surj {H : List Int} {n : Nat} {d : Nat → Int} (o : OrdP H n d) {x : Nat} (hx : x < n) : ∃ j, j < n ∧ d j = x := by
 have h1 : 0 < cnt idD 0 (n - 0) (x : Int) := cnt_pos.2 ⟨x, by omega, by simp [idD]⟩
 rw [← o.1.num] at h1
 obtain ⟨j, h2, h3⟩ := cnt_pos.1 h1
 exact ⟨j, by omega, by simpa using h3⟩
theorem OrdP.lt {H : List Int} {n : Nat} {d : Nat → Int} (o : OrdP H n d) {i j : Nat} (hi : i < n) (hj : j < n) (h : kR (keyH H) (d i) (d j)) : i < j := by
 rcases Nat.lt_trichotomy i j with h1 | h1 | h1
 · exact h1
 · subst h1; exact absurd h kR.irr
 · exact absurd (o.2 j i (by omega) h1 hi) h.asym
end Go.Proofs.Hx
set_option linter.unusedVariables false
set_option linter.unusedSimpArgs false
namespace Go.Proofs.Hx
open Go Go.Proofs
attribute [local irreducible] yR awp opK goV goM qB yW qE yT HV HVF HC
theorem op_ext (a b : Opn) : a = b ↔ a.k = b.k ∧ a.d = b.d ∧ a.a = b.a ∧ a.b = b.b ∧ a.im = b.im := by
 constructor
 · rintro rfl; simp
 · rintro ⟨h1, h2, h3, h4, h5⟩
   cases a; cases b; simp at *; exact ⟨h1, h2, h3, h4, h5⟩
instance : DecidableEq Opn := fun a b => decidable_of_iff _ (op_ext a b).symm
end Go.Proofs.Hx
set_option linter.unusedVariables false
set_option linter.unusedSimpArgs false
namespace Go.Proofs.Hx
open Go Go.Proofs
theorem sorted_uniq {R : Int → Int → Prop} (irr : ∀ x, ¬ R x x) (asym : ∀ x y, R x y → ¬ R y x) : ∀ {A B : List Int}, A.Pairwise R → B.Pairwise R → (∀ x, x ∈ A ↔ x ∈ B) → A = B
 | [], [], _, _, _ => rfl
 | [], b :: B, _, _, h => by have := (h b).2 (List.mem_cons_self ..); simp at this
 | a :: A, [], _, _, h => by have := (h a).1 (List.mem_cons_self ..); simp at this
 | a :: A, b :: B, hA, hB, h => by
   rw [List.pairwise_cons] at hA hB
   have hab : a = b := by
    rcases List.mem_cons.1 ((h a).1 (List.mem_cons_self ..)) with e | e
    · exact e
    · rcases List.mem_cons.1 ((h b).2 (List.mem_cons_self ..)) with e' | e'
      · exact e'.symm
      · exact absurd (hA.1 b e') (asym _ _ (hB.1 a e))
   subst hab
   rw [sorted_uniq irr asym hA.2 hB.2 fun x => ?_]
   constructor
   · intro hx
     rcases List.mem_cons.1 ((h x).1 (List.mem_cons_of_mem _ hx)) with e | e
     · subst e; exact absurd (hA.1 x hx) (irr x)
     · exact e
   · intro hx
     rcases List.mem_cons.1 ((h x).2 (List.mem_cons_of_mem _ hx)) with e | e
     · subst e; exact absurd (hB.1 x hx) (irr x)
     · exact e
def ordD (n : Nat) (d : Nat → Int) : List Int := (List.range n).map d
theorem OrdP.pw {H : List Int} {n : Nat} {d : Nat → Int} (o : OrdP H n d) : (ordD n d).Pairwise (kR (keyH H)) := by
 rw [List.pairwise_iff_getElem]
 intro i j hi hj hij
 simp only [ordD, List.length_map, List.length_range] at hi hj
 simp only [ordD, List.getElem_map, List.getElem_range]
 exact o.2 i j (by omega) hij hj
theorem OrdP.mem {H : List Int} {n : Nat} {d : Nat → Int} (o : OrdP H n d) (x : Int) : x ∈ ordD n d ↔ 0 ≤ x ∧ x < n := by
 simp only [ordD, List.mem_map, List.mem_range]
 constructor
 · rintro ⟨i, hi, rfl⟩; exact o.rng i hi
 · rintro ⟨h1, h2⟩
   obtain ⟨j, hj, he⟩ := o.surj (x := x.toNat) (by omega)
   exact ⟨j, hj, by rw [he]; omega⟩
def filtH (H : List Int) (n : Nat) (x : Int) : List Int := ((List.range n).filter fun i => decide (H.getD i 0 = x)).map fun (i : Nat) => (i : Int)
def accH (H : List Int) (n : Nat) (M : Int) : Nat → List Int
 | 0 => []
 | c + 1 => accH H n M c ++ filtH H n (M - c)
theorem filtH_mem (H : List Int) (n : Nat) (x y : Int) : y ∈ filtH H n x ↔ 0 ≤ y ∧ y < n ∧ H.getD y.toNat 0 = x := by
 simp only [filtH, List.mem_map, List.mem_filter, List.mem_range, decide_eq_true_eq]
 constructor
 · rintro ⟨i, ⟨h1, h2⟩, rfl⟩; exact ⟨by omega, by omega, by simpa using h2⟩
 · rintro ⟨h1, h2, h3⟩; exact ⟨y.toNat, ⟨by omega, h3⟩, by omega⟩
theorem filtH_pw (H : List Int) (n : Nat) (x : Int) : (filtH H n x).Pairwise (kR (keyH H)) := by
 unfold filtH
 rw [List.pairwise_map]
 have h1 : ((List.range n).filter fun i => decide (H.getD i 0 = x)).Pairwise fun a b => a < b := List.Pairwise.filter _ List.pairwise_lt_range
 refine List.Pairwise.imp_of_mem (fun {a b} ha hb hab => ?_) h1
 simp only [List.mem_filter, decide_eq_true_eq] at ha hb
 unfold kR keyH
 simp only [Int.toNat_natCast]
 omega
theorem accH_mem (H : List Int) (n : Nat) (M : Int) (c : Nat) (y : Int) : y ∈ accH H n M c ↔ 0 ≤ y ∧ y < n ∧ M - c < H.getD y.toNat 0 ∧ H.getD y.toNat 0 ≤ M := by
 induction c with
 | zero => (simp only [accH, List.not_mem_nil, false_iff]; omega)
 | succ c ih => rw [accH, List.mem_append, ih, filtH_mem]; omega
theorem accH_pw (H : List Int) (n : Nat) (M : Int) (c : Nat) : (accH H n M c).Pairwise (kR (keyH H)) := by
 induction c with
 | zero => exact List.Pairwise.nil
 | succ c ih =>
   rw [accH, List.pairwise_append]
   refine ⟨ih, filtH_pw H n _, fun a ha b hb => ?_⟩
   rw [accH_mem] at ha
   rw [filtH_mem] at hb
   left
   unfold keyH
   omega
theorem order_uniq {H : List Int} {n : Nat} {d : Nat → Int} (o : OrdP H n d) {M : Nat} (hM : ∀ k, k < n → 0 ≤ H.getD k 0 ∧ H.getD k 0 ≤ M) : ordD n d = accH H n M (M + 1) := by
 refine sorted_uniq (fun _ => kR.irr) (fun _ _ h => h.asym) o.pw (accH_pw H n M (M + 1)) fun x => ?_
 rw [o.mem, accH_mem]
 constructor
 · rintro ⟨h1, h2⟩
   have := hM x.toNat (by omega)
   omega
 · rintro ⟨h1, h2, _⟩; exact ⟨h1, h2⟩
end Go.Proofs.Hx
set_option linter.unusedVariables false
set_option linter.unusedSimpArgs false
namespace Go.Proofs.Hx
open Go Go.Proofs
attribute [local irreducible] yR awp opK goV goM qB yW qE yT HV HVF HC
def mxH (H : List Int) (k : Nat) : Int := (H.take k).foldl mx 0
theorem mxH_succ {H : List Int} {k : Nat} (h : k < H.length) : mxH H (k + 1) = mx (mxH H k) (H.getD k 0) := by
 unfold mxH
 rw [List.take_succ_eq_append_getElem h, List.foldl_append]
 simp [gD, h]
theorem mxH_bnd {H : List Int} {B : Int} (hB : 0 ≤ B) (hH : ∀ k, 0 ≤ H.getD k 0 ∧ H.getD k 0 ≤ B) : ∀ k, k ≤ H.length → 0 ≤ mxH H k ∧ mxH H k ≤ B ∧ ∀ j, j < k → H.getD j 0 ≤ mxH H k
 | 0, _ => ⟨by simp [mxH], by simpa [mxH] using hB, fun j hj => by omega⟩
 | k + 1, h => by
   obtain ⟨a, b, c⟩ := mxH_bnd hB hH k (by omega)
   have := hH k
   rw [mxH_succ (by omega)]
   refine ⟨by unfold mx; split <;> omega, by unfold mx; split <;> omega, fun j hj => ?_⟩
   by_cases e : j < k
   · have := c j e; unfold mx; split <;> omega
   · obtain rfl : j = k := by omega
     unfold mx; split <;> omega
def ordL (H : List Int) : List Int := accH H H.length (mxH H H.length) ((mxH H H.length).toNat + 1)
theorem ordL_eq2 {H : List Int} {n : Nat} {d : Nat → Int} {B : Int} (o : OrdP H n d) (hl : H.length = n) (hB : 0 ≤ B) (hH : ∀ k, 0 ≤ H.getD k 0 ∧ H.getD k 0 ≤ B) : ordL H = ordD n d := by
 have hm := mxH_bnd hB hH n (by omega)
 unfold ordL
 rw [hl]
 have h := order_uniq o (M := (mxH H n).toNat) fun k hk => ⟨(hH k).1, by have := hm.2.2 k hk; omega⟩
 rw [h]
 congr 1
 omega
theorem UN {P : Program} {d : Option Nat} {K : St → Prop} {env : Nat → AV} {h : Hp} {g : Nat} {x a b : AV} (hc : HC P g [x, a, b] h fun r h' => qY h' → K ⟨putA env d r, h'.tick⟩) : qB P d K env h false (.bf g [x]) [a, b] := call_bf (fs := [x]) (args := [a, b]) hc
def cycE (l : List Opn) (t : Tab) : Int := if errR l t ≠ 0 then errR l t else if WP l t = true then 21 else 0
noncomputable def cycS (l : List Opn) (t : Tab) : List Int := finG l t (YP l t l.length) (ordL (wH l t))
theorem ordD_get (n : Nat) (d : Nat → Int) (k : Nat) : (ordD n d)[k]? = if k < n then some (d k) else none := by
 simp only [ordD, List.getElem?_map, List.getElem?_range]
 split <;> simp_all
theorem cntG_neg {cs : List Int} {i : Nat} (hi : i < cs.length) (h : cs.getD i 0 < 0) : cntG cs < cs.length := by
 have h1 := cnt_set (y := 0) hi h (by omega)
 have h2 := cnt_le (cs.set i 0)
 rw [List.length_set] at h2
 omega
set_option maxHeartbeats 2000000 in
theorem f13 {h0 : Hp} {l : List Opn} {t : Tab} (hl : ∀ o ∈ l, o.ok) :
 HC Try.prog 13 [.row (l.map opC), .agg (tabC t)] h0 fun r h' => Ext h0 h' ∧ (errR l t = 0 → ∃ d, OrdP (wH l t) l.length d) ∧ ((cycE l t ≠ 0 ∧ r = .tup [.nil, i64 (cycE l t)]) ∨ (cycE l t = 0 ∧ ∃ id, r = .tup [.sl id 0 l.length 1, i64 0] ∧ h'.hp id = some ⟨true, (cycS l t).map iC⟩ ∧ (cycS l t).length = l.length ∧ (∃ y, GoS l t (YP l t l.length) (ordL (wH l t)) (cycS l t) y) ∧ WA (cycS l t) ∧ h0.ep < id.1 ∧ id.1 ≤ h'.ep)) := by
 refine qJ qM cf13 (by simp) fun hF => ?_
 unfold ac13 re13
 refine yN fun env hE => ?_; have ee := cj17 hE 0 1 3 4 5 6 7 8 9 10 11 12 14 43 44 45 46; simp -implicitDefEqProofs only [push_cast] at ee; clear hE
 by_cases hR : errR l t = 0
 rotate_left
 · have hd : decide (errR l t ≠ 0) = true := dT hR
   have hE : cycE l t = errR l t := by unfold cycE; rw [if_pos hR]
   repeat' (first | ((try clear hf); with_reducible refine yD fun env K hE hK hf => ?_; have n := cj17 hE 0 1 3 4 5 6 7 8 9 10 11 12 14 43 44 45 46; simp -implicitDefEqProofs only [push_cast, reduceIte, Nat.reduceEqDiff, ee] at n; clear hE ee; have ee := n; clear n) | (with_reducible first | (refine hK _ _ ?_; clear hK K) | (refine Zi ?_; constructor) | refine yB (by decide) ?_ | refine yH (by assumption) ?_ | refine yJ (by assumption) ?_) | (refine yC rfl ?_) | (simp -implicitDefEqProofs only [push_cast, sevalprocAttr, eq_self, ee, hF.at, hd]) | (simp (disch := omega) only [yF, yK, yG, yL, hF.at]) | ((first | refine yE rfl (fun bb => ?_) (fun bb => ?_) | with_reducible refine yI (fun bb => ?_) (fun bb => ?_)) <;> (first | have bp := oT bb | have bp := oF bb | skip) <;> try simp only [bb]) | ((with_reducible refine And.intro ?_ ?_); omega) | (refine qH (HC.mono (f50 hl) ?_); rintro r h1 ⟨hx, hr⟩ hF; rcases hr with ⟨_, hr⟩ | ⟨hr, _⟩; rotate_left; exact absurd hr hR; subst hr) | (with_reducible refine yM ?_ ?_))
   have hX01 : Ext h0 h1 := Ext.tr (by repeat' (first | exact Ext.refl _ | assumption | omega | (with_reducible (refine Eg ?_; constructor)))) hx
   exact ⟨(by repeat' (first | exact Ext.refl _ | assumption | omega | (with_reducible (refine Eg ?_; constructor)))), fun h => absurd h hR, .inl ⟨by rw [hE]; exact hR, by rw [hE]⟩⟩
 obtain ⟨ht, hn, hop⟩ := wX hR
 have hHl := heightS_len l t
 have hHb := heightS_bnd hR
 have hdn : decide ((0 : Int) ≠ 0) = false := rfl
 have hbT := hR
 have hbox : ∀ {h1 : Hp}, Ext (h0.tick.tick.push (h0.ep + 1 + 1, 3) (tabC t)).tick h1 → h1.hp (h0.ep + 1 + 1, 3) = some ⟨true, tabC t⟩ := fun hx => by
  rw [hx.2 _ (by simp only [qG, YV]; omega)]
  simp -implicitDefEqProofs only [push_cast, sevalprocAttr, eq_self]
 by_cases hlk : WP l t = false
 rotate_left
 · have hlk : WP l t = true := by simpa using hlk
   have hE : cycE l t = 21 := by unfold cycE; rw [if_neg (fun h => h hR), if_pos hlk]
   repeat' (first | ((try clear hf); with_reducible refine yD fun env K hE hK hf => ?_; have n := cj17 hE 0 1 3 4 5 6 7 8 9 10 11 12 14 43 44 45 46; simp -implicitDefEqProofs only [push_cast, reduceIte, Nat.reduceEqDiff, ee] at n; clear hE ee; have ee := n; clear n) | (with_reducible first | (refine hK _ _ ?_; clear hK K) | (refine Zi ?_; constructor) | refine yB (by decide) ?_ | refine yH (by assumption) ?_ | refine yJ (by assumption) ?_) | (refine yC rfl ?_) | (simp -implicitDefEqProofs only [push_cast, sevalprocAttr, eq_self, ee, hF.at, hdn, hlk, hbT]) | (simp (disch := omega) only [yF, yK, yG, yL, hF.at, hdn]) | ((first | refine yE rfl (fun bb => ?_) (fun bb => ?_) | with_reducible refine yI (fun bb => ?_) (fun bb => ?_)) <;> (first | have bp := oT bb | have bp := oF bb | skip) <;> try simp only [bb]) | ((with_reducible refine And.intro ?_ ?_); omega) | (refine qH (HC.mono (f50 hl) ?_); rintro r h1 ⟨hx, hr⟩ hF; rcases hr with ⟨hr, _⟩ | ⟨_, id, d, hr, hbo, hord, hi1, hi2⟩; exact absurd hR hr; subst hr; have hbT := hbox hx) | (refine yO (f51 l t hn) ?_) | (with_reducible refine yM ?_ ?_))
   have hX01 : Ext h0 h1 := Ext.tr (by repeat' (first | exact Ext.refl _ | assumption | omega | (with_reducible (refine Eg ?_; constructor)))) hx
   exact ⟨(by repeat' (first | exact Ext.refl _ | assumption | omega | (with_reducible (refine Eg ?_; constructor)))), fun _ => ⟨d, hord⟩, .inl ⟨by rw [hE]; decide, by rw [hE]⟩⟩
 have hcE : cycE l t = 0 := by unfold cycE; rw [if_neg (fun h => h hR), if_neg (by rw [hlk]; decide)]
 have h16 := fun E R => jobC_16 l t E R
 repeat' (first | ((try clear hf); with_reducible refine yD fun env K hE hK hf => ?_; have n := cj17 hE 0 1 3 4 5 6 7 8 9 10 11 12 14 43 44 45 46; simp -implicitDefEqProofs only [push_cast, reduceIte, Nat.reduceEqDiff, ee] at n; clear hE ee; have ee := n; clear n) | (with_reducible first | (refine hK _ _ ?_; clear hK K) | (refine Zi ?_; constructor) | refine yB (by decide) ?_ | refine yH (by assumption) ?_ | refine yJ (by assumption) ?_) | (refine yC rfl ?_) | (simp -implicitDefEqProofs only [push_cast, sevalprocAttr, eq_self, ee, hF.at, hdn, hlk, hbT, h16]) | (simp (disch := omega) only [yF, yK, yG, yL, hF.at, hdn]) | ((first | refine yE rfl (fun bb => ?_) (fun bb => ?_) | with_reducible refine yI (fun bb => ?_) (fun bb => ?_)) <;> (first | have bp := oT bb | have bp := oF bb | skip) <;> try simp only [bb]) | ((with_reducible refine And.intro ?_ ?_); omega) | (refine qH (HC.mono (f50 hl) ?_); rintro r h1 ⟨hx, hr⟩ hF; rcases hr with ⟨hr, _⟩ | ⟨_, ⟨ie, is⟩, d, hr, hbo, hord, hi1, hi2⟩; exact absurd hR hr; subst hr; have hbT := hbox hx) | (refine yO (f51 l t hn) ?_) | (refine qH (HC.mono (f52 hl hR) ?_); rintro r h2 ⟨E, c, R, B, rfl, hEp, j, hx2⟩ hF2; have hbT := j.hj) | (with_reducible refine yM ?_ ?_))
 have hX01 : Ext h0 h1 := Ext.tr (by repeat' (first | exact Ext.refl _ | assumption | omega | (with_reducible (refine Eg ?_; constructor)))) hx
 have hX2 : Ext h1 h2 := Ext.tr (by repeat' (first | exact Ext.refl _ | assumption | omega | (with_reducible (refine Eg ?_; constructor)))) hx2
 simp only at hi1 hi2
 have hEp1 : h1.ep < E := by simp only [qG] at hEp; omega
 have hos := ordL_eq2 hord hHl (B := 8 * l.length) (by omega) hHb
 have hmem := hord.mem
 have hE := uN (l := l) ht l.length
 have hEl := uZ l t l.length l.length (Nat.le_refl _)
 have hmul : 5 * l.length * l.length ≤ 5 * 1024 * 1024 := Nat.mul_le_mul (by omega) (by omega)
 have hfin : ∀ cs y, GoS l t (YP l t l.length) (ordL (wH l t)) cs y → WA cs → cycS l t = cs := fun cs y => finG_of
 rw [hos] at hfin ⊢
 generalize hES : YP l t l.length = ES at *
 have hinv : ∀ cs y, GoS l t ES (ordD l.length d) cs y → InvG l t ES cs y := fun cs y h => h.inv hE ht hlk (fun x hx => (hmem x).1 hx) (fun i hi => (hmem i).2 (by omega))
 have hdr : ∀ k, k < l.length → 0 ≤ d k ∧ d k < l.length := fun k hk => by have := hord.rng k hk; omega
 have hog := ordD_get l.length d
 have h0c : cntG (List.replicate l.length (-1)) = 0 := by
  unfold cntG
  rw [List.countP_eq_zero]
  intro x hx
  rw [List.mem_replicate] at hx
  rw [hx.2]; decide
 refine yN fun env hE => ?_; have n := cj17 hE 0 1 3 4 5 6 7 8 9 10 11 12 14 43 44 45 46; simp -implicitDefEqProofs only [push_cast, reduceIte, Nat.reduceEqDiff, ee] at n; clear hE ee; have ee := n; clear n; have E13_2 := ee; obtain ⟨e0, e1, e3, e4, e5, e6, e7, e8, e9, e10, e11, e12, e14, e43, e44, e45, e46⟩ := ee
 refine qC (fun nn σ => ∃ (y : Nat) (cs : List Int) (m : List ((Int × Int) × Int)), nn = 8 * l.length + 9 - y ∧ kp [0, 1, 3, 4, 5, 6, 7, 8, 9, 10] σ.env env ∧ σ.env 11 = i64 y ∧ σ.env 12 = i64 ((l.length : Int) - (cntG cs : Int)) ∧ (JobH σ.h E c R B l t ES cs m ∧ (∀ c y, cntM m c y = useR l t cs l.length c y) ∧ (∃ y', GoS l t ES (ordD l.length d) cs y' ∧ (y' = (y : Int) ∨ WA cs)) ∧ y ≤ 8 * l.length + 8 ∧ Ext h1 σ.h)) _ ⟨0, List.replicate l.length (-1), [], rfl, qP _ _, by refine e11.trans ?_; first | rfl | exact yP (by omega) | exact i64w (by omega), by refine e12.trans ?_; first | rfl | exact yP (by omega) | exact i64w (by omega), ?_⟩ ?_
 · refine ⟨j.ext (by repeat' (first | exact Ext.refl _ | assumption | omega | (with_reducible (refine Eg ?_; constructor)))) rfl, fun c y => ?_, ⟨0, GoS.init, .inl rfl⟩, by omega, (by repeat' (first | exact Ext.refl _ | assumption | omega | (with_reducible (refine Eg ?_; constructor))))⟩
   have hz : ∀ k, k ≤ l.length → useR l t (List.replicate l.length (-1)) k c y = 0 := fun k => by
    induction k with
    | zero => exact fun _ => rfl
    | succ k ih =>
      intro hk
      rw [useR, ih (by omega), if_neg]; · rfl
      rw [gD, List.getElem?_replicate, if_pos (by omega)]
      intro h; have := h.2.1; simp at this
   rw [hz _ (Nat.le_refl _)]
   rfl
 clear hF2 hbT
 clear e0 e1 e3 e4 e5 e6 e7 e8 e9 e10 e11 e12 e14 e43 e44 e45 e46; rintro nn ⟨env, h3⟩ ⟨y, cs, m, rfl, q, e11, e12, hI⟩; simp only at e11 e12 hI; simp only [kp, and_true, E13_2] at q; have ee : _ ∧ _ ∧ _ := ⟨e11, e12, q⟩; clear e11 e12 q
 obtain ⟨j3, hcnt, hgo, hyb, hx3⟩ := hI
 unfold l13_2
 have hlen := j3.ls
 have hcl := cnt_le cs
 by_cases hdn : WA cs
 · have hd : decide (0 < (l.length : Int) - (cntG cs : Int)) = false := dF (by rw [cnt_done] at hdn; omega)
   have hj := j3.hj
   have h15 := jobC_15 l t E R
   obtain ⟨y', hgo, _⟩ := hgo
   have hfi := hfin _ _ hgo hdn
   repeat' (first | ((try clear hf); with_reducible refine yD fun env K hE hK hf => ?_; have n := cj17 hE 0 1 3 4 5 6 7 8 9 10 11 12 14 43 44 45 46; simp -implicitDefEqProofs only [push_cast, reduceIte, Nat.reduceEqDiff, ee] at n; clear hE ee; have ee := n; clear n) | (with_reducible first | (refine hK _ _ ?_; clear hK K) | (refine Zi ?_; constructor) | refine yB (by decide) ?_ | refine yH (by assumption) ?_ | refine yJ (by assumption) ?_) | (refine yC rfl ?_) | (simp -implicitDefEqProofs only [push_cast, sevalprocAttr, eq_self, ee, hd, hj, h15]) | (simp (disch := omega) only [yF, yK, yG, yL]) | ((first | refine yE rfl (fun bb => ?_) (fun bb => ?_) | with_reducible refine yI (fun bb => ?_) (fun bb => ?_)) <;> (first | have bp := oT bb | have bp := oF bb | skip) <;> try simp only [bb]) | ((with_reducible refine And.intro ?_ ?_); omega) | (with_reducible refine yM ?_ ?_))
   have hxh : Ext h0 h3 := hX01.tr hx3
   have h1e := hX01.1
   have hle := j3.lE
   refine ⟨(by repeat' (first | exact Ext.refl _ | assumption | omega | (with_reducible (refine Eg ?_; constructor)))), fun _ => ⟨d, hord⟩, .inr ⟨hcE, (E, 18), rfl, ?_, by rw [hfi]; exact hlen, by rw [hfi]; exact ⟨y', hgo⟩, by rw [hfi]; exact hdn, by simp only; omega, by simp only; omega⟩⟩
   rw [hfi]; exact j3.hc
 have hcnt1 : cntG cs < l.length := by
  have h' : ¬ cntG cs = cs.length := fun h => hdn (cnt_done.2 h)
  omega
 have hd : decide (0 < (l.length : Int) - (cntG cs : Int)) = true := dT (by omega)
 obtain ⟨y', hgo, hyy⟩ := hgo
 obtain rfl := hyy.resolve_right hdn
 have hyb2 := (hinv _ _ hgo).yb
 repeat' (first | ((try clear hf); with_reducible refine yD fun env K hE hK hf => ?_; have n := cj17 hE 0 1 3 4 5 6 7 8 9 10 11 12 14 43 44 45 46; simp -implicitDefEqProofs only [push_cast, reduceIte, Nat.reduceEqDiff, ee] at n; clear hE ee; have ee := n; clear n) | (with_reducible first | (refine hK _ _ ?_; clear hK K) | (refine Zi ?_; constructor) | refine yB (by decide) ?_ | refine yH (by assumption) ?_ | refine yJ (by assumption) ?_) | (refine yC rfl ?_) | (simp -implicitDefEqProofs only [push_cast, sevalprocAttr, eq_self, ee, hd]) | (simp (disch := omega) only [yF, yK, yG, yL]) | ((first | refine yE rfl (fun bb => ?_) (fun bb => ?_) | with_reducible refine yI (fun bb => ?_) (fun bb => ?_)) <;> (first | have bp := oT bb | have bp := oF bb | skip) <;> try simp only [bb]) | ((with_reducible refine And.intro ?_ ?_); omega) | (with_reducible refine yM ?_ ?_))
 refine yN fun env hE => ?_; have n := cj17 hE 0 1 3 4 5 6 7 8 9 10 11 12 14 43 44 45 46; simp -implicitDefEqProofs only [push_cast, reduceIte, Nat.reduceEqDiff, ee] at n; clear hE ee; have ee := n; clear n; have E13_1 := ee; obtain ⟨e0, e1, e3, e4, e5, e6, e7, e8, e9, e10, e11, e12, e14, e43, e44, e45, e46⟩ := ee
 refine qC (fun nn σ => ∃ (cs : List Int) (m : List ((Int × Int) × Int)), nn = l.length - cntG cs + 0 ∧ kp [0, 1, 3, 4, 5, 6, 7, 8, 9, 10, 11] σ.env env ∧ σ.env 12 = i64 ((l.length : Int) - (cntG cs : Int)) ∧ (JobH σ.h E c R B l t ES cs m ∧ (∀ c y, cntM m c y = useR l t cs l.length c y) ∧ GoS l t ES (ordD l.length d) cs y ∧ Ext h1 σ.h)) _ ⟨cs, m, rfl, qP _ _, by refine e12.trans ?_; first | rfl | exact yP (by omega) | exact i64w (by omega), ?_⟩ ?_
 · exact ⟨j3.ext (by repeat' (first | exact Ext.refl _ | assumption | omega | (with_reducible (refine Eg ?_; constructor)))) rfl, hcnt, hgo, (by repeat' (first | exact Ext.refl _ | assumption | omega | (with_reducible (refine Eg ?_; constructor))))⟩
 clear hd hgo hcnt hx3 j3 hcl hlen hcnt1 hdn hyb2
 clear e0 e1 e3 e4 e5 e6 e7 e8 e9 e10 e11 e12 e14 e43 e44 e45 e46; rintro nn ⟨env, h4⟩ ⟨cs, m, rfl, q, e12, hI⟩; simp only at e12 hI; simp only [kp, and_true, E13_1] at q; have ee : _ ∧ _ := ⟨e12, q⟩; clear e12 q
 obtain ⟨j4, hcnt, hgo, hx4⟩ := hI
 unfold l13_1
 repeat' (first | ((try clear hf); with_reducible refine yD fun env K hE hK hf => ?_; have n := cj17 hE 0 1 3 4 5 6 7 8 9 10 11 12 14 43 44 45 46; simp -implicitDefEqProofs only [push_cast, reduceIte, Nat.reduceEqDiff, ee] at n; clear hE ee; have ee := n; clear n) | (with_reducible first | (refine hK _ _ ?_; clear hK K) | (refine Zi ?_; constructor) | refine yB (by decide) ?_ | refine yH (by assumption) ?_ | refine yJ (by assumption) ?_) | (refine yC rfl ?_) | (simp -implicitDefEqProofs only [push_cast, sevalprocAttr, eq_self, ee]) | (simp (disch := omega) only [yF, yK, yG, yL]) | ((first | refine yE rfl (fun bb => ?_) (fun bb => ?_) | with_reducible refine yI (fun bb => ?_) (fun bb => ?_)) <;> (first | have bp := oT bb | have bp := oF bb | skip) <;> try simp only [bb]) | ((with_reducible refine And.intro ?_ ?_); omega) | (with_reducible refine yM ?_ ?_))
 refine yN fun env hE => ?_; have n := cj17 hE 0 1 3 4 5 6 7 8 9 10 11 12 14 43 44 45 46; simp -implicitDefEqProofs only [push_cast, reduceIte, Nat.reduceEqDiff, ee] at n; clear hE ee; have ee := n; clear n; have E13_0 := ee; obtain ⟨e0, e1, e3, e4, e5, e6, e7, e8, e9, e10, e11, e12, e14, e43, e44, e45, e46⟩ := ee
 refine qC (fun nn σ => ∃ (k : Nat) (cs1 : List Int) (m : List ((Int × Int) × Int)), nn = l.length - k + 0 ∧ kp [0, 1, 3, 4, 5, 6, 7, 8, 9, 10, 11, 43, 44] σ.env env ∧ σ.env 45 = i64 k ∧ σ.env 12 = i64 ((l.length : Int) - (cntG cs1 : Int)) ∧ (k ≤ l.length ∧ JobH σ.h E c R B l t ES cs1 m ∧ (∀ c y, cntM m c y = useR l t cs1 l.length c y) ∧ GoS l t ES (ordD l.length d) cs1 y ∧ (∀ j x, j < k → (ordD l.length d)[j]? = some x → ¬ fitP l t ES cs1 x.toNat y) ∧ (cs1 = cs ∨ WA cs1) ∧ Ext h1 σ.h)) _ ⟨0, cs, m, rfl, qP _ _, by refine e45.trans ?_; first | rfl | exact yP (by omega) | exact i64w (by omega), by refine e12.trans ?_; first | rfl | exact yP (by omega) | exact i64w (by omega), ?_⟩ ?_
 · exact ⟨by omega, j4.ext (by repeat' (first | exact Ext.refl _ | assumption | omega | (with_reducible (refine Eg ?_; constructor)))) rfl, hcnt, hgo, fun j x hj => by omega, .inl rfl, (by repeat' (first | exact Ext.refl _ | assumption | omega | (with_reducible (refine Eg ?_; constructor))))⟩
 clear hcnt hgo hx4 j4
 clear e0 e1 e3 e4 e5 e6 e7 e8 e9 e10 e11 e12 e14 e43 e44 e45 e46; rintro nn ⟨env, h5⟩ ⟨k, cs1, m, rfl, q, e45, e12, hI⟩; simp only at e45 e12 hI; simp only [kp, and_true, E13_0] at q; have ee : _ ∧ _ ∧ _ := ⟨e45, e12, q⟩; clear e45 e12 q
 obtain ⟨hk, j5, hcnt, hgo, hno, hsame, hx5⟩ := hI
 unfold l13_0
 have hI5 := hinv _ _ hgo
 have hlen := hI5.len
 have hcl := cnt_le cs1
 have hyb5 := hI5.yb
 by_cases hlt : k < l.length
 rotate_left
 · have hd : decide ((k : Int) < (l.length : Int)) = false := dF (by omega)
   obtain rfl : k = l.length := by omega
   repeat' (first | ((try clear hf); with_reducible refine yD fun env K hE hK hf => ?_; have n := cj17 hE 0 1 3 4 5 6 7 8 9 10 11 12 14 43 44 45 46; simp -implicitDefEqProofs only [push_cast, reduceIte, Nat.reduceEqDiff, ee] at n; clear hE ee; have ee := n; clear n) | (with_reducible first | (refine hK _ _ ?_; clear hK K) | (refine Zi ?_; constructor) | refine yB (by decide) ?_ | refine yH (by assumption) ?_ | refine yJ (by assumption) ?_) | (refine yC rfl ?_) | (simp -implicitDefEqProofs only [push_cast, sevalprocAttr, eq_self, ee, hd]) | (simp (disch := omega) only [yF, yK, yG, yL]) | ((first | refine yE rfl (fun bb => ?_) (fun bb => ?_) | with_reducible refine yI (fun bb => ?_) (fun bb => ?_)) <;> (first | have bp := oT bb | have bp := oF bb | skip) <;> try simp only [bb]) | ((with_reducible refine And.intro ?_ ?_); omega) | (with_reducible refine yM ?_ ?_))
   refine ⟨_, ?_, y + 1, cs1, m, rfl, by simp -implicitDefEqProofs only [kp, push_cast, reduceIte, Nat.reduceEqDiff, ee, E13_2, and_self], by first | rfl | exact yP (by omega) | exact i64w (by omega), by first | rfl | exact yP (by omega) | exact i64w (by omega), ?_⟩
   · omega
   · refine ⟨j5.ext (by repeat' (first | exact Ext.refl _ | assumption | omega | (with_reducible (refine Eg ?_; constructor)))) rfl, hcnt, ?_, by omega, (by repeat' (first | exact Ext.refl _ | assumption | omega | (with_reducible (refine Eg ?_; constructor))))⟩
     by_cases hdn : WA cs1
     · exact ⟨y, hgo, .inr hdn⟩
     · refine ⟨(y : Int) + 1, hgo.next hdn fun j x hx => ?_, .inl (by omega)⟩
       have hjl := (List.getElem?_eq_some_iff.1 hx).1
       exact hno j x (by simpa [ordD] using hjl) hx
 have hd : decide ((k : Int) < (l.length : Int)) = true := dT (by omega)
 obtain ⟨i, hi⟩ : ∃ i : Nat, d k = i := ⟨(d k).toNat, by have := hdr k hlt; omega⟩
 have hil : i < l.length := by have := hdr k hlt; omega
 have hok : (ordD l.length d)[k]? = some (i : Int) := by rw [hog, if_pos hlt, hi]
 have hob := (hx5.2 (ie, is) hi2).trans hbo
 have v1 : (arrC l.length d)[k]? = some (i64 i) := by rw [YJ d hlt, hi]
 have hj := j5.hj
 have hc := j5.hc
 have h15 := jobC_15 l t E R
 have hcq : (cs1.map iC)[i]? = some (i64 (cs1.getD i 0)) := by simp [iC, gD, hlen, hil]
 have hno2 : ∀ {q : Prop}, ¬ fitP l t ES cs1 i y → ∀ j x, j < k + 1 → (ordD l.length d)[j]? = some x → ¬ fitP l t ES cs1 x.toNat y := fun hq j x hj hx => by
  by_cases e : j = k
  · subst e; rw [hok] at hx; cases hx; rw [Int.toNat_natCast]; exact hq
  · exact hno j x (by omega) hx
 generalize hv : cs1.getD i 0 = v at *
 by_cases hv0 : 0 ≤ v
 · have d1 : decide (0 ≤ v) = true := dT hv0
   have hnf : ¬ fitP l t ES cs1 i y := fun h => by have := h.1; omega
   repeat' (first | ((try clear hf); with_reducible refine yD fun env K hE hK hf => ?_; have n := cj17 hE 0 1 3 4 5 6 7 8 9 10 11 12 14 43 44 45 46; simp -implicitDefEqProofs only [push_cast, reduceIte, Nat.reduceEqDiff, ee] at n; clear hE ee; have ee := n; clear n) | (with_reducible first | (refine hK _ _ ?_; clear hK K) | (refine Zi ?_; constructor) | refine yB (by decide) ?_ | refine yH (by assumption) ?_ | refine yJ (by assumption) ?_) | (refine yC rfl ?_) | (simp -implicitDefEqProofs only [push_cast, sevalprocAttr, eq_self, ee, hd, hob, v1, hj, h15, hc, hcq, d1]) | (simp (disch := omega) only [yF, yK, yG, yL]) | ((first | refine yE rfl (fun bb => ?_) (fun bb => ?_) | with_reducible refine yI (fun bb => ?_) (fun bb => ?_)) <;> (first | have bp := oT bb | have bp := oF bb | skip) <;> try simp only [bb]) | ((with_reducible refine And.intro ?_ ?_); omega) | (with_reducible refine yM ?_ ?_))
   refine ⟨_, ?_, k + 1, cs1, m, rfl, by simp -implicitDefEqProofs only [kp, push_cast, reduceIte, Nat.reduceEqDiff, ee, E13_0, and_self], by first | rfl | exact yP (by omega) | exact i64w (by omega), by first | rfl | exact yP (by omega) | exact i64w (by omega), ?_⟩
   · omega
   · exact ⟨by omega, j5.ext (by repeat' (first | exact Ext.refl _ | assumption | omega | (with_reducible (refine Eg ?_; constructor)))) rfl, hcnt, hgo, hno2 (q := True) hnf, hsame, (by repeat' (first | exact Ext.refl _ | assumption | omega | (with_reducible (refine Eg ?_; constructor))))⟩
 have d1 : decide (0 ≤ v) = false := dF hv0
 have hro := wL hil .i64
 have hc4 := wY l[i]
 have hop := uI hil
 have hu := useR_bnd l t cs1 l.length
 have hy0 := hI5.y0
 have hroom : roomP t m (clsN l[i]) y ↔ roomG l t cs1 i y := by
  unfold roomP roomG
  rw [hop]
  simp only [hcnt]
  exact ⟨fun h => h.2.2, fun h => ⟨by omega, by omega, h⟩⟩
 have hx0 : cs1.getD i 0 < 0 := by omega
 by_cases hth : wC (inE ES i) cs1 y = true
 rotate_left
 · have hthf : wC (inE ES i) cs1 y = false := by simpa using hth
   have hnf : ¬ fitP l t ES cs1 i y := fun h => hth h.2.1
   repeat' (first | ((try clear hf); with_reducible refine yD fun env K hE hK hf => ?_; have n := cj17 hE 0 1 3 4 5 6 7 8 9 10 11 12 14 43 44 45 46; simp -implicitDefEqProofs only [push_cast, reduceIte, Nat.reduceEqDiff, ee] at n; clear hE ee; have ee := n; clear n) | (with_reducible first | (refine hK _ _ ?_; clear hK K) | (refine Zi ?_; constructor) | refine yB (by decide) ?_ | refine yH (by assumption) ?_ | refine yJ (by assumption) ?_) | (refine yC rfl ?_) | (simp -implicitDefEqProofs only [push_cast, sevalprocAttr, eq_self, ee, hd, hob, v1, hj, h15, hc, hcq, d1, hthf]) | (simp (disch := omega) only [yF, yK, yG, yL]) | ((first | refine yE rfl (fun bb => ?_) (fun bb => ?_) | with_reducible refine yI (fun bb => ?_) (fun bb => ?_)) <;> (first | have bp := oT bb | have bp := oF bb | skip) <;> try simp only [bb]) | ((with_reducible refine And.intro ?_ ?_); omega) | (refine UN (HC.mono (f53 (R := R) (B := B) (c := c) (ES := ES) (cs := cs1) (m := m) (i := i) (y := y) (by exact j5.ext (by repeat' (first | exact Ext.refl _ | assumption | omega | (with_reducible (refine Eg ?_; constructor)))) rfl) hil hE (fun x hx => by have := hI5.rng x hx; omega) (by omega)) ?_); rintro r g ⟨rfl, j6, hx6⟩ hF6; have hj := j6.hj; have hc := j6.hc) | (with_reducible refine yM ?_ ?_))
   have hx8 : Ext h1 g := hx5.tr (Ext.tr (by repeat' (first | exact Ext.refl _ | assumption | omega | (with_reducible (refine Eg ?_; constructor)))) hx6)
   refine ⟨_, ?_, k + 1, cs1, m, rfl, by simp -implicitDefEqProofs only [kp, push_cast, reduceIte, Nat.reduceEqDiff, ee, E13_0, and_self], by first | rfl | exact yP (by omega) | exact i64w (by omega), by first | rfl | exact yP (by omega) | exact i64w (by omega), ?_⟩
   · omega
   · exact ⟨by omega, j6.ext (by repeat' (first | exact Ext.refl _ | assumption | omega | (with_reducible (refine Eg ?_; constructor)))) rfl, hcnt, hgo, hno2 (q := True) hnf, hsame, (by repeat' (first | exact Ext.refl _ | assumption | omega | (with_reducible (refine Eg ?_; constructor))))⟩
 by_cases hrm : roomP t m (clsN l[i]) y
 rotate_left
 · have hrb := roomB_f hrm
   have hnf : ¬ fitP l t ES cs1 i y := fun h => hrm (hroom.2 h.2.2)
   repeat' (first | ((try clear hf); with_reducible refine yD fun env K hE hK hf => ?_; have n := cj17 hE 0 1 3 4 5 6 7 8 9 10 11 12 14 43 44 45 46; simp -implicitDefEqProofs only [push_cast, reduceIte, Nat.reduceEqDiff, ee] at n; clear hE ee; have ee := n; clear n) | (with_reducible first | (refine hK _ _ ?_; clear hK K) | (refine Zi ?_; constructor) | refine yB (by decide) ?_ | refine yH (by assumption) ?_ | refine yJ (by assumption) ?_) | (refine yC rfl ?_) | (simp -implicitDefEqProofs only [push_cast, sevalprocAttr, eq_self, ee, hd, hob, v1, hj, h15, hc, hcq, hro, d1, hth, hrb]) | (simp (disch := omega) only [yF, yK, yG, yL]) | ((first | refine yE rfl (fun bb => ?_) (fun bb => ?_) | with_reducible refine yI (fun bb => ?_) (fun bb => ?_)) <;> (first | have bp := oT bb | have bp := oF bb | skip) <;> try simp only [bb]) | ((with_reducible refine And.intro ?_ ?_); omega) | (refine UN (HC.mono (f53 (R := R) (B := B) (c := c) (ES := ES) (cs := cs1) (m := m) (i := i) (y := y) (by exact j5.ext (by repeat' (first | exact Ext.refl _ | assumption | omega | (with_reducible (refine Eg ?_; constructor)))) rfl) hil hE (fun x hx => by have := hI5.rng x hx; omega) (by omega)) ?_); rintro r g ⟨rfl, j6, hx6⟩ hF6; have hj := j6.hj; have hc := j6.hc) | (refine yO (f55 _) ?_) | (refine UN (HC.mono (f54 (R := R) (B := B) (t := t) (m := m) (c := clsN l[i]) (y := y) (by exact j6.rs.ext (by repeat' (first | exact Ext.refl _ | assumption | omega | (with_reducible (refine Eg ?_; constructor)))) rfl) ht hc4 (fun c y => by rw [hcnt]; have := hu c y; omega)) ?_); rintro r g2 ⟨rfl, ⟨m', hr2, hm1, hm2⟩, hx7⟩ hF7; have j7 := j6.took (⟨by have := hx7.1; simp only [qG] at this; omega, fun y hy => hx7.2 y (by simp only [qG]; omega)⟩ : Ext g g2) hr2; have hj := j7.hj; have hc := j7.hc) | (with_reducible refine yM ?_ ?_))
   have hx8 : Ext h1 g := hx5.tr (Ext.tr (by repeat' (first | exact Ext.refl _ | assumption | omega | (with_reducible (refine Eg ?_; constructor)))) hx6)
   have hx9 : Ext h1 g2 := hx8.tr (Ext.tr (by repeat' (first | exact Ext.refl _ | assumption | omega | (with_reducible (refine Eg ?_; constructor)))) hx7)
   rw [hm2 hrm] at j7
   refine ⟨_, ?_, k + 1, cs1, m, rfl, by simp -implicitDefEqProofs only [kp, push_cast, reduceIte, Nat.reduceEqDiff, ee, E13_0, and_self], by first | rfl | exact yP (by omega) | exact i64w (by omega), by first | rfl | exact yP (by omega) | exact i64w (by omega), ?_⟩
   · omega
   · exact ⟨by omega, j7.ext (by repeat' (first | exact Ext.refl _ | assumption | omega | (with_reducible (refine Eg ?_; constructor)))) rfl, hcnt, hgo, hno2 (q := True) hnf, hsame, (by repeat' (first | exact Ext.refl _ | assumption | omega | (with_reducible (refine Eg ?_; constructor))))⟩
 have hrb := roomB_t hrm
 have hfit : fitP l t ES cs1 i y := ⟨hx0, hth, hroom.1 hrm⟩
 have hset : ∀ v, (cs1.map iC).take i ++ [AV.lit (.int .i64 v)] ++ (cs1.map iC).drop (i + 1) = (cs1.set i v).map iC := fun v => set_at iC _ (by omega) v
 have hmlen : (cs1.map iC).length = l.length := by simpa using hlen
 have hgo2 := hgo.put hlen hok (by omega) hno (by rw [Int.toNat_natCast]; exact hfit)
 rw [Int.toNat_natCast] at hgo2
 have hcs2 := cnt_set (cs := cs1) (i := i) (y := y) (by omega) hx0 (by omega)
 have hcl2 := cnt_le (cs1.set i y)
 rw [List.length_set] at hcl2
 have hcnt2 : ∀ {m' : List ((Int × Int) × Int)}, tookP t m (clsN l[i]) y m' → ∀ c' y', cntM m' c' y' = useR l t (cs1.set i y) l.length c' y' := fun h c' y' => by
  rw [h c' y', hcnt, useR_set (by omega) hx0 (by omega), ← hop]
  simp only [hil, true_and]
 have hno3 : WA (cs1.set i (y : Int)) → ∀ j x, j < k + 1 → (ordD l.length d)[j]? = some x → ¬ fitP l t ES (cs1.set i y) x.toNat y := fun hdn j x hj hx hf => by
  have h1 := hf.1
  rw [gD] at h1
  cases h2 : (cs1.set i (y : Int))[x.toNat]? with
  | none => rw [h2] at h1; simp at h1
  | some z => rw [h2] at h1; have := hdn z (List.mem_of_getElem? h2); simp at h1; omega
 have hs : cs1 = cs := hsame.resolve_right fun hdn => by have := cnt_done.1 hdn; have := cntG_neg (by omega) hx0; omega
 by_cases hleft : 0 < (l.length : Int) - (cntG cs1 : Int) - 1
 · have d2 : decide (0 < (l.length : Int) - (cntG cs1 : Int) - 1) = true := dT hleft
   repeat' (first | ((try clear hf); with_reducible refine yD fun env K hE hK hf => ?_; have n := cj17 hE 0 1 3 4 5 6 7 8 9 10 11 12 14 43 44 45 46; simp -implicitDefEqProofs only [push_cast, reduceIte, Nat.reduceEqDiff, ee] at n; clear hE ee; have ee := n; clear n) | (with_reducible first | (refine hK _ _ ?_; clear hK K) | (refine Zi ?_; constructor) | refine yB (by decide) ?_ | refine yH (by assumption) ?_ | refine yJ (by assumption) ?_) | (refine yC rfl ?_) | (simp -implicitDefEqProofs only [push_cast, sevalprocAttr, eq_self, ee, hd, hob, v1, hj, h15, hc, hcq, hro, d1, d2, hth, hrb, hset, hmlen]) | (simp (disch := omega) only [yF, yK, yG, yL, hset]) | ((first | refine yE rfl (fun bb => ?_) (fun bb => ?_) | with_reducible refine yI (fun bb => ?_) (fun bb => ?_)) <;> (first | have bp := oT bb | have bp := oF bb | skip) <;> try simp only [bb]) | ((with_reducible refine And.intro ?_ ?_); omega) | (refine UN (HC.mono (f53 (R := R) (B := B) (c := c) (ES := ES) (cs := cs1) (m := m) (i := i) (y := y) (by exact j5.ext (by repeat' (first | exact Ext.refl _ | assumption | omega | (with_reducible (refine Eg ?_; constructor)))) rfl) hil hE (fun x hx => by have := hI5.rng x hx; omega) (by omega)) ?_); rintro r g ⟨rfl, j6, hx6⟩ hF6; have hj := j6.hj; have hc := j6.hc) | (refine yO (f55 _) ?_) | (refine UN (HC.mono (f54 (R := R) (B := B) (t := t) (m := m) (c := clsN l[i]) (y := y) (by exact j6.rs.ext (by repeat' (first | exact Ext.refl _ | assumption | omega | (with_reducible (refine Eg ?_; constructor)))) rfl) ht hc4 (fun c y => by rw [hcnt]; have := hu c y; omega)) ?_); rintro r g2 ⟨rfl, ⟨m', hr2, hm1, hm2⟩, hx7⟩ hF7; have j7 := j6.took (⟨by have := hx7.1; simp only [qG] at this; omega, fun y hy => hx7.2 y (by simp only [qG]; omega)⟩ : Ext g g2) hr2; have hj := j7.hj; have hc := j7.hc) | (with_reducible refine yM ?_ ?_))
   have hx8 : Ext h1 g := hx5.tr (Ext.tr (by repeat' (first | exact Ext.refl _ | assumption | omega | (with_reducible (refine Eg ?_; constructor)))) hx6)
   have hx9 : Ext h1 g2 := hx8.tr (Ext.tr (by repeat' (first | exact Ext.refl _ | assumption | omega | (with_reducible (refine Eg ?_; constructor)))) hx7)
   have hcc : cntG cs1 = cntG cs := by rw [hs]
   refine ⟨_, ?_, cs1.set i y, m', rfl, by simp -implicitDefEqProofs only [kp, push_cast, reduceIte, Nat.reduceEqDiff, ee, E13_1, and_self], by first | rfl | exact yP (by omega) | exact i64w (by omega), ?_⟩
   · omega
   · exact ⟨j7.setc (by rw [qN, qN, wM]) (by simp) (fun y hy hn => by rw [qN, qN, YD _ _ _ _ hn]; rfl) rfl (by first | omega | (simp -implicitDefEqProofs only [push_cast, sevalprocAttr, eq_self]; first | done | omega)), hcnt2 (hm1 hrm), hgo2, (by repeat' (first | exact Ext.refl _ | assumption | omega | (with_reducible (refine Eg ?_; constructor))))⟩
 · have d2 : decide (0 < (l.length : Int) - (cntG cs1 : Int) - 1) = false := dF hleft
   repeat' (first | ((try clear hf); with_reducible refine yD fun env K hE hK hf => ?_; have n := cj17 hE 0 1 3 4 5 6 7 8 9 10 11 12 14 43 44 45 46; simp -implicitDefEqProofs only [push_cast, reduceIte, Nat.reduceEqDiff, ee] at n; clear hE ee; have ee := n; clear n) | (with_reducible first | (refine hK _ _ ?_; clear hK K) | (refine Zi ?_; constructor) | refine yB (by decide) ?_ | refine yH (by assumption) ?_ | refine yJ (by assumption) ?_) | (refine yC rfl ?_) | (simp -implicitDefEqProofs only [push_cast, sevalprocAttr, eq_self, ee, hd, hob, v1, hj, h15, hc, hcq, hro, d1, d2, hth, hrb, hset, hmlen]) | (simp (disch := omega) only [yF, yK, yG, yL, hset]) | ((first | refine yE rfl (fun bb => ?_) (fun bb => ?_) | with_reducible refine yI (fun bb => ?_) (fun bb => ?_)) <;> (first | have bp := oT bb | have bp := oF bb | skip) <;> try simp only [bb]) | ((with_reducible refine And.intro ?_ ?_); omega) | (refine UN (HC.mono (f53 (R := R) (B := B) (c := c) (ES := ES) (cs := cs1) (m := m) (i := i) (y := y) (by exact j5.ext (by repeat' (first | exact Ext.refl _ | assumption | omega | (with_reducible (refine Eg ?_; constructor)))) rfl) hil hE (fun x hx => by have := hI5.rng x hx; omega) (by omega)) ?_); rintro r g ⟨rfl, j6, hx6⟩ hF6; have hj := j6.hj; have hc := j6.hc) | (refine yO (f55 _) ?_) | (refine UN (HC.mono (f54 (R := R) (B := B) (t := t) (m := m) (c := clsN l[i]) (y := y) (by exact j6.rs.ext (by repeat' (first | exact Ext.refl _ | assumption | omega | (with_reducible (refine Eg ?_; constructor)))) rfl) ht hc4 (fun c y => by rw [hcnt]; have := hu c y; omega)) ?_); rintro r g2 ⟨rfl, ⟨m', hr2, hm1, hm2⟩, hx7⟩ hF7; have j7 := j6.took (⟨by have := hx7.1; simp only [qG] at this; omega, fun y hy => hx7.2 y (by simp only [qG]; omega)⟩ : Ext g g2) hr2; have hj := j7.hj; have hc := j7.hc) | (with_reducible refine yM ?_ ?_))
   have hx8 : Ext h1 g := hx5.tr (Ext.tr (by repeat' (first | exact Ext.refl _ | assumption | omega | (with_reducible (refine Eg ?_; constructor)))) hx6)
   have hx9 : Ext h1 g2 := hx8.tr (Ext.tr (by repeat' (first | exact Ext.refl _ | assumption | omega | (with_reducible (refine Eg ?_; constructor)))) hx7)
   have hdn : WA (cs1.set i (y : Int)) := cnt_done.2 (by rw [List.length_set]; omega)
   refine ⟨_, ?_, k + 1, cs1.set i y, m', rfl, by simp -implicitDefEqProofs only [kp, push_cast, reduceIte, Nat.reduceEqDiff, ee, E13_0, and_self], by first | rfl | exact yP (by omega) | exact i64w (by omega), by first | rfl | exact yP (by omega) | exact i64w (by omega), ?_⟩
   · omega
   · exact ⟨by omega, j7.setc (by rw [qN, qN, qN, wM]) (by simp) (fun y hy hn => by rw [qN, qN, qN, YD _ _ _ _ hn]; rfl) rfl (by first | omega | (simp -implicitDefEqProofs only [push_cast, sevalprocAttr, eq_self]; first | done | omega)), hcnt2 (hm1 hrm), hgo2, hno3 hdn, .inr hdn, (by repeat' (first | exact Ext.refl _ | assumption | omega | (with_reducible (refine Eg ?_; constructor))))⟩
theorem useN_mono (l : List Opn) (t : Tab) (cs : List Int) (c y : Int) {a : Nat} : ∀ {b : Nat}, a ≤ b → useN l t cs a c y ≤ useN l t cs b c y
 | 0, h => by obtain rfl : a = 0 := by omega
              exact Int.le_refl _
 | b + 1, h => by
   by_cases e : a = b + 1
   · rw [e]; exact Int.le_refl _
   · have := useN_mono l t cs c y (a := a) (b := b) (by omega)
     simp only [useN]
     split <;> omega
theorem use_le {l : List Opn} {t : Tab} {cs : List Int} {c y : Int} : ∀ (m : Nat), (∀ k < m, roomK l t cs k) → (∃ i, i < m ∧ c = (clsN (opAt l i) : Int) ∧ cs.getD i 0 ≤ y ∧ y < cs.getD i 0 + t.b (clsN (opAt l i))) → useN l t cs m c y ≤ t.u c.toNat
 | 0, _, ⟨i, h, _⟩ => by omega
 | m + 1, hr, ⟨i, hi, h1, h2, h3⟩ => by
   by_cases e : c = (clsN (opAt l m) : Int) ∧ cs.getD m 0 ≤ y ∧ y < cs.getD m 0 + t.b (clsN (opAt l m))
   · have := hr m (by omega) (y - cs.getD m 0).toNat (by omega)
     simp only [useN]
     rw [if_pos e]
     rw [show cs.getD m 0 + ((y - cs.getD m 0).toNat : Int) = y by omega, ← e.1, show clsN (opAt l m) = c.toNat by omega] at this
     exact this
   · have hne : i ≠ m := fun e' => e (by subst e'; exact ⟨h1, h2, h3⟩)
     have := use_le m (fun k hk => hr k (by omega)) ⟨i, by omega, h1, h2, h3⟩
     simp only [useN]
     rw [if_neg e]
     omega
theorem room_use {l : List Opn} {t : Tab} {cs : List Int} : (∀ k < l.length, roomK l t cs k) ↔ (∀ k < l.length, ∀ j : Nat, (j : Int) < t.b (clsN (opAt l k)) → useN l t cs l.length (clsN (opAt l k)) (cs.getD k 0 + j) ≤ t.u (clsN (opAt l k))) := by
 constructor
 · intro h k hk j hj
   have := use_le (c := (clsN (opAt l k) : Int)) (y := cs.getD k 0 + j) l.length h ⟨k, hk, rfl, by omega, by omega⟩
   rwa [Int.toNat_natCast] at this
 · intro h k hk j hj
   have h1 := h k hk j hj
   have h2 := useN_mono l t cs (clsN (opAt l k)) (cs.getD k 0 + j) (a := k + 1) (b := l.length) (by omega)
   rw [useN, if_pos ⟨rfl, by omega, by omega⟩] at h2
   omega
theorem there_edges {l : List Opn} {cs : List Int} {ES : List Edg} (hE : ∀ e ∈ ES, edOK l.length e) (hcs : ∀ x ∈ cs, 0 ≤ x ∧ x ≤ 65536) : (∀ k < l.length, wC (inE ES k) cs (cs.getD k 0) = true) ↔ ∀ e ∈ ES, cs.getD e.f.toNat 0 + e.l ≤ cs.getD e.t.toNat 0 := by
 have h0 : ∀ i, 0 ≤ cs.getD i 0 := fun i => by
  rw [gD]
  by_cases h : i < cs.length
  · rw [List.getElem?_eq_getElem h]; exact (hcs _ (List.getElem_mem h)).1
  · rw [List.getElem?_eq_none (by omega)]; simp
 simp only [wC, List.all_eq_true, Bool.and_eq_true, decide_eq_true_eq, inE, List.mem_filter]
 constructor
 · intro h e he
   obtain ⟨x1, x2, x3, x4, x5⟩ := hE e he
   have := (h e.t.toNat (by omega) e ⟨he, by omega⟩).2
   exact this
 · intro h k hk e ⟨he, het⟩
   have := h e he
   rw [show e.t.toNat = k by omega] at this
   exact ⟨h0 _, this⟩
end Go.Proofs.Hx
