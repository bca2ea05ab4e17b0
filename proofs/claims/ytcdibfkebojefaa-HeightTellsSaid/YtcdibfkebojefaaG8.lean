import Derived.Test.YtcdibfkebojefaaG7
import Derived.Test.YtcdibfkebojefaaG6
set_option linter.unusedVariables false
set_option linter.unusedSimpArgs false
namespace Go.Proofs.Hx
open Go Go.Proofs
attribute [local irreducible] yM awp opK goV goM yZ qB qD yQ HV HVF HC
theorem merge_all {id : Id} {n : Nat} {f : AV} {key : Int → Int} {dom : Int → Prop} (hn : n ≤ 1000000) (hkey : ∀ x, dom x → -1000000 ≤ key x ∧ key x ≤ 1000000) : ∀ N, MergeC f key dom id n fun a m b => b - a < N
  | 0 => fun h0 D a m b h => absurd h (by simp)
  | N + 1 => fun h0 D a m b h => by
    by_cases h1 : m = a + 1
    · exact f127'a hn hkey h0 D a m b h1
    · by_cases h2 : b = m + 1
      · exact f127'b hn hkey h0 D a m b ⟨h1, h2⟩
      · exact f127'g hn hkey (merge_all hn hkey N) h0 D a m b ⟨h1, h2, by omega⟩
/-- A range in order, of numbers of its own. -/
def Seg (key : Int → Int) (D : Nat → Int) (lo hi : Nat) : Prop := srt key D lo hi ∧ ∀ k, lo ≤ k → k < hi → (lo : Int) ≤ D k ∧ D k < hi
theorem Seg.congr {key : Int → Int} {D E : Nat → Int} {lo hi : Nat} (s : Seg key D lo hi) (h : ∀ k, lo ≤ k → k < hi → E k = D k) : Seg key E lo hi :=
  ⟨fun i j h1 h2 h3 => by rw [h i h1 (by omega), h j (by omega) h3]; exact s.1 i j h1 h2 h3, fun k h1 h2 => by rw [h k h1 h2]; exact s.2 k h1 h2⟩
theorem Seg.tie {key : Int → Int} {D : Nat → Int} {lo m hi : Nat} (s : Seg key D lo m) (t : Seg key D m hi) : tieP key D lo m hi := fun p q h1 h2 h3 h4 _ => by
  have := s.2 p h1 h2
  have := t.2 q h3 h4
  omega
theorem Seg.merge {key : Int → Int} {D E : Nat → Int} {lo m hi : Nat} (s : Seg key D lo m) (t : Seg key D m hi) (h1 : lo ≤ m) (h2 : m ≤ hi) (p : SP D E lo hi) (q : srt key E lo hi) : Seg key E lo hi :=
  ⟨q, p.all (Q := fun x => (lo : Int) ≤ x ∧ x < hi) fun k g1 g2 => by
    by_cases e : k < m
    · have := s.2 k g1 e; omega
    · have := t.2 k (by omega) g2; omega⟩
theorem Seg.ins {key : Int → Int} {D E : Nat → Int} {lo hi : Nat} (hid : ∀ k, lo ≤ k → k < hi → D k = k) (p : SP D E lo hi) (q : srt key E lo hi) : Seg key E lo hi :=
  ⟨q, p.all (Q := fun x => (lo : Int) ≤ x ∧ x < hi) fun k g1 g2 => by rw [hid k g1 g2]; omega⟩
/-- In order, block by block. -/
def BlkS (key : Int → Int) (D : Nat → Int) (n w : Nat) : Prop := ∀ i, i * w < n → Seg key D (i * w) (min ((i + 1) * w) n)
def idD : Nat → Int := fun k => (k : Int)
set_option maxHeartbeats 2000000 in
theorem f120 {h0 : Hp} {id : Id} {n : Nat} {f : AV} {key : Int → Int} {dom : Int → Prop} (hc : ∀ g, Fr1 id h0 g → CmpAt Try.prog f key dom g) (hb : h0.hp id = some ⟨true, arrC n idD⟩) (hi : id.1 ≤ h0.ep) (hn : n ≤ 1000000)
    (hdom : ∀ k, k < n → dom (idD k)) (hkey : ∀ x, dom x → -1000000 ≤ key x ∧ key x ≤ 1000000) :
    HC Try.prog 120 [.sl id 0 n 1, i64 n, f] h0 (SortQ h0 id n fun d' => SP idD d' 0 n ∧ srt key d' 0 n) := by
  refine yX yK cf120 (by simp) fun hF => ?_
  unfold ac120 re120
  refine yF fun env hE => ?_; have e0 := hE 0; have e1 := hE 1; have e2 := hE 2; have e6 := hE 6; have e7 := hE 7; have e8 := hE 8; have e9 := hE 9; simp -implicitDefEqProofs only [push_cast] at e0 e1 e2 e6 e7 e8 e9; clear hE
  repeat' (first | ((try clear hf); with_reducible refine zO fun env K hE hK hf => ?_; have n : _ ∧ _ ∧ _ ∧ _ ∧ _ ∧ _ ∧ _ := ⟨hE 0, hE 1, hE 2, hE 6, hE 7, hE 8, hE 9⟩; simp -implicitDefEqProofs only [push_cast, reduceIte, Nat.reduceEqDiff, e0, e1, e2, e6, e7, e8, e9] at n; clear hE e0 e1 e2 e6 e7 e8 e9; obtain ⟨e0, e1, e2, e6, e7, e8, e9⟩ := n) | (with_reducible refine hK _ _ ?_; clear hK K) | (with_reducible first | refine zK ?_ | refine zU ?_ | refine zB ?_ | refine zF ?_ | refine zD ?_ | refine zN ?_ | refine zT ?_ | refine zC ?_ | refine zG ?_ | refine zV ?_ | refine zE ?_ | refine zA (by decide) ?_ | refine zL ?_ | refine zQ ?_ | refine zM ?_ | refine yB ?_ | refine yC ?_ | refine zW (by assumption) ?_ | refine zY (by assumption) ?_) | (refine zH rfl ?_) | (simp -implicitDefEqProofs only [push_cast, sevalprocAttr, eq_self, e0, e1, e2, e6, e7, e8, e9]) | (simp -implicitDefEqProofs (disch := omega) only [zR, zZ, zS, zJ, e0, e1, e2, e6, e7, e8, e9]) | (with_reducible refine yE ?_ ?_) | (refine zP rfl (fun bb => ?_) (fun bb => ?_) <;> (first | have bp := of_decide_eq_true bb | have bp := of_decide_eq_false bb | skip) <;> simp only [bb]) | (with_reducible refine zX (fun bb => ?_) (fun bb => ?_) <;> (first | have bp := of_decide_eq_true bb | have bp := of_decide_eq_false bb | skip)) | ((with_reducible refine And.intro ?_ ?_); omega) | fail)
  refine yF fun env hE => ?_; have n : _ ∧ _ ∧ _ ∧ _ ∧ _ ∧ _ ∧ _ := ⟨hE 0, hE 1, hE 2, hE 6, hE 7, hE 8, hE 9⟩; simp -implicitDefEqProofs only [push_cast, reduceIte, Nat.reduceEqDiff, e0, e1, e2, e6, e7, e8, e9] at n; clear hE e0 e1 e2 e6 e7 e8 e9; obtain ⟨e0, e1, e2, e6, e7, e8, e9⟩ := n; have E120_0_0 := e0; have E120_0_1 := e1; have E120_0_2 := e2; have E120_0_6 := e6
  refine yL (fun nn σ => ∃ (q a : Nat) (D : Nat → Int), nn = n - a ∧ σ.env 0 = env 0 ∧ σ.env 1 = env 1 ∧ σ.env 2 = env 2 ∧ σ.env 6 = env 6 ∧ σ.env 7 = i64 a ∧ σ.env 8 = i64 ((a : Int) + 20) ∧ (a = q * 20 ∧ a ≤ n ∧ (∀ i, i < q → Seg key D (i * 20) ((i + 1) * 20)) ∧ (∀ k, a ≤ k → D k = k) ∧ SP idD D 0 n ∧ σ.h.hp id = some ⟨true, arrC n D⟩ ∧ Fr1 id h0 σ.h)) _ ⟨0, 0, idD, rfl, rfl, rfl, rfl, rfl, by refine e7.trans ?_; first | rfl | exact yD (by omega) | (simp -implicitDefEqProofs (disch := omega) only [zJ]; first | rfl | exact yD (by omega)), by refine e8.trans ?_; first | rfl | exact yD (by omega) | (simp -implicitDefEqProofs (disch := omega) only [zJ]; first | rfl | exact yD (by omega)), ?_⟩ ?_
  · exact ⟨by omega, by omega, fun i hi => by omega, fun k hk => rfl, SP.refl _ _ _, by simp -implicitDefEqProofs only [push_cast, sevalprocAttr, eq_self, hb], (by repeat (first | assumption | exact Fr1.refl _ _ | refine Fr1.tick ?_ | refine Fr1.put ?_ _ | refine Fr1.push ?_ (by omega) _))⟩
  clear e0 e1 e2 e6 e7 e8 e9; rintro nn ⟨env, h⟩ ⟨q, a, D, rfl, q0, q1, q2, q6, e7, e8, hI⟩; simp only at q0 q1 q2 q6 e7 e8 hI; (first | have e0 := q0.trans E120_0_0 | have e0 := True.intro); (first | have e1 := q1.trans E120_0_1 | have e1 := True.intro); (first | have e2 := q2.trans E120_0_2 | have e2 := True.intro); (first | have e6 := q6.trans E120_0_6 | have e6 := True.intro); clear q0 q1 q2 q6; have e9 := True.intro
  obtain ⟨q0, q1, q2, q3, hsp, hbk, hx⟩ := hI
  unfold l120_0
  (first | refine yI fun hF => ?_ | refine yS fun hF => ?_ | refine yR fun hF => ?_)
  have hle := hx.ep
  have hDd : ∀ k, k < n → dom (D k) := fun k hk => hsp.all (Q := dom) (fun k _ hk => hdom k hk) k (by omega) hk
  by_cases hlt : a + 20 ≤ n
  · have hd : decide ((a : Int) + 20 ≤ (n : Int)) = true := decide_eq_true (by omega)
    obtain ⟨b, hab⟩ : ∃ b, b = a + 20 := ⟨_, rfl⟩
    have hcast : ((a : Int) + 20) = (b : Int) := by omega
    rw [hcast] at hd e8
    rw [← hab] at hlt
    repeat' (first | ((try clear hf); with_reducible refine zO fun env K hE hK hf => ?_; have n : _ ∧ _ ∧ _ ∧ _ ∧ _ ∧ _ ∧ _ := ⟨hE 0, hE 1, hE 2, hE 6, hE 7, hE 8, hE 9⟩; simp -implicitDefEqProofs only [push_cast, reduceIte, Nat.reduceEqDiff, e0, e1, e2, e6, e7, e8, e9] at n; clear hE e0 e1 e2 e6 e7 e8 e9; obtain ⟨e0, e1, e2, e6, e7, e8, e9⟩ := n) | (with_reducible refine hK _ _ ?_; clear hK K) | (with_reducible first | refine zK ?_ | refine zU ?_ | refine zB ?_ | refine zF ?_ | refine zD ?_ | refine zN ?_ | refine zT ?_ | refine zC ?_ | refine zG ?_ | refine zV ?_ | refine zE ?_ | refine zA (by decide) ?_ | refine zL ?_ | refine zQ ?_ | refine zM ?_ | refine yB ?_ | refine yC ?_ | refine zW (by assumption) ?_ | refine zY (by assumption) ?_) | (refine zH rfl ?_) | (simp -implicitDefEqProofs only [push_cast, sevalprocAttr, eq_self, e0, e1, e2, e6, e7, e8, e9, hd]) | (simp -implicitDefEqProofs (disch := omega) only [zR, zZ, zS, zJ, e0, e1, e2, e6, e7, e8, e9, hd]) | (with_reducible refine yE ?_ ?_) | (refine zP rfl (fun bb => ?_) (fun bb => ?_) <;> (first | have bp := of_decide_eq_true bb | have bp := of_decide_eq_false bb | skip) <;> simp only [bb]) | (with_reducible refine zX (fun bb => ?_) (fun bb => ?_) <;> (first | have bp := of_decide_eq_true bb | have bp := of_decide_eq_false bb | skip)) | ((with_reducible refine And.intro ?_ ?_); omega) | (refine yT (HC.mono (f126 (n := n) (d := D) (a := a) (b := b) (fun g hg => hc g (Fr1.trans (by repeat (first | assumption | exact Fr1.refl _ _ | refine Fr1.tick ?_ | refine Fr1.put ?_ _ | refine Fr1.push ?_ (by omega) _)) hg)) (by simp -implicitDefEqProofs only [push_cast, sevalprocAttr, eq_self, hbk]) (by simp -implicitDefEqProofs only [push_cast, sevalprocAttr, eq_self]; omega) hn (by omega) hlt hDd hkey (fun k h1 h2 => q3 k h1)) ?_); rintro r g ⟨rfl, hg, D', hb', hp1, hp2⟩ hF') | fail)
    refine ⟨_, ?_, q + 1, b, D', rfl, E120_0_0.symm, E120_0_1.symm, E120_0_2.symm, E120_0_6.symm, by first | rfl | exact yD (by omega) | (simp -implicitDefEqProofs (disch := omega) only [zJ]; first | rfl | exact yD (by omega)), by first | rfl | exact yD (by omega) | (simp -implicitDefEqProofs (disch := omega) only [zJ]; first | rfl | exact yD (by omega)), ?_⟩
    · omega
    · refine ⟨by omega, hlt, fun i hi => ?_, fun k hk => by rw [hp1.out k (.inr hk)]; exact q3 k (by omega), hsp.trans (hp1.widen (by omega) hlt (by omega)), hb', (Fr1.trans (by repeat (first | assumption | exact Fr1.refl _ _ | refine Fr1.tick ?_ | refine Fr1.put ?_ _ | refine Fr1.push ?_ (by omega) _)) hg).tick.tick.tick⟩
      by_cases e : i < q
      · exact (q2 i e).congr (fun k h1 h2 => hp1.out k (.inl (by omega)))
      · obtain rfl : i = q := by omega
        rw [show i * 20 = a by omega, show (i + 1) * 20 = b by omega]
        exact Seg.ins (fun k h1 h2 => q3 k h1) hp1 hp2
  · have hd : decide ((a : Int) + 20 ≤ (n : Int)) = false := decide_eq_false (by omega)
    repeat' (first | ((try clear hf); with_reducible refine zO fun env K hE hK hf => ?_; have n : _ ∧ _ ∧ _ ∧ _ ∧ _ ∧ _ ∧ _ := ⟨hE 0, hE 1, hE 2, hE 6, hE 7, hE 8, hE 9⟩; simp -implicitDefEqProofs only [push_cast, reduceIte, Nat.reduceEqDiff, e0, e1, e2, e6, e7, e8, e9] at n; clear hE e0 e1 e2 e6 e7 e8 e9; obtain ⟨e0, e1, e2, e6, e7, e8, e9⟩ := n) | (with_reducible refine hK _ _ ?_; clear hK K) | (with_reducible first | refine zK ?_ | refine zU ?_ | refine zB ?_ | refine zF ?_ | refine zD ?_ | refine zN ?_ | refine zT ?_ | refine zC ?_ | refine zG ?_ | refine zV ?_ | refine zE ?_ | refine zA (by decide) ?_ | refine zL ?_ | refine zQ ?_ | refine zM ?_ | refine yB ?_ | refine yC ?_ | refine zW (by assumption) ?_ | refine zY (by assumption) ?_) | (refine zH rfl ?_) | (simp -implicitDefEqProofs only [push_cast, sevalprocAttr, eq_self, e0, e1, e2, e6, e7, e8, e9, hd]) | (simp -implicitDefEqProofs (disch := omega) only [zR, zZ, zS, zJ, e0, e1, e2, e6, e7, e8, e9, hd]) | (with_reducible refine yE ?_ ?_) | (refine zP rfl (fun bb => ?_) (fun bb => ?_) <;> (first | have bp := of_decide_eq_true bb | have bp := of_decide_eq_false bb | skip) <;> simp only [bb]) | (with_reducible refine zX (fun bb => ?_) (fun bb => ?_) <;> (first | have bp := of_decide_eq_true bb | have bp := of_decide_eq_false bb | skip)) | ((with_reducible refine And.intro ?_ ?_); omega) | (refine yT (HC.mono (f126 (n := n) (d := D) (a := a) (b := n) (fun g hg => hc g (Fr1.trans (by repeat (first | assumption | exact Fr1.refl _ _ | refine Fr1.tick ?_ | refine Fr1.put ?_ _ | refine Fr1.push ?_ (by omega) _)) hg)) (by simp -implicitDefEqProofs only [push_cast, sevalprocAttr, eq_self, hbk]) (by simp -implicitDefEqProofs only [push_cast, sevalprocAttr, eq_self]; omega) hn (by omega) (Nat.le_refl _) hDd hkey (fun k h1 h2 => q3 k h1)) ?_); rintro r g ⟨rfl, hg, D', hb', hp1, hp2⟩ hF') | fail)
    have hS : BlkS key D' n 20 := by
      intro i hi
      by_cases e : i < q
      · rw [Nat.min_eq_left (by omega)]
        exact (q2 i e).congr (fun k h1 h2 => hp1.out k (.inl (by omega)))
      · obtain rfl : i = q := by omega
        rw [Nat.min_eq_right (by omega), show i * 20 = a by omega]
        exact Seg.ins (fun k h1 h2 => q3 k h1) hp1 hp2
    have hsp' := hsp.trans (hp1.widen (a' := 0) (b' := n) (by omega) (Nat.le_refl _) (by omega))
    have hx' : Fr1 id h0 g := Fr1.trans (by repeat (first | assumption | exact Fr1.refl _ _ | refine Fr1.tick ?_ | refine Fr1.put ?_ _ | refine Fr1.push ?_ (by omega) _)) hg
    clear hbk hx hsp q2 q3 hDd
    refine yF fun env hE => ?_; have n : _ ∧ _ ∧ _ ∧ _ ∧ _ ∧ _ ∧ _ := ⟨hE 0, hE 1, hE 2, hE 6, hE 7, hE 8, hE 9⟩; simp -implicitDefEqProofs only [push_cast, reduceIte, Nat.reduceEqDiff, e0, e1, e2, e6, e7, e8, e9] at n; clear hE e0 e1 e2 e6 e7 e8 e9; obtain ⟨e0, e1, e2, e6, e7, e8, e9⟩ := n; have E120_2_0 := e0; have E120_2_1 := e1; have E120_2_2 := e2
    refine yL (fun nn σ => ∃ (w : Nat) (D : Nat → Int), nn = 2000000 - w ∧ σ.env 0 = env 0 ∧ σ.env 1 = env 1 ∧ σ.env 2 = env 2 ∧ σ.env 6 = i64 w ∧ (20 ≤ w ∧ w ≤ 2000000 ∧ BlkS key D n w ∧ SP idD D 0 n ∧ σ.h.hp id = some ⟨true, arrC n D⟩ ∧ Fr1 id h0 σ.h)) _ ⟨20, D', rfl, rfl, rfl, rfl, by refine e6.trans ?_; first | rfl | exact yD (by omega) | (simp -implicitDefEqProofs (disch := omega) only [zJ]; first | rfl | exact yD (by omega)), ?_⟩ ?_
    · exact ⟨by omega, by omega, hS, hsp', by simp -implicitDefEqProofs only [push_cast, sevalprocAttr, eq_self, hb'], hx'.tick⟩
    clear hS hsp' hx' hb' hp1 hp2 hg
    clear e0 e1 e2 e6 e7 e8 e9; rintro nn ⟨env, h⟩ ⟨w, D, rfl, q0, q1, q2, e6, hI⟩; simp only at q0 q1 q2 e6 hI; (first | have e0 := q0.trans E120_2_0 | have e0 := True.intro); (first | have e1 := q1.trans E120_2_1 | have e1 := True.intro); (first | have e2 := q2.trans E120_2_2 | have e2 := True.intro); clear q0 q1 q2; have e7 := True.intro; have e8 := True.intro; have e9 := True.intro
    obtain ⟨w1, w2, hS, hsp, hbk, hx⟩ := hI
    unfold l120_2
    (first | refine yI fun hF => ?_ | refine yS fun hF => ?_ | refine yR fun hF => ?_)
    have hle := hx.ep
    by_cases hlt : w < n
    · have hd : decide ((w : Int) < (n : Int)) = true := decide_eq_true (by omega)
      obtain ⟨W, hW⟩ : ∃ W, W = 2 * w := ⟨_, rfl⟩
      repeat' (first | ((try clear hf); with_reducible refine zO fun env K hE hK hf => ?_; have n : _ ∧ _ ∧ _ ∧ _ ∧ _ ∧ _ ∧ _ := ⟨hE 0, hE 1, hE 2, hE 6, hE 7, hE 8, hE 9⟩; simp -implicitDefEqProofs only [push_cast, reduceIte, Nat.reduceEqDiff, e0, e1, e2, e6, e7, e8, e9] at n; clear hE e0 e1 e2 e6 e7 e8 e9; obtain ⟨e0, e1, e2, e6, e7, e8, e9⟩ := n) | (with_reducible refine hK _ _ ?_; clear hK K) | (with_reducible first | refine zK ?_ | refine zU ?_ | refine zB ?_ | refine zF ?_ | refine zD ?_ | refine zN ?_ | refine zT ?_ | refine zC ?_ | refine zG ?_ | refine zV ?_ | refine zE ?_ | refine zA (by decide) ?_ | refine zL ?_ | refine zQ ?_ | refine zM ?_ | refine yB ?_ | refine yC ?_ | refine zW (by assumption) ?_ | refine zY (by assumption) ?_) | (refine zH rfl ?_) | (simp -implicitDefEqProofs only [push_cast, sevalprocAttr, eq_self, e0, e1, e2, e6, e7, e8, e9, hd]) | (simp -implicitDefEqProofs (disch := omega) only [zR, zZ, zS, zJ, e0, e1, e2, e6, e7, e8, e9, hd]) | (with_reducible refine yE ?_ ?_) | (refine zP rfl (fun bb => ?_) (fun bb => ?_) <;> (first | have bp := of_decide_eq_true bb | have bp := of_decide_eq_false bb | skip) <;> simp only [bb]) | (with_reducible refine zX (fun bb => ?_) (fun bb => ?_) <;> (first | have bp := of_decide_eq_true bb | have bp := of_decide_eq_false bb | skip)) | ((with_reducible refine And.intro ?_ ?_); omega) | fail)
      refine yF fun env hE => ?_; have n : _ ∧ _ ∧ _ ∧ _ ∧ _ ∧ _ ∧ _ := ⟨hE 0, hE 1, hE 2, hE 6, hE 7, hE 8, hE 9⟩; simp -implicitDefEqProofs only [push_cast, reduceIte, Nat.reduceEqDiff, e0, e1, e2, e6, e7, e8, e9] at n; clear hE e0 e1 e2 e6 e7 e8 e9; obtain ⟨e0, e1, e2, e6, e7, e8, e9⟩ := n; have E120_1_0 := e0; have E120_1_1 := e1; have E120_1_2 := e2; have E120_1_6 := e6
      refine yL (fun nn σ => ∃ (p a : Nat) (E : Nat → Int), nn = n - a ∧ σ.env 0 = env 0 ∧ σ.env 1 = env 1 ∧ σ.env 2 = env 2 ∧ σ.env 6 = env 6 ∧ σ.env 7 = i64 a ∧ σ.env 8 = i64 ((a : Int) + (W : Int)) ∧ (a = p * W ∧ a ≤ n ∧ (∀ i, i < p → Seg key E (i * W) ((i + 1) * W)) ∧ (∀ k, a ≤ k → E k = D k) ∧ SP idD E 0 n ∧ σ.h.hp id = some ⟨true, arrC n E⟩ ∧ Fr1 id h0 σ.h)) _ ⟨0, 0, D, rfl, rfl, rfl, rfl, rfl, by refine e7.trans ?_; first | rfl | exact yD (by omega) | (simp -implicitDefEqProofs (disch := omega) only [zJ]; first | rfl | exact yD (by omega)), by refine e8.trans ?_; first | rfl | exact yD (by omega) | (simp -implicitDefEqProofs (disch := omega) only [zJ]; first | rfl | exact yD (by omega)), ?_⟩ ?_
      · exact ⟨by omega, by omega, fun i hi => by omega, fun k hk => rfl, hsp, by simp -implicitDefEqProofs only [push_cast, sevalprocAttr, eq_self, hbk], (by repeat (first | assumption | exact Fr1.refl _ _ | refine Fr1.tick ?_ | refine Fr1.put ?_ _ | refine Fr1.push ?_ (by omega) _))⟩
      clear hbk hx hle hsp
      clear e0 e1 e2 e6 e7 e8 e9; rintro nn ⟨env, h⟩ ⟨p, a, E, rfl, q0, q1, q2, q6, e7, e8, hI⟩; simp only at q0 q1 q2 q6 e7 e8 hI; (first | have e0 := q0.trans E120_1_0 | have e0 := True.intro); (first | have e1 := q1.trans E120_1_1 | have e1 := True.intro); (first | have e2 := q2.trans E120_1_2 | have e2 := True.intro); (first | have e6 := q6.trans E120_1_6 | have e6 := True.intro); clear q0 q1 q2 q6; have e9 := True.intro
      obtain ⟨p0, p1, p2, p3, hsp, hbk, hx⟩ := hI
      unfold l120_1
      (first | refine yI fun hF => ?_ | refine yS fun hF => ?_ | refine yR fun hF => ?_)
      have hle := hx.ep
      have hEd : ∀ k, k < n → dom (E k) := fun k hk => hsp.all (Q := dom) (fun k _ hk => hdom k hk) k (by omega) hk
      have m0 : 2 * p * w = a := by rw [p0, hW, ← Nat.mul_assoc, Nat.mul_comm p 2]
      have m1 : (2 * p + 1) * w = a + w := by rw [Nat.add_mul, m0, Nat.one_mul]
      have m2 : (2 * p + 1 + 1) * w = a + W := by rw [Nat.add_mul, m1, Nat.one_mul]; omega
      have m3 : (p + 1) * W = a + W := by rw [Nat.add_mul, ← p0, Nat.one_mul]
      obtain ⟨m, hm⟩ : ∃ m, m = a + w := ⟨_, rfl⟩
      rw [← hm] at m1
      by_cases hlt2 : a + W ≤ n
      · obtain ⟨b, hb2⟩ : ∃ b, b = a + W := ⟨_, rfl⟩
        rw [← hb2] at m2 m3
        have hcast : ((a : Int) + (W : Int)) = (b : Int) := by omega
        have hcm : ((a : Int) + (w : Int)) = (m : Int) := by omega
        have hcb : ((b : Int) + 2 * (w : Int)) = (b : Int) + (W : Int) := by omega
        rw [hcast] at e8
        have hd : decide ((b : Int) ≤ (n : Int)) = true := decide_eq_true (by omega)
        have g1 := hS (2 * p) (by omega)
        have g2 := hS (2 * p + 1) (by omega)
        rw [m0, m1, Nat.min_eq_left (by omega)] at g1
        rw [m1, m2, Nat.min_eq_left (by omega)] at g2
        have s1 := g1.congr (E := E) (fun k h1 h2 => p3 k h1)
        have s2 := g2.congr (E := E) (fun k h1 h2 => p3 k (by omega))
        repeat' (first | ((try clear hf); with_reducible refine zO fun env K hE hK hf => ?_; have n : _ ∧ _ ∧ _ ∧ _ ∧ _ ∧ _ ∧ _ := ⟨hE 0, hE 1, hE 2, hE 6, hE 7, hE 8, hE 9⟩; simp -implicitDefEqProofs only [push_cast, reduceIte, Nat.reduceEqDiff, e0, e1, e2, e6, e7, e8, e9] at n; clear hE e0 e1 e2 e6 e7 e8 e9; obtain ⟨e0, e1, e2, e6, e7, e8, e9⟩ := n) | (with_reducible refine hK _ _ ?_; clear hK K) | (with_reducible first | refine zK ?_ | refine zU ?_ | refine zB ?_ | refine zF ?_ | refine zD ?_ | refine zN ?_ | refine zT ?_ | refine zC ?_ | refine zG ?_ | refine zV ?_ | refine zE ?_ | refine zA (by decide) ?_ | refine zL ?_ | refine zQ ?_ | refine zM ?_ | refine yB ?_ | refine yC ?_ | refine zW (by assumption) ?_ | refine zY (by assumption) ?_) | (refine zH rfl ?_) | (simp -implicitDefEqProofs only [push_cast, sevalprocAttr, eq_self, e0, e1, e2, e6, e7, e8, e9, hd, hcm]) | (simp -implicitDefEqProofs (disch := omega) only [zR, zZ, zS, zJ, e0, e1, e2, e6, e7, e8, e9, hd, hcm]) | (with_reducible refine yE ?_ ?_) | (refine zP rfl (fun bb => ?_) (fun bb => ?_) <;> (first | have bp := of_decide_eq_true bb | have bp := of_decide_eq_false bb | skip) <;> simp only [bb]) | (with_reducible refine zX (fun bb => ?_) (fun bb => ?_) <;> (first | have bp := of_decide_eq_true bb | have bp := of_decide_eq_false bb | skip)) | ((with_reducible refine And.intro ?_ ?_); omega) | (refine yT (HC.mono (merge_all hn hkey (n + 1) _ E a m b (by omega) (fun g hg => hc g (Fr1.trans (by repeat (first | assumption | exact Fr1.refl _ _ | refine Fr1.tick ?_ | refine Fr1.put ?_ _ | refine Fr1.push ?_ (by omega) _)) hg)) (by simp -implicitDefEqProofs only [push_cast, sevalprocAttr, eq_self, hbk]) (by simp -implicitDefEqProofs only [push_cast, sevalprocAttr, eq_self]; omega) (by omega) (by omega) (by omega) hEd s1.1 s2.1 (s1.tie s2)) ?_); rintro r g ⟨rfl, hg, D', hb', hp1, hp2⟩ hF') | fail)
        refine ⟨_, ?_, p + 1, b, D', rfl, E120_1_0.symm, E120_1_1.symm, E120_1_2.symm, E120_1_6.symm, by first | rfl | exact yD (by omega) | (simp only [hcb]; exact yD (by omega)) | (simp -implicitDefEqProofs (disch := omega) only [zJ]; first | rfl | exact yD (by omega)), by first | rfl | exact yD (by omega) | (simp only [hcb]; exact yD (by omega)) | (simp -implicitDefEqProofs (disch := omega) only [zJ]; first | rfl | exact yD (by omega)), ?_⟩
        · omega
        · refine ⟨m3.symm, by omega, fun i hi => ?_, fun k hk => by rw [hp1.out k (.inr hk)]; exact p3 k (by omega), hsp.trans (hp1.widen (by omega) (by omega) (by omega)), hb', (Fr1.trans (by repeat (first | assumption | exact Fr1.refl _ _ | refine Fr1.tick ?_ | refine Fr1.put ?_ _ | refine Fr1.push ?_ (by omega) _)) hg).tick.tick.tick⟩
          by_cases e : i < p
          · refine (p2 i e).congr (fun k h1 h2 => hp1.out k (.inl ?_))
            have := Nat.mul_le_mul_right W (show i + 1 ≤ p by omega)
            omega
          · obtain rfl : i = p := by omega
            rw [← p0, m3]
            exact s1.merge s2 (by omega) (by omega) hp1 hp2
      · have hd : decide ((a : Int) + (W : Int) ≤ (n : Int)) = false := decide_eq_false (by omega)
        have hcm : ((a : Int) + (w : Int)) = (m : Int) := by omega
        have hblk : ∀ F : Nat → Int, (∀ k, k < a → F k = E k) → (a < n → Seg key F a n) → BlkS key F n W := by
          intro F f1 f2 i hi
          by_cases e : i < p
          · have h1 := Nat.mul_le_mul_right W (show i + 1 ≤ p by omega)
            rw [Nat.min_eq_left (by omega)]
            exact (p2 i e).congr (fun k h1 h2 => f1 k (by omega))
          · by_cases e2 : i = p
            · subst e2
              rw [m3, Nat.min_eq_right (by omega), ← p0]
              exact f2 (by omega)
            · have h1 := Nat.mul_le_mul_right W (show p + 1 ≤ i by omega)
              omega
        by_cases hmn : m < n
        · have hd2 : decide ((m : Int) < (n : Int)) = true := decide_eq_true (by omega)
          have g1 := hS (2 * p) (by omega)
          have g2 := hS (2 * p + 1) (by omega)
          rw [m0, m1, Nat.min_eq_left (by omega)] at g1
          rw [m1, m2, Nat.min_eq_right (by omega)] at g2
          have s1 := g1.congr (E := E) (fun k h1 h2 => p3 k h1)
          have s2 := g2.congr (E := E) (fun k h1 h2 => p3 k (by omega))
          repeat' (first | ((try clear hf); with_reducible refine zO fun env K hE hK hf => ?_; have n : _ ∧ _ ∧ _ ∧ _ ∧ _ ∧ _ ∧ _ := ⟨hE 0, hE 1, hE 2, hE 6, hE 7, hE 8, hE 9⟩; simp -implicitDefEqProofs only [push_cast, reduceIte, Nat.reduceEqDiff, e0, e1, e2, e6, e7, e8, e9] at n; clear hE e0 e1 e2 e6 e7 e8 e9; obtain ⟨e0, e1, e2, e6, e7, e8, e9⟩ := n) | (with_reducible refine hK _ _ ?_; clear hK K) | (with_reducible first | refine zK ?_ | refine zU ?_ | refine zB ?_ | refine zF ?_ | refine zD ?_ | refine zN ?_ | refine zT ?_ | refine zC ?_ | refine zG ?_ | refine zV ?_ | refine zE ?_ | refine zA (by decide) ?_ | refine zL ?_ | refine zQ ?_ | refine zM ?_ | refine yB ?_ | refine yC ?_ | refine zW (by assumption) ?_ | refine zY (by assumption) ?_) | (refine zH rfl ?_) | (simp -implicitDefEqProofs only [push_cast, sevalprocAttr, eq_self, e0, e1, e2, e6, e7, e8, e9, hd, hd2, hcm]) | (simp -implicitDefEqProofs (disch := omega) only [zR, zZ, zS, zJ, e0, e1, e2, e6, e7, e8, e9, hd, hd2, hcm]) | (with_reducible refine yE ?_ ?_) | (refine zP rfl (fun bb => ?_) (fun bb => ?_) <;> (first | have bp := of_decide_eq_true bb | have bp := of_decide_eq_false bb | skip) <;> simp only [bb]) | (with_reducible refine zX (fun bb => ?_) (fun bb => ?_) <;> (first | have bp := of_decide_eq_true bb | have bp := of_decide_eq_false bb | skip)) | ((with_reducible refine And.intro ?_ ?_); omega) | (refine yT (HC.mono (merge_all hn hkey (n + 1) _ E a m n (by omega) (fun g hg => hc g (Fr1.trans (by repeat (first | assumption | exact Fr1.refl _ _ | refine Fr1.tick ?_ | refine Fr1.put ?_ _ | refine Fr1.push ?_ (by omega) _)) hg)) (by simp -implicitDefEqProofs only [push_cast, sevalprocAttr, eq_self, hbk]) (by simp -implicitDefEqProofs only [push_cast, sevalprocAttr, eq_self]; omega) (by omega) (by omega) (by omega) hEd s1.1 s2.1 (s1.tie s2)) ?_); rintro r g ⟨rfl, hg, D', hb', hp1, hp2⟩ hF') | fail)
          refine ⟨_, ?_, W, D', rfl, E120_2_0.symm, E120_2_1.symm, E120_2_2.symm, by first | rfl | exact yD (by omega) | (simp -implicitDefEqProofs (disch := omega) only [zJ]; first | rfl | exact yD (by omega)), ?_⟩
          · omega
          · exact ⟨by omega, by omega, hblk D' (fun k hk => hp1.out k (.inl hk)) (fun _ => s1.merge s2 (by omega) (by omega) hp1 hp2), hsp.trans (hp1.widen (by omega) (by omega) (by omega)), hb', (Fr1.trans (by repeat (first | assumption | exact Fr1.refl _ _ | refine Fr1.tick ?_ | refine Fr1.put ?_ _ | refine Fr1.push ?_ (by omega) _)) hg).tick.tick⟩
        · have hd2 : decide ((m : Int) < (n : Int)) = false := decide_eq_false (by omega)
          repeat' (first | ((try clear hf); with_reducible refine zO fun env K hE hK hf => ?_; have n : _ ∧ _ ∧ _ ∧ _ ∧ _ ∧ _ ∧ _ := ⟨hE 0, hE 1, hE 2, hE 6, hE 7, hE 8, hE 9⟩; simp -implicitDefEqProofs only [push_cast, reduceIte, Nat.reduceEqDiff, e0, e1, e2, e6, e7, e8, e9] at n; clear hE e0 e1 e2 e6 e7 e8 e9; obtain ⟨e0, e1, e2, e6, e7, e8, e9⟩ := n) | (with_reducible refine hK _ _ ?_; clear hK K) | (with_reducible first | refine zK ?_ | refine zU ?_ | refine zB ?_ | refine zF ?_ | refine zD ?_ | refine zN ?_ | refine zT ?_ | refine zC ?_ | refine zG ?_ | refine zV ?_ | refine zE ?_ | refine zA (by decide) ?_ | refine zL ?_ | refine zQ ?_ | refine zM ?_ | refine yB ?_ | refine yC ?_ | refine zW (by assumption) ?_ | refine zY (by assumption) ?_) | (refine zH rfl ?_) | (simp -implicitDefEqProofs only [push_cast, sevalprocAttr, eq_self, e0, e1, e2, e6, e7, e8, e9, hd, hd2, hcm]) | (simp -implicitDefEqProofs (disch := omega) only [zR, zZ, zS, zJ, e0, e1, e2, e6, e7, e8, e9, hd, hd2, hcm]) | (with_reducible refine yE ?_ ?_) | (refine zP rfl (fun bb => ?_) (fun bb => ?_) <;> (first | have bp := of_decide_eq_true bb | have bp := of_decide_eq_false bb | skip) <;> simp only [bb]) | (with_reducible refine zX (fun bb => ?_) (fun bb => ?_) <;> (first | have bp := of_decide_eq_true bb | have bp := of_decide_eq_false bb | skip)) | ((with_reducible refine And.intro ?_ ?_); omega) | fail)
          refine ⟨_, ?_, W, E, rfl, E120_2_0.symm, E120_2_1.symm, E120_2_2.symm, by first | rfl | exact yD (by omega) | (simp -implicitDefEqProofs (disch := omega) only [zJ]; first | rfl | exact yD (by omega)), ?_⟩
          · omega
          · refine ⟨by omega, by omega, hblk E (fun k hk => rfl) (fun ha => ?_), hsp, hbk, (by repeat (first | assumption | exact Fr1.refl _ _ | refine Fr1.tick ?_ | refine Fr1.put ?_ _ | refine Fr1.push ?_ (by omega) _))⟩
            have g1 := hS (2 * p) (by omega)
            rw [m0, m1, Nat.min_eq_right (by omega)] at g1
            exact g1.congr (E := E) (fun k h1 h2 => p3 k h1)
    · have hd : decide ((w : Int) < (n : Int)) = false := decide_eq_false (by omega)
      repeat' (first | ((try clear hf); with_reducible refine zO fun env K hE hK hf => ?_; have n : _ ∧ _ ∧ _ ∧ _ ∧ _ ∧ _ ∧ _ := ⟨hE 0, hE 1, hE 2, hE 6, hE 7, hE 8, hE 9⟩; simp -implicitDefEqProofs only [push_cast, reduceIte, Nat.reduceEqDiff, e0, e1, e2, e6, e7, e8, e9] at n; clear hE e0 e1 e2 e6 e7 e8 e9; obtain ⟨e0, e1, e2, e6, e7, e8, e9⟩ := n) | (with_reducible refine hK _ _ ?_; clear hK K) | (with_reducible first | refine zK ?_ | refine zU ?_ | refine zB ?_ | refine zF ?_ | refine zD ?_ | refine zN ?_ | refine zT ?_ | refine zC ?_ | refine zG ?_ | refine zV ?_ | refine zE ?_ | refine zA (by decide) ?_ | refine zL ?_ | refine zQ ?_ | refine zM ?_ | refine yB ?_ | refine yC ?_ | refine zW (by assumption) ?_ | refine zY (by assumption) ?_) | (refine zH rfl ?_) | (simp -implicitDefEqProofs only [push_cast, sevalprocAttr, eq_self, e0, e1, e2, e6, e7, e8, e9, hd]) | (simp -implicitDefEqProofs (disch := omega) only [zR, zZ, zS, zJ, e0, e1, e2, e6, e7, e8, e9, hd]) | (with_reducible refine yE ?_ ?_) | (refine zP rfl (fun bb => ?_) (fun bb => ?_) <;> (first | have bp := of_decide_eq_true bb | have bp := of_decide_eq_false bb | skip) <;> simp only [bb]) | (with_reducible refine zX (fun bb => ?_) (fun bb => ?_) <;> (first | have bp := of_decide_eq_true bb | have bp := of_decide_eq_false bb | skip)) | ((with_reducible refine And.intro ?_ ?_); omega) | fail)
      refine ⟨rfl, (by repeat (first | assumption | exact Fr1.refl _ _ | refine Fr1.tick ?_ | refine Fr1.put ?_ _ | refine Fr1.push ?_ (by omega) _)), D, by simp -implicitDefEqProofs only [push_cast, sevalprocAttr, eq_self, hbk], hsp, ?_⟩
      by_cases h0 : n = 0
      · subst h0; intro i j h1 h2 h3; omega
      · have := hS 0 (by omega)
        rw [Nat.zero_mul, Nat.min_eq_right (by omega)] at this
        exact this.1
end Go.Proofs.Hx

set_option linter.unusedVariables false
set_option linter.unusedSimpArgs false
namespace Go.Proofs.Hx
open Go Go.Proofs
attribute [local irreducible] yM awp opK goV goM yZ qB qD yQ HV HVF HC
theorem f103 {h0 : Hp} {id : Id} {n : Nat} {f : AV} {key : Int → Int} {dom : Int → Prop} (hc : ∀ g, Fr1 id h0 g → CmpAt Try.prog f key dom g) (hb : h0.hp id = some ⟨true, arrC n idD⟩) (hi : id.1 ≤ h0.ep) (hn : n ≤ 1000000)
    (hdom : ∀ k, k < n → dom (idD k)) (hkey : ∀ x, dom x → -1000000 ≤ key x ∧ key x ≤ 1000000) :
    HC Try.prog 103 [.sl id 0 n 1, f] h0 (SortQ h0 id n fun d' => SP idD d' 0 n ∧ srt key d' 0 n) := by
  refine yX yK cf103 (by simp) fun hF => ?_
  unfold ac103 re103
  refine yF fun env hE => ?_; have e0 := hE 0; have e1 := hE 1; simp -implicitDefEqProofs only [push_cast] at e0 e1; clear hE
  repeat' (first | ((try clear hf); with_reducible refine zO fun env K hE hK hf => ?_; have n : _ ∧ _ := ⟨hE 0, hE 1⟩; simp -implicitDefEqProofs only [push_cast, reduceIte, Nat.reduceEqDiff, e0, e1] at n; clear hE e0 e1; obtain ⟨e0, e1⟩ := n) | (with_reducible refine hK _ _ ?_; clear hK K) | (with_reducible first | refine zK ?_ | refine zU ?_ | refine zB ?_ | refine zF ?_ | refine zD ?_ | refine zN ?_ | refine zT ?_ | refine zC ?_ | refine zG ?_ | refine zV ?_ | refine zE ?_ | refine zA (by decide) ?_ | refine zL ?_ | refine zQ ?_ | refine zM ?_ | refine yB ?_ | refine yC ?_ | refine zW (by assumption) ?_ | refine zY (by assumption) ?_) | (refine zH rfl ?_) | (simp -implicitDefEqProofs only [push_cast, sevalprocAttr, eq_self, e0, e1]) | (simp -implicitDefEqProofs (disch := omega) only [zR, zZ, zS, zJ, e0, e1]) | (with_reducible refine yE ?_ ?_) | (refine zP rfl (fun bb => ?_) (fun bb => ?_) <;> (first | have bp := of_decide_eq_true bb | have bp := of_decide_eq_false bb | skip) <;> simp only [bb]) | (with_reducible refine zX (fun bb => ?_) (fun bb => ?_) <;> (first | have bp := of_decide_eq_true bb | have bp := of_decide_eq_false bb | skip)) | ((with_reducible refine And.intro ?_ ?_); omega) | (refine yT (HC.mono (f120 (n := n) (fun g hg => hc g (Fr1.trans (by repeat (first | assumption | exact Fr1.refl _ _ | refine Fr1.tick ?_ | refine Fr1.put ?_ _ | refine Fr1.push ?_ (by omega) _)) hg)) (by simp -implicitDefEqProofs only [push_cast, sevalprocAttr, eq_self, hb]) (by simp -implicitDefEqProofs only [push_cast, sevalprocAttr, eq_self]; omega) hn hdom hkey) ?_); rintro r g ⟨rfl, hg, D', hb', hp1, hp2⟩ hF') | fail)
  exact ⟨rfl, (Fr1.trans (by repeat (first | assumption | exact Fr1.refl _ _ | refine Fr1.tick ?_ | refine Fr1.put ?_ _ | refine Fr1.push ?_ (by omega) _)) hg).tick, D', hb', hp1, hp2⟩
theorem f74 (x y : Int) (h1 : -1000000 ≤ x ∧ x ≤ 1000000) (h2 : -1000000 ≤ y ∧ y ≤ 1000000) : HV Try.prog 74 [i64 x, i64 y] (i64 (y - x)) := by
  refine yJ yK cf74 (by simp) (by simp [imms, imm]) ?_ rfl
  unfold ac74 re74
  refine yF fun env hE => ?_; have e0 := hE 0; have e1 := hE 1; have e4 := hE 4; simp -implicitDefEqProofs only [push_cast] at e0 e1 e4; clear hE
  have hw : IntKind.i64.wrap (y - x) = y - x := wrap64 (by omega) (by omega)
  repeat' (first | ((try clear hf); with_reducible refine zO fun env K hE hK hf => ?_; have n : _ ∧ _ ∧ _ := ⟨hE 0, hE 1, hE 4⟩; simp -implicitDefEqProofs only [push_cast, reduceIte, Nat.reduceEqDiff, e0, e1, e4] at n; clear hE e0 e1 e4; obtain ⟨e0, e1, e4⟩ := n) | (with_reducible refine hK _ _ ?_; clear hK K) | (with_reducible first | refine zK ?_ | refine zU ?_ | refine zB ?_ | refine zF ?_ | refine zD ?_ | refine zN ?_ | refine zT ?_ | refine zC ?_ | refine zG ?_ | refine zV ?_ | refine zE ?_ | refine zA (by decide) ?_ | refine zL ?_ | refine zQ ?_ | refine zM ?_ | refine yB ?_ | refine yC ?_ | refine zW (by assumption) ?_ | refine zY (by assumption) ?_) | (refine zH rfl ?_) | (simp -implicitDefEqProofs only [push_cast, sevalprocAttr, eq_self, e0, e1, e4, hw]) | (simp -implicitDefEqProofs (disch := omega) only [zR, zZ, zS, zJ, e0, e1, e4, hw]) | (with_reducible refine yE ?_ ?_) | (refine zP rfl (fun bb => ?_) (fun bb => ?_) <;> (first | have bp := of_decide_eq_true bb | have bp := of_decide_eq_false bb | skip) <;> simp only [bb]) | (with_reducible refine zX (fun bb => ?_) (fun bb => ?_) <;> (first | have bp := of_decide_eq_true bb | have bp := of_decide_eq_false bb | skip)) | ((with_reducible refine And.intro ?_ ?_); omega) | fail)
theorem f104 {H : List Int} {a b : Int} (ha : 0 ≤ a ∧ a < H.length) (hb : 0 ≤ b ∧ b < H.length) (hH : ∀ k, -1000000 ≤ H.getD k 0 ∧ H.getD k 0 ≤ 1000000) : HV Try.prog 104 [i64 a, i64 b, .ip [.fn 74 []], .ip [.row (H.map intC)]] (i64 (H.getD b.toNat 0 - H.getD a.toNat 0)) := by
  refine yJ yK cf104 (by simp) (by simp [imms, imm, ints_imms]) ?_ rfl
  unfold ac104 re104
  refine yF fun env hE => ?_; have e0 := hE 0; have e1 := hE 1; have e2 := hE 2; have e3 := hE 3; have e6 := hE 6; simp -implicitDefEqProofs only [push_cast] at e0 e1 e2 e3 e6; clear hE
  obtain ⟨i, rfl⟩ : ∃ i : Nat, a = i := ⟨a.toNat, by omega⟩
  obtain ⟨j, rfl⟩ : ∃ i : Nat, b = i := ⟨b.toNat, by omega⟩
  have hri := int_at (l := H) (k := i) (by omega) .i64
  have hrj := int_at (l := H) (k := j) (by omega) .i64
  repeat' (first | ((try clear hf); with_reducible refine zO fun env K hE hK hf => ?_; have n : _ ∧ _ ∧ _ ∧ _ ∧ _ := ⟨hE 0, hE 1, hE 2, hE 3, hE 6⟩; simp -implicitDefEqProofs only [push_cast, reduceIte, Nat.reduceEqDiff, e0, e1, e2, e3, e6] at n; clear hE e0 e1 e2 e3 e6; obtain ⟨e0, e1, e2, e3, e6⟩ := n) | (with_reducible refine hK _ _ ?_; clear hK K) | (with_reducible first | refine zK ?_ | refine zU ?_ | refine zB ?_ | refine zF ?_ | refine zD ?_ | refine zN ?_ | refine zT ?_ | refine zC ?_ | refine zG ?_ | refine zV ?_ | refine zE ?_ | refine zA (by decide) ?_ | refine zL ?_ | refine zQ ?_ | refine zM ?_ | refine yB ?_ | refine yC ?_ | refine zW (by assumption) ?_ | refine zY (by assumption) ?_) | (refine zH rfl ?_) | (simp -implicitDefEqProofs only [push_cast, sevalprocAttr, eq_self, e0, e1, e2, e3, e6, hri, hrj]) | (simp -implicitDefEqProofs (disch := omega) only [zR, zZ, zS, zJ, e0, e1, e2, e3, e6, hri, hrj]) | (with_reducible refine yE ?_ ?_) | (refine zP rfl (fun bb => ?_) (fun bb => ?_) <;> (first | have bp := of_decide_eq_true bb | have bp := of_decide_eq_false bb | skip) <;> simp only [bb]) | (with_reducible refine zX (fun bb => ?_) (fun bb => ?_) <;> (first | have bp := of_decide_eq_true bb | have bp := of_decide_eq_false bb | skip)) | ((with_reducible refine And.intro ?_ ?_); omega) | (refine call_immq (f74 _ _ (hH _) (hH _)) ?_) | fail)
theorem flat_intC (H : List Int) : H.flatMap intC = H.map iC := by
  induction H with
  | nil => rfl
  | cons a l ih => rw [List.flatMap_cons, ih]; rfl
def upto (k : Nat) : Nat → Int := fun j => if j < k then (j : Int) else 0
theorem arrC_upto (n : Nat) (k : Nat) : arrC n (fset (upto k) k k) = arrC n (upto (k + 1)) := by
  apply arrC_congr
  intro j _
  simp only [fset, upto]
  by_cases h1 : j = k
  · subst h1; simp
  · rw [if_neg h1]
    by_cases h2 : j < k
    · rw [if_pos h2, if_pos (by omega)]
    · rw [if_neg h2, if_neg (by omega)]
def keyH (H : List Int) (x : Int) : Int := H.getD x.toNat 0
set_option maxHeartbeats 1000000 in
theorem f73 {h0 : Hp} {ih : Id} {H : List Int} (hb : h0.hp ih = some ⟨true, H.map iC⟩) (hi : ih.1 ≤ h0.ep) (hn : H.length ≤ 1000000) (hHb : ∀ k, -1000000 ≤ H.getD k 0 ∧ H.getD k 0 ≤ 1000000) :
    HC Try.prog 73 [.sl ih 0 H.length 1, .fn 74 []] h0 fun r h' => ∃ id d, r = .sl id 0 H.length 1 ∧ h'.hp id = some ⟨true, arrC H.length d⟩ ∧ SP idD d 0 H.length ∧ srt (keyH H) d 0 H.length ∧ h0.ep < id.1 ∧ id.1 ≤ h'.ep ∧ Ext h0 h' := by
  refine yX yK cf73 (by simp) fun hF => ?_
  unfold ac73 re73
  refine yF fun env hE => ?_; have e0 := hE 0; have e1 := hE 1; have e2 := hE 2; have e3 := hE 3; have e4 := hE 4; have e5 := hE 5; have e6 := hE 6; have e11 := hE 11; have e12 := hE 12; have e13 := hE 13; simp -implicitDefEqProofs only [push_cast] at e0 e1 e2 e3 e4 e5 e6 e11 e12 e13; clear hE
  have hz : ∀ n, List.replicate n (AV.lit (.int .i64 0)) = arrC n (upto 0) := fun n => by
    apply List.ext_getElem?
    intro r
    by_cases hr : r < n
    · rw [arrC_at _ hr]; simp [hr, upto]
    · rw [List.getElem?_eq_none (by simp; omega), List.getElem?_eq_none (by simp [arrC_len]; omega)]
  repeat' (first | ((try clear hf); with_reducible refine zO fun env K hE hK hf => ?_; have n : _ ∧ _ ∧ _ ∧ _ ∧ _ ∧ _ ∧ _ ∧ _ ∧ _ ∧ _ := ⟨hE 0, hE 1, hE 2, hE 3, hE 4, hE 5, hE 6, hE 11, hE 12, hE 13⟩; simp -implicitDefEqProofs only [push_cast, reduceIte, Nat.reduceEqDiff, e0, e1, e2, e3, e4, e5, e6, e11, e12, e13] at n; clear hE e0 e1 e2 e3 e4 e5 e6 e11 e12 e13; obtain ⟨e0, e1, e2, e3, e4, e5, e6, e11, e12, e13⟩ := n) | (with_reducible refine hK _ _ ?_; clear hK K) | (with_reducible first | refine zK ?_ | refine zU ?_ | refine zB ?_ | refine zF ?_ | refine zD ?_ | refine zN ?_ | refine zT ?_ | refine zC ?_ | refine zG ?_ | refine zV ?_ | refine zE ?_ | refine zA (by decide) ?_ | refine zL ?_ | refine zQ ?_ | refine zM ?_ | refine yB ?_ | refine yC ?_ | refine zW (by assumption) ?_ | refine zY (by assumption) ?_) | (refine zH rfl ?_) | (simp -implicitDefEqProofs only [push_cast, sevalprocAttr, eq_self, e0, e1, e2, e3, e4, e5, e6, e11, e12, e13, hF.at, rep1, hz]) | (simp -implicitDefEqProofs (disch := omega) only [zR, zZ, zS, zJ, e0, e1, e2, e3, e4, e5, e6, e11, e12, e13, hF.at, rep1, hz]) | (with_reducible refine yE ?_ ?_) | (refine zP rfl (fun bb => ?_) (fun bb => ?_) <;> (first | have bp := of_decide_eq_true bb | have bp := of_decide_eq_false bb | skip) <;> simp only [bb]) | (with_reducible refine zX (fun bb => ?_) (fun bb => ?_) <;> (first | have bp := of_decide_eq_true bb | have bp := of_decide_eq_false bb | skip)) | ((with_reducible refine And.intro ?_ ?_); omega) | fail)
  generalize hH : H.length = n at *
  generalize hO : (h0.ep + 1 + 1 + 1, 9) = O at *
  obtain ⟨Oe, Os⟩ := O
  have hOe : Oe = h0.ep + 1 + 1 + 1 := by cases hO; rfl
  refine yF fun env hE => ?_; have n : _ ∧ _ ∧ _ ∧ _ ∧ _ ∧ _ ∧ _ ∧ _ ∧ _ ∧ _ := ⟨hE 0, hE 1, hE 2, hE 3, hE 4, hE 5, hE 6, hE 11, hE 12, hE 13⟩; simp -implicitDefEqProofs only [push_cast, reduceIte, Nat.reduceEqDiff, e0, e1, e2, e3, e4, e5, e6, e11, e12, e13] at n; clear hE e0 e1 e2 e3 e4 e5 e6 e11 e12 e13; obtain ⟨e0, e1, e2, e3, e4, e5, e6, e11, e12, e13⟩ := n; have E73_0_0 := e0; have E73_0_1 := e1; have E73_0_2 := e2; have E73_0_3 := e3; have E73_0_4 := e4; have E73_0_5 := e5; have E73_0_11 := e11
  refine yL (fun nn σ => ∃ (k : Nat), nn = n - k ∧ σ.env 0 = env 0 ∧ σ.env 1 = env 1 ∧ σ.env 2 = env 2 ∧ σ.env 3 = env 3 ∧ σ.env 4 = env 4 ∧ σ.env 5 = env 5 ∧ σ.env 11 = env 11 ∧ σ.env 12 = i64 k ∧ (k ≤ n ∧ σ.h.hp (Oe, Os) = some ⟨true, arrC n (upto k)⟩ ∧ σ.h.hp (h0.ep + 1 + 1, 2) = some ⟨true, [.sl ih 0 n 1]⟩ ∧ σ.h.hp (h0.ep + 1 + 1, 3) = some ⟨true, [.fn 74 []]⟩ ∧ σ.h.hp ih = some ⟨true, H.map iC⟩ ∧ Ext h0 σ.h ∧ Oe ≤ σ.h.ep)) _ ⟨0, rfl, rfl, rfl, rfl, rfl, rfl, rfl, rfl, by refine e12.trans ?_; first | rfl | exact yD (by omega) | (simp -implicitDefEqProofs (disch := omega) only [zJ]; first | rfl | exact yD (by omega)), ?_⟩ ?_
  · obtain ⟨ie, is⟩ := ih
    simp only at hi
    refine ⟨by omega, by simp -implicitDefEqProofs only [push_cast, sevalprocAttr, eq_self], ?_, ?_, ?_, (by repeat (first | exact Ext.refl _ | assumption | refine Ext.tick ?_ | refine Ext.push ?_ (by omega) _ | refine Ext.put ?_ (by omega) _ | refine Ext.kill ?_ (by omega) | refine Ext.killA ?_ (by assumption))), (by first | omega | (simp -implicitDefEqProofs only [push_cast, sevalprocAttr, eq_self]; first | done | omega))⟩
    · simp -implicitDefEqProofs (disch := omega) only [zR, zZ, zS, zJ, qN, qP, push_slot]
    · simp -implicitDefEqProofs (disch := omega) only [zR, zZ, zS, zJ, qN, qP, push_slot]
    · simp -implicitDefEqProofs (disch := omega) only [zR, zZ, zS, zJ, qN, qP, hb]
  clear e0 e1 e2 e3 e4 e5 e6 e11 e12 e13; rintro nn ⟨env, h⟩ ⟨k, rfl, q0, q1, q2, q3, q4, q5, q11, e12, hI⟩; simp only at q0 q1 q2 q3 q4 q5 q11 e12 hI; (first | have e0 := q0.trans E73_0_0 | have e0 := True.intro); (first | have e1 := q1.trans E73_0_1 | have e1 := True.intro); (first | have e2 := q2.trans E73_0_2 | have e2 := True.intro); (first | have e3 := q3.trans E73_0_3 | have e3 := True.intro); (first | have e4 := q4.trans E73_0_4 | have e4 := True.intro); (first | have e5 := q5.trans E73_0_5 | have e5 := True.intro); (first | have e11 := q11.trans E73_0_11 | have e11 := True.intro); clear q0 q1 q2 q3 q4 q5 q11; have e6 := True.intro; have e13 := True.intro
  obtain ⟨hk, hbO, hb2, hb3, hbh, hx, hle⟩ := hI
  unfold l73_0
  (first | refine yI fun hF => ?_ | refine yS fun hF => ?_ | refine yR fun hF => ?_)
  by_cases hlt : k < n
  · have hd : decide ((k : Int) < (n : Int)) = true := decide_eq_true (by omega)
    have hp1 := fun D => arrC_put (n := n) D (k := k) hlt
    repeat' (first | ((try clear hf); with_reducible refine zO fun env K hE hK hf => ?_; have n : _ ∧ _ ∧ _ ∧ _ ∧ _ ∧ _ ∧ _ ∧ _ ∧ _ ∧ _ := ⟨hE 0, hE 1, hE 2, hE 3, hE 4, hE 5, hE 6, hE 11, hE 12, hE 13⟩; simp -implicitDefEqProofs only [push_cast, reduceIte, Nat.reduceEqDiff, e0, e1, e2, e3, e4, e5, e6, e11, e12, e13] at n; clear hE e0 e1 e2 e3 e4 e5 e6 e11 e12 e13; obtain ⟨e0, e1, e2, e3, e4, e5, e6, e11, e12, e13⟩ := n) | (with_reducible refine hK _ _ ?_; clear hK K) | (with_reducible first | refine zK ?_ | refine zU ?_ | refine zB ?_ | refine zF ?_ | refine zD ?_ | refine zN ?_ | refine zT ?_ | refine zC ?_ | refine zG ?_ | refine zV ?_ | refine zE ?_ | refine zA (by decide) ?_ | refine zL ?_ | refine zQ ?_ | refine zM ?_ | refine yB ?_ | refine yC ?_ | refine zW (by assumption) ?_ | refine zY (by assumption) ?_) | (refine zH rfl ?_) | (simp -implicitDefEqProofs only [push_cast, sevalprocAttr, eq_self, e0, e1, e2, e3, e4, e5, e6, e11, e12, e13, hd, hbO, hp1, arrC_upto]) | (simp -implicitDefEqProofs (disch := omega) only [zR, zZ, zS, zJ, e0, e1, e2, e3, e4, e5, e6, e11, e12, e13, hd, hbO, hp1, arrC_upto]) | (with_reducible refine yE ?_ ?_) | (refine zP rfl (fun bb => ?_) (fun bb => ?_) <;> (first | have bp := of_decide_eq_true bb | have bp := of_decide_eq_false bb | skip) <;> simp only [bb]) | (with_reducible refine zX (fun bb => ?_) (fun bb => ?_) <;> (first | have bp := of_decide_eq_true bb | have bp := of_decide_eq_false bb | skip)) | ((with_reducible refine And.intro ?_ ?_); omega) | fail)
    have hne : ∀ {x : Id}, x.1 < Oe → ∀ (g : Hp) (c : List AV), (g.put (Oe, Os) c).hp x = g.hp x := fun h g c => put_ne _ _ _ _ (fun e => by rw [e] at h; simp at h)
    refine ⟨_, ?_, k + 1, rfl, E73_0_0.symm, E73_0_1.symm, E73_0_2.symm, E73_0_3.symm, E73_0_4.symm, E73_0_5.symm, E73_0_11.symm, by first | rfl | exact yD (by omega) | (simp -implicitDefEqProofs (disch := omega) only [zJ]; first | rfl | exact yD (by omega)), ?_⟩
    · omega
    · refine ⟨by omega, rfl, ?_, ?_, ?_, (by repeat (first | exact Ext.refl _ | assumption | refine Ext.tick ?_ | refine Ext.push ?_ (by omega) _ | refine Ext.put ?_ (by omega) _ | refine Ext.kill ?_ (by omega) | refine Ext.killA ?_ (by assumption))), (by first | omega | (simp -implicitDefEqProofs only [push_cast, sevalprocAttr, eq_self]; first | done | omega))⟩
      · first | exact hb2 | exact (hne (by simp only; omega) _ _).trans hb2
      · first | exact hb3 | exact (hne (by simp only; omega) _ _).trans hb3
      · exact (hne (by omega) _ _).trans hbh
  · have hd : decide ((k : Int) < (n : Int)) = false := decide_eq_false (by omega)
    obtain rfl : k = n := by omega
    have hc : ∀ g, Fr1 (Oe, Os) h g → CmpAt Try.prog (.fn 104 [.ptr (h0.ep + 1 + 1, 3) 0, .ptr (h0.ep + 1 + 1, 2) 0]) (keyH H) (fun x => 0 ≤ x ∧ x < k) g := by
      intro g hg d K env a b ha hb kk
      have g2 := (hg.hp (h0.ep + 1 + 1, 2) (by simp only; omega) (by simp; omega)).trans hb2
      have g3 := (hg.hp (h0.ep + 1 + 1, 3) (by simp only; omega) (by simp; omega)).trans hb3
      have gh := (hg.hp ih (by omega) (fun e => by rw [e] at hi; simp at hi; omega)).trans hbh
      refine call_lendq ?_ (f104 (H := H) (a := a) (b := b) (by omega) (by omega) hHb) rfl kk
      rw [← flat_intC] at gh
      have l1 := lend_rows_d 6 (f := intC) (sz := 1) (fun _ => rfl) (fun _ => rfl) gh (flat1_len (fun _ => rfl) H)
      rw [hH] at l1
      simp -implicitDefEqProofs only [push_cast, sevalprocAttr, eq_self, lend_ptrF, g2, g3, l1]
      rfl
    have hbI : h.hp (Oe, Os) = some ⟨true, arrC k idD⟩ := by rw [hbO, arrC_congr (fun j hj => by simp [upto, idD, hj] : ∀ j, j < k → upto k j = idD j)]
    have hcall : HC Try.prog 103 [.sl (Oe, Os) 0 k 1, .fn 104 [.ptr (h0.ep + 1 + 1, 3) 0, .ptr (h0.ep + 1 + 1, 2) 0]] h.tick.tick (SortQ h.tick.tick (Oe, Os) k fun d' => SP idD d' 0 k ∧ srt (keyH H) d' 0 k) :=
      f103 (fun g hg => hc g (Fr1.trans (by repeat (first | assumption | exact Fr1.refl _ _ | refine Fr1.tick ?_ | refine Fr1.put ?_ _ | refine Fr1.push ?_ (by omega) _)) hg)) (by simp -implicitDefEqProofs only [push_cast, sevalprocAttr, eq_self, hbI]) (by simp -implicitDefEqProofs only [push_cast, sevalprocAttr, eq_self]; omega) hn (fun j hj => by unfold idD; omega) (fun x _ => hHb _)
    repeat' (first | ((try clear hf); with_reducible refine zO fun env K hE hK hf => ?_; have n : _ ∧ _ ∧ _ ∧ _ ∧ _ ∧ _ ∧ _ ∧ _ ∧ _ ∧ _ := ⟨hE 0, hE 1, hE 2, hE 3, hE 4, hE 5, hE 6, hE 11, hE 12, hE 13⟩; simp -implicitDefEqProofs only [push_cast, reduceIte, Nat.reduceEqDiff, e0, e1, e2, e3, e4, e5, e6, e11, e12, e13] at n; clear hE e0 e1 e2 e3 e4 e5 e6 e11 e12 e13; obtain ⟨e0, e1, e2, e3, e4, e5, e6, e11, e12, e13⟩ := n) | (with_reducible refine hK _ _ ?_; clear hK K) | (with_reducible first | refine zK ?_ | refine zU ?_ | refine zB ?_ | refine zF ?_ | refine zD ?_ | refine zN ?_ | refine zT ?_ | refine zC ?_ | refine zG ?_ | refine zV ?_ | refine zE ?_ | refine zA (by decide) ?_ | refine zL ?_ | refine zQ ?_ | refine zM ?_ | refine yB ?_ | refine yC ?_ | refine zW (by assumption) ?_ | refine zY (by assumption) ?_) | (refine zH rfl ?_) | (simp -implicitDefEqProofs only [push_cast, sevalprocAttr, eq_self, e0, e1, e2, e3, e4, e5, e6, e11, e12, e13, hd]) | (simp -implicitDefEqProofs (disch := omega) only [zR, zZ, zS, zJ, e0, e1, e2, e3, e4, e5, e6, e11, e12, e13, hd]) | (with_reducible refine yE ?_ ?_) | (refine zP rfl (fun bb => ?_) (fun bb => ?_) <;> (first | have bp := of_decide_eq_true bb | have bp := of_decide_eq_false bb | skip) <;> simp only [bb]) | (with_reducible refine zX (fun bb => ?_) (fun bb => ?_) <;> (first | have bp := of_decide_eq_true bb | have bp := of_decide_eq_false bb | skip)) | ((with_reducible refine And.intro ?_ ?_); omega) | (refine yT (HC.mono hcall ?_); rintro r g ⟨rfl, hg, D', hb', hp1, hp2⟩ hF') | fail)
    have hle2 := hg.ep
    simp only [yN] at hle2
    refine ⟨(Oe, Os), D', rfl, hb', hp1, hp2, by simp only; omega, (by first | omega | (simp -implicitDefEqProofs only [push_cast, sevalprocAttr, eq_self]; first | done | omega)), ?_⟩
    have hx2 : Ext h0 g := ⟨by have := hx.1; omega, fun x hx' => (hg.hp x (by have := hx.1; simp only [yN]; omega) (fun e => by rw [e] at hx'; simp at hx'; omega)).trans (hx.2 x hx')⟩
    exact (by repeat (first | exact Ext.refl _ | assumption | refine Ext.tick ?_ | refine Ext.push ?_ (by omega) _ | refine Ext.put ?_ (by omega) _ | refine Ext.kill ?_ (by omega) | refine Ext.killA ?_ (by assumption)))
end Go.Proofs.Hx

set_option linter.unusedVariables false
set_option linter.unusedSimpArgs false
namespace Go.Proofs.Hx
open Go Go.Proofs
attribute [local irreducible] yM awp opK goV goM yZ qB qD yQ HV HVF HC
theorem heightS_len (l : List Opn) (t : Tab) : (heightS l t).length = l.length := hM_len _ _ _ _
theorem heightS_bnd {l : List Opn} {t : Tab} (hR : errR l t = 0) (k : Nat) : 0 ≤ (heightS l t).getD k 0 ∧ (heightS l t).getD k 0 ≤ 8 * l.length := by
  obtain ⟨ht, hn, hop⟩ := errR_ok hR
  exact hM_bnd ht (onceE_ok (l := l) ht l.length) l.length k
/-- An order: the numbers from 0 on, the longest way first. -/
def OrdP (H : List Int) (n : Nat) (d : Nat → Int) : Prop := SP idD d 0 n ∧ srt (keyH H) d 0 n
set_option maxHeartbeats 1000000 in
/-- height.Order, whatever the list. -/
theorem f38 {h0 : Hp} {l : List Opn} {t : Tab} (hl : ∀ o ∈ l, o.ok) :
    HC Try.prog 38 [.row (l.map opC), .agg (tabC t)] h0 fun r h' => Ext h0 h' ∧ ((errR l t ≠ 0 ∧ r = .tup [.nil, i64 (errR l t)]) ∨ (errR l t = 0 ∧ ∃ id d, r = .tup [.sl id 0 l.length 1, i64 0] ∧ h'.hp id = some ⟨true, arrC l.length d⟩ ∧ OrdP (heightS l t) l.length d ∧ h0.ep < id.1 ∧ id.1 ≤ h'.ep)) := by
  refine yX yK cf38 (by simp) fun hF => ?_
  unfold ac38 re38
  refine yF fun env hE => ?_; have e0 := hE 0; have e1 := hE 1; have e3 := hE 3; have e4 := hE 4; have e5 := hE 5; have e6 := hE 6; have e7 := hE 7; simp -implicitDefEqProofs only [push_cast] at e0 e1 e3 e4 e5 e6 e7; clear hE
  by_cases hR : errR l t = 0
  · obtain ⟨ht, hn, hop⟩ := errR_ok hR
    have hHl := heightS_len l t
    have hHb := heightS_bnd hR
    generalize hH : heightS l t = H at *
    repeat' (first | ((try clear hf); with_reducible refine zO fun env K hE hK hf => ?_; have n : _ ∧ _ ∧ _ ∧ _ ∧ _ ∧ _ ∧ _ := ⟨hE 0, hE 1, hE 3, hE 4, hE 5, hE 6, hE 7⟩; simp -implicitDefEqProofs only [push_cast, reduceIte, Nat.reduceEqDiff, e0, e1, e3, e4, e5, e6, e7] at n; clear hE e0 e1 e3 e4 e5 e6 e7; obtain ⟨e0, e1, e3, e4, e5, e6, e7⟩ := n) | (with_reducible refine hK _ _ ?_; clear hK K) | (with_reducible first | refine zK ?_ | refine zU ?_ | refine zB ?_ | refine zF ?_ | refine zD ?_ | refine zN ?_ | refine zT ?_ | refine zC ?_ | refine zG ?_ | refine zV ?_ | refine zE ?_ | refine zA (by decide) ?_ | refine zL ?_ | refine zQ ?_ | refine zM ?_ | refine yB ?_ | refine yC ?_ | refine zW (by assumption) ?_ | refine zY (by assumption) ?_) | (refine zH rfl ?_) | (simp -implicitDefEqProofs only [push_cast, sevalprocAttr, eq_self, e0, e1, e3, e4, e5, e6, e7, hF.at]) | (simp -implicitDefEqProofs (disch := omega) only [zR, zZ, zS, zJ, e0, e1, e3, e4, e5, e6, e7, hF.at]) | (with_reducible refine yE ?_ ?_) | (refine zP rfl (fun bb => ?_) (fun bb => ?_) <;> (first | have bp := of_decide_eq_true bb | have bp := of_decide_eq_false bb | skip) <;> simp only [bb]) | (with_reducible refine zX (fun bb => ?_) (fun bb => ?_) <;> (first | have bp := of_decide_eq_true bb | have bp := of_decide_eq_false bb | skip)) | ((with_reducible refine And.intro ?_ ?_); omega) | (refine yT (HC.mono (height_all hl) ?_); rintro r h1 ⟨hx, hr⟩ hF; rcases hr with ⟨hr, _⟩ | ⟨_, id, hr, hbH, hi1, hi2⟩; exact absurd hR hr; subst hr; rw [hH] at hbH) | fail)
    have hcall := f73 (h0 := h1.tick.tick.tick) (H := H) hbH (by simp only [yN]; omega) (by omega) (fun k => by have := hHb k; omega)
    rw [hHl] at hcall
    repeat' (first | ((try clear hf); with_reducible refine zO fun env K hE hK hf => ?_; have n : _ ∧ _ ∧ _ ∧ _ ∧ _ ∧ _ ∧ _ := ⟨hE 0, hE 1, hE 3, hE 4, hE 5, hE 6, hE 7⟩; simp -implicitDefEqProofs only [push_cast, reduceIte, Nat.reduceEqDiff, e0, e1, e3, e4, e5, e6, e7] at n; clear hE e0 e1 e3 e4 e5 e6 e7; obtain ⟨e0, e1, e3, e4, e5, e6, e7⟩ := n) | (with_reducible refine hK _ _ ?_; clear hK K) | (with_reducible first | refine zK ?_ | refine zU ?_ | refine zB ?_ | refine zF ?_ | refine zD ?_ | refine zN ?_ | refine zT ?_ | refine zC ?_ | refine zG ?_ | refine zV ?_ | refine zE ?_ | refine zA (by decide) ?_ | refine zL ?_ | refine zQ ?_ | refine zM ?_ | refine yB ?_ | refine yC ?_ | refine zW (by assumption) ?_ | refine zY (by assumption) ?_) | (refine zH rfl ?_) | (simp -implicitDefEqProofs only [push_cast, sevalprocAttr, eq_self, e0, e1, e3, e4, e5, e6, e7]) | (simp -implicitDefEqProofs (disch := omega) only [zR, zZ, zS, zJ, e0, e1, e3, e4, e5, e6, e7]) | (with_reducible refine yE ?_ ?_) | (refine zP rfl (fun bb => ?_) (fun bb => ?_) <;> (first | have bp := of_decide_eq_true bb | have bp := of_decide_eq_false bb | skip) <;> simp only [bb]) | (with_reducible refine zX (fun bb => ?_) (fun bb => ?_) <;> (first | have bp := of_decide_eq_true bb | have bp := of_decide_eq_false bb | skip)) | ((with_reducible refine And.intro ?_ ?_); omega) | (refine yT (HC.mono hcall ?_); rintro r g ⟨jd, D', rfl, hb', hp1, hp2, j1, j2, hxg⟩ hF') | fail)
    have hX01 : Ext h0 h1 := Ext.tr (by repeat (first | exact Ext.refl _ | assumption | refine Ext.tick ?_ | refine Ext.push ?_ (by omega) _ | refine Ext.put ?_ (by omega) _ | refine Ext.kill ?_ (by omega) | refine Ext.killA ?_ (by assumption))) hx
    have hX02 : Ext h0 g := Ext.tr (by repeat (first | exact Ext.refl _ | assumption | refine Ext.tick ?_ | refine Ext.push ?_ (by omega) _ | refine Ext.put ?_ (by omega) _ | refine Ext.kill ?_ (by omega) | refine Ext.killA ?_ (by assumption))) hxg
    have := hX01.1
    simp only [yN] at j1
    refine ⟨(by repeat (first | exact Ext.refl _ | assumption | refine Ext.tick ?_ | refine Ext.push ?_ (by omega) _ | refine Ext.put ?_ (by omega) _ | refine Ext.kill ?_ (by omega) | refine Ext.killA ?_ (by assumption))), .inr ⟨hR, jd, D', rfl, hb', ⟨hp1, hp2⟩, by omega, (by first | omega | (simp -implicitDefEqProofs only [push_cast, sevalprocAttr, eq_self]; first | done | omega))⟩⟩
  · have hd : decide (errR l t ≠ 0) = true := decide_eq_true hR
    repeat' (first | ((try clear hf); with_reducible refine zO fun env K hE hK hf => ?_; have n : _ ∧ _ ∧ _ ∧ _ ∧ _ ∧ _ ∧ _ := ⟨hE 0, hE 1, hE 3, hE 4, hE 5, hE 6, hE 7⟩; simp -implicitDefEqProofs only [push_cast, reduceIte, Nat.reduceEqDiff, e0, e1, e3, e4, e5, e6, e7] at n; clear hE e0 e1 e3 e4 e5 e6 e7; obtain ⟨e0, e1, e3, e4, e5, e6, e7⟩ := n) | (with_reducible refine hK _ _ ?_; clear hK K) | (with_reducible first | refine zK ?_ | refine zU ?_ | refine zB ?_ | refine zF ?_ | refine zD ?_ | refine zN ?_ | refine zT ?_ | refine zC ?_ | refine zG ?_ | refine zV ?_ | refine zE ?_ | refine zA (by decide) ?_ | refine zL ?_ | refine zQ ?_ | refine zM ?_ | refine yB ?_ | refine yC ?_ | refine zW (by assumption) ?_ | refine zY (by assumption) ?_) | (refine zH rfl ?_) | (simp -implicitDefEqProofs only [push_cast, sevalprocAttr, eq_self, e0, e1, e3, e4, e5, e6, e7, hF.at, hd]) | (simp -implicitDefEqProofs (disch := omega) only [zR, zZ, zS, zJ, e0, e1, e3, e4, e5, e6, e7, hF.at, hd]) | (with_reducible refine yE ?_ ?_) | (refine zP rfl (fun bb => ?_) (fun bb => ?_) <;> (first | have bp := of_decide_eq_true bb | have bp := of_decide_eq_false bb | skip) <;> simp only [bb]) | (with_reducible refine zX (fun bb => ?_) (fun bb => ?_) <;> (first | have bp := of_decide_eq_true bb | have bp := of_decide_eq_false bb | skip)) | ((with_reducible refine And.intro ?_ ?_); omega) | (refine yT (HC.mono (height_all hl) ?_); rintro r h1 ⟨hx, hr⟩ hF; rcases hr with ⟨_, hr⟩ | ⟨hr, _⟩; rotate_left; exact absurd hr hR; subst hr) | fail)
    have hX01 : Ext h0 h1 := Ext.tr (by repeat (first | exact Ext.refl _ | assumption | refine Ext.tick ?_ | refine Ext.push ?_ (by omega) _ | refine Ext.put ?_ (by omega) _ | refine Ext.kill ?_ (by omega) | refine Ext.killA ?_ (by assumption))) hx
    exact ⟨(by repeat (first | exact Ext.refl _ | assumption | refine Ext.tick ?_ | refine Ext.push ?_ (by omega) _ | refine Ext.put ?_ (by omega) _ | refine Ext.kill ?_ (by omega) | refine Ext.killA ?_ (by assumption))), .inl hR⟩
end Go.Proofs.Hx

set_option linter.unusedVariables false
set_option linter.unusedSimpArgs false
namespace Go.Proofs.Hx
open Go Go.Proofs
/-! ### The longest ways, by one equation -/
/-! ### What an order is -/
theorem OrdP.rng {H : List Int} {n : Nat} {d : Nat → Int} (o : OrdP H n d) : ∀ k, k < n → 0 ≤ d k ∧ d k < n := fun k hk => o.1.all (Q := fun x => 0 ≤ x ∧ x < (n : Int)) (fun k _ hk => by unfold idD; omega) k (by omega) hk
theorem kR.irr {key : Int → Int} {x : Int} : ¬ kR key x x := by unfold kR; omega
theorem kR.asym {key : Int → Int} {x y : Int} (h : kR key x y) : ¬ kR key y x := by unfold kR at *; omega
theorem OrdP.inj {H : List Int} {n : Nat} {d : Nat → Int} (o : OrdP H n d) {i j : Nat} (hi : i < n) (hj : j < n) (h : d i = d j) : i = j := by
  rcases Nat.lt_trichotomy i j with h1 | h1 | h1
  · have := o.2 i j (by omega) h1 hj; rw [h] at this; exact absurd this kR.irr
  · exact h1
  · have := o.2 j i (by omega) h1 hi; rw [h] at this; exact absurd this kR.irr
theorem OrdP.surj {H : List Int} {n : Nat} {d : Nat → Int} (o : OrdP H n d) {x : Nat} (hx : x < n) : ∃ j, j < n ∧ d j = x := by
  have h1 : 0 < cnt idD 0 (n - 0) (x : Int) := cnt_pos.2 ⟨x, by omega, by simp [idD]⟩
  rw [← o.1.num] at h1
  obtain ⟨j, h2, h3⟩ := cnt_pos.1 h1
  exact ⟨j, by omega, by simpa using h3⟩
theorem OrdP.lt {H : List Int} {n : Nat} {d : Nat → Int} (o : OrdP H n d) {i j : Nat} (hi : i < n) (hj : j < n) (h : kR (keyH H) (d i) (d j)) : i < j := by
  rcases Nat.lt_trichotomy i j with h1 | h1 | h1
  · exact h1
  · subst h1; exact absurd h kR.irr
  · exact absurd (o.2 j i (by omega) h1 hi) h.asym
end Go.Proofs.Hx

set_option linter.unusedVariables false
set_option linter.unusedSimpArgs false
namespace Go.Proofs.Hx
open Go Go.Proofs
attribute [local irreducible] yM awp opK goV goM yZ qB qD yQ HV HVF HC
/-! ### The laws' helpers -/
theorem f34'n : HV Try.prog 34 [.nil, .nil] (bl true) := by
  refine yJ yK cf34 (by simp) rfl ?_ rfl
  unfold ac34 re34
  refine yF fun env hE => ?_; have e0 := hE 0; have e1 := hE 1; have e4 := hE 4; have e5 := hE 5; simp -implicitDefEqProofs only [push_cast] at e0 e1 e4 e5; clear hE
  have d0 : decide ((0 : Int) ≠ 0) = false := rfl
  have d1 : decide ((0 : Int) < 0) = false := rfl
  repeat' (first | ((try clear hf); with_reducible refine zO fun env K hE hK hf => ?_; have n : _ ∧ _ ∧ _ ∧ _ := ⟨hE 0, hE 1, hE 4, hE 5⟩; simp -implicitDefEqProofs only [push_cast, reduceIte, Nat.reduceEqDiff, e0, e1, e4, e5] at n; clear hE e0 e1 e4 e5; obtain ⟨e0, e1, e4, e5⟩ := n) | (with_reducible refine hK _ _ ?_; clear hK K) | (with_reducible first | refine zK ?_ | refine zU ?_ | refine zB ?_ | refine zF ?_ | refine zD ?_ | refine zN ?_ | refine zT ?_ | refine zC ?_ | refine zG ?_ | refine zV ?_ | refine zE ?_ | refine zA (by decide) ?_ | refine zL ?_ | refine zQ ?_ | refine zM ?_ | refine yB ?_ | refine yC ?_ | refine zW (by assumption) ?_ | refine zY (by assumption) ?_) | (refine zH rfl ?_) | (simp -implicitDefEqProofs only [push_cast, sevalprocAttr, eq_self, e0, e1, e4, e5, d0]) | (simp -implicitDefEqProofs (disch := omega) only [zR, zZ, zS, zJ, e0, e1, e4, e5, d0]) | (with_reducible refine yE ?_ ?_) | (refine zP rfl (fun bb => ?_) (fun bb => ?_) <;> (first | have bp := of_decide_eq_true bb | have bp := of_decide_eq_false bb | skip) <;> simp only [bb]) | (with_reducible refine zX (fun bb => ?_) (fun bb => ?_) <;> (first | have bp := of_decide_eq_true bb | have bp := of_decide_eq_false bb | skip)) | ((with_reducible refine And.intro ?_ ?_); omega) | fail)
  refine yF fun env hE => ?_; have n : _ ∧ _ ∧ _ ∧ _ := ⟨hE 0, hE 1, hE 4, hE 5⟩; simp -implicitDefEqProofs only [push_cast, reduceIte, Nat.reduceEqDiff, e0, e1, e4, e5] at n; clear hE e0 e1 e4 e5; obtain ⟨e0, e1, e4, e5⟩ := n; have E34_0_0 := e0; have E34_0_1 := e1
  refine yL (fun nn σ => ∃ (k : Nat), nn = 0 ∧ σ.env 0 = env 0 ∧ σ.env 1 = env 1 ∧ σ.env 5 = i64 k ∧ (k = 0)) _ ⟨0, rfl, rfl, rfl, by refine e5.trans ?_; first | rfl | exact yD (by omega) | (simp -implicitDefEqProofs (disch := omega) only [zJ]; first | rfl | exact yD (by omega)), ?_⟩ ?_
  · rfl
  clear e0 e1 e4 e5; rintro nn ⟨env, h⟩ ⟨k, rfl, q0, q1, e5, hI⟩; simp only at q0 q1 e5 hI; (first | have e0 := q0.trans E34_0_0 | have e0 := True.intro); (first | have e1 := q1.trans E34_0_1 | have e1 := True.intro); clear q0 q1; have e4 := True.intro
  subst hI
  unfold l34_0
  repeat' (first | ((try clear hf); with_reducible refine zO fun env K hE hK hf => ?_; have n : _ ∧ _ ∧ _ ∧ _ := ⟨hE 0, hE 1, hE 4, hE 5⟩; simp -implicitDefEqProofs only [push_cast, reduceIte, Nat.reduceEqDiff, e0, e1, e4, e5] at n; clear hE e0 e1 e4 e5; obtain ⟨e0, e1, e4, e5⟩ := n) | (with_reducible refine hK _ _ ?_; clear hK K) | (with_reducible first | refine zK ?_ | refine zU ?_ | refine zB ?_ | refine zF ?_ | refine zD ?_ | refine zN ?_ | refine zT ?_ | refine zC ?_ | refine zG ?_ | refine zV ?_ | refine zE ?_ | refine zA (by decide) ?_ | refine zL ?_ | refine zQ ?_ | refine zM ?_ | refine yB ?_ | refine yC ?_ | refine zW (by assumption) ?_ | refine zY (by assumption) ?_) | (refine zH rfl ?_) | (simp -implicitDefEqProofs only [push_cast, sevalprocAttr, eq_self, e0, e1, e4, e5, d1, Int.natCast_zero]) | (simp -implicitDefEqProofs (disch := omega) only [zR, zZ, zS, zJ, e0, e1, e4, e5, d1, Int.natCast_zero]) | (with_reducible refine yE ?_ ?_) | (refine zP rfl (fun bb => ?_) (fun bb => ?_) <;> (first | have bp := of_decide_eq_true bb | have bp := of_decide_eq_false bb | skip) <;> simp only [bb]) | (with_reducible refine zX (fun bb => ?_) (fun bb => ?_) <;> (first | have bp := of_decide_eq_true bb | have bp := of_decide_eq_false bb | skip)) | ((with_reducible refine And.intro ?_ ?_); omega) | fail)
theorem f34 (a b : List Int) (hn : a.length ≤ 1000000000000) : HV Try.prog 34 [.row (a.map intC), .row (b.map intC)] (bl (decide (a = b))) := by
  refine yJ yK cf34 (by simp) (by simp [imms, imm, ints_imms]) ?_ rfl
  unfold ac34 re34
  refine yF fun env hE => ?_; have e0 := hE 0; have e1 := hE 1; have e4 := hE 4; have e5 := hE 5; simp -implicitDefEqProofs only [push_cast] at e0 e1 e4 e5; clear hE
  by_cases hl : a.length = b.length
  rotate_left
  · have d0 : decide ((a.length : Int) ≠ (b.length : Int)) = true := decide_eq_true (by omega)
    have : decide (a = b) = false := decide_eq_false (fun h => hl (by rw [h]))
    rw [this]
    repeat' (first | ((try clear hf); with_reducible refine zO fun env K hE hK hf => ?_; have n : _ ∧ _ ∧ _ ∧ _ := ⟨hE 0, hE 1, hE 4, hE 5⟩; simp -implicitDefEqProofs only [push_cast, reduceIte, Nat.reduceEqDiff, e0, e1, e4, e5] at n; clear hE e0 e1 e4 e5; obtain ⟨e0, e1, e4, e5⟩ := n) | (with_reducible refine hK _ _ ?_; clear hK K) | (with_reducible first | refine zK ?_ | refine zU ?_ | refine zB ?_ | refine zF ?_ | refine zD ?_ | refine zN ?_ | refine zT ?_ | refine zC ?_ | refine zG ?_ | refine zV ?_ | refine zE ?_ | refine zA (by decide) ?_ | refine zL ?_ | refine zQ ?_ | refine zM ?_ | refine yB ?_ | refine yC ?_ | refine zW (by assumption) ?_ | refine zY (by assumption) ?_) | (refine zH rfl ?_) | (simp -implicitDefEqProofs only [push_cast, sevalprocAttr, eq_self, e0, e1, e4, e5, d0]) | (simp -implicitDefEqProofs (disch := omega) only [zR, zZ, zS, zJ, e0, e1, e4, e5, d0]) | (with_reducible refine yE ?_ ?_) | (refine zP rfl (fun bb => ?_) (fun bb => ?_) <;> (first | have bp := of_decide_eq_true bb | have bp := of_decide_eq_false bb | skip) <;> simp only [bb]) | (with_reducible refine zX (fun bb => ?_) (fun bb => ?_) <;> (first | have bp := of_decide_eq_true bb | have bp := of_decide_eq_false bb | skip)) | ((with_reducible refine And.intro ?_ ?_); omega) | fail)
  have d0 : decide ((a.length : Int) ≠ (b.length : Int)) = false := decide_eq_false (by omega)
  repeat' (first | ((try clear hf); with_reducible refine zO fun env K hE hK hf => ?_; have n : _ ∧ _ ∧ _ ∧ _ := ⟨hE 0, hE 1, hE 4, hE 5⟩; simp -implicitDefEqProofs only [push_cast, reduceIte, Nat.reduceEqDiff, e0, e1, e4, e5] at n; clear hE e0 e1 e4 e5; obtain ⟨e0, e1, e4, e5⟩ := n) | (with_reducible refine hK _ _ ?_; clear hK K) | (with_reducible first | refine zK ?_ | refine zU ?_ | refine zB ?_ | refine zF ?_ | refine zD ?_ | refine zN ?_ | refine zT ?_ | refine zC ?_ | refine zG ?_ | refine zV ?_ | refine zE ?_ | refine zA (by decide) ?_ | refine zL ?_ | refine zQ ?_ | refine zM ?_ | refine yB ?_ | refine yC ?_ | refine zW (by assumption) ?_ | refine zY (by assumption) ?_) | (refine zH rfl ?_) | (simp -implicitDefEqProofs only [push_cast, sevalprocAttr, eq_self, e0, e1, e4, e5, d0]) | (simp -implicitDefEqProofs (disch := omega) only [zR, zZ, zS, zJ, e0, e1, e4, e5, d0]) | (with_reducible refine yE ?_ ?_) | (refine zP rfl (fun bb => ?_) (fun bb => ?_) <;> (first | have bp := of_decide_eq_true bb | have bp := of_decide_eq_false bb | skip) <;> simp only [bb]) | (with_reducible refine zX (fun bb => ?_) (fun bb => ?_) <;> (first | have bp := of_decide_eq_true bb | have bp := of_decide_eq_false bb | skip)) | ((with_reducible refine And.intro ?_ ?_); omega) | fail)
  refine yF fun env hE => ?_; have n : _ ∧ _ ∧ _ ∧ _ := ⟨hE 0, hE 1, hE 4, hE 5⟩; simp -implicitDefEqProofs only [push_cast, reduceIte, Nat.reduceEqDiff, e0, e1, e4, e5] at n; clear hE e0 e1 e4 e5; obtain ⟨e0, e1, e4, e5⟩ := n; have E34_0_0 := e0; have E34_0_1 := e1
  refine yL (fun nn σ => ∃ (k : Nat), nn = a.length - k ∧ σ.env 0 = env 0 ∧ σ.env 1 = env 1 ∧ σ.env 5 = i64 k ∧ (k ≤ a.length ∧ ∀ q, q < k → a.getD q 0 = b.getD q 0)) _ ⟨0, rfl, rfl, rfl, by refine e5.trans ?_; first | rfl | exact yD (by omega) | (simp -implicitDefEqProofs (disch := omega) only [zJ]; first | rfl | exact yD (by omega)), ?_⟩ ?_
  · exact ⟨by omega, fun q hq => by omega⟩
  clear e0 e1 e4 e5; rintro nn ⟨env, h⟩ ⟨k, rfl, q0, q1, e5, hI⟩; simp only at q0 q1 e5 hI; (first | have e0 := q0.trans E34_0_0 | have e0 := True.intro); (first | have e1 := q1.trans E34_0_1 | have e1 := True.intro); clear q0 q1; have e4 := True.intro
  obtain ⟨hk, hall⟩ := hI
  unfold l34_0
  by_cases hlt : k < a.length
  · have hd : decide ((k : Int) < (a.length : Int)) = true := decide_eq_true (by omega)
    have r1 := int_at (l := a) hlt .i64
    have r2 := int_at (l := b) (k := k) (by omega) .i64
    by_cases hc : a.getD k 0 = b.getD k 0
    · have d1 : decide (a.getD k 0 ≠ b.getD k 0) = false := decide_eq_false (fun h => h hc)
      repeat' (first | ((try clear hf); with_reducible refine zO fun env K hE hK hf => ?_; have n : _ ∧ _ ∧ _ ∧ _ := ⟨hE 0, hE 1, hE 4, hE 5⟩; simp -implicitDefEqProofs only [push_cast, reduceIte, Nat.reduceEqDiff, e0, e1, e4, e5] at n; clear hE e0 e1 e4 e5; obtain ⟨e0, e1, e4, e5⟩ := n) | (with_reducible refine hK _ _ ?_; clear hK K) | (with_reducible first | refine zK ?_ | refine zU ?_ | refine zB ?_ | refine zF ?_ | refine zD ?_ | refine zN ?_ | refine zT ?_ | refine zC ?_ | refine zG ?_ | refine zV ?_ | refine zE ?_ | refine zA (by decide) ?_ | refine zL ?_ | refine zQ ?_ | refine zM ?_ | refine yB ?_ | refine yC ?_ | refine zW (by assumption) ?_ | refine zY (by assumption) ?_) | (refine zH rfl ?_) | (simp -implicitDefEqProofs only [push_cast, sevalprocAttr, eq_self, e0, e1, e4, e5, hd, r1, r2, d1]) | (simp -implicitDefEqProofs (disch := omega) only [zR, zZ, zS, zJ, e0, e1, e4, e5, hd, r1, r2, d1]) | (with_reducible refine yE ?_ ?_) | (refine zP rfl (fun bb => ?_) (fun bb => ?_) <;> (first | have bp := of_decide_eq_true bb | have bp := of_decide_eq_false bb | skip) <;> simp only [bb]) | (with_reducible refine zX (fun bb => ?_) (fun bb => ?_) <;> (first | have bp := of_decide_eq_true bb | have bp := of_decide_eq_false bb | skip)) | ((with_reducible refine And.intro ?_ ?_); omega) | fail)
      refine ⟨_, ?_, k + 1, rfl, E34_0_0.symm, E34_0_1.symm, by first | rfl | exact yD (by omega) | (simp -implicitDefEqProofs (disch := omega) only [zJ]; first | rfl | exact yD (by omega)), ?_⟩
      · omega
      · refine ⟨by omega, fun q hq => ?_⟩
        by_cases e : q < k
        · exact hall q e
        · obtain rfl : q = k := by omega
          exact hc
    · have d1 : decide (a.getD k 0 ≠ b.getD k 0) = true := decide_eq_true hc
      have : decide (a = b) = false := decide_eq_false (fun h => hc (by rw [h]))
      rw [this]
      repeat' (first | ((try clear hf); with_reducible refine zO fun env K hE hK hf => ?_; have n : _ ∧ _ ∧ _ ∧ _ := ⟨hE 0, hE 1, hE 4, hE 5⟩; simp -implicitDefEqProofs only [push_cast, reduceIte, Nat.reduceEqDiff, e0, e1, e4, e5] at n; clear hE e0 e1 e4 e5; obtain ⟨e0, e1, e4, e5⟩ := n) | (with_reducible refine hK _ _ ?_; clear hK K) | (with_reducible first | refine zK ?_ | refine zU ?_ | refine zB ?_ | refine zF ?_ | refine zD ?_ | refine zN ?_ | refine zT ?_ | refine zC ?_ | refine zG ?_ | refine zV ?_ | refine zE ?_ | refine zA (by decide) ?_ | refine zL ?_ | refine zQ ?_ | refine zM ?_ | refine yB ?_ | refine yC ?_ | refine zW (by assumption) ?_ | refine zY (by assumption) ?_) | (refine zH rfl ?_) | (simp -implicitDefEqProofs only [push_cast, sevalprocAttr, eq_self, e0, e1, e4, e5, hd, r1, r2, d1]) | (simp -implicitDefEqProofs (disch := omega) only [zR, zZ, zS, zJ, e0, e1, e4, e5, hd, r1, r2, d1]) | (with_reducible refine yE ?_ ?_) | (refine zP rfl (fun bb => ?_) (fun bb => ?_) <;> (first | have bp := of_decide_eq_true bb | have bp := of_decide_eq_false bb | skip) <;> simp only [bb]) | (with_reducible refine zX (fun bb => ?_) (fun bb => ?_) <;> (first | have bp := of_decide_eq_true bb | have bp := of_decide_eq_false bb | skip)) | ((with_reducible refine And.intro ?_ ?_); omega) | fail)
  · have hd : decide ((k : Int) < (a.length : Int)) = false := decide_eq_false (by omega)
    have : decide (a = b) = true := decide_eq_true (by
      apply List.ext_getElem hl
      intro q h1 h2
      have := hall q (by omega)
      simpa [List.getD_eq_getElem?_getD, h1, h2] using this)
    rw [this]
    repeat' (first | ((try clear hf); with_reducible refine zO fun env K hE hK hf => ?_; have n : _ ∧ _ ∧ _ ∧ _ := ⟨hE 0, hE 1, hE 4, hE 5⟩; simp -implicitDefEqProofs only [push_cast, reduceIte, Nat.reduceEqDiff, e0, e1, e4, e5] at n; clear hE e0 e1 e4 e5; obtain ⟨e0, e1, e4, e5⟩ := n) | (with_reducible refine hK _ _ ?_; clear hK K) | (with_reducible first | refine zK ?_ | refine zU ?_ | refine zB ?_ | refine zF ?_ | refine zD ?_ | refine zN ?_ | refine zT ?_ | refine zC ?_ | refine zG ?_ | refine zV ?_ | refine zE ?_ | refine zA (by decide) ?_ | refine zL ?_ | refine zQ ?_ | refine zM ?_ | refine yB ?_ | refine yC ?_ | refine zW (by assumption) ?_ | refine zY (by assumption) ?_) | (refine zH rfl ?_) | (simp -implicitDefEqProofs only [push_cast, sevalprocAttr, eq_self, e0, e1, e4, e5, hd]) | (simp -implicitDefEqProofs (disch := omega) only [zR, zZ, zS, zJ, e0, e1, e4, e5, hd]) | (with_reducible refine yE ?_ ?_) | (refine zP rfl (fun bb => ?_) (fun bb => ?_) <;> (first | have bp := of_decide_eq_true bb | have bp := of_decide_eq_false bb | skip) <;> simp only [bb]) | (with_reducible refine zX (fun bb => ?_) (fun bb => ?_) <;> (first | have bp := of_decide_eq_true bb | have bp := of_decide_eq_false bb | skip)) | ((with_reducible refine And.intro ?_ ?_); omega) | fail)
theorem op_ext (a b : Opn) : a = b ↔ a.k = b.k ∧ a.d = b.d ∧ a.a = b.a ∧ a.b = b.b ∧ a.im = b.im := by
  constructor
  · rintro rfl; simp
  · rintro ⟨h1, h2, h3, h4, h5⟩
    cases a; cases b; simp at *; exact ⟨h1, h2, h3, h4, h5⟩
instance : DecidableEq Opn := fun a b => decidable_of_iff _ (op_ext a b).symm
theorem aeq_op (neg : Bool) (a b : Opn) : aeqV neg [(0, 0), (1, 0), (2, 0), (3, 0), (4, 0)] (.agg (opC a)) (.agg (opC b)) = some (bl (if neg then !(decide (a = b)) else decide (a = b))) := by
  have h : eqAll (opC a) (opC b) [(0, 0), (1, 0), (2, 0), (3, 0), (4, 0)] = some (decide (a = b)) := by
    have e : decide (a = b) = ((a.k == b.k) && ((a.d == b.d) && ((a.a == b.a) && ((a.b == b.b) && (a.im == b.im))))) := by
      rw [Bool.eq_iff_iff]; simp [op_ext]
    rw [e]
    simp [eqAll, opC, scEq]
  rw [aeqV_agg, h]
  rfl
theorem f33 (a b : List Opn) (hn : a.length ≤ 10000000000000) : HV Try.prog 33 [.row (a.map opC), .row (b.map opC)] (bl (decide (a = b))) := by
  refine yJ yK cf33 (by simp) (by simp [imms, imm, qF]) ?_ rfl
  unfold ac33 re33
  refine yF fun env hE => ?_; have e0 := hE 0; have e1 := hE 1; have e4 := hE 4; have e5 := hE 5; simp -implicitDefEqProofs only [push_cast] at e0 e1 e4 e5; clear hE
  by_cases hl : a.length = b.length
  rotate_left
  · have d0 : decide ((a.length : Int) ≠ (b.length : Int)) = true := decide_eq_true (by omega)
    have : decide (a = b) = false := decide_eq_false (fun h => hl (by rw [h]))
    rw [this]
    repeat' (first | ((try clear hf); with_reducible refine zO fun env K hE hK hf => ?_; have n : _ ∧ _ ∧ _ ∧ _ := ⟨hE 0, hE 1, hE 4, hE 5⟩; simp -implicitDefEqProofs only [push_cast, reduceIte, Nat.reduceEqDiff, e0, e1, e4, e5] at n; clear hE e0 e1 e4 e5; obtain ⟨e0, e1, e4, e5⟩ := n) | (with_reducible refine hK _ _ ?_; clear hK K) | (with_reducible first | refine zK ?_ | refine zU ?_ | refine zB ?_ | refine zF ?_ | refine zD ?_ | refine zN ?_ | refine zT ?_ | refine zC ?_ | refine zG ?_ | refine zV ?_ | refine zE ?_ | refine zA (by decide) ?_ | refine zL ?_ | refine zQ ?_ | refine zM ?_ | refine yB ?_ | refine yC ?_ | refine zW (by assumption) ?_ | refine zY (by assumption) ?_) | (refine zH rfl ?_) | (simp -implicitDefEqProofs only [push_cast, sevalprocAttr, eq_self, e0, e1, e4, e5, d0]) | (simp -implicitDefEqProofs (disch := omega) only [zR, zZ, zS, zJ, e0, e1, e4, e5, d0]) | (with_reducible refine yE ?_ ?_) | (refine zP rfl (fun bb => ?_) (fun bb => ?_) <;> (first | have bp := of_decide_eq_true bb | have bp := of_decide_eq_false bb | skip) <;> simp only [bb]) | (with_reducible refine zX (fun bb => ?_) (fun bb => ?_) <;> (first | have bp := of_decide_eq_true bb | have bp := of_decide_eq_false bb | skip)) | ((with_reducible refine And.intro ?_ ?_); omega) | fail)
  have d0 : decide ((a.length : Int) ≠ (b.length : Int)) = false := decide_eq_false (by omega)
  repeat' (first | ((try clear hf); with_reducible refine zO fun env K hE hK hf => ?_; have n : _ ∧ _ ∧ _ ∧ _ := ⟨hE 0, hE 1, hE 4, hE 5⟩; simp -implicitDefEqProofs only [push_cast, reduceIte, Nat.reduceEqDiff, e0, e1, e4, e5] at n; clear hE e0 e1 e4 e5; obtain ⟨e0, e1, e4, e5⟩ := n) | (with_reducible refine hK _ _ ?_; clear hK K) | (with_reducible first | refine zK ?_ | refine zU ?_ | refine zB ?_ | refine zF ?_ | refine zD ?_ | refine zN ?_ | refine zT ?_ | refine zC ?_ | refine zG ?_ | refine zV ?_ | refine zE ?_ | refine zA (by decide) ?_ | refine zL ?_ | refine zQ ?_ | refine zM ?_ | refine yB ?_ | refine yC ?_ | refine zW (by assumption) ?_ | refine zY (by assumption) ?_) | (refine zH rfl ?_) | (simp -implicitDefEqProofs only [push_cast, sevalprocAttr, eq_self, e0, e1, e4, e5, d0]) | (simp -implicitDefEqProofs (disch := omega) only [zR, zZ, zS, zJ, e0, e1, e4, e5, d0]) | (with_reducible refine yE ?_ ?_) | (refine zP rfl (fun bb => ?_) (fun bb => ?_) <;> (first | have bp := of_decide_eq_true bb | have bp := of_decide_eq_false bb | skip) <;> simp only [bb]) | (with_reducible refine zX (fun bb => ?_) (fun bb => ?_) <;> (first | have bp := of_decide_eq_true bb | have bp := of_decide_eq_false bb | skip)) | ((with_reducible refine And.intro ?_ ?_); omega) | fail)
  refine yF fun env hE => ?_; have n : _ ∧ _ ∧ _ ∧ _ := ⟨hE 0, hE 1, hE 4, hE 5⟩; simp -implicitDefEqProofs only [push_cast, reduceIte, Nat.reduceEqDiff, e0, e1, e4, e5] at n; clear hE e0 e1 e4 e5; obtain ⟨e0, e1, e4, e5⟩ := n; have E33_0_0 := e0; have E33_0_1 := e1
  refine yL (fun nn σ => ∃ (k : Nat), nn = a.length - k ∧ σ.env 0 = env 0 ∧ σ.env 1 = env 1 ∧ σ.env 5 = i64 k ∧ (k ≤ a.length ∧ ∀ q, q < k → opAt a q = opAt b q)) _ ⟨0, rfl, rfl, rfl, by refine e5.trans ?_; first | rfl | exact yD (by omega) | (simp -implicitDefEqProofs (disch := omega) only [zJ]; first | rfl | exact yD (by omega)), ?_⟩ ?_
  · exact ⟨by omega, fun q hq => by omega⟩
  clear e0 e1 e4 e5; rintro nn ⟨env, h⟩ ⟨k, rfl, q0, q1, e5, hI⟩; simp only at q0 q1 e5 hI; (first | have e0 := q0.trans E33_0_0 | have e0 := True.intro); (first | have e1 := q1.trans E33_0_1 | have e1 := True.intro); clear q0 q1; have e4 := True.intro
  obtain ⟨hk, hall⟩ := hI
  unfold l33_0
  by_cases hlt : k < a.length
  · have hd : decide ((k : Int) < (a.length : Int)) = true := decide_eq_true (by omega)
    have r1 := qK hlt .i64
    have r2 := qK (l := b) (k := k) (by omega) .i64
    rw [qH hlt] at r1
    rw [qH (by omega)] at r2
    by_cases hc : opAt a k = opAt b k
    · have d1 : (!(decide (opAt a k = opAt b k))) = false := by rw [hc]; simp
      repeat' (first | ((try clear hf); with_reducible refine zO fun env K hE hK hf => ?_; have n : _ ∧ _ ∧ _ ∧ _ := ⟨hE 0, hE 1, hE 4, hE 5⟩; simp -implicitDefEqProofs only [push_cast, reduceIte, Nat.reduceEqDiff, e0, e1, e4, e5] at n; clear hE e0 e1 e4 e5; obtain ⟨e0, e1, e4, e5⟩ := n) | (with_reducible refine hK _ _ ?_; clear hK K) | (with_reducible first | refine zK ?_ | refine zU ?_ | refine zB ?_ | refine zF ?_ | refine zD ?_ | refine zN ?_ | refine zT ?_ | refine zC ?_ | refine zG ?_ | refine zV ?_ | refine zE ?_ | refine zA (by decide) ?_ | refine zL ?_ | refine zQ ?_ | refine zM ?_ | refine yB ?_ | refine yC ?_ | refine zW (by assumption) ?_ | refine zY (by assumption) ?_) | (refine zH rfl ?_) | (simp -implicitDefEqProofs only [push_cast, sevalprocAttr, eq_self, e0, e1, e4, e5, hd, r1, r2, aeq_op, d1]) | (simp -implicitDefEqProofs (disch := omega) only [zR, zZ, zS, zJ, e0, e1, e4, e5, hd, r1, r2, aeq_op, d1]) | (with_reducible refine yE ?_ ?_) | (refine zP rfl (fun bb => ?_) (fun bb => ?_) <;> (first | have bp := of_decide_eq_true bb | have bp := of_decide_eq_false bb | skip) <;> simp only [bb]) | (with_reducible refine zX (fun bb => ?_) (fun bb => ?_) <;> (first | have bp := of_decide_eq_true bb | have bp := of_decide_eq_false bb | skip)) | ((with_reducible refine And.intro ?_ ?_); omega) | fail)
      refine ⟨_, ?_, k + 1, rfl, E33_0_0.symm, E33_0_1.symm, by first | rfl | exact yD (by omega) | (simp -implicitDefEqProofs (disch := omega) only [zJ]; first | rfl | exact yD (by omega)), ?_⟩
      · omega
      · refine ⟨by omega, fun q hq => ?_⟩
        by_cases e : q < k
        · exact hall q e
        · obtain rfl : q = k := by omega
          exact hc
    · have d1 : (!(decide (opAt a k = opAt b k))) = true := by simp [hc]
      have : decide (a = b) = false := decide_eq_false (fun h => hc (by rw [h]))
      rw [this]
      repeat' (first | ((try clear hf); with_reducible refine zO fun env K hE hK hf => ?_; have n : _ ∧ _ ∧ _ ∧ _ := ⟨hE 0, hE 1, hE 4, hE 5⟩; simp -implicitDefEqProofs only [push_cast, reduceIte, Nat.reduceEqDiff, e0, e1, e4, e5] at n; clear hE e0 e1 e4 e5; obtain ⟨e0, e1, e4, e5⟩ := n) | (with_reducible refine hK _ _ ?_; clear hK K) | (with_reducible first | refine zK ?_ | refine zU ?_ | refine zB ?_ | refine zF ?_ | refine zD ?_ | refine zN ?_ | refine zT ?_ | refine zC ?_ | refine zG ?_ | refine zV ?_ | refine zE ?_ | refine zA (by decide) ?_ | refine zL ?_ | refine zQ ?_ | refine zM ?_ | refine yB ?_ | refine yC ?_ | refine zW (by assumption) ?_ | refine zY (by assumption) ?_) | (refine zH rfl ?_) | (simp -implicitDefEqProofs only [push_cast, sevalprocAttr, eq_self, e0, e1, e4, e5, hd, r1, r2, aeq_op, d1]) | (simp -implicitDefEqProofs (disch := omega) only [zR, zZ, zS, zJ, e0, e1, e4, e5, hd, r1, r2, aeq_op, d1]) | (with_reducible refine yE ?_ ?_) | (refine zP rfl (fun bb => ?_) (fun bb => ?_) <;> (first | have bp := of_decide_eq_true bb | have bp := of_decide_eq_false bb | skip) <;> simp only [bb]) | (with_reducible refine zX (fun bb => ?_) (fun bb => ?_) <;> (first | have bp := of_decide_eq_true bb | have bp := of_decide_eq_false bb | skip)) | ((with_reducible refine And.intro ?_ ?_); omega) | fail)
  · have hd : decide ((k : Int) < (a.length : Int)) = false := decide_eq_false (by omega)
    have : decide (a = b) = true := decide_eq_true (by
      apply List.ext_getElem hl
      intro q h1 h2
      rw [qH h1, qH h2]
      exact hall q (by omega))
    rw [this]
    repeat' (first | ((try clear hf); with_reducible refine zO fun env K hE hK hf => ?_; have n : _ ∧ _ ∧ _ ∧ _ := ⟨hE 0, hE 1, hE 4, hE 5⟩; simp -implicitDefEqProofs only [push_cast, reduceIte, Nat.reduceEqDiff, e0, e1, e4, e5] at n; clear hE e0 e1 e4 e5; obtain ⟨e0, e1, e4, e5⟩ := n) | (with_reducible refine hK _ _ ?_; clear hK K) | (with_reducible first | refine zK ?_ | refine zU ?_ | refine zB ?_ | refine zF ?_ | refine zD ?_ | refine zN ?_ | refine zT ?_ | refine zC ?_ | refine zG ?_ | refine zV ?_ | refine zE ?_ | refine zA (by decide) ?_ | refine zL ?_ | refine zQ ?_ | refine zM ?_ | refine yB ?_ | refine yC ?_ | refine zW (by assumption) ?_ | refine zY (by assumption) ?_) | (refine zH rfl ?_) | (simp -implicitDefEqProofs only [push_cast, sevalprocAttr, eq_self, e0, e1, e4, e5, hd]) | (simp -implicitDefEqProofs (disch := omega) only [zR, zZ, zS, zJ, e0, e1, e4, e5, hd]) | (with_reducible refine yE ?_ ?_) | (refine zP rfl (fun bb => ?_) (fun bb => ?_) <;> (first | have bp := of_decide_eq_true bb | have bp := of_decide_eq_false bb | skip) <;> simp only [bb]) | (with_reducible refine zX (fun bb => ?_) (fun bb => ?_) <;> (first | have bp := of_decide_eq_true bb | have bp := of_decide_eq_false bb | skip)) | ((with_reducible refine And.intro ?_ ?_); omega) | fail)
theorem opC_atom (o : Opn) : ∀ x ∈ opC o, atom x = true := by
  intro x hx
  simp only [opC, List.mem_cons, List.not_mem_nil, or_false] at hx
  rcases hx with rfl | rfl | rfl | rfl | rfl <;> rfl
theorem f30 (l : List Opn) (hn : l.length * 16 ≤ 140737488351232) : HVF Try.prog 30 [.row (l.map opC)] (.row (l.map opC)) := by
  refine HVF_of_awp yK cf30 (by simp) (by simp [imms, imm, qF]) ?_ (by simp only [imm]; exact qF l)
  unfold ac30 re30
  refine yF fun env hE => ?_; have e0 := hE 0; have e2 := hE 2; have e3 := hE 3; simp -implicitDefEqProofs only [push_cast] at e0 e2 e3; clear hE
  have hw : IntKind.i64.wrap ((l.length : Int) + 1) = (l.length : Int) + 1 := wrap64 (by omega) (by omega)
  repeat' (first | ((try clear hf); with_reducible refine zO fun env K hE hK hf => ?_; have n : _ ∧ _ ∧ _ := ⟨hE 0, hE 2, hE 3⟩; simp -implicitDefEqProofs only [push_cast, reduceIte, Nat.reduceEqDiff, e0, e2, e3] at n; clear hE e0 e2 e3; obtain ⟨e0, e2, e3⟩ := n) | (with_reducible refine hK _ _ ?_; clear hK K) | (with_reducible first | refine zK ?_ | refine zU ?_ | refine zB ?_ | refine zF ?_ | refine zD ?_ | refine zN ?_ | refine zT ?_ | refine zC ?_ | refine zG ?_ | refine zV ?_ | refine zE ?_ | refine zA (by decide) ?_ | refine zL ?_ | refine zQ ?_ | refine zM ?_ | refine yB ?_ | refine yC ?_ | refine zW (by assumption) ?_ | refine zY (by assumption) ?_) | (refine zH rfl ?_) | (simp -implicitDefEqProofs only [push_cast, sevalprocAttr, eq_self, e0, e2, e3, hw, app_src opC 5 opC_len]) | (simp -implicitDefEqProofs (disch := omega) only [zR, zZ, zS, zJ, e0, e2, e3, hw, app_src opC 5 opC_len]) | (with_reducible refine yE ?_ ?_) | (refine zP rfl (fun bb => ?_) (fun bb => ?_) <;> (first | have bp := of_decide_eq_true bb | have bp := of_decide_eq_false bb | skip) <;> simp only [bb]) | (with_reducible refine zX (fun bb => ?_) (fun bb => ?_) <;> (first | have bp := of_decide_eq_true bb | have bp := of_decide_eq_false bb | skip)) | ((with_reducible refine And.intro ?_ ?_); omega) | fail)
  refine goM_appN (fs := l) (es := ([] : List Opn)) (f := opC) (sz := 5) ⟨.inr ⟨(3, 7), rfl, by simp -implicitDefEqProofs only [push_cast, sevalprocAttr, eq_self]; rfl, (by first | omega | (simp -implicitDefEqProofs only [push_cast, sevalprocAttr, eq_self]; first | done | omega))⟩⟩ opC_len (flat_one opC_one l) (by simp only [List.length_nil]; omega) (by simp [idOf]) (by first | omega | (simp -implicitDefEqProofs only [push_cast, sevalprocAttr, eq_self]; first | done | omega)) ?_
  intro g a' hs' ha' hep hfr
  repeat' (first | ((try clear hf); with_reducible refine zO fun env K hE hK hf => ?_; have n : _ ∧ _ ∧ _ := ⟨hE 0, hE 2, hE 3⟩; simp -implicitDefEqProofs only [push_cast, reduceIte, Nat.reduceEqDiff, e0, e2, e3] at n; clear hE e0 e2 e3; obtain ⟨e0, e2, e3⟩ := n) | (with_reducible refine hK _ _ ?_; clear hK K) | (with_reducible first | refine zK ?_ | refine zU ?_ | refine zB ?_ | refine zF ?_ | refine zD ?_ | refine zN ?_ | refine zT ?_ | refine zC ?_ | refine zG ?_ | refine zV ?_ | refine zE ?_ | refine zA (by decide) ?_ | refine zL ?_ | refine zQ ?_ | refine zM ?_ | refine yB ?_ | refine yC ?_ | refine zW (by assumption) ?_ | refine zY (by assumption) ?_) | (refine zH rfl ?_) | (simp -implicitDefEqProofs only [push_cast, sevalprocAttr, eq_self, e0, e2, e3]) | (simp -implicitDefEqProofs (disch := omega) only [zR, zZ, zS, zJ, e0, e2, e3]) | (with_reducible refine yE ?_ ?_) | (refine zP rfl (fun bb => ?_) (fun bb => ?_) <;> (first | have bp := of_decide_eq_true bb | have bp := of_decide_eq_false bb | skip) <;> simp only [bb]) | (with_reducible refine zX (fun bb => ?_) (fun bb => ?_) <;> (first | have bp := of_decide_eq_true bb | have bp := of_decide_eq_false bb | skip)) | ((with_reducible refine And.intro ?_ ?_); omega) | fail)
  exact (hs'.ext (Ext.tick (Ext.refl g))).lendF opC_len opC_atom 7
end Go.Proofs.Hx

set_option linter.unusedVariables false
set_option linter.unusedSimpArgs false
namespace Go.Proofs.Hx
open Go Go.Proofs
attribute [local irreducible] yM awp opK goV goM yZ qB qD yQ HV HVF HC
/-! ### The reference's ways -/
def foldIf (H : List Int) (i : Nat) (lat : Int) (L : List Edg) : Int := L.foldl (fun a e => if e.f = (i : Int) then stepV1 H a e else a) lat
theorem foldIf_eq (H : List Int) (i : Nat) (lat : Int) (L : List Edg) : foldIf H i lat L = hOne lat (outE L i) H := by
  unfold foldIf hOne outE
  induction L generalizing lat with
  | nil => rfl
  | cons e L ih =>
    rw [List.foldl_cons, List.filter_cons, ih]
    by_cases h : e.f = (i : Int)
    · rw [if_pos h, if_pos (by simpa using h), List.foldl_cons]
    · rw [if_neg h, if_neg (by simpa using h)]
theorem foldIf_bnd {H : List Int} {i : Nat} {lat : Int} {L : List Edg} {n : Nat} {B : Int} (h1 : 0 ≤ lat) (h2 : lat ≤ B + 8) (hH : ∀ k, 0 ≤ H.getD k 0 ∧ H.getD k 0 ≤ B) (hL : ∀ e ∈ L, edOK n e) : 0 ≤ foldIf H i lat L ∧ foldIf H i lat L ≤ B + 8 := by
  unfold foldIf
  induction L generalizing lat with
  | nil => exact ⟨h1, h2⟩
  | cons e L ih =>
    rw [List.foldl_cons]
    obtain ⟨o1, o2, o3, o4, o5⟩ := hL e (List.mem_cons_self ..)
    have := hH e.t.toNat
    refine ih ?_ ?_ (fun e he => hL e (List.mem_cons_of_mem _ he)) <;> (split <;> (try unfold stepV1 mx) <;> (try split) <;> omega)
set_option maxHeartbeats 1000000 in
theorem f37 {h0 : Hp} {l : List Opn} {t : Tab} (hl : ∀ o ∈ l, o.ok) :
    HC Try.prog 37 [.row (l.map opC), .agg (tabC t)] h0 fun r h' => Ext h0 h' ∧ ((errR l t ≠ 0 ∧ r = .tup [.nil, i64 (errR l t)]) ∨ (errR l t = 0 ∧ ∃ id, r = .tup [.sl id 0 l.length 1, i64 0] ∧ h'.hp id = some ⟨true, (heightS l t).map iC⟩ ∧ h0.ep < id.1 ∧ id.1 ≤ h'.ep)) := by
  refine yX yK cf37 (by simp) fun hF => ?_
  unfold ac37 re37
  refine yF fun env hE => ?_; have e0 := hE 0; have e1 := hE 1; have e3 := hE 3; have e4 := hE 4; have e5 := hE 5; have e6 := hE 6; have e7 := hE 7; have e8 := hE 8; have e9 := hE 9; have e10 := hE 10; have e12 := hE 12; simp -implicitDefEqProofs only [push_cast] at e0 e1 e3 e4 e5 e6 e7 e8 e9 e10 e12; clear hE
  by_cases hR : errR l t = 0
  rotate_left
  · have hd : decide (errR l t ≠ 0) = true := decide_eq_true hR
    repeat' (first | ((try clear hf); with_reducible refine zO fun env K hE hK hf => ?_; have n : _ ∧ _ ∧ _ ∧ _ ∧ _ ∧ _ ∧ _ ∧ _ ∧ _ ∧ _ ∧ _ := ⟨hE 0, hE 1, hE 3, hE 4, hE 5, hE 6, hE 7, hE 8, hE 9, hE 10, hE 12⟩; simp -implicitDefEqProofs only [push_cast, reduceIte, Nat.reduceEqDiff, e0, e1, e3, e4, e5, e6, e7, e8, e9, e10, e12] at n; clear hE e0 e1 e3 e4 e5 e6 e7 e8 e9 e10 e12; obtain ⟨e0, e1, e3, e4, e5, e6, e7, e8, e9, e10, e12⟩ := n) | (with_reducible refine hK _ _ ?_; clear hK K) | (with_reducible first | refine zK ?_ | refine zU ?_ | refine zB ?_ | refine zF ?_ | refine zD ?_ | refine zN ?_ | refine zT ?_ | refine zC ?_ | refine zG ?_ | refine zV ?_ | refine zE ?_ | refine zA (by decide) ?_ | refine zL ?_ | refine zQ ?_ | refine zM ?_ | refine yB ?_ | refine yC ?_ | refine zW (by assumption) ?_ | refine zY (by assumption) ?_) | (refine zH rfl ?_) | (simp -implicitDefEqProofs only [push_cast, sevalprocAttr, eq_self, e0, e1, e3, e4, e5, e6, e7, e8, e9, e10, e12, hF.at, hd]) | (simp -implicitDefEqProofs (disch := omega) only [zR, zZ, zS, zJ, e0, e1, e3, e4, e5, e6, e7, e8, e9, e10, e12, hF.at, hd]) | (with_reducible refine yE ?_ ?_) | (refine zP rfl (fun bb => ?_) (fun bb => ?_) <;> (first | have bp := of_decide_eq_true bb | have bp := of_decide_eq_false bb | skip) <;> simp only [bb]) | (with_reducible refine zX (fun bb => ?_) (fun bb => ?_) <;> (first | have bp := of_decide_eq_true bb | have bp := of_decide_eq_false bb | skip)) | ((with_reducible refine And.intro ?_ ?_); omega) | (refine yT (HC.mono (f72 hl) ?_); rintro r h1 ⟨hx, hr⟩ hF; rcases hr with ⟨_, hr⟩ | ⟨hr, _⟩; rotate_left; exact absurd hr hR; subst hr) | fail)
    have hX01 : Ext h0 h1 := Ext.tr (by repeat (first | exact Ext.refl _ | assumption | refine Ext.tick ?_ | refine Ext.push ?_ (by omega) _ | refine Ext.put ?_ (by omega) _ | refine Ext.kill ?_ (by omega) | refine Ext.killA ?_ (by assumption))) hx
    exact ⟨(by repeat (first | exact Ext.refl _ | assumption | refine Ext.tick ?_ | refine Ext.push ?_ (by omega) _ | refine Ext.put ?_ (by omega) _ | refine Ext.kill ?_ (by omega) | refine Ext.killA ?_ (by assumption))), .inl hR⟩
  obtain ⟨ht, hn, hop⟩ := errR_ok hR
  have hE := onceE_ok (l := l) ht l.length
  have hEl := onceE_len l t l.length l.length (Nat.le_refl _)
  have hmul : 5 * l.length * l.length ≤ 5 * 1024 * 1024 := Nat.mul_le_mul (by omega) (by omega)
  have hd0 : decide (errR l t ≠ 0) = false := decide_eq_false (fun h => h hR)
  have hHd : heightS l t = hM l t (onceE l t l.length) l.length := rfl
  generalize hEq : onceE l t l.length = E at *
  repeat' (first | ((try clear hf); with_reducible refine zO fun env K hE hK hf => ?_; have n : _ ∧ _ ∧ _ ∧ _ ∧ _ ∧ _ ∧ _ ∧ _ ∧ _ ∧ _ ∧ _ := ⟨hE 0, hE 1, hE 3, hE 4, hE 5, hE 6, hE 7, hE 8, hE 9, hE 10, hE 12⟩; simp -implicitDefEqProofs only [push_cast, reduceIte, Nat.reduceEqDiff, e0, e1, e3, e4, e5, e6, e7, e8, e9, e10, e12] at n; clear hE e0 e1 e3 e4 e5 e6 e7 e8 e9 e10 e12; obtain ⟨e0, e1, e3, e4, e5, e6, e7, e8, e9, e10, e12⟩ := n) | (with_reducible refine hK _ _ ?_; clear hK K) | (with_reducible first | refine zK ?_ | refine zU ?_ | refine zB ?_ | refine zF ?_ | refine zD ?_ | refine zN ?_ | refine zT ?_ | refine zC ?_ | refine zG ?_ | refine zV ?_ | refine zE ?_ | refine zA (by decide) ?_ | refine zL ?_ | refine zQ ?_ | refine zM ?_ | refine yB ?_ | refine yC ?_ | refine zW (by assumption) ?_ | refine zY (by assumption) ?_) | (refine zH rfl ?_) | (simp -implicitDefEqProofs only [push_cast, sevalprocAttr, eq_self, e0, e1, e3, e4, e5, e6, e7, e8, e9, e10, e12, hF.at, rep1, rep_map]) | (simp -implicitDefEqProofs (disch := omega) only [zR, zZ, zS, zJ, e0, e1, e3, e4, e5, e6, e7, e8, e9, e10, e12, hF.at, rep1, rep_map]) | (with_reducible refine yE ?_ ?_) | (refine zP rfl (fun bb => ?_) (fun bb => ?_) <;> (first | have bp := of_decide_eq_true bb | have bp := of_decide_eq_false bb | skip) <;> simp only [bb]) | (with_reducible refine zX (fun bb => ?_) (fun bb => ?_) <;> (first | have bp := of_decide_eq_true bb | have bp := of_decide_eq_false bb | skip)) | ((with_reducible refine And.intro ?_ ?_); omega) | (refine yT (HC.mono (f72 hl) ?_); rintro r h1 ⟨hx, hr⟩ hF; rcases hr with ⟨hr, _⟩ | ⟨_, out, hr, hO, hOi⟩; exact absurd hR hr; subst hr; rw [hEq] at hO) | fail)
  have hOl := hO.slo.len
  have hlt : h0.ep + 1 + 1 ≤ h1.ep := by have := hx.1; rw [yN, push_ep, yN, yN] at this; omega
  have hbT : h1.hp (h0.ep + 1 + 1, 3) = some ⟨true, tabC t⟩ := by
    have := hx.2 (h0.ep + 1 + 1, 3) (by rw [yN, push_ep, yN, yN]; simp)
    rw [this, qN, qP]
  generalize hH8 : (h1.ep + 1 + 1 + 1, 24) = H8 at *
  obtain ⟨H8e, H8s⟩ := H8
  have h8e : H8e = h1.ep + 1 + 1 + 1 := by cases hH8; rfl
  refine yF fun env hE => ?_; have n : _ ∧ _ ∧ _ ∧ _ ∧ _ ∧ _ ∧ _ ∧ _ ∧ _ ∧ _ ∧ _ := ⟨hE 0, hE 1, hE 3, hE 4, hE 5, hE 6, hE 7, hE 8, hE 9, hE 10, hE 12⟩; simp -implicitDefEqProofs only [push_cast, reduceIte, Nat.reduceEqDiff, e0, e1, e3, e4, e5, e6, e7, e8, e9, e10, e12] at n; clear hE e0 e1 e3 e4 e5 e6 e7 e8 e9 e10 e12; obtain ⟨e0, e1, e3, e4, e5, e6, e7, e8, e9, e10, e12⟩ := n; have E37_1_0 := e0; have E37_1_1 := e1; have E37_1_3 := e3; have E37_1_4 := e4; have E37_1_5 := e5; have E37_1_6 := e6; have E37_1_7 := e7; have E37_1_8 := e8
  refine yL (fun nn σ => ∃ (m : Nat), nn = l.length - m ∧ σ.env 0 = env 0 ∧ σ.env 1 = env 1 ∧ σ.env 3 = env 3 ∧ σ.env 4 = env 4 ∧ σ.env 5 = env 5 ∧ σ.env 6 = env 6 ∧ σ.env 7 = env 7 ∧ σ.env 8 = env 8 ∧ σ.env 9 = i64 ((l.length : Int) - 1 - m) ∧ (m ≤ l.length ∧ σ.h.hp (H8e, H8s) = some ⟨true, (hM l t E m).map iC⟩ ∧ Ext h1 σ.h ∧ H8e ≤ σ.h.ep)) _ ⟨0, rfl, rfl, rfl, rfl, rfl, rfl, rfl, rfl, rfl, by refine e9.trans ?_; first | rfl | exact yD (by omega) | (simp -implicitDefEqProofs (disch := omega) only [zJ]; first | rfl | exact yD (by omega)), ?_⟩ ?_
  · refine ⟨by omega, ?_, (by repeat (first | exact Ext.refl _ | assumption | refine Ext.tick ?_ | refine Ext.push ?_ (by omega) _ | refine Ext.put ?_ (by omega) _ | refine Ext.kill ?_ (by omega) | refine Ext.killA ?_ (by assumption))), (by first | omega | (simp -implicitDefEqProofs only [push_cast, sevalprocAttr, eq_self]; first | done | omega))⟩
    simp -implicitDefEqProofs only [push_cast, sevalprocAttr, eq_self]
    rfl
  clear e0 e1 e3 e4 e5 e6 e7 e8 e9 e10 e12; rintro nn ⟨env, h⟩ ⟨m, rfl, q0, q1, q3, q4, q5, q6, q7, q8, e9, hI⟩; simp only at q0 q1 q3 q4 q5 q6 q7 q8 e9 hI; (first | have e0 := q0.trans E37_1_0 | have e0 := True.intro); (first | have e1 := q1.trans E37_1_1 | have e1 := True.intro); (first | have e3 := q3.trans E37_1_3 | have e3 := True.intro); (first | have e4 := q4.trans E37_1_4 | have e4 := True.intro); (first | have e5 := q5.trans E37_1_5 | have e5 := True.intro); (first | have e6 := q6.trans E37_1_6 | have e6 := True.intro); (first | have e7 := q7.trans E37_1_7 | have e7 := True.intro); (first | have e8 := q8.trans E37_1_8 | have e8 := True.intro); clear q0 q1 q3 q4 q5 q6 q7 q8; have e10 := True.intro; have e12 := True.intro
  obtain ⟨hm, hb8, hx8, he8⟩ := hI
  unfold l37_1
  (first | refine yI fun hF => ?_ | refine yS fun hF => ?_ | refine yR fun hF => ?_)
  have hle8 := hx8.1
  by_cases hlt2 : m < l.length
  · have hd : decide ((0 : Int) ≤ (l.length : Int) - 1 - m) = true := decide_eq_true (by omega)
    obtain ⟨i, hi⟩ : ∃ i : Nat, (l.length : Int) - 1 - m = i := ⟨l.length - 1 - m, by omega⟩
    rw [hi] at hd e9
    have hil : i < l.length := by omega
    have hr := qK hil .i64
    have hc := clsN_eq l[i]
    have hc4 := clsN_lt l[i]
    have hq := tab_l t hc4
    have hml := hM_len l t E m
    have hmb := hM_bnd (t := t) (E := E) ht hE m
    have hlat := latS_ok ht l[i]
    have hM1 : hM l t E (m + 1) = (hM l t E m).set i (hOne (latS t l[i]) (outE E i) (hM l t E m)) := by
      rw [qH hil, show i = l.length - 1 - m by omega]; rfl
    generalize hM l t E m = Hm at *
    have hset : ∀ v, (Hm.map iC).take i ++ [AV.lit (.int .i64 v)] ++ (Hm.map iC).drop (i + 1) = (Hm.set i v).map iC := fun v => set_at iC Hm (by omega) v
    have hcl1 : (Hm.map iC).length = l.length := by simp [hml]
    have hbT2 := (hx8.2 _ (by simp only; omega)).trans hbT
    repeat' (first | ((try clear hf); with_reducible refine zO fun env K hE hK hf => ?_; have n : _ ∧ _ ∧ _ ∧ _ ∧ _ ∧ _ ∧ _ ∧ _ ∧ _ ∧ _ ∧ _ := ⟨hE 0, hE 1, hE 3, hE 4, hE 5, hE 6, hE 7, hE 8, hE 9, hE 10, hE 12⟩; simp -implicitDefEqProofs only [push_cast, reduceIte, Nat.reduceEqDiff, e0, e1, e3, e4, e5, e6, e7, e8, e9, e10, e12] at n; clear hE e0 e1 e3 e4 e5 e6 e7 e8 e9 e10 e12; obtain ⟨e0, e1, e3, e4, e5, e6, e7, e8, e9, e10, e12⟩ := n) | (with_reducible refine hK _ _ ?_; clear hK K) | (with_reducible first | refine zK ?_ | refine zU ?_ | refine zB ?_ | refine zF ?_ | refine zD ?_ | refine zN ?_ | refine zT ?_ | refine zC ?_ | refine zG ?_ | refine zV ?_ | refine zE ?_ | refine zA (by decide) ?_ | refine zL ?_ | refine zQ ?_ | refine zM ?_ | refine yB ?_ | refine yC ?_ | refine zW (by assumption) ?_ | refine zY (by assumption) ?_) | (refine zH rfl ?_) | (simp -implicitDefEqProofs only [push_cast, sevalprocAttr, eq_self, e0, e1, e3, e4, e5, e6, e7, e8, e9, e10, e12, hd, hF.at, hr, op_0, hbT2, hb8, hc, hq, hset, hcl1]) | (simp -implicitDefEqProofs (disch := omega) only [zR, zZ, zS, zJ, e0, e1, e3, e4, e5, e6, e7, e8, e9, e10, e12, hd, hF.at, hr, op_0, hbT2, hb8, hc, hq, hset, hcl1]) | (with_reducible refine yE ?_ ?_) | (refine zP rfl (fun bb => ?_) (fun bb => ?_) <;> (first | have bp := of_decide_eq_true bb | have bp := of_decide_eq_false bb | skip) <;> simp only [bb]) | (with_reducible refine zX (fun bb => ?_) (fun bb => ?_) <;> (first | have bp := of_decide_eq_true bb | have bp := of_decide_eq_false bb | skip)) | ((with_reducible refine And.intro ?_ ?_); omega) | (refine yG (f51 _) ?_) | fail)
    refine yF fun env hE => ?_; have n : _ ∧ _ ∧ _ ∧ _ ∧ _ ∧ _ ∧ _ ∧ _ ∧ _ ∧ _ ∧ _ := ⟨hE 0, hE 1, hE 3, hE 4, hE 5, hE 6, hE 7, hE 8, hE 9, hE 10, hE 12⟩; simp -implicitDefEqProofs only [push_cast, reduceIte, Nat.reduceEqDiff, e0, e1, e3, e4, e5, e6, e7, e8, e9, e10, e12] at n; clear hE e0 e1 e3 e4 e5 e6 e7 e8 e9 e10 e12; obtain ⟨e0, e1, e3, e4, e5, e6, e7, e8, e9, e10, e12⟩ := n; have E37_0_0 := e0; have E37_0_1 := e1; have E37_0_3 := e3; have E37_0_4 := e4; have E37_0_5 := e5; have E37_0_6 := e6; have E37_0_7 := e7; have E37_0_8 := e8; have E37_0_9 := e9; have E37_0_10 := e10
    refine yL (fun nn σ => ∃ (k : Nat), nn = E.length - k ∧ σ.env 0 = env 0 ∧ σ.env 1 = env 1 ∧ σ.env 3 = env 3 ∧ σ.env 4 = env 4 ∧ σ.env 5 = env 5 ∧ σ.env 6 = env 6 ∧ σ.env 7 = env 7 ∧ σ.env 8 = env 8 ∧ σ.env 9 = env 9 ∧ σ.env 10 = env 10 ∧ σ.env 12 = i64 k ∧ (k ≤ E.length ∧ σ.h.hp (H8e, H8s) = some ⟨true, (Hm.set i (foldIf Hm i (latS t l[i]) (E.take k))).map iC⟩ ∧ Ext h1 σ.h ∧ H8e ≤ σ.h.ep)) _ ⟨0, rfl, rfl, rfl, rfl, rfl, rfl, rfl, rfl, rfl, rfl, rfl, by refine e12.trans ?_; first | rfl | exact yD (by omega) | (simp -implicitDefEqProofs (disch := omega) only [zJ]; first | rfl | exact yD (by omega)), ?_⟩ ?_
    · refine ⟨by omega, ?_, (by repeat (first | exact Ext.refl _ | assumption | refine Ext.tick ?_ | refine Ext.push ?_ (by omega) _ | refine Ext.put ?_ (by omega) _ | refine Ext.kill ?_ (by omega) | refine Ext.killA ?_ (by assumption))), (by first | omega | (simp -implicitDefEqProofs only [push_cast, sevalprocAttr, eq_self]; first | done | omega))⟩
      simp -implicitDefEqProofs only [push_cast, sevalprocAttr, eq_self]
      rfl
    clear e0 e1 e3 e4 e5 e6 e7 e8 e9 e10 e12; rintro nn ⟨env, h⟩ ⟨k, rfl, q0, q1, q3, q4, q5, q6, q7, q8, q9, q10, e12, hI⟩; simp only at q0 q1 q3 q4 q5 q6 q7 q8 q9 q10 e12 hI; (first | have e0 := q0.trans E37_0_0 | have e0 := True.intro); (first | have e1 := q1.trans E37_0_1 | have e1 := True.intro); (first | have e3 := q3.trans E37_0_3 | have e3 := True.intro); (first | have e4 := q4.trans E37_0_4 | have e4 := True.intro); (first | have e5 := q5.trans E37_0_5 | have e5 := True.intro); (first | have e6 := q6.trans E37_0_6 | have e6 := True.intro); (first | have e7 := q7.trans E37_0_7 | have e7 := True.intro); (first | have e8 := q8.trans E37_0_8 | have e8 := True.intro); (first | have e9 := q9.trans E37_0_9 | have e9 := True.intro); (first | have e10 := q10.trans E37_0_10 | have e10 := True.intro); clear q0 q1 q3 q4 q5 q6 q7 q8 q9 q10
    obtain ⟨hk, hbk, hxk, hek⟩ := hI
    unfold l37_0
    (first | refine yI fun hF => ?_ | refine yS fun hF => ?_ | refine yR fun hF => ?_)
    by_cases hlt3 : k < E.length
    · have hd : decide ((k : Int) < (E.length : Int)) = true := decide_eq_true (by omega)
      obtain ⟨oe, os, hoe, hob, hol⟩ := hO.slo.blk (by omega)
      replace hob := (hxk.2 _ hol).trans hob
      have hle2 := hxk.1
      have hg0 : (E.flatMap edC)[k * 5]? = some (i64 E[k].f) := flat_get qO E hlt3 (i := 0) (by decide)
      have hg1 : (E.flatMap edC)[k * 5 + 1]? = some (i64 E[k].t) := flat_get qO E hlt3 (i := 1) (by decide)
      have hg2 : (E.flatMap edC)[k * 5 + 2]? = some (i64 E[k].l) := flat_get qO E hlt3 (i := 2) (by decide)
      have hxo := hE _ (List.getElem_mem hlt3)
      have hfo : foldIf Hm i (latS t l[i]) (E.take (k + 1)) = if E[k].f = (i : Int) then stepV1 Hm (foldIf Hm i (latS t l[i]) (E.take k)) E[k] else foldIf Hm i (latS t l[i]) (E.take k) := by
        unfold foldIf
        rw [List.take_succ_eq_append_getElem hlt3, List.foldl_append]; rfl
      have hfb := foldIf_bnd (i := i) (L := E.take k) (n := l.length) (B := 8 * m) (by omega : 0 ≤ latS t l[i]) (by omega) hmb (fun e he => hE e (List.mem_of_mem_take he))
      generalize E[k] = x at *
      generalize foldIf Hm i (latS t l[i]) (E.take k) = fv at *
      obtain ⟨x1, x2, x3, x4, x5⟩ := hxo
      obtain ⟨j, hj⟩ : ∃ j : Nat, x.t = j := ⟨x.t.toNat, by omega⟩
      have hvb := hmb j
      have hGi : ((Hm.set i fv).map iC)[i]? = some (i64 fv) := by rw [List.getElem?_map, List.getElem?_set_self (by omega)]; rfl
      have hGl : ((Hm.set i fv).map iC).length = l.length := by simp [hml]
      have hGs : ∀ w, ((Hm.set i fv).map iC).take i ++ [AV.lit (.int .i64 w)] ++ ((Hm.set i fv).map iC).drop (i + 1) = (Hm.set i w).map iC := fun w => by
        rw [← List.set_set fv (b := w)]; exact set_at iC (Hm.set i fv) (by simp; omega) w
      subst hoe
      by_cases hfi : x.f = (i : Int)
      · have d1 : decide (x.f = (i : Int)) = true := decide_eq_true hfi
        have hGj : ((Hm.set i fv).map iC)[j]? = some (i64 (Hm.getD j 0)) := by
          rw [List.getElem?_map, List.getElem?_set_ne (by omega), List.getD_eq_getElem?_getD, List.getElem?_eq_getElem (by omega)]; rfl
        have hst : stepV1 Hm fv x = if x.l + Hm.getD j 0 > fv then x.l + Hm.getD j 0 else fv := by unfold stepV1 mx; rw [hj]; rfl
        rw [if_pos hfi, hst] at hfo
        repeat' (first | ((try clear hf); with_reducible refine zO fun env K hE hK hf => ?_; have n : _ ∧ _ ∧ _ ∧ _ ∧ _ ∧ _ ∧ _ ∧ _ ∧ _ ∧ _ ∧ _ := ⟨hE 0, hE 1, hE 3, hE 4, hE 5, hE 6, hE 7, hE 8, hE 9, hE 10, hE 12⟩; simp -implicitDefEqProofs only [push_cast, reduceIte, Nat.reduceEqDiff, e0, e1, e3, e4, e5, e6, e7, e8, e9, e10, e12] at n; clear hE e0 e1 e3 e4 e5 e6 e7 e8 e9 e10 e12; obtain ⟨e0, e1, e3, e4, e5, e6, e7, e8, e9, e10, e12⟩ := n) | (with_reducible refine hK _ _ ?_; clear hK K) | (with_reducible first | refine zK ?_ | refine zU ?_ | refine zB ?_ | refine zF ?_ | refine zD ?_ | refine zN ?_ | refine zT ?_ | refine zC ?_ | refine zG ?_ | refine zV ?_ | refine zE ?_ | refine zA (by decide) ?_ | refine zL ?_ | refine zQ ?_ | refine zM ?_ | refine yB ?_ | refine yC ?_ | refine zW (by assumption) ?_ | refine zY (by assumption) ?_) | (refine zH rfl ?_) | (simp -implicitDefEqProofs only [push_cast, sevalprocAttr, eq_self, e0, e1, e3, e4, e5, e6, e7, e8, e9, e10, e12, hd, hF.at, hob, hg0, hg1, hg2, Nat.add_zero, d1, hbk, hj, hGi, hGj, hGl, hGs]) | (simp -implicitDefEqProofs (disch := omega) only [zR, zZ, zS, zJ, e0, e1, e3, e4, e5, e6, e7, e8, e9, e10, e12, hd, hF.at, hob, hg0, hg1, hg2, Nat.add_zero, d1, hbk, hj, hGi, hGj, hGl, hGs]) | (with_reducible refine yE ?_ ?_) | (refine zP rfl (fun bb => ?_) (fun bb => ?_) <;> (first | have bp := of_decide_eq_true bb | have bp := of_decide_eq_false bb | skip) <;> simp only [bb]) | (with_reducible refine zX (fun bb => ?_) (fun bb => ?_) <;> (first | have bp := of_decide_eq_true bb | have bp := of_decide_eq_false bb | skip)) | ((with_reducible refine And.intro ?_ ?_); omega) | fail)
        refine ⟨_, ?_, k + 1, rfl, E37_0_0.symm, E37_0_1.symm, E37_0_3.symm, E37_0_4.symm, E37_0_5.symm, E37_0_6.symm, E37_0_7.symm, E37_0_8.symm, E37_0_9.symm, E37_0_10.symm, by first | rfl | exact yD (by omega) | (simp -implicitDefEqProofs (disch := omega) only [zJ]; first | rfl | exact yD (by omega)), ?_⟩
        · omega
        · refine ⟨by omega, ?_, (by repeat (first | exact Ext.refl _ | assumption | refine Ext.tick ?_ | refine Ext.push ?_ (by omega) _ | refine Ext.put ?_ (by omega) _ | refine Ext.kill ?_ (by omega) | refine Ext.killA ?_ (by assumption))), (by first | omega | (simp -implicitDefEqProofs only [push_cast, sevalprocAttr, eq_self]; first | done | omega))⟩
          rw [hfo]
      · have d1 : decide (x.f = (i : Int)) = false := decide_eq_false hfi
        rw [if_neg hfi] at hfo
        repeat' (first | ((try clear hf); with_reducible refine zO fun env K hE hK hf => ?_; have n : _ ∧ _ ∧ _ ∧ _ ∧ _ ∧ _ ∧ _ ∧ _ ∧ _ ∧ _ ∧ _ := ⟨hE 0, hE 1, hE 3, hE 4, hE 5, hE 6, hE 7, hE 8, hE 9, hE 10, hE 12⟩; simp -implicitDefEqProofs only [push_cast, reduceIte, Nat.reduceEqDiff, e0, e1, e3, e4, e5, e6, e7, e8, e9, e10, e12] at n; clear hE e0 e1 e3 e4 e5 e6 e7 e8 e9 e10 e12; obtain ⟨e0, e1, e3, e4, e5, e6, e7, e8, e9, e10, e12⟩ := n) | (with_reducible refine hK _ _ ?_; clear hK K) | (with_reducible first | refine zK ?_ | refine zU ?_ | refine zB ?_ | refine zF ?_ | refine zD ?_ | refine zN ?_ | refine zT ?_ | refine zC ?_ | refine zG ?_ | refine zV ?_ | refine zE ?_ | refine zA (by decide) ?_ | refine zL ?_ | refine zQ ?_ | refine zM ?_ | refine yB ?_ | refine yC ?_ | refine zW (by assumption) ?_ | refine zY (by assumption) ?_) | (refine zH rfl ?_) | (simp -implicitDefEqProofs only [push_cast, sevalprocAttr, eq_self, e0, e1, e3, e4, e5, e6, e7, e8, e9, e10, e12, hd, hF.at, hob, hg0, Nat.add_zero, d1]) | (simp -implicitDefEqProofs (disch := omega) only [zR, zZ, zS, zJ, e0, e1, e3, e4, e5, e6, e7, e8, e9, e10, e12, hd, hF.at, hob, hg0, Nat.add_zero, d1]) | (with_reducible refine yE ?_ ?_) | (refine zP rfl (fun bb => ?_) (fun bb => ?_) <;> (first | have bp := of_decide_eq_true bb | have bp := of_decide_eq_false bb | skip) <;> simp only [bb]) | (with_reducible refine zX (fun bb => ?_) (fun bb => ?_) <;> (first | have bp := of_decide_eq_true bb | have bp := of_decide_eq_false bb | skip)) | ((with_reducible refine And.intro ?_ ?_); omega) | fail)
        refine ⟨_, ?_, k + 1, rfl, E37_0_0.symm, E37_0_1.symm, E37_0_3.symm, E37_0_4.symm, E37_0_5.symm, E37_0_6.symm, E37_0_7.symm, E37_0_8.symm, E37_0_9.symm, E37_0_10.symm, by first | rfl | exact yD (by omega) | (simp -implicitDefEqProofs (disch := omega) only [zJ]; first | rfl | exact yD (by omega)), ?_⟩
        · omega
        · refine ⟨by omega, ?_, (by repeat (first | exact Ext.refl _ | assumption | refine Ext.tick ?_ | refine Ext.push ?_ (by omega) _ | refine Ext.put ?_ (by omega) _ | refine Ext.kill ?_ (by omega) | refine Ext.killA ?_ (by assumption))), (by first | omega | (simp -implicitDefEqProofs only [push_cast, sevalprocAttr, eq_self]; first | done | omega))⟩
          rw [hfo]; exact hbk
    · have hd : decide ((k : Int) < (E.length : Int)) = false := decide_eq_false (by omega)
      obtain rfl : k = E.length := by omega
      rw [List.take_length, foldIf_eq] at hbk
      repeat' (first | ((try clear hf); with_reducible refine zO fun env K hE hK hf => ?_; have n : _ ∧ _ ∧ _ ∧ _ ∧ _ ∧ _ ∧ _ ∧ _ ∧ _ ∧ _ ∧ _ := ⟨hE 0, hE 1, hE 3, hE 4, hE 5, hE 6, hE 7, hE 8, hE 9, hE 10, hE 12⟩; simp -implicitDefEqProofs only [push_cast, reduceIte, Nat.reduceEqDiff, e0, e1, e3, e4, e5, e6, e7, e8, e9, e10, e12] at n; clear hE e0 e1 e3 e4 e5 e6 e7 e8 e9 e10 e12; obtain ⟨e0, e1, e3, e4, e5, e6, e7, e8, e9, e10, e12⟩ := n) | (with_reducible refine hK _ _ ?_; clear hK K) | (with_reducible first | refine zK ?_ | refine zU ?_ | refine zB ?_ | refine zF ?_ | refine zD ?_ | refine zN ?_ | refine zT ?_ | refine zC ?_ | refine zG ?_ | refine zV ?_ | refine zE ?_ | refine zA (by decide) ?_ | refine zL ?_ | refine zQ ?_ | refine zM ?_ | refine yB ?_ | refine yC ?_ | refine zW (by assumption) ?_ | refine zY (by assumption) ?_) | (refine zH rfl ?_) | (simp -implicitDefEqProofs only [push_cast, sevalprocAttr, eq_self, e0, e1, e3, e4, e5, e6, e7, e8, e9, e10, e12, hd, hOl]) | (simp -implicitDefEqProofs (disch := omega) only [zR, zZ, zS, zJ, e0, e1, e3, e4, e5, e6, e7, e8, e9, e10, e12, hd, hOl]) | (with_reducible refine yE ?_ ?_) | (refine zP rfl (fun bb => ?_) (fun bb => ?_) <;> (first | have bp := of_decide_eq_true bb | have bp := of_decide_eq_false bb | skip) <;> simp only [bb]) | (with_reducible refine zX (fun bb => ?_) (fun bb => ?_) <;> (first | have bp := of_decide_eq_true bb | have bp := of_decide_eq_false bb | skip)) | ((with_reducible refine And.intro ?_ ?_); omega) | fail)
      refine ⟨_, ?_, m + 1, rfl, E37_1_0.symm, E37_1_1.symm, E37_1_3.symm, E37_1_4.symm, E37_1_5.symm, E37_1_6.symm, E37_1_7.symm, E37_1_8.symm, by first | rfl | exact yD (by omega) | (simp -implicitDefEqProofs (disch := omega) only [zJ]; first | rfl | exact yD (by omega)), ?_⟩
      · omega
      · refine ⟨by omega, ?_, (by repeat (first | exact Ext.refl _ | assumption | refine Ext.tick ?_ | refine Ext.push ?_ (by omega) _ | refine Ext.put ?_ (by omega) _ | refine Ext.kill ?_ (by omega) | refine Ext.killA ?_ (by assumption))), (by first | omega | (simp -implicitDefEqProofs only [push_cast, sevalprocAttr, eq_self]; first | done | omega))⟩
        simp -implicitDefEqProofs only [push_cast, sevalprocAttr, eq_self, hbk]
        rw [hM1]
  · have hd : decide ((0 : Int) ≤ (l.length : Int) - 1 - m) = false := decide_eq_false (by omega)
    obtain rfl : m = l.length := by omega
    repeat' (first | ((try clear hf); with_reducible refine zO fun env K hE hK hf => ?_; have n : _ ∧ _ ∧ _ ∧ _ ∧ _ ∧ _ ∧ _ ∧ _ ∧ _ ∧ _ ∧ _ := ⟨hE 0, hE 1, hE 3, hE 4, hE 5, hE 6, hE 7, hE 8, hE 9, hE 10, hE 12⟩; simp -implicitDefEqProofs only [push_cast, reduceIte, Nat.reduceEqDiff, e0, e1, e3, e4, e5, e6, e7, e8, e9, e10, e12] at n; clear hE e0 e1 e3 e4 e5 e6 e7 e8 e9 e10 e12; obtain ⟨e0, e1, e3, e4, e5, e6, e7, e8, e9, e10, e12⟩ := n) | (with_reducible refine hK _ _ ?_; clear hK K) | (with_reducible first | refine zK ?_ | refine zU ?_ | refine zB ?_ | refine zF ?_ | refine zD ?_ | refine zN ?_ | refine zT ?_ | refine zC ?_ | refine zG ?_ | refine zV ?_ | refine zE ?_ | refine zA (by decide) ?_ | refine zL ?_ | refine zQ ?_ | refine zM ?_ | refine yB ?_ | refine yC ?_ | refine zW (by assumption) ?_ | refine zY (by assumption) ?_) | (refine zH rfl ?_) | (simp -implicitDefEqProofs only [push_cast, sevalprocAttr, eq_self, e0, e1, e3, e4, e5, e6, e7, e8, e9, e10, e12, hd]) | (simp -implicitDefEqProofs (disch := omega) only [zR, zZ, zS, zJ, e0, e1, e3, e4, e5, e6, e7, e8, e9, e10, e12, hd]) | (with_reducible refine yE ?_ ?_) | (refine zP rfl (fun bb => ?_) (fun bb => ?_) <;> (first | have bp := of_decide_eq_true bb | have bp := of_decide_eq_false bb | skip) <;> simp only [bb]) | (with_reducible refine zX (fun bb => ?_) (fun bb => ?_) <;> (first | have bp := of_decide_eq_true bb | have bp := of_decide_eq_false bb | skip)) | ((with_reducible refine And.intro ?_ ?_); omega) | fail)
    have hX01 : Ext h0 h1 := Ext.tr (by repeat (first | exact Ext.refl _ | assumption | refine Ext.tick ?_ | refine Ext.push ?_ (by omega) _ | refine Ext.put ?_ (by omega) _ | refine Ext.kill ?_ (by omega) | refine Ext.killA ?_ (by assumption))) hx
    have hX : Ext h0 h := hX01.tr hx8
    refine ⟨(by repeat (first | exact Ext.refl _ | assumption | refine Ext.tick ?_ | refine Ext.push ?_ (by omega) _ | refine Ext.put ?_ (by omega) _ | refine Ext.kill ?_ (by omega) | refine Ext.killA ?_ (by assumption))), .inr ⟨hR, _, rfl, ?_, ?_, ?_⟩⟩
    · simp -implicitDefEqProofs only [push_cast, sevalprocAttr, eq_self, hb8]
      rw [hHd]
    · show h0.ep < H8e
      have := hX01.1
      omega
    · exact (by first | omega | (simp -implicitDefEqProofs only [push_cast, sevalprocAttr, eq_self]; first | done | omega))
end Go.Proofs.Hx

set_option linter.unusedVariables false
set_option linter.unusedSimpArgs false
namespace Go.Proofs.Hx
open Go Go.Proofs
/-! ### One order alone -/
theorem sorted_uniq {R : Int → Int → Prop} (irr : ∀ x, ¬ R x x) (asym : ∀ x y, R x y → ¬ R y x) : ∀ {A B : List Int}, A.Pairwise R → B.Pairwise R → (∀ x, x ∈ A ↔ x ∈ B) → A = B
  | [], [], _, _, _ => rfl
  | [], b :: B, _, _, h => by have := (h b).2 (List.mem_cons_self ..); simp at this
  | a :: A, [], _, _, h => by have := (h a).1 (List.mem_cons_self ..); simp at this
  | a :: A, b :: B, hA, hB, h => by
    rw [List.pairwise_cons] at hA hB
    have hab : a = b := by
      rcases List.mem_cons.1 ((h a).1 (List.mem_cons_self ..)) with e | e
      · exact e
      · rcases List.mem_cons.1 ((h b).2 (List.mem_cons_self ..)) with e' | e'
        · exact e'.symm
        · exact absurd (hA.1 b e') (asym _ _ (hB.1 a e))
    subst hab
    rw [sorted_uniq irr asym hA.2 hB.2 fun x => ?_]
    constructor
    · intro hx
      rcases List.mem_cons.1 ((h x).1 (List.mem_cons_of_mem _ hx)) with e | e
      · subst e; exact absurd (hA.1 x hx) (irr x)
      · exact e
    · intro hx
      rcases List.mem_cons.1 ((h x).2 (List.mem_cons_of_mem _ hx)) with e | e
      · subst e; exact absurd (hB.1 x hx) (irr x)
      · exact e
def ordD (n : Nat) (d : Nat → Int) : List Int := (List.range n).map d
theorem arrC_ordD (n : Nat) (d : Nat → Int) : arrC n d = (ordD n d).map iC := by
  unfold arrC ordD; rw [List.map_map]; rfl
theorem OrdP.pw {H : List Int} {n : Nat} {d : Nat → Int} (o : OrdP H n d) : (ordD n d).Pairwise (kR (keyH H)) := by
  rw [List.pairwise_iff_getElem]
  intro i j hi hj hij
  simp only [ordD, List.length_map, List.length_range] at hi hj
  simp only [ordD, List.getElem_map, List.getElem_range]
  exact o.2 i j (by omega) hij hj
theorem OrdP.mem {H : List Int} {n : Nat} {d : Nat → Int} (o : OrdP H n d) (x : Int) : x ∈ ordD n d ↔ 0 ≤ x ∧ x < n := by
  simp only [ordD, List.mem_map, List.mem_range]
  constructor
  · rintro ⟨i, hi, rfl⟩; exact o.rng i hi
  · rintro ⟨h1, h2⟩
    obtain ⟨j, hj, he⟩ := o.surj (x := x.toNat) (by omega)
    exact ⟨j, hj, by rw [he]; omega⟩
/-- Those of one height, in their order. -/
def filtH (H : List Int) (n : Nat) (x : Int) : List Int := ((List.range n).filter fun i => decide (H.getD i 0 = x)).map fun (i : Nat) => (i : Int)
/-- From the greatest height down. -/
def accH (H : List Int) (n : Nat) (M : Int) : Nat → List Int
  | 0 => []
  | c + 1 => accH H n M c ++ filtH H n (M - c)
theorem filtH_mem (H : List Int) (n : Nat) (x y : Int) : y ∈ filtH H n x ↔ 0 ≤ y ∧ y < n ∧ H.getD y.toNat 0 = x := by
  simp only [filtH, List.mem_map, List.mem_filter, List.mem_range, decide_eq_true_eq]
  constructor
  · rintro ⟨i, ⟨h1, h2⟩, rfl⟩; exact ⟨by omega, by omega, by simpa using h2⟩
  · rintro ⟨h1, h2, h3⟩; exact ⟨y.toNat, ⟨by omega, h3⟩, by omega⟩
theorem filtH_pw (H : List Int) (n : Nat) (x : Int) : (filtH H n x).Pairwise (kR (keyH H)) := by
  unfold filtH
  rw [List.pairwise_map]
  have h1 : ((List.range n).filter fun i => decide (H.getD i 0 = x)).Pairwise fun a b => a < b := List.Pairwise.filter _ List.pairwise_lt_range
  refine List.Pairwise.imp_of_mem (fun {a b} ha hb hab => ?_) h1
  simp only [List.mem_filter, decide_eq_true_eq] at ha hb
  unfold kR keyH
  simp only [Int.toNat_natCast]
  omega
theorem accH_mem (H : List Int) (n : Nat) (M : Int) (c : Nat) (y : Int) : y ∈ accH H n M c ↔ 0 ≤ y ∧ y < n ∧ M - c < H.getD y.toNat 0 ∧ H.getD y.toNat 0 ≤ M := by
  induction c with
  | zero => (simp only [accH, List.not_mem_nil, false_iff]; omega)
  | succ c ih => rw [accH, List.mem_append, ih, filtH_mem]; omega
theorem accH_pw (H : List Int) (n : Nat) (M : Int) (c : Nat) : (accH H n M c).Pairwise (kR (keyH H)) := by
  induction c with
  | zero => exact List.Pairwise.nil
  | succ c ih =>
    rw [accH, List.pairwise_append]
    refine ⟨ih, filtH_pw H n _, fun a ha b hb => ?_⟩
    rw [accH_mem] at ha
    rw [filtH_mem] at hb
    left
    unfold keyH
    omega
theorem order_uniq {H : List Int} {n : Nat} {d : Nat → Int} (o : OrdP H n d) {M : Nat} (hM : ∀ k, k < n → 0 ≤ H.getD k 0 ∧ H.getD k 0 ≤ M) : ordD n d = accH H n M (M + 1) := by
  refine sorted_uniq (fun _ => kR.irr) (fun _ _ h => h.asym) o.pw (accH_pw H n M (M + 1)) fun x => ?_
  rw [o.mem, accH_mem]
  constructor
  · rintro ⟨h1, h2⟩
    have := hM x.toNat (by omega)
    omega
  · rintro ⟨h1, h2, _⟩; exact ⟨h1, h2⟩
theorem filtH_step (H : List Int) (n k : Nat) (x : Int) : filtH H (k + 1) x = filtH H k x ++ if H.getD k 0 = x then [(k : Int)] else [] := by
  unfold filtH
  rw [List.range_succ, List.filter_append, List.map_append]
  by_cases h : H.getD k 0 = x
  · rw [if_pos h, List.filter_cons, if_pos (by simpa using h)]; rfl
  · rw [if_neg h, List.filter_cons, if_neg (by simpa using h)]; rfl
theorem filtH_len (H : List Int) (k : Nat) (x : Int) : (filtH H k x).length ≤ k := by
  unfold filtH
  rw [List.length_map]
  have := List.length_filter_le (fun i => decide (H.getD i 0 = x)) (List.range k)
  simpa using this
theorem accH_len (H : List Int) (n : Nat) (M : Int) (c : Nat) : (accH H n M c).length ≤ n * c := by
  induction c with
  | zero => simp [accH]
  | succ c ih =>
    rw [accH, List.length_append]
    have := filtH_len H n (M - c)
    rw [Nat.mul_add, Nat.mul_one]; omega
end Go.Proofs.Hx

set_option linter.unusedVariables false
set_option linter.unusedSimpArgs false
namespace Go.Proofs.Hx
open Go Go.Proofs
attribute [local irreducible] yM awp opK goV goM yZ qB qD yQ HV HVF HC
def mxH (H : List Int) (k : Nat) : Int := (H.take k).foldl mx 0
theorem mxH_succ {H : List Int} {k : Nat} (h : k < H.length) : mxH H (k + 1) = mx (mxH H k) (H.getD k 0) := by
  unfold mxH
  rw [List.take_succ_eq_append_getElem h, List.foldl_append]
  simp [List.getD_eq_getElem?_getD, h]
theorem mxH_bnd {H : List Int} {B : Int} (hB : 0 ≤ B) (hH : ∀ k, 0 ≤ H.getD k 0 ∧ H.getD k 0 ≤ B) : ∀ k, k ≤ H.length → 0 ≤ mxH H k ∧ mxH H k ≤ B ∧ ∀ j, j < k → H.getD j 0 ≤ mxH H k
  | 0, _ => ⟨by simp [mxH], by simpa [mxH] using hB, fun j hj => by omega⟩
  | k + 1, h => by
    obtain ⟨a, b, c⟩ := mxH_bnd hB hH k (by omega)
    have := hH k
    rw [mxH_succ (by omega)]
    refine ⟨by unfold mx; split <;> omega, by unfold mx; split <;> omega, fun j hj => ?_⟩
    by_cases e : j < k
    · have := c j e; unfold mx; split <;> omega
    · obtain rfl : j = k := by omega
      unfold mx; split <;> omega
def ordL (H : List Int) : List Int := accH H H.length (mxH H H.length) ((mxH H H.length).toNat + 1)
set_option maxHeartbeats 2000000 in
theorem f39 {h0 : Hp} {l : List Opn} {t : Tab} (hl : ∀ o ∈ l, o.ok) (hn2 : l.length ≤ 120 ∨ 1024 < l.length) :
    HC Try.prog 39 [.row (l.map opC), .agg (tabC t)] h0 fun r h' => Ext h0 h' ∧ ((errR l t ≠ 0 ∧ r = .tup [.nil, i64 (errR l t)]) ∨ (errR l t = 0 ∧ ∃ out, r = .tup [out, i64 0] ∧ SlO intC 1 h' out (ordL (heightS l t)))) := by
  refine yX yK cf39 (by simp) fun hF => ?_
  unfold ac39 re39
  refine yF fun env hE => ?_; have e0 := hE 0; have e1 := hE 1; have e3 := hE 3; have e4 := hE 4; have e5 := hE 5; have e6 := hE 6; have e7 := hE 7; have e8 := hE 8; have e9 := hE 9; have e10 := hE 10; have e11 := hE 11; have e12 := hE 12; simp -implicitDefEqProofs only [push_cast] at e0 e1 e3 e4 e5 e6 e7 e8 e9 e10 e11 e12; clear hE
  by_cases hR : errR l t = 0
  rotate_left
  · have hd : decide (errR l t ≠ 0) = true := decide_eq_true hR
    repeat' (first | ((try clear hf); with_reducible refine zO fun env K hE hK hf => ?_; have n : _ ∧ _ ∧ _ ∧ _ ∧ _ ∧ _ ∧ _ ∧ _ ∧ _ ∧ _ ∧ _ ∧ _ := ⟨hE 0, hE 1, hE 3, hE 4, hE 5, hE 6, hE 7, hE 8, hE 9, hE 10, hE 11, hE 12⟩; simp -implicitDefEqProofs only [push_cast, reduceIte, Nat.reduceEqDiff, e0, e1, e3, e4, e5, e6, e7, e8, e9, e10, e11, e12] at n; clear hE e0 e1 e3 e4 e5 e6 e7 e8 e9 e10 e11 e12; obtain ⟨e0, e1, e3, e4, e5, e6, e7, e8, e9, e10, e11, e12⟩ := n) | (with_reducible refine hK _ _ ?_; clear hK K) | (with_reducible first | refine zK ?_ | refine zU ?_ | refine zB ?_ | refine zF ?_ | refine zD ?_ | refine zN ?_ | refine zT ?_ | refine zC ?_ | refine zG ?_ | refine zV ?_ | refine zE ?_ | refine zA (by decide) ?_ | refine zL ?_ | refine zQ ?_ | refine zM ?_ | refine yB ?_ | refine yC ?_ | refine zW (by assumption) ?_ | refine zY (by assumption) ?_) | (refine zH rfl ?_) | (simp -implicitDefEqProofs only [push_cast, sevalprocAttr, eq_self, e0, e1, e3, e4, e5, e6, e7, e8, e9, e10, e11, e12, hF.at, hd]) | (simp -implicitDefEqProofs (disch := omega) only [zR, zZ, zS, zJ, e0, e1, e3, e4, e5, e6, e7, e8, e9, e10, e11, e12, hF.at, hd]) | (with_reducible refine yE ?_ ?_) | (refine zP rfl (fun bb => ?_) (fun bb => ?_) <;> (first | have bp := of_decide_eq_true bb | have bp := of_decide_eq_false bb | skip) <;> simp only [bb]) | (with_reducible refine zX (fun bb => ?_) (fun bb => ?_) <;> (first | have bp := of_decide_eq_true bb | have bp := of_decide_eq_false bb | skip)) | ((with_reducible refine And.intro ?_ ?_); omega) | (refine yT (HC.mono (f37 hl) ?_); rintro r h1 ⟨hx, hr⟩ hF; rcases hr with ⟨_, hr⟩ | ⟨hr, _⟩; rotate_left; exact absurd hr hR; subst hr) | fail)
    have hX01 : Ext h0 h1 := Ext.tr (by repeat (first | exact Ext.refl _ | assumption | refine Ext.tick ?_ | refine Ext.push ?_ (by omega) _ | refine Ext.put ?_ (by omega) _ | refine Ext.kill ?_ (by omega) | refine Ext.killA ?_ (by assumption))) hx
    exact ⟨(by repeat (first | exact Ext.refl _ | assumption | refine Ext.tick ?_ | refine Ext.push ?_ (by omega) _ | refine Ext.put ?_ (by omega) _ | refine Ext.kill ?_ (by omega) | refine Ext.killA ?_ (by assumption))), .inl hR⟩
  obtain ⟨ht, hn, hop⟩ := errR_ok hR
  have hHl := heightS_len l t
  have hHb := heightS_bnd hR
  generalize hHq : heightS l t = H at *
  have hmb := mxH_bnd (H := H) (B := 8 * l.length) (by omega) hHb
  repeat' (first | ((try clear hf); with_reducible refine zO fun env K hE hK hf => ?_; have n : _ ∧ _ ∧ _ ∧ _ ∧ _ ∧ _ ∧ _ ∧ _ ∧ _ ∧ _ ∧ _ ∧ _ := ⟨hE 0, hE 1, hE 3, hE 4, hE 5, hE 6, hE 7, hE 8, hE 9, hE 10, hE 11, hE 12⟩; simp -implicitDefEqProofs only [push_cast, reduceIte, Nat.reduceEqDiff, e0, e1, e3, e4, e5, e6, e7, e8, e9, e10, e11, e12] at n; clear hE e0 e1 e3 e4 e5 e6 e7 e8 e9 e10 e11 e12; obtain ⟨e0, e1, e3, e4, e5, e6, e7, e8, e9, e10, e11, e12⟩ := n) | (with_reducible refine hK _ _ ?_; clear hK K) | (with_reducible first | refine zK ?_ | refine zU ?_ | refine zB ?_ | refine zF ?_ | refine zD ?_ | refine zN ?_ | refine zT ?_ | refine zC ?_ | refine zG ?_ | refine zV ?_ | refine zE ?_ | refine zA (by decide) ?_ | refine zL ?_ | refine zQ ?_ | refine zM ?_ | refine yB ?_ | refine yC ?_ | refine zW (by assumption) ?_ | refine zY (by assumption) ?_) | (refine zH rfl ?_) | (simp -implicitDefEqProofs only [push_cast, sevalprocAttr, eq_self, e0, e1, e3, e4, e5, e6, e7, e8, e9, e10, e11, e12, hF.at]) | (simp -implicitDefEqProofs (disch := omega) only [zR, zZ, zS, zJ, e0, e1, e3, e4, e5, e6, e7, e8, e9, e10, e11, e12, hF.at]) | (with_reducible refine yE ?_ ?_) | (refine zP rfl (fun bb => ?_) (fun bb => ?_) <;> (first | have bp := of_decide_eq_true bb | have bp := of_decide_eq_false bb | skip) <;> simp only [bb]) | (with_reducible refine zX (fun bb => ?_) (fun bb => ?_) <;> (first | have bp := of_decide_eq_true bb | have bp := of_decide_eq_false bb | skip)) | ((with_reducible refine And.intro ?_ ?_); omega) | (refine yT (HC.mono (f37 hl) ?_); rintro r h1 ⟨hx, hr⟩ hF; rcases hr with ⟨hr, _⟩ | ⟨_, ⟨ie, is⟩, hr, hbH, hi1, hi2⟩; exact absurd hR hr; subst hr; rw [hHq, arrC_map, hHl] at hbH) | fail)
  have hX01 : Ext h0 h1 := Ext.tr (by repeat (first | exact Ext.refl _ | assumption | refine Ext.tick ?_ | refine Ext.push ?_ (by omega) _ | refine Ext.put ?_ (by omega) _ | refine Ext.kill ?_ (by omega) | refine Ext.killA ?_ (by assumption))) hx
  simp only at hi1 hi2
  rw [hHl] at hmb
  generalize hln : l.length = n at *
  refine yF fun env hE => ?_; have n : _ ∧ _ ∧ _ ∧ _ ∧ _ ∧ _ ∧ _ ∧ _ ∧ _ ∧ _ ∧ _ ∧ _ := ⟨hE 0, hE 1, hE 3, hE 4, hE 5, hE 6, hE 7, hE 8, hE 9, hE 10, hE 11, hE 12⟩; simp -implicitDefEqProofs only [push_cast, reduceIte, Nat.reduceEqDiff, e0, e1, e3, e4, e5, e6, e7, e8, e9, e10, e11, e12] at n; clear hE e0 e1 e3 e4 e5 e6 e7 e8 e9 e10 e11 e12; obtain ⟨e0, e1, e3, e4, e5, e6, e7, e8, e9, e10, e11, e12⟩ := n; have E39_0_0 := e0; have E39_0_1 := e1; have E39_0_3 := e3; have E39_0_4 := e4; have E39_0_5 := e5; have E39_0_6 := e6; have E39_0_7 := e7; have E39_0_8 := e8
  refine yL (fun nn σ => ∃ (k : Nat), nn = n - k ∧ σ.env 0 = env 0 ∧ σ.env 1 = env 1 ∧ σ.env 3 = env 3 ∧ σ.env 4 = env 4 ∧ σ.env 5 = env 5 ∧ σ.env 6 = env 6 ∧ σ.env 7 = env 7 ∧ σ.env 8 = env 8 ∧ σ.env 10 = i64 k ∧ σ.env 9 = i64 (mxH H k) ∧ (k ≤ n ∧ Ext h1 σ.h)) _ ⟨0, rfl, rfl, rfl, rfl, rfl, rfl, rfl, rfl, rfl, by refine e10.trans ?_; first | rfl | exact yD (by omega) | (simp -implicitDefEqProofs (disch := omega) only [zJ]; first | rfl | exact yD (by omega)), by refine e9.trans ?_; first | rfl | exact yD (by omega) | (simp -implicitDefEqProofs (disch := omega) only [zJ]; first | rfl | exact yD (by omega)), ?_⟩ ?_
  · exact ⟨by omega, (by repeat (first | exact Ext.refl _ | assumption | refine Ext.tick ?_ | refine Ext.push ?_ (by omega) _ | refine Ext.put ?_ (by omega) _ | refine Ext.kill ?_ (by omega) | refine Ext.killA ?_ (by assumption)))⟩
  clear e0 e1 e3 e4 e5 e6 e7 e8 e9 e10 e11 e12; rintro nn ⟨env, h⟩ ⟨k, rfl, q0, q1, q3, q4, q5, q6, q7, q8, e10, e9, hI⟩; simp only at q0 q1 q3 q4 q5 q6 q7 q8 e10 e9 hI; (first | have e0 := q0.trans E39_0_0 | have e0 := True.intro); (first | have e1 := q1.trans E39_0_1 | have e1 := True.intro); (first | have e3 := q3.trans E39_0_3 | have e3 := True.intro); (first | have e4 := q4.trans E39_0_4 | have e4 := True.intro); (first | have e5 := q5.trans E39_0_5 | have e5 := True.intro); (first | have e6 := q6.trans E39_0_6 | have e6 := True.intro); (first | have e7 := q7.trans E39_0_7 | have e7 := True.intro); (first | have e8 := q8.trans E39_0_8 | have e8 := True.intro); clear q0 q1 q3 q4 q5 q6 q7 q8; have e11 := True.intro; have e12 := True.intro
  obtain ⟨hk, hx1⟩ := hI
  unfold l39_0
  (first | refine yI fun hF => ?_ | refine yS fun hF => ?_ | refine yR fun hF => ?_)
  have hb1 := (hx1.2 (ie, is) hi2).trans hbH
  by_cases hlt : k < n
  · have hd : decide ((k : Int) < (n : Int)) = true := decide_eq_true (by omega)
    have v1 : (arrC n fun k => H.getD k 0)[k]? = some (i64 (H.getD k 0)) := arrC_at _ hlt
    have hs := mxH_succ (H := H) (k := k) (by omega)
    have hs2 : mxH H (k + 1) = if H.getD k 0 > mxH H k then H.getD k 0 else mxH H k := hs
    repeat' (first | ((try clear hf); with_reducible refine zO fun env K hE hK hf => ?_; have n : _ ∧ _ ∧ _ ∧ _ ∧ _ ∧ _ ∧ _ ∧ _ ∧ _ ∧ _ ∧ _ ∧ _ := ⟨hE 0, hE 1, hE 3, hE 4, hE 5, hE 6, hE 7, hE 8, hE 9, hE 10, hE 11, hE 12⟩; simp -implicitDefEqProofs only [push_cast, reduceIte, Nat.reduceEqDiff, e0, e1, e3, e4, e5, e6, e7, e8, e9, e10, e11, e12] at n; clear hE e0 e1 e3 e4 e5 e6 e7 e8 e9 e10 e11 e12; obtain ⟨e0, e1, e3, e4, e5, e6, e7, e8, e9, e10, e11, e12⟩ := n) | (with_reducible refine hK _ _ ?_; clear hK K) | (with_reducible first | refine zK ?_ | refine zU ?_ | refine zB ?_ | refine zF ?_ | refine zD ?_ | refine zN ?_ | refine zT ?_ | refine zC ?_ | refine zG ?_ | refine zV ?_ | refine zE ?_ | refine zA (by decide) ?_ | refine zL ?_ | refine zQ ?_ | refine zM ?_ | refine yB ?_ | refine yC ?_ | refine zW (by assumption) ?_ | refine zY (by assumption) ?_) | (refine zH rfl ?_) | (simp -implicitDefEqProofs only [push_cast, sevalprocAttr, eq_self, e0, e1, e3, e4, e5, e6, e7, e8, e9, e10, e11, e12, hd, hb1, v1]) | (simp -implicitDefEqProofs (disch := omega) only [zR, zZ, zS, zJ, e0, e1, e3, e4, e5, e6, e7, e8, e9, e10, e11, e12, hd, hb1, v1]) | (with_reducible refine yE ?_ ?_) | (refine zP rfl (fun bb => ?_) (fun bb => ?_) <;> (first | have bp := of_decide_eq_true bb | have bp := of_decide_eq_false bb | skip) <;> simp only [bb]) | (with_reducible refine zX (fun bb => ?_) (fun bb => ?_) <;> (first | have bp := of_decide_eq_true bb | have bp := of_decide_eq_false bb | skip)) | ((with_reducible refine And.intro ?_ ?_); omega) | fail)
    refine ⟨_, ?_, k + 1, rfl, E39_0_0.symm, E39_0_1.symm, E39_0_3.symm, E39_0_4.symm, E39_0_5.symm, E39_0_6.symm, E39_0_7.symm, E39_0_8.symm, by first | rfl | exact yD (by omega) | (simp only [hs2]; exact yD (by omega)) | (simp -implicitDefEqProofs (disch := omega) only [zJ]; first | rfl | exact yD (by omega)), by first | rfl | exact yD (by omega) | (simp only [hs2]; exact yD (by omega)) | (simp -implicitDefEqProofs (disch := omega) only [zJ]; first | rfl | exact yD (by omega)), ?_⟩
    · omega
    · exact ⟨by omega, (by repeat (first | exact Ext.refl _ | assumption | refine Ext.tick ?_ | refine Ext.push ?_ (by omega) _ | refine Ext.put ?_ (by omega) _ | refine Ext.kill ?_ (by omega) | refine Ext.killA ?_ (by assumption)))⟩
  have hd : decide ((k : Int) < (n : Int)) = false := decide_eq_false (by omega)
  obtain rfl : n = k := by omega
  repeat' (first | ((try clear hf); with_reducible refine zO fun env K hE hK hf => ?_; have n : _ ∧ _ ∧ _ ∧ _ ∧ _ ∧ _ ∧ _ ∧ _ ∧ _ ∧ _ ∧ _ ∧ _ := ⟨hE 0, hE 1, hE 3, hE 4, hE 5, hE 6, hE 7, hE 8, hE 9, hE 10, hE 11, hE 12⟩; simp -implicitDefEqProofs only [push_cast, reduceIte, Nat.reduceEqDiff, e0, e1, e3, e4, e5, e6, e7, e8, e9, e10, e11, e12] at n; clear hE e0 e1 e3 e4 e5 e6 e7 e8 e9 e10 e11 e12; obtain ⟨e0, e1, e3, e4, e5, e6, e7, e8, e9, e10, e11, e12⟩ := n) | (with_reducible refine hK _ _ ?_; clear hK K) | (with_reducible first | refine zK ?_ | refine zU ?_ | refine zB ?_ | refine zF ?_ | refine zD ?_ | refine zN ?_ | refine zT ?_ | refine zC ?_ | refine zG ?_ | refine zV ?_ | refine zE ?_ | refine zA (by decide) ?_ | refine zL ?_ | refine zQ ?_ | refine zM ?_ | refine yB ?_ | refine yC ?_ | refine zW (by assumption) ?_ | refine zY (by assumption) ?_) | (refine zH rfl ?_) | (simp -implicitDefEqProofs only [push_cast, sevalprocAttr, eq_self, e0, e1, e3, e4, e5, e6, e7, e8, e9, e10, e11, e12, hd]) | (simp -implicitDefEqProofs (disch := omega) only [zR, zZ, zS, zJ, e0, e1, e3, e4, e5, e6, e7, e8, e9, e10, e11, e12, hd]) | (with_reducible refine yE ?_ ?_) | (refine zP rfl (fun bb => ?_) (fun bb => ?_) <;> (first | have bp := of_decide_eq_true bb | have bp := of_decide_eq_false bb | skip) <;> simp only [bb]) | (with_reducible refine zX (fun bb => ?_) (fun bb => ?_) <;> (first | have bp := of_decide_eq_true bb | have bp := of_decide_eq_false bb | skip)) | ((with_reducible refine And.intro ?_ ?_); omega) | fail)
  obtain ⟨m0, m1, m2⟩ := hmb n (Nat.le_refl _)
  have hoL : ordL H = accH H n (mxH H n) ((mxH H n).toNat + 1) := by unfold ordL; rw [hHl]
  generalize mxH H n = M at *
  have hX2 : Ext h0 h := hX01.tr hx1
  have hL1 := accH_len H n M
  refine yF fun env hE => ?_; have n : _ ∧ _ ∧ _ ∧ _ ∧ _ ∧ _ ∧ _ ∧ _ ∧ _ ∧ _ ∧ _ ∧ _ := ⟨hE 0, hE 1, hE 3, hE 4, hE 5, hE 6, hE 7, hE 8, hE 9, hE 10, hE 11, hE 12⟩; simp -implicitDefEqProofs only [push_cast, reduceIte, Nat.reduceEqDiff, e0, e1, e3, e4, e5, e6, e7, e8, e9, e10, e11, e12] at n; clear hE e0 e1 e3 e4 e5 e6 e7 e8 e9 e10 e11 e12; obtain ⟨e0, e1, e3, e4, e5, e6, e7, e8, e9, e10, e11, e12⟩ := n; have E39_2_0 := e0; have E39_2_1 := e1; have E39_2_3 := e3; have E39_2_4 := e4; have E39_2_5 := e5; have E39_2_6 := e6; have E39_2_7 := e7; have E39_2_9 := e9; have E39_2_10 := e10
  refine yL (fun nn σ => ∃ (c : Nat) (a : AV), nn = M.toNat + 1 - c ∧ σ.env 0 = env 0 ∧ σ.env 1 = env 1 ∧ σ.env 3 = env 3 ∧ σ.env 4 = env 4 ∧ σ.env 5 = env 5 ∧ σ.env 6 = env 6 ∧ σ.env 7 = env 7 ∧ σ.env 9 = env 9 ∧ σ.env 10 = env 10 ∧ σ.env 11 = i64 (M - c) ∧ σ.env 8 = a ∧ (c ≤ M.toNat + 1 ∧ SlO intC 1 σ.h a (accH H n M c) ∧ (∀ x, idOf a = some x → h.ep < x.1) ∧ Ext h σ.h)) _ ⟨0, .nil, rfl, rfl, rfl, rfl, rfl, rfl, rfl, rfl, rfl, rfl, by refine e11.trans ?_; first | rfl | exact yD (by omega) | (simp -implicitDefEqProofs (disch := omega) only [zJ]; first | rfl | exact yD (by omega)), by refine e8.trans ?_; first | rfl | exact yD (by omega) | (simp -implicitDefEqProofs (disch := omega) only [zJ]; first | rfl | exact yD (by omega)), ?_⟩ ?_
  · exact ⟨by omega, SlO.nil _ _ _, fun x hx => by simp [idOf] at hx, (by repeat (first | exact Ext.refl _ | assumption | refine Ext.tick ?_ | refine Ext.push ?_ (by omega) _ | refine Ext.put ?_ (by omega) _ | refine Ext.kill ?_ (by omega) | refine Ext.killA ?_ (by assumption)))⟩
  clear e0 e1 e3 e4 e5 e6 e7 e8 e9 e10 e11 e12; rintro nn ⟨env, h2⟩ ⟨c, a, rfl, q0, q1, q3, q4, q5, q6, q7, q9, q10, e11, e8, hI⟩; simp only at q0 q1 q3 q4 q5 q6 q7 q9 q10 e11 e8 hI; (first | have e0 := q0.trans E39_2_0 | have e0 := True.intro); (first | have e1 := q1.trans E39_2_1 | have e1 := True.intro); (first | have e3 := q3.trans E39_2_3 | have e3 := True.intro); (first | have e4 := q4.trans E39_2_4 | have e4 := True.intro); (first | have e5 := q5.trans E39_2_5 | have e5 := True.intro); (first | have e6 := q6.trans E39_2_6 | have e6 := True.intro); (first | have e7 := q7.trans E39_2_7 | have e7 := True.intro); (first | have e9 := q9.trans E39_2_9 | have e9 := True.intro); (first | have e10 := q10.trans E39_2_10 | have e10 := True.intro); clear q0 q1 q3 q4 q5 q6 q7 q9 q10; have e12 := True.intro
  obtain ⟨hc, hs, hia, hx2⟩ := hI
  unfold l39_2
  (first | refine yI fun hF => ?_ | refine yS fun hF => ?_ | refine yR fun hF => ?_)
  have hle2 := hx2.1
  have hnc : n * c ≤ 120 * 1024 := Nat.mul_le_mul (by omega) (by omega)
  by_cases hlt2 : c ≤ M.toNat
  · have hd : decide ((0 : Int) ≤ M - c) = true := decide_eq_true (by omega)
    repeat' (first | ((try clear hf); with_reducible refine zO fun env K hE hK hf => ?_; have n : _ ∧ _ ∧ _ ∧ _ ∧ _ ∧ _ ∧ _ ∧ _ ∧ _ ∧ _ ∧ _ ∧ _ := ⟨hE 0, hE 1, hE 3, hE 4, hE 5, hE 6, hE 7, hE 8, hE 9, hE 10, hE 11, hE 12⟩; simp -implicitDefEqProofs only [push_cast, reduceIte, Nat.reduceEqDiff, e0, e1, e3, e4, e5, e6, e7, e8, e9, e10, e11, e12] at n; clear hE e0 e1 e3 e4 e5 e6 e7 e8 e9 e10 e11 e12; obtain ⟨e0, e1, e3, e4, e5, e6, e7, e8, e9, e10, e11, e12⟩ := n) | (with_reducible refine hK _ _ ?_; clear hK K) | (with_reducible first | refine zK ?_ | refine zU ?_ | refine zB ?_ | refine zF ?_ | refine zD ?_ | refine zN ?_ | refine zT ?_ | refine zC ?_ | refine zG ?_ | refine zV ?_ | refine zE ?_ | refine zA (by decide) ?_ | refine zL ?_ | refine zQ ?_ | refine zM ?_ | refine yB ?_ | refine yC ?_ | refine zW (by assumption) ?_ | refine zY (by assumption) ?_) | (refine zH rfl ?_) | (simp -implicitDefEqProofs only [push_cast, sevalprocAttr, eq_self, e0, e1, e3, e4, e5, e6, e7, e8, e9, e10, e11, e12, hd]) | (simp -implicitDefEqProofs (disch := omega) only [zR, zZ, zS, zJ, e0, e1, e3, e4, e5, e6, e7, e8, e9, e10, e11, e12, hd]) | (with_reducible refine yE ?_ ?_) | (refine zP rfl (fun bb => ?_) (fun bb => ?_) <;> (first | have bp := of_decide_eq_true bb | have bp := of_decide_eq_false bb | skip) <;> simp only [bb]) | (with_reducible refine zX (fun bb => ?_) (fun bb => ?_) <;> (first | have bp := of_decide_eq_true bb | have bp := of_decide_eq_false bb | skip)) | ((with_reducible refine And.intro ?_ ?_); omega) | fail)
    refine yF fun env hE => ?_; have n : _ ∧ _ ∧ _ ∧ _ ∧ _ ∧ _ ∧ _ ∧ _ ∧ _ ∧ _ ∧ _ ∧ _ := ⟨hE 0, hE 1, hE 3, hE 4, hE 5, hE 6, hE 7, hE 8, hE 9, hE 10, hE 11, hE 12⟩; simp -implicitDefEqProofs only [push_cast, reduceIte, Nat.reduceEqDiff, e0, e1, e3, e4, e5, e6, e7, e8, e9, e10, e11, e12] at n; clear hE e0 e1 e3 e4 e5 e6 e7 e8 e9 e10 e11 e12; obtain ⟨e0, e1, e3, e4, e5, e6, e7, e8, e9, e10, e11, e12⟩ := n; have E39_1_0 := e0; have E39_1_1 := e1; have E39_1_3 := e3; have E39_1_4 := e4; have E39_1_5 := e5; have E39_1_6 := e6; have E39_1_7 := e7; have E39_1_9 := e9; have E39_1_10 := e10; have E39_1_11 := e11
    refine yL (fun nn σ => ∃ (k : Nat) (a' : AV), nn = n - k ∧ σ.env 0 = env 0 ∧ σ.env 1 = env 1 ∧ σ.env 3 = env 3 ∧ σ.env 4 = env 4 ∧ σ.env 5 = env 5 ∧ σ.env 6 = env 6 ∧ σ.env 7 = env 7 ∧ σ.env 9 = env 9 ∧ σ.env 10 = env 10 ∧ σ.env 11 = env 11 ∧ σ.env 12 = i64 k ∧ σ.env 8 = a' ∧ (k ≤ n ∧ SlO intC 1 σ.h a' (accH H n M c ++ filtH H k (M - c)) ∧ (∀ x, idOf a' = some x → h.ep < x.1) ∧ Ext h σ.h)) _ ⟨0, a, rfl, rfl, rfl, rfl, rfl, rfl, rfl, rfl, rfl, rfl, rfl, by refine e12.trans ?_; first | rfl | exact yD (by omega) | (simp -implicitDefEqProofs (disch := omega) only [zJ]; first | rfl | exact yD (by omega)), by refine e8.trans ?_; first | rfl | exact yD (by omega) | (simp -implicitDefEqProofs (disch := omega) only [zJ]; first | rfl | exact yD (by omega)), ?_⟩ ?_
    · exact ⟨by omega, by rw [show filtH H 0 (M - c) = [] from rfl, List.append_nil]; exact hs.ext (by repeat (first | exact Ext.refl _ | assumption | refine Ext.tick ?_ | refine Ext.push ?_ (by omega) _ | refine Ext.put ?_ (by omega) _ | refine Ext.kill ?_ (by omega) | refine Ext.killA ?_ (by assumption))), hia, (by repeat (first | exact Ext.refl _ | assumption | refine Ext.tick ?_ | refine Ext.push ?_ (by omega) _ | refine Ext.put ?_ (by omega) _ | refine Ext.kill ?_ (by omega) | refine Ext.killA ?_ (by assumption)))⟩
    clear hs hia hx2 hle2
    clear e0 e1 e3 e4 e5 e6 e7 e8 e9 e10 e11 e12; rintro nn ⟨env, h3⟩ ⟨k, a', rfl, q0, q1, q3, q4, q5, q6, q7, q9, q10, q11, e12, e8, hI⟩; simp only at q0 q1 q3 q4 q5 q6 q7 q9 q10 q11 e12 e8 hI; (first | have e0 := q0.trans E39_1_0 | have e0 := True.intro); (first | have e1 := q1.trans E39_1_1 | have e1 := True.intro); (first | have e3 := q3.trans E39_1_3 | have e3 := True.intro); (first | have e4 := q4.trans E39_1_4 | have e4 := True.intro); (first | have e5 := q5.trans E39_1_5 | have e5 := True.intro); (first | have e6 := q6.trans E39_1_6 | have e6 := True.intro); (first | have e7 := q7.trans E39_1_7 | have e7 := True.intro); (first | have e9 := q9.trans E39_1_9 | have e9 := True.intro); (first | have e10 := q10.trans E39_1_10 | have e10 := True.intro); (first | have e11 := q11.trans E39_1_11 | have e11 := True.intro); clear q0 q1 q3 q4 q5 q6 q7 q9 q10 q11
    obtain ⟨hk, hs, hia, hx2⟩ := hI
    unfold l39_1
    (first | refine yI fun hF => ?_ | refine yS fun hF => ?_ | refine yR fun hF => ?_)
    have hle2 := hx2.1
    have hb3 := (hx2.2 (ie, is) (by have := hx1.1; simp only; omega)).trans hb1
    have hid := fun x hx => hs.id_le (x := x) hx
    have hal := accH_len H n M c
    have hfl := filtH_len H k (M - c)
    have hst := filtH_step H n k (M - c)
    by_cases hlt3 : k < n
    · have hd : decide ((k : Int) < (n : Int)) = true := decide_eq_true (by omega)
      have v1 : (arrC n fun k => H.getD k 0)[k]? = some (i64 (H.getD k 0)) := arrC_at _ hlt3
      by_cases he : H.getD k 0 = M - c
      · have d1 : decide (H.getD k 0 = M - c) = true := decide_eq_true he
        rw [if_pos he] at hst
        repeat' (first | ((try clear hf); with_reducible refine zO fun env K hE hK hf => ?_; have n : _ ∧ _ ∧ _ ∧ _ ∧ _ ∧ _ ∧ _ ∧ _ ∧ _ ∧ _ ∧ _ ∧ _ := ⟨hE 0, hE 1, hE 3, hE 4, hE 5, hE 6, hE 7, hE 8, hE 9, hE 10, hE 11, hE 12⟩; simp -implicitDefEqProofs only [push_cast, reduceIte, Nat.reduceEqDiff, e0, e1, e3, e4, e5, e6, e7, e8, e9, e10, e11, e12] at n; clear hE e0 e1 e3 e4 e5 e6 e7 e8 e9 e10 e11 e12; obtain ⟨e0, e1, e3, e4, e5, e6, e7, e8, e9, e10, e11, e12⟩ := n) | (with_reducible refine hK _ _ ?_; clear hK K) | (with_reducible first | refine zK ?_ | refine zU ?_ | refine zB ?_ | refine zF ?_ | refine zD ?_ | refine zN ?_ | refine zT ?_ | refine zC ?_ | refine zG ?_ | refine zV ?_ | refine zE ?_ | refine zA (by decide) ?_ | refine zL ?_ | refine zQ ?_ | refine zM ?_ | refine yB ?_ | refine yC ?_ | refine zW (by assumption) ?_ | refine zY (by assumption) ?_) | (refine zH rfl ?_) | (simp -implicitDefEqProofs only [push_cast, sevalprocAttr, eq_self, e0, e1, e3, e4, e5, e6, e7, e8, e9, e10, e11, e12, hd, hF.at, hb3, v1, d1]) | (simp -implicitDefEqProofs (disch := omega) only [zR, zZ, zS, zJ, e0, e1, e3, e4, e5, e6, e7, e8, e9, e10, e11, e12, hd, hF.at, hb3, v1, d1]) | (with_reducible refine yE ?_ ?_) | (refine zP rfl (fun bb => ?_) (fun bb => ?_) <;> (first | have bp := of_decide_eq_true bb | have bp := of_decide_eq_false bb | skip) <;> simp only [bb]) | (with_reducible refine zX (fun bb => ?_) (fun bb => ?_) <;> (first | have bp := of_decide_eq_true bb | have bp := of_decide_eq_false bb | skip)) | ((with_reducible refine And.intro ?_ ?_); omega) | (refine goM_app1 (e := (k : Int)) (hs.ext (by repeat (first | exact Ext.refl _ | assumption | refine Ext.tick ?_ | refine Ext.push ?_ (by omega) _ | refine Ext.put ?_ (by omega) _ | refine Ext.kill ?_ (by omega) | refine Ext.killA ?_ (by assumption)))) (fun _ => rfl) rfl (by rw [List.length_append]; omega) (fun e => by have := hid _ e; simp at this; omega) (by first | omega | (simp -implicitDefEqProofs only [push_cast, sevalprocAttr, eq_self]; first | done | omega)) ?_; intro g a2 hs' ha' hep hfr) | fail)
        have hgx : Ext h g := ⟨by rw [hep]; simp -implicitDefEqProofs only [push_cast, sevalprocAttr, eq_self]; omega, fun x hx => (hfr x (fun e => by rw [e] at hx; simp at hx; omega) (fun e => by have := hia _ e; omega)).trans ((push_ne _ _ _ _ (fun e => by rw [e] at hx; simp at hx; omega)).trans (hx2.2 x hx))⟩
        refine ⟨_, ?_, k + 1, a2, rfl, E39_1_0.symm, E39_1_1.symm, E39_1_3.symm, E39_1_4.symm, E39_1_5.symm, E39_1_6.symm, E39_1_7.symm, E39_1_9.symm, E39_1_10.symm, E39_1_11.symm, by first | rfl | exact yD (by omega) | (simp -implicitDefEqProofs (disch := omega) only [zJ]; first | rfl | exact yD (by omega)), by first | rfl | exact yD (by omega) | (simp -implicitDefEqProofs (disch := omega) only [zJ]; first | rfl | exact yD (by omega)), ?_⟩
        · omega
        · refine ⟨by omega, by rw [hst, ← List.append_assoc]; exact hs'.ext (by repeat (first | exact Ext.refl _ | assumption | refine Ext.tick ?_ | refine Ext.push ?_ (by omega) _ | refine Ext.put ?_ (by omega) _ | refine Ext.kill ?_ (by omega) | refine Ext.killA ?_ (by assumption))), fun x hx => by have := ha' x hx; rw [this]; simp only; omega, (by repeat (first | exact Ext.refl _ | assumption | refine Ext.tick ?_ | refine Ext.push ?_ (by omega) _ | refine Ext.put ?_ (by omega) _ | refine Ext.kill ?_ (by omega) | refine Ext.killA ?_ (by assumption)))⟩
      · have d1 : decide (H.getD k 0 = M - c) = false := decide_eq_false he
        rw [if_neg he, List.append_nil] at hst
        repeat' (first | ((try clear hf); with_reducible refine zO fun env K hE hK hf => ?_; have n : _ ∧ _ ∧ _ ∧ _ ∧ _ ∧ _ ∧ _ ∧ _ ∧ _ ∧ _ ∧ _ ∧ _ := ⟨hE 0, hE 1, hE 3, hE 4, hE 5, hE 6, hE 7, hE 8, hE 9, hE 10, hE 11, hE 12⟩; simp -implicitDefEqProofs only [push_cast, reduceIte, Nat.reduceEqDiff, e0, e1, e3, e4, e5, e6, e7, e8, e9, e10, e11, e12] at n; clear hE e0 e1 e3 e4 e5 e6 e7 e8 e9 e10 e11 e12; obtain ⟨e0, e1, e3, e4, e5, e6, e7, e8, e9, e10, e11, e12⟩ := n) | (with_reducible refine hK _ _ ?_; clear hK K) | (with_reducible first | refine zK ?_ | refine zU ?_ | refine zB ?_ | refine zF ?_ | refine zD ?_ | refine zN ?_ | refine zT ?_ | refine zC ?_ | refine zG ?_ | refine zV ?_ | refine zE ?_ | refine zA (by decide) ?_ | refine zL ?_ | refine zQ ?_ | refine zM ?_ | refine yB ?_ | refine yC ?_ | refine zW (by assumption) ?_ | refine zY (by assumption) ?_) | (refine zH rfl ?_) | (simp -implicitDefEqProofs only [push_cast, sevalprocAttr, eq_self, e0, e1, e3, e4, e5, e6, e7, e8, e9, e10, e11, e12, hd, hF.at, hb3, v1, d1]) | (simp -implicitDefEqProofs (disch := omega) only [zR, zZ, zS, zJ, e0, e1, e3, e4, e5, e6, e7, e8, e9, e10, e11, e12, hd, hF.at, hb3, v1, d1]) | (with_reducible refine yE ?_ ?_) | (refine zP rfl (fun bb => ?_) (fun bb => ?_) <;> (first | have bp := of_decide_eq_true bb | have bp := of_decide_eq_false bb | skip) <;> simp only [bb]) | (with_reducible refine zX (fun bb => ?_) (fun bb => ?_) <;> (first | have bp := of_decide_eq_true bb | have bp := of_decide_eq_false bb | skip)) | ((with_reducible refine And.intro ?_ ?_); omega) | fail)
        refine ⟨_, ?_, k + 1, a', rfl, E39_1_0.symm, E39_1_1.symm, E39_1_3.symm, E39_1_4.symm, E39_1_5.symm, E39_1_6.symm, E39_1_7.symm, E39_1_9.symm, E39_1_10.symm, E39_1_11.symm, by first | rfl | exact yD (by omega) | (simp -implicitDefEqProofs (disch := omega) only [zJ]; first | rfl | exact yD (by omega)), by first | rfl | exact yD (by omega) | (simp -implicitDefEqProofs (disch := omega) only [zJ]; first | rfl | exact yD (by omega)), ?_⟩
        · omega
        · exact ⟨by omega, by rw [hst]; exact hs.ext (by repeat (first | exact Ext.refl _ | assumption | refine Ext.tick ?_ | refine Ext.push ?_ (by omega) _ | refine Ext.put ?_ (by omega) _ | refine Ext.kill ?_ (by omega) | refine Ext.killA ?_ (by assumption))), hia, (by repeat (first | exact Ext.refl _ | assumption | refine Ext.tick ?_ | refine Ext.push ?_ (by omega) _ | refine Ext.put ?_ (by omega) _ | refine Ext.kill ?_ (by omega) | refine Ext.killA ?_ (by assumption)))⟩
    · have hd : decide ((k : Int) < (n : Int)) = false := decide_eq_false (by omega)
      obtain rfl : n = k := by omega
      repeat' (first | ((try clear hf); with_reducible refine zO fun env K hE hK hf => ?_; have n : _ ∧ _ ∧ _ ∧ _ ∧ _ ∧ _ ∧ _ ∧ _ ∧ _ ∧ _ ∧ _ ∧ _ := ⟨hE 0, hE 1, hE 3, hE 4, hE 5, hE 6, hE 7, hE 8, hE 9, hE 10, hE 11, hE 12⟩; simp -implicitDefEqProofs only [push_cast, reduceIte, Nat.reduceEqDiff, e0, e1, e3, e4, e5, e6, e7, e8, e9, e10, e11, e12] at n; clear hE e0 e1 e3 e4 e5 e6 e7 e8 e9 e10 e11 e12; obtain ⟨e0, e1, e3, e4, e5, e6, e7, e8, e9, e10, e11, e12⟩ := n) | (with_reducible refine hK _ _ ?_; clear hK K) | (with_reducible first | refine zK ?_ | refine zU ?_ | refine zB ?_ | refine zF ?_ | refine zD ?_ | refine zN ?_ | refine zT ?_ | refine zC ?_ | refine zG ?_ | refine zV ?_ | refine zE ?_ | refine zA (by decide) ?_ | refine zL ?_ | refine zQ ?_ | refine zM ?_ | refine yB ?_ | refine yC ?_ | refine zW (by assumption) ?_ | refine zY (by assumption) ?_) | (refine zH rfl ?_) | (simp -implicitDefEqProofs only [push_cast, sevalprocAttr, eq_self, e0, e1, e3, e4, e5, e6, e7, e8, e9, e10, e11, e12, hd]) | (simp -implicitDefEqProofs (disch := omega) only [zR, zZ, zS, zJ, e0, e1, e3, e4, e5, e6, e7, e8, e9, e10, e11, e12, hd]) | (with_reducible refine yE ?_ ?_) | (refine zP rfl (fun bb => ?_) (fun bb => ?_) <;> (first | have bp := of_decide_eq_true bb | have bp := of_decide_eq_false bb | skip) <;> simp only [bb]) | (with_reducible refine zX (fun bb => ?_) (fun bb => ?_) <;> (first | have bp := of_decide_eq_true bb | have bp := of_decide_eq_false bb | skip)) | ((with_reducible refine And.intro ?_ ?_); omega) | fail)
      refine ⟨_, ?_, c + 1, a', rfl, E39_2_0.symm, E39_2_1.symm, E39_2_3.symm, E39_2_4.symm, E39_2_5.symm, E39_2_6.symm, E39_2_7.symm, E39_2_9.symm, E39_2_10.symm, by first | rfl | exact yD (by omega) | (simp -implicitDefEqProofs (disch := omega) only [zJ]; first | rfl | exact yD (by omega)), by first | rfl | exact yD (by omega) | (simp -implicitDefEqProofs (disch := omega) only [zJ]; first | rfl | exact yD (by omega)), ?_⟩
      · omega
      · exact ⟨by omega, hs.ext (by repeat (first | exact Ext.refl _ | assumption | refine Ext.tick ?_ | refine Ext.push ?_ (by omega) _ | refine Ext.put ?_ (by omega) _ | refine Ext.kill ?_ (by omega) | refine Ext.killA ?_ (by assumption))), hia, (by repeat (first | exact Ext.refl _ | assumption | refine Ext.tick ?_ | refine Ext.push ?_ (by omega) _ | refine Ext.put ?_ (by omega) _ | refine Ext.kill ?_ (by omega) | refine Ext.killA ?_ (by assumption)))⟩
  · have hd : decide ((0 : Int) ≤ M - c) = false := decide_eq_false (by omega)
    repeat' (first | ((try clear hf); with_reducible refine zO fun env K hE hK hf => ?_; have n : _ ∧ _ ∧ _ ∧ _ ∧ _ ∧ _ ∧ _ ∧ _ ∧ _ ∧ _ ∧ _ ∧ _ := ⟨hE 0, hE 1, hE 3, hE 4, hE 5, hE 6, hE 7, hE 8, hE 9, hE 10, hE 11, hE 12⟩; simp -implicitDefEqProofs only [push_cast, reduceIte, Nat.reduceEqDiff, e0, e1, e3, e4, e5, e6, e7, e8, e9, e10, e11, e12] at n; clear hE e0 e1 e3 e4 e5 e6 e7 e8 e9 e10 e11 e12; obtain ⟨e0, e1, e3, e4, e5, e6, e7, e8, e9, e10, e11, e12⟩ := n) | (with_reducible refine hK _ _ ?_; clear hK K) | (with_reducible first | refine zK ?_ | refine zU ?_ | refine zB ?_ | refine zF ?_ | refine zD ?_ | refine zN ?_ | refine zT ?_ | refine zC ?_ | refine zG ?_ | refine zV ?_ | refine zE ?_ | refine zA (by decide) ?_ | refine zL ?_ | refine zQ ?_ | refine zM ?_ | refine yB ?_ | refine yC ?_ | refine zW (by assumption) ?_ | refine zY (by assumption) ?_) | (refine zH rfl ?_) | (simp -implicitDefEqProofs only [push_cast, sevalprocAttr, eq_self, e0, e1, e3, e4, e5, e6, e7, e8, e9, e10, e11, e12, hd]) | (simp -implicitDefEqProofs (disch := omega) only [zR, zZ, zS, zJ, e0, e1, e3, e4, e5, e6, e7, e8, e9, e10, e11, e12, hd]) | (with_reducible refine yE ?_ ?_) | (refine zP rfl (fun bb => ?_) (fun bb => ?_) <;> (first | have bp := of_decide_eq_true bb | have bp := of_decide_eq_false bb | skip) <;> simp only [bb]) | (with_reducible refine zX (fun bb => ?_) (fun bb => ?_) <;> (first | have bp := of_decide_eq_true bb | have bp := of_decide_eq_false bb | skip)) | ((with_reducible refine And.intro ?_ ?_); omega) | fail)
    obtain rfl : c = M.toNat + 1 := by omega
    refine ⟨Ext.tr (hX2.tr hx2) (by repeat (first | exact Ext.refl _ | assumption | refine Ext.tick ?_ | refine Ext.push ?_ (by omega) _ | refine Ext.put ?_ (by omega) _ | refine Ext.kill ?_ (by omega) | refine Ext.killA ?_ (by assumption))), .inr ⟨hR, a, rfl, ?_⟩⟩
    rw [hoL]
    exact hs.ext (by repeat (first | exact Ext.refl _ | assumption | refine Ext.tick ?_ | refine Ext.push ?_ (by omega) _ | refine Ext.put ?_ (by omega) _ | refine Ext.kill ?_ (by omega) | refine Ext.killA ?_ (by assumption)))
end Go.Proofs.Hx
