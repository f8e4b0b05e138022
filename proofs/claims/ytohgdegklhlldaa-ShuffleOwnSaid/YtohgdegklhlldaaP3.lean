/- Plain Lean: Form and Split answer. -/
import Derived.Test.YtohgdegklhlldaaP2
namespace Go.Proofs.Ytohgdegklhlldaa.G
open Go.RowKit Go.Proofs.YtohgdegklhlldaaW.PrintWords Go.Proofs.YtohgdegklhlldaaW.PrintMore
set_option linter.unusedVariables false

theorem tm (a m : Int) (hm : 0 < m) : -m < Int.tmod a m ∧ Int.tmod a m < m ∧ m ∣ a - Int.tmod a m := by
  have h0 : m ∣ a - Int.tmod a m := ⟨a.tdiv m, by have := Int.mul_tdiv_add_tmod a m; omega⟩
  rcases Int.lt_or_le a 0 with h | h
  · have e : Int.tmod a m = - ((-a) % m) := by rw [← tmod_emod (by omega), Int.neg_tmod, Int.neg_neg]
    have h1 := Int.emod_nonneg (-a) (show m ≠ 0 by omega)
    have h2 := Int.emod_lt_of_pos (-a) hm
    exact ⟨by omega, by omega, h0⟩
  · have e : Int.tmod a m = a % m := tmod_emod h
    have h1 := Int.emod_nonneg a (show m ≠ 0 by omega)
    have h2 := Int.emod_lt_of_pos a hm
    exact ⟨by omega, by omega, h0⟩
theorem tm0 {a m : Int} (hm : 0 < m) : Int.tmod a m = 0 ↔ m ∣ a := by
  obtain ⟨h1, h2, h3⟩ := tm a m hm
  constructor
  · intro h; rw [h, Int.sub_zero] at h3; exact h3
  · intro h
    have h4 : m ∣ Int.tmod a m := by have := Int.dvd_sub h h3; rwa [show a - (a - Int.tmod a m) = Int.tmod a m by omega] at this
    obtain ⟨c, hc⟩ := h4
    rcases Int.lt_trichotomy c 0 with h5 | h5 | h5
    · have : m * c ≤ m * (-1) := Int.mul_le_mul_of_nonneg_left (by omega) (by omega)
      omega
    · rw [hc, h5, Int.mul_zero]
    · have : m * 1 ≤ m * c := Int.mul_le_mul_of_nonneg_left (by omega) (by omega)
      omega
theorem dvd_small {m a : Int} (hm : 0 < m) (h : m ∣ a) (h0 : 0 ≤ a) (h1 : a < m) : a = 0 := by
  obtain ⟨c, hc⟩ := h
  rcases Int.lt_trichotomy c 0 with h5 | h5 | h5
  · have : m * c ≤ m * (-1) := Int.mul_le_mul_of_nonneg_left (by omega) (by omega)
    omega
  · rw [hc, h5, Int.mul_zero]
  · have : m * 1 ≤ m * c := Int.mul_le_mul_of_nonneg_left (by omega) (by omega)
    omega
theorem alg1 (m e1 e3 f3 c b F r : Int) (h1 : r - b * F = m * e1) (h2 : c * (F - m * e3) - r = m * f3) : (b - c) * F = m * (- e1 - f3 - c * e3) := by grind
theorem alg2 (m f1 f2 f4 z c b F fx r r' E : Int) (hf1 : r - (b * fx + E) = m * f1) (hf2 : r' - (r - c * fx) = m * f2) (hf4 : fx = F * f4) (q2 : (b - c) * F = m * z) : r' - E = m * (f1 + f2 + z * f4) := by
  have q3 : (b - c) * fx = m * z * f4 := by rw [hf4, ← q2]; grind
  grind

theorem Rem.set {m : Int} {L : List Int} (h : Rem m L) (j : Nat) {v : Int} (hv : 0 ≤ v ∧ v < m) : Rem m (L.set j v) := by
  intro x hx
  rcases List.mem_or_eq_of_mem_set hx with hx | hx
  · exact h x hx
  · rw [hx]; exact hv
theorem Rem.rd {m : Int} {L : List Int} (h : Rem m L) {x : Nat} (hx : x < L.length) : 0 ≤ rd L x ∧ rd L x < m := h _ (rd_mem (by omega) (by omega))

/-- what a number of the form leaves -/
theorem form_l2 (m : Nat) (hm : 2 ≤ m) (hm2 : m ≤ 64) (i : Nat) (hi : i ≤ m) (c : Nat) (hc : c ≤ 64) (X : List Int) (D y : Int) :
    ∀ (d j : Nat) (L : List Int), j + d = m → L.length = m → Rem m L →
      ∃ L' : List Int, L'.length = m ∧ Rem m L' ∧ (∀ x : Nat, x < j → rd L' x = rd L x) ∧ (∀ x : Nat, x < m → j ≤ x → (m : Int) ∣ rd L' x - (rd L x - c * ff x i)) ∧
        ∀ r, Ev (fun k => shuffle_form.l0 k m X L' D (wrap64 (y + 1))) r → Ev (fun k => shuffle_form.l2 k m X L i c D y m j) r := by
  intro d
  induction d with
  | zero =>
    intro j L hj hL hR
    refine ⟨L, hL, hR, fun x _ => rfl, fun x h1 h2 => absurd h1 (by omega), fun r h => Ev.step ?_⟩
    simp only [shuffle_form.l2]
    exact Ev.neg (by omega) h
  | succ d ih =>
    intro j L hj hL hR
    have hr := hR.rd (x := j) (by omega)
    have ht1 := Int.emod_nonneg (ff j i) (show (m : Int) ≠ 0 by omega)
    have ht2 := Int.emod_lt_of_pos (ff j i) (show (0 : Int) < m by omega)
    have ht3 : 0 ≤ (c : Int) * (ff j i % m) := Int.mul_nonneg (by omega) ht1
    have ht4 : (c : Int) * (ff j i % m) ≤ 64 * 64 := Int.mul_le_mul (by omega) (by omega) (by omega) (by omega)
    obtain ⟨a, ha⟩ : ∃ a, rd L j - (c : Int) * (ff j i % m) = a := ⟨_, rfl⟩
    obtain ⟨q1, q2, q3⟩ := tm a m (by omega)
    obtain ⟨v, hv⟩ : ∃ v, (Int.tmod a m + m) % m = v := ⟨_, rfl⟩
    have hv1 := Int.emod_nonneg (Int.tmod a m + m) (show (m : Int) ≠ 0 by omega)
    have hv2 := Int.emod_lt_of_pos (Int.tmod a m + m) (show (0 : Int) < m by omega)
    rw [hv] at hv1 hv2
    obtain ⟨L', h1, h2, h3, h4, h5⟩ := ih (j + 1) (L.set j v) (by omega) (by simpa using hL) (hR.set j ⟨hv1, hv2⟩)
    refine ⟨L', h1, h2, fun x hx => ?_, fun x hx hjx => ?_, fun r h => ?_⟩
    · rw [h3 x (by omega), rd_set _ _ _ _ (by omega), if_neg (by omega)]
    · by_cases e : x = j
      · subst e
        rw [h3 x (by omega), rd_set _ _ _ _ (by omega), if_pos rfl]
        obtain ⟨e1, he1⟩ : (m : Int) ∣ (Int.tmod a m + m) - (Int.tmod a m + m) % m := Int.dvd_self_sub_emod
        obtain ⟨e2, he2⟩ := q3
        obtain ⟨e3, he3⟩ : (m : Int) ∣ ff x i - ff x i % m := Int.dvd_self_sub_emod
        rw [hv] at he1
        have he4 : ff x i % m = ff x i - m * e3 := by omega
        rw [he4] at ha
        refine ⟨1 - e1 - e2 + c * e3, ?_⟩
        grind
      · have := h4 x hx (by omega)
        rwa [rd_set _ _ _ _ (by omega), if_neg e] at this
    · refine Ev.step ?_
      simp only [shuffle_form.l2]
      refine Ev.pos (by omega) (Ev.pos (by omega) (Ev.pos (by omega) (Ev.bind (falling_ev m hm hm2 j i (by omega) hi) (Ev.neg (by omega) ?_))))
      rw [w64 (n := (c : Int) * (ff j i % m)) (by omega), w64 (n := rd L j - (c : Int) * (ff j i % m)) (by omega), ha, w64 (n := Int.tmod a m + m) (by omega), tmod_emod (by omega), hv, Int.toNat_natCast, w64 (n := (j : Int) + 1) (by omega)]
      exact h5 r h

theorem form_l1 (m : Nat) (hm : 2 ≤ m) (hm2 : m ≤ 64) (i : Nat) (hi : i < m) (ch c0 : Nat) (hch : Ev (fun k => shuffle_choices.f k m i) (ch : Int)) (hch2 : ch ≤ 64) (hc0 : c0 < ch) (X L : List Int) (hL : L.length = m) (hR : Rem m L) (D y : Int)
    (h0 : (m : Int) ∣ c0 * (fac i % m) - rd L i) :
    ∀ (d c : Nat), c + d = c0 → ∃ c1 : Nat, c ≤ c1 ∧ c1 ≤ c0 ∧ (m : Int) ∣ c1 * (fac i % m) - rd L i ∧
      ∀ r, Ev (fun k => shuffle_form.j2 k m X L i c1 D y) r → Ev (fun k => shuffle_form.l1 k m X L i c D y) r := by
  intro d
  induction d with
  | zero =>
    intro c hc
    have : c = c0 := by omega
    subst this
    have hr := hR.rd (x := i) (by omega)
    have ht1 := Int.emod_nonneg (fac i) (show (m : Int) ≠ 0 by omega)
    have ht2 := Int.emod_lt_of_pos (fac i) (show (0 : Int) < m by omega)
    have ht3 : 0 ≤ (c : Int) * (fac i % m) := Int.mul_nonneg (by omega) ht1
    have ht4 : (c : Int) * (fac i % m) ≤ 64 * 64 := Int.mul_le_mul (by omega) (by omega) (by omega) (by omega)
    refine ⟨c, Nat.le_refl _, Nat.le_refl _, h0, fun r h => Ev.step ?_⟩
    simp only [shuffle_form.l1]
    refine Ev.bind hch (Ev.pos (by omega) (Ev.bind (factorial_ev m hm hm2 i (by omega)) (Ev.pos (by omega) (Ev.pos (by omega) (Ev.neg (by omega) (Ev.pos ?_ h))))))
    rw [w64 (n := (c : Int) * (fac i % m)) (by omega), w64 (by omega)]
    exact (tm0 (by omega)).2 h0
  | succ d ih =>
    intro c hc
    have hr := hR.rd (x := i) (by omega)
    have ht1 := Int.emod_nonneg (fac i) (show (m : Int) ≠ 0 by omega)
    have ht2 := Int.emod_lt_of_pos (fac i) (show (0 : Int) < m by omega)
    have ht3 : 0 ≤ (c : Int) * (fac i % m) := Int.mul_nonneg (by omega) ht1
    have ht4 : (c : Int) * (fac i % m) ≤ 64 * 64 := Int.mul_le_mul (by omega) (by omega) (by omega) (by omega)
    by_cases hd : (m : Int) ∣ c * (fac i % m) - rd L i
    · refine ⟨c, Nat.le_refl _, by omega, hd, fun r h => Ev.step ?_⟩
      simp only [shuffle_form.l1]
      refine Ev.bind hch (Ev.pos (by omega) (Ev.bind (factorial_ev m hm hm2 i (by omega)) (Ev.pos (by omega) (Ev.pos (by omega) (Ev.neg (by omega) (Ev.pos ?_ h))))))
      rw [w64 (n := (c : Int) * (fac i % m)) (by omega), w64 (by omega)]
      exact (tm0 (by omega)).2 hd
    · obtain ⟨c1, h1, h2, h3, h4⟩ := ih (c + 1) (by omega)
      refine ⟨c1, by omega, h2, h3, fun r h => Ev.step ?_⟩
      simp only [shuffle_form.l1]
      refine Ev.bind hch (Ev.pos (by omega) (Ev.bind (factorial_ev m hm hm2 i (by omega)) (Ev.pos (by omega) (Ev.pos (by omega) (Ev.neg (by omega) (Ev.neg ?_ ?_))))))
      · rw [w64 (n := (c : Int) * (fac i % m)) (by omega), w64 (by omega)]
        exact fun e => hd ((tm0 (by omega)).1 e)
      · rw [w64 (by omega)]
        exact h4 r h

theorem form_l3 (L : List Int) (hz : ∀ x ∈ L, x = 0) : ∀ (n : Nat) (X : List Int), X.length = n → n ≤ 1000 → ∃ r, Ev (fun k => shuffle_form.l3 k X L) (r, true) := by
  have ha : slices_ContainsFunc_int_int.f L = some false := by
    unfold slices_ContainsFunc_int_int.f
    congr 1
    rw [List.any_eq_false]
    intro x hx
    simp [hz x hx]
  intro n
  induction n with
  | zero =>
    intro X hX _
    refine ⟨X, Ev.step ?_⟩
    simp only [shuffle_form.l3]
    exact Ev.neg (by omega) (Ev.bindc ha (Ev.const _))
  | succ n ih =>
    intro X hX hn
    by_cases h : rd X ((X.length : Int) - 1) = 0
    · obtain ⟨r, hr⟩ := ih (X.take n) (by simp; omega) (by omega)
      refine ⟨r, Ev.step ?_⟩
      simp only [shuffle_form.l3]
      rw [w64 (by omega)]
      refine Ev.pos (by omega) (Ev.pos (by omega) (Ev.pos (by omega) (Ev.pos h (Ev.pos (by omega) ?_))))
      rw [show ((X.length : Int) - 1).toNat = n by omega]
      exact hr
    · refine ⟨X, Ev.step ?_⟩
      simp only [shuffle_form.l3]
      rw [w64 (by omega)]
      exact Ev.pos (by omega) (Ev.pos (by omega) (Ev.pos (by omega) (Ev.neg h (Ev.bindc ha (Ev.const _)))))

theorem form_l0 (m : Nat) (hm : 2 ≤ m) (hm2 : m ≤ 64) (D : Nat) (hD : D ≤ m) (hfac : (m : Int) ∣ fac D) :
    ∀ (d i : Nat) (X L : List Int), i + d = D → X.length = i → L.length = m → Rem m L → (∃ bs, ∀ x : Nat, x < m → (m : Int) ∣ rd L x - ev i bs x) → ∃ r, Ev (fun k => shuffle_form.l0 k m X L D i) (r, true) := by
  intro d
  induction d with
  | zero =>
    intro i X L hi hX hL hR ⟨bs, hbs⟩
    have : i = D := by omega
    subst this
    obtain ⟨r, hr⟩ := form_l3 L (fun x hx => by
      obtain ⟨j, hj, rfl⟩ := mem_rd hx
      have h1 := hbs j (by omega)
      have h2 := ev_gone m j bs i hfac
      have h3 := Int.dvd_add h1 h2
      rw [Int.sub_add_cancel] at h3
      have := hR.rd hj
      exact dvd_small (by omega) h3 this.1 this.2) X.length X rfl (by omega)
    refine ⟨r, Ev.step ?_⟩
    simp only [shuffle_form.l0]
    exact Ev.neg (by omega) hr
  | succ d ih =>
    intro i X L hi hX hL hR ⟨bs, hbs⟩
    obtain ⟨b, bs', hb⟩ : ∃ b bs', ∀ x : Nat, ev i bs x = b * ff x i + ev (i + 1) bs' x := by
      cases bs with
      | nil => exact ⟨0, [], fun x => by simp [ev]⟩
      | cons b bs' => exact ⟨b, bs', fun x => rfl⟩
    obtain ⟨ch, hch, hch1, hch2, hch3⟩ := choices_ev m hm hm2 i (by omega)
    have hLi := hbs i (by omega)
    rw [hb, fac_ff, ev_over i bs' (i + 1) (by omega), Int.add_zero] at hLi
    obtain ⟨e1, he1⟩ := hLi
    obtain ⟨e2, he2⟩ := Int.dvd_of_emod_eq_zero hch3
    obtain ⟨e3, he3⟩ : (m : Int) ∣ fac i - fac i % m := Int.dvd_self_sub_emod
    have hb0 := Int.emod_nonneg b (show (ch : Int) ≠ 0 by omega)
    have hb1 := Int.emod_lt_of_pos b (show (0 : Int) < ch by omega)
    obtain ⟨e4, he4⟩ : (ch : Int) ∣ b - b % ch := Int.dvd_self_sub_emod
    have ec : (((b % ch).toNat : Nat) : Int) = b % ch := by omega
    have h0 : (m : Int) ∣ ((b % ch).toNat : Int) * (fac i % m) - rd L i := by
      rw [ec]
      have hbb : b % ch = b - ch * e4 := by omega
      rw [hbb]
      refine ⟨- e1 - e2 * e4 - b * e3, ?_⟩
      have hF : fac i = fac i % m + m * e3 := by omega
      generalize fac i % (m : Int) = F at *
      have : rd L i = b * fac i + m * e1 := by omega
      rw [this, hF]
      grind
    obtain ⟨c1, _, hc1, hc2, hc3⟩ := form_l1 m hm hm2 i (by omega) ch (b % ch).toNat hch hch2 (by omega) X L hL hR D i h0 (b % ch).toNat 0 (by omega)
    obtain ⟨L', h1, h2, _, h4, h5⟩ := form_l2 m hm hm2 i (by omega) c1 (by omega) (X ++ [(c1 : Int)]) D i m 0 L (by omega) hL hR
    obtain ⟨r, hr⟩ := ih (i + 1) (X ++ [(c1 : Int)]) L' (by omega) (by simp [hX]) h1 h2 ⟨bs', fun x hx => by
      have q1 := hbs x hx
      rw [hb] at q1
      obtain ⟨f1, hf1⟩ := q1
      obtain ⟨f2, hf2⟩ := h4 x hx (by omega)
      obtain ⟨f3, hf3⟩ := hc2
      obtain ⟨f4, hf4⟩ := fac_dvd x i
      have hF : fac i % m = fac i - m * e3 := by omega
      rw [hF] at hf3
      exact ⟨_, alg2 _ _ _ _ _ _ _ _ _ _ _ _ hf1 hf2 hf4 (alg1 _ _ _ _ _ _ _ _ he1 hf3)⟩⟩
    refine ⟨r, Ev.step ?_⟩
    simp only [shuffle_form.l0]
    refine Ev.pos (by omega) (hc3 _ (Ev.step ?_))
    simp only [shuffle_form.j2]
    refine Ev.bind hch (Ev.neg (by omega) (Ev.pos (by omega) ?_))
    rw [hL]
    refine h5 _ ?_
    rw [w64 (by omega)]
    exact hr

theorem form_ev (m : Nat) (hm : 2 ≤ m) (hm2 : m ≤ 64) (l : List Int) (hl : Rem m l) : ∃ c, Ev (fun k => shuffle_Form.f k m (valV m l)) (c, 0) := by
  obtain ⟨D, hD, hD1, hD2⟩ := degree_ev m hm hm2
  obtain ⟨bs, hbs⟩ := poly_ev m hm hm2 l hl
  obtain ⟨r, hr⟩ := form_l0 m hm hm2 D hD1 hD2 D 0 [] (valV m l) (by omega) rfl (valV_len m l) (valV_rem m l (by omega) hm2 hl) ⟨bs, fun x hx => by
    have := hbs x (by omega)
    rwa [show rd (valV m l) x = atV m l x by rw [rd_nat, valV, List.getD_eq_getElem?_getD, List.getElem?_map, List.getElem?_range hx]; rfl]⟩
  refine ⟨r, ?_⟩
  unfold shuffle_Form.f
  refine Ev.bindc (isFunc m hm hm2 _ (valV_rem m l (by omega) hm2 hl) (valV_len m l)) (Ev.pos rfl (Ev.bind (a := (r, true)) ?_ (Ev.pos rfl (Ev.const _))))
  unfold shuffle_form.f
  refine Ev.bindc (a := valV m l) (by unfold slices_Clone_int_int.f; rw [if_pos (by rw [valV_len]; omega)]) (Ev.bind hD ?_)
  rw [show mn (D : Int) m = D by unfold mn; split <;> omega]
  exact hr

/-- what is told of the primes -/
def primOk (m : Nat) : Bool := match shuffle_primes.f 300 m with
  | some ps => decide (0 < ps.length) && decide (ps.length ≤ 50) && ps.all fun p => match shuffle_prime_power.f 100 p.f0 p.f1 with
    | some q => decide (1 ≤ q) && decide (q ≤ m)
    | none => false
  | none => false
set_option maxRecDepth 100000 in
theorem prim_all : ((List.range 65).all fun m => decide (m < 2) || primOk m) = true := by decide +kernel
theorem primes_ev (m : Nat) (hm : 2 ≤ m) (hm2 : m ≤ 64) : ∃ ps, Ev (fun k => shuffle_primes.f k m) ps ∧ 0 < ps.length ∧ ps.length ≤ 50 ∧ ∀ p ∈ ps, ∃ q : Nat, Ev (fun k => shuffle_prime_power.f k p.f0 p.f1) (q : Int) ∧ 1 ≤ q ∧ q ≤ m := by
  have h1 := List.all_eq_true.1 prim_all m (List.mem_range.2 (by omega))
  rw [decide_eq_false (by omega), Bool.false_or] at h1
  unfold primOk at h1
  split at h1
  · rename_i ps hps
    simp only [Bool.and_eq_true, decide_eq_true_eq] at h1
    refine ⟨ps, Ev.of_mono (fun k => shuffle_primes.mono m k) hps, h1.1.1, h1.1.2, fun p hp => ?_⟩
    have h2 := List.all_eq_true.1 h1.2 p hp
    split at h2
    · rename_i q hq
      simp only [Bool.and_eq_true, decide_eq_true_eq] at h2
      have e : ((q.toNat : Nat) : Int) = q := by omega
      exact ⟨q.toNat, by rw [e]; exact Ev.of_mono (fun k => shuffle_prime_power.mono p.f0 p.f1 k) hq, by omega, by omega⟩
    · cases h2
  · cases h1

theorem split_ev (m : Nat) (hm : 2 ≤ m) (hm2 : m ≤ 64) (l : List Int) (hl : Rem m l) (hlen : l.length ≤ 12) :
    ∃ ps fs, Ev (fun k => shuffle_Split.f k m l) (ps, fs, 0) ∧ 0 < fs.length ∧ fs.length ≤ 50 ∧ ps.length ≤ 50 ∧ Rem m (rd_L1 fs 0) ∧ (rd_L1 fs 0).length ≤ 64 := by
  obtain ⟨P, hP, hP1, hP2, hP3⟩ := primes_ev m hm hm2
  have row : ∀ (q : Nat), 1 ≤ q → q ≤ m → ∀ (d i : Nat) (acc : List Int) (ps : List S35) (fs : List (List Int)) (n y a b : Int), i + d = q → acc.length = i → Rem m acc → ps.length ≤ 60 → fs.length ≤ 60 →
      ∃ f : List Int, f.length = q ∧ Rem m f ∧ ∀ r, Ev (fun k => shuffle_Split.l0 k l (ps ++ [⟨a, b⟩]) (fs ++ [f]) P n (wrap64 (y + 1))) r → Ev (fun k => shuffle_Split.l1 k l ps fs q acc P n y q i a b) r := by
    intro q hq1 hq2 d
    induction d with
    | zero =>
      intro i acc ps fs n y a b hi hacc hR hps hfs
      refine ⟨acc, by omega, hR, fun r h => Ev.step ?_⟩
      simp only [shuffle_Split.l1]
      exact Ev.neg (by omega) (Ev.pos (by omega) (Ev.pos (by omega) h))
    | succ d ih =>
      intro i acc ps fs n y a b hi hacc hR hps hfs
      have hv := atV_range q m l i (by omega) (by omega) (by omega) hl (by omega) (by omega)
      obtain ⟨f, hf1, hf2, hf3⟩ := ih (i + 1) (acc ++ [atV q l i]) ps fs n y a b (by omega) (by simp [hacc]) (fun x hx => by
        rcases List.mem_append.1 hx with hx | hx
        · exact hR x hx
        · rw [List.mem_singleton.1 hx]; omega) hps hfs
      refine ⟨f, hf1, hf2, fun r h => Ev.step ?_⟩
      simp only [shuffle_Split.l1]
      refine Ev.pos (by omega) (Ev.bindc (at_f _ _ _ (by omega)) (Ev.pos (by omega) ?_))
      rw [w64 (by omega)]
      exact hf3 r h
  have main : ∀ (d i : Nat) (ps : List S35) (fs : List (List Int)), i + d = P.length → ps.length = i → fs.length = i → (∀ f ∈ fs, Rem m f ∧ f.length ≤ 64) →
      ∃ ps' fs', Ev (fun k => shuffle_Split.l0 k l ps fs P (P.length : Int) i) (ps', fs', 0) ∧ fs'.length = P.length ∧ ps'.length = P.length ∧ ∀ f ∈ fs', Rem m f ∧ f.length ≤ 64 := by
    intro d
    induction d with
    | zero =>
      intro i ps fs hi hps hfs hF
      refine ⟨ps, fs, Ev.step ?_, by omega, by omega, hF⟩
      simp only [shuffle_Split.l0]
      exact Ev.neg (by omega) (Ev.const _)
    | succ d ih =>
      intro i ps fs hi hps hfs hF
      have hmem : rd_T35 P i ∈ P := by
        unfold rd_T35; rw [Int.toNat_natCast, List.getD_eq_getElem?_getD, List.getElem?_eq_getElem (by omega)]; exact List.getElem_mem _
      obtain ⟨q, hq, hq1, hq2⟩ := hP3 _ hmem
      obtain ⟨f, hf1, hf2, hf3⟩ := row q hq1 hq2 q 0 [] ps fs P.length i (rd_T35 P i).f0 (rd_T35 P i).f1 (by omega) rfl (fun x hx => by cases hx) (by omega) (by omega)
      obtain ⟨ps', fs', h1, h2, h3, h4⟩ := ih (i + 1) (ps ++ [⟨(rd_T35 P i).f0, (rd_T35 P i).f1⟩]) (fs ++ [f]) (by omega) (by simp [hps]) (by simp [hfs]) (fun g hg => by
        rcases List.mem_append.1 hg with hg | hg
        · exact hF g hg
        · rw [List.mem_singleton.1 hg]; exact ⟨hf2, by omega⟩)
      refine ⟨ps', fs', Ev.step ?_, h2, h3, h4⟩
      simp only [shuffle_Split.l0]
      refine Ev.pos (by omega) (Ev.pos (by omega) (Ev.pos (by omega) (Ev.bind hq (hf3 _ ?_))))
      rw [w64 (by omega)]
      exact h1
  obtain ⟨ps, fs, h1, h2, h3, h4⟩ := main P.length 0 [] [] (by omega) rfl rfl (fun f hf => by cases hf)
  have h5 := h4 (rd_L1 fs 0) (by
    unfold rd_L1; rw [List.getD_eq_getElem?_getD, List.getElem?_eq_getElem (show (0 : Int).toNat < fs.length by show 0 < fs.length; omega)]; exact List.getElem_mem _)
  refine ⟨ps, fs, ?_, by omega, by omega, by omega, h5.1, h5.2⟩
  unfold shuffle_Split.f
  exact Ev.bindc (isPoly m hm hm2 l hl hlen) (Ev.pos rfl (Ev.bind hP h1))
end Go.Proofs.Ytohgdegklhlldaa.G
