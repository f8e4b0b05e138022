/- Plain Lean: the form of the function of a polynomial is found; the functions of Split. -/
import Derived.Test.YtohgdegklhlldaaP1
namespace Go.Proofs.Ytohgdegklhlldaa.G
open Go.RowKit Go.Proofs.YtohgdegklhlldaaW.PrintWords Go.Proofs.YtohgdegklhlldaaW.PrintMore
set_option linter.unusedVariables false

/-! falling products -/
def ff (x : Int) : Nat → Int
  | 0 => 1
  | i + 1 => ff x i * (x - i)
def fac : Nat → Int
  | 0 => 1
  | i + 1 => fac i * (i + 1)
theorem ff_shift (x : Int) : ∀ i, ff (x + 1) (i + 1) = (x + 1) * ff x i
  | 0 => by simp [ff]
  | i + 1 => by
    rw [ff, ff_shift x i, ff]
    have : x + 1 - ((i + 1 : Nat) : Int) = x - i := by omega
    rw [this, Int.mul_assoc]
theorem ff_pascal (x : Int) (i : Nat) : ff (x + 1) (i + 1) = ff x (i + 1) + (i + 1) * ff x i := by
  rw [ff_shift, ff]; grind
theorem ff_zero : ∀ i, ff 0 (i + 1) = 0
  | 0 => by simp [ff]
  | i + 1 => by rw [ff, ff_zero i, Int.zero_mul]
theorem ff_over (x : Nat) : ∀ j, x < j → ff x j = 0
  | j + 1, h => by
    rcases Nat.lt_or_ge x j with h1 | h1
    · rw [ff, ff_over x j h1, Int.zero_mul]
    · have : x = j := by omega
      subst this; rw [ff, Int.sub_self, Int.mul_zero]
theorem fac_ff : ∀ (i : Nat), ff i i = fac i
  | 0 => rfl
  | i + 1 => by
    rw [show ((i + 1 : Nat) : Int) = (i : Int) + 1 by omega, ff_shift, fac_ff i, fac, Int.mul_comm]
theorem fac_dvd : ∀ (x i : Nat), fac i ∣ ff x i
  | _, 0 => by simp [ff, fac]
  | 0, i + 1 => by show fac (i + 1) ∣ ff 0 (i + 1); rw [ff_zero]; exact Int.dvd_zero _
  | x + 1, i + 1 => by
    rw [show ((x + 1 : Nat) : Int) = (x : Int) + 1 by omega, ff_pascal]
    have h1 := fac_dvd x (i + 1)
    have h2 := fac_dvd x i
    obtain ⟨c, hc⟩ := h1
    obtain ⟨d, hd⟩ := h2
    exact ⟨c + d, by rw [hc, hd, fac]; grind⟩
theorem fac_up (i : Nat) : ∀ d, fac i ∣ fac (i + d)
  | 0 => Int.dvd_refl _
  | d + 1 => Int.dvd_trans (fac_up i d) ⟨_, rfl⟩

/-! a function told by falling products from i on -/
def ev : Nat → List Int → Int → Int
  | _, [], _ => 0
  | i, b :: bs, x => b * ff x i + ev (i + 1) bs x
def mulx : Nat → Int → List Int → List Int
  | _, c, [] => [c]
  | i, c, b :: bs => (c + b * i) :: mulx (i + 1) b bs
theorem ev_mulx (x : Int) : ∀ (bs : List Int) (i : Nat) (c : Int), ev i (mulx i c bs) x = c * ff x i + x * ev i bs x
  | [], i, c => by simp [mulx, ev]
  | b :: bs, i, c => by
    rw [mulx, ev, ev_mulx x bs (i + 1) b, ev, ff]; grind
/-- the terms from i on vanish -/
theorem ev_gone (m : Int) (x : Nat) : ∀ (bs : List Int) (i : Nat), m ∣ fac i → m ∣ ev i bs x
  | [], _, _ => Int.dvd_zero _
  | b :: bs, i, h => by
    rw [ev]
    exact Int.dvd_add (Int.dvd_trans (Int.dvd_trans h (fac_dvd x i)) (Int.dvd_mul_left _ _)) (ev_gone m x bs (i + 1) (Int.dvd_trans h (fac_up i 1)))
theorem ev_over (x : Nat) : ∀ (bs : List Int) (i : Nat), x < i → ev i bs x = 0
  | [], _, _ => rfl
  | b :: bs, i, h => by rw [ev, ff_over x i h, ev_over x bs (i + 1) (by omega)]; simp

/-- the function of a polynomial -/
theorem poly_ev (m : Nat) (hm : 2 ≤ m) (hm2 : m ≤ 64) : ∀ l : List Int, Rem m l → ∃ bs, ∀ x : Nat, x < 64 → (m : Int) ∣ atV m l x - ev 0 bs x
  | [], _ => ⟨[], fun x _ => by simp [atV, ev]⟩
  | c :: l, hl => by
    obtain ⟨bs, h⟩ := poly_ev m hm hm2 l (fun y hy => hl y (List.mem_cons_of_mem _ hy))
    refine ⟨mulx 0 c bs, fun x hx => ?_⟩
    rw [ev_mulx, atV_cons m m c l x (by omega) (by omega) (by omega) hl (by omega) (by omega)]
    have h1 := h x hx
    obtain ⟨e, he⟩ := h1
    have h2 : atV m l x = ev 0 bs x + m * e := by omega
    have h3 : (m : Int) ∣ (atV m l x * x + c) - (atV m l x * x + c) % m := Int.dvd_self_sub_emod
    obtain ⟨g, hg⟩ := h3
    refine ⟨e * x - g, ?_⟩
    have : (atV m l x * x + c) % m = (atV m l x * x + c) - m * g := by omega
    rw [this, h2]; simp only [ff]; grind

theorem mod_mul_mod (a b m : Int) : (a % m) * b % m = a * b % m := by rw [Int.mul_emod, Int.emod_emod, ← Int.mul_emod]

theorem factorial_ev (m : Nat) (hm : 2 ≤ m) (hm2 : m ≤ 64) (n : Nat) (hn : n ≤ 64) : Ev (fun k => shuffle_factorial.f k m n) (fac n % m) := by
  have main : ∀ (d i : Nat), i + d = n → Ev (fun k => shuffle_factorial.l0 k m (fac i % m) n i) (fac n % m) := by
    intro d
    induction d with
    | zero =>
      intro i hi
      have : i = n := by omega
      subst this
      refine Ev.step ?_
      simp only [shuffle_factorial.l0]
      exact Ev.neg (by omega) (Ev.const _)
    | succ d ih =>
      intro i hi
      refine Ev.step ?_
      simp only [shuffle_factorial.l0]
      refine Ev.pos (by omega) (Ev.neg (by omega) ?_)
      have h1 := Int.emod_nonneg (fac i) (show (m : Int) ≠ 0 by omega)
      have h2 := Int.emod_lt_of_pos (fac i) (show (0 : Int) < m by omega)
      have h3 : 0 ≤ fac i % m * ((i : Int) + 1) := Int.mul_nonneg h1 (by omega)
      have h4 : fac i % m * ((i : Int) + 1) ≤ 64 * 65 := Int.mul_le_mul (by omega) (by omega) (by omega) (by omega)
      rw [w64 (n := (i : Int) + 1) (by omega), w64 (by omega), tmod_emod h3, mod_mul_mod]
      exact ih (i + 1) (by omega)
  unfold shuffle_factorial.f
  refine Ev.neg (by omega) ?_
  exact main n 0 (by omega)

theorem falling_ev (m : Nat) (hm : 2 ≤ m) (hm2 : m ≤ 64) (x n : Nat) (hx : x < 64) (hn : n ≤ m) : Ev (fun k => shuffle_falling.f k m x n) (ff x n % m) := by
  have main : ∀ (d i : Nat), i + d = n → Ev (fun k => shuffle_falling.l0 k m x (ff x i % m) n i) (ff x n % m) := by
    intro d
    induction d with
    | zero =>
      intro i hi
      have : i = n := by omega
      subst this
      refine Ev.step ?_
      simp only [shuffle_falling.l0]
      exact Ev.neg (by omega) (Ev.const _)
    | succ d ih =>
      intro i hi
      refine Ev.step ?_
      simp only [shuffle_falling.l0]
      refine Ev.pos (by omega) (Ev.neg (by omega) ?_)
      have h1 := Int.emod_nonneg (ff x i) (show (m : Int) ≠ 0 by omega)
      have h2 := Int.emod_lt_of_pos (ff x i) (show (0 : Int) < m by omega)
      rw [w64 (n := (x : Int) - i) (by omega), w64 (n := (x : Int) - i + m) (by omega), tmod_emod (a := (x : Int) - i + m) (by omega)]
      have h5 := Int.emod_nonneg ((x : Int) - i + m) (show (m : Int) ≠ 0 by omega)
      have h6 := Int.emod_lt_of_pos ((x : Int) - i + m) (show (0 : Int) < m by omega)
      have h3 : 0 ≤ ff x i % m * (((x : Int) - i + m) % m) := Int.mul_nonneg h1 h5
      have h4 : ff x i % m * (((x : Int) - i + m) % m) ≤ 64 * 65 := Int.mul_le_mul (by omega) (by omega) (by omega) (by omega)
      rw [w64 (n := ff x i % m * (((x : Int) - i + m) % m)) (by omega), tmod_emod h3, w64 (by omega), ← Int.mul_emod]
      have h7 : ff x i * ((x : Int) - i + m) % m = ff x (i + 1) % m := by
        rw [ff, Int.mul_add, Int.add_mul_emod_self_right]
      rw [h7]
      exact ih (i + 1) (by omega)
  unfold shuffle_falling.f
  refine Ev.neg (by omega) ?_
  exact main n 0 (by omega)

/-- what is told of the gcd -/
def gcdOk (m F : Nat) : Bool := match shuffle_gcd.f 20 m F with
  | some g => decide (1 ≤ g) && decide (g ≤ 64) && decide (1 ≤ (m : Int).tdiv g) && decide ((m : Int).tdiv g ≤ 64) && decide (((m : Int).tdiv g * F) % m = 0)
  | none => false
set_option maxRecDepth 100000 in
theorem gcd_all : ((List.range 65).all fun m => decide (m < 2) || (List.range m).all fun F => gcdOk m F) = true := by decide +kernel
theorem gcd_ev (m F : Nat) (hm : 2 ≤ m) (hm2 : m ≤ 64) (hF : F < m) : ∃ g, Ev (fun k => shuffle_gcd.f k m F) g ∧ 1 ≤ g ∧ 1 ≤ (m : Int).tdiv g ∧ (m : Int).tdiv g ≤ 64 ∧ ((m : Int).tdiv g * F) % m = 0 := by
  have h1 := List.all_eq_true.1 gcd_all m (List.mem_range.2 (by omega))
  rw [decide_eq_false (by omega), Bool.false_or] at h1
  have h2 := List.all_eq_true.1 h1 F (List.mem_range.2 hF)
  unfold gcdOk at h2
  split at h2
  · rename_i g hg
    simp only [Bool.and_eq_true, decide_eq_true_eq] at h2
    exact ⟨g, Ev.of_mono (fun k => shuffle_gcd.mono m F k) hg, by omega, by omega, by omega, h2.2⟩
  · cases h2

/-- what is told of the degree -/
def degOk (m : Nat) : Bool := match shuffle_degree.f 200 m with
  | some D => decide (0 ≤ D) && decide (D ≤ m) && decide (fac D.toNat % m = 0)
  | none => false
set_option maxRecDepth 100000 in
theorem deg_all : ((List.range 65).all fun m => decide (m < 2) || degOk m) = true := by decide +kernel
theorem degree_ev (m : Nat) (hm : 2 ≤ m) (hm2 : m ≤ 64) : ∃ D : Nat, Ev (fun k => shuffle_degree.f k m) (D : Int) ∧ D ≤ m ∧ (m : Int) ∣ fac D := by
  have h1 := List.all_eq_true.1 deg_all m (List.mem_range.2 (by omega))
  rw [decide_eq_false (by omega), Bool.false_or] at h1
  unfold degOk at h1
  split at h1
  · rename_i D hD
    simp only [Bool.and_eq_true, decide_eq_true_eq] at h1
    have e : ((D.toNat : Nat) : Int) = D := by omega
    refine ⟨D.toNat, ?_, by omega, Int.dvd_of_emod_eq_zero h1.2⟩
    rw [e]; exact Ev.of_mono (fun k => shuffle_degree.mono m k) hD
  · cases h1

/-- the numbers that can stand at a place -/
theorem choices_ev (m : Nat) (hm : 2 ≤ m) (hm2 : m ≤ 64) (i : Nat) (hi : i ≤ 64) : ∃ ch : Nat, Ev (fun k => shuffle_choices.f k m i) (ch : Int) ∧ 1 ≤ ch ∧ ch ≤ 64 ∧ ((ch : Int) * (fac i % m)) % m = 0 := by
  have h1 := Int.emod_nonneg (fac i) (show (m : Int) ≠ 0 by omega)
  have h2 := Int.emod_lt_of_pos (fac i) (show (0 : Int) < m by omega)
  obtain ⟨g, hg, hg1, hc1, hc2, hc3⟩ := gcd_ev m (fac i % m).toNat hm hm2 (by omega)
  have e : (((fac i % m).toNat : Nat) : Int) = fac i % m := by omega
  rw [e] at hg hc3
  have e2 : ((((m : Int).tdiv g).toNat : Nat) : Int) = (m : Int).tdiv g := by omega
  refine ⟨((m : Int).tdiv g).toNat, ?_, by omega, by omega, by rw [e2]; exact hc3⟩
  unfold shuffle_choices.f
  refine Ev.bind (factorial_ev m hm hm2 i hi) (Ev.bind hg (Ev.neg (by omega) ?_))
  rw [e2, w64 (by omega)]
  exact Ev.const _
end Go.Proofs.Ytohgdegklhlldaa.G
