/- Plain Lean: the numbers of ways, as sums over the parts of a set; a further piece. -/
import Derived.Test.YtpckfllalpiliaaU2
import Derived.Test.YtpckfllalpiliaaP2
namespace Go.Proofs.Ytpckfllalpiliaa.G
open Go.RowKit Go.Proofs.YtpckfllalpiliaaW.PrintWords Go.Proofs.YtpckfllalpiliaaW.PrintMore
set_option linter.unusedVariables false

abbrev MM : Nat := 18446744073709551615
theorem tb {L r : Nat} (h : r < 2 ^ L) (j : Nat) : (r + 2 ^ L).testBit j = (decide (j = L) || r.testBit j) := by
  rw [Nat.add_comm]
  rcases Nat.lt_trichotomy j L with h1 | h1 | h1
  · rw [Nat.testBit_two_pow_add_gt h1, show decide (j = L) = false from decide_eq_false (by omega)]; rfl
  · subst h1
    rw [Nat.testBit_two_pow_add_eq, Nat.testBit_lt_two_pow h]; simp
  · have h2 : 2 ^ (L + 1) ≤ 2 ^ j := Nat.pow_le_pow_right (by decide) h1
    rw [Nat.testBit_lt_two_pow (by rw [Nat.pow_succ] at h2; omega), Nat.testBit_lt_two_pow (by rw [Nat.pow_succ] at h2; omega), show decide (j = L) = false from decide_eq_false (by omega)]; rfl
theorem cm {s : Nat} (h : s < 18446744073709551616) (j : Nat) : (MM - s).testBit j = (decide (j < 64) && !s.testBit j) := by
  have := Nat.testBit_two_pow_sub_succ (x := s) (n := 64) h j
  rw [← this]
  congr 1
  show 18446744073709551615 - s = 18446744073709551616 - (s + 1)
  omega
theorem and_top {L a r : Nat} (ha : a < 2 ^ L) (hr : r < 2 ^ L) : (a + 2 ^ L) &&& (r + 2 ^ L) = (a &&& r) + 2 ^ L := by
  have h1 : a &&& r < 2 ^ L := Nat.lt_of_le_of_lt Nat.and_le_left ha
  apply Nat.eq_of_testBit_eq
  intro j
  rw [Nat.testBit_and, tb ha, tb hr, tb h1, Nat.testBit_and]
  cases decide (j = L) <;> simp
theorem and_low {L a r : Nat} (ha : a < 2 ^ L) (hr : r < 2 ^ L) : a &&& (r + 2 ^ L) = a &&& r := by
  apply Nat.eq_of_testBit_eq
  intro j
  rw [Nat.testBit_and, tb hr, Nat.testBit_and]
  by_cases h : j = L
  · subst h; rw [Nat.testBit_lt_two_pow ha]; simp
  · rw [decide_eq_false h]; simp
theorem or_top {L a r : Nat} (ha : a < 2 ^ L) (hr : r < 2 ^ L) : (a + 2 ^ L) ||| r = (a ||| r) + 2 ^ L := by
  have h1 : a ||| r < 2 ^ L := Nat.or_lt_two_pow ha hr
  apply Nat.eq_of_testBit_eq
  intro j
  rw [Nat.testBit_or, tb ha, tb h1, Nat.testBit_or, Bool.or_assoc]
theorem pow_lt64 {L : Nat} (hL : L ≤ 12) : 2 ^ L ≤ 4096 := two_pow_le (n := 12) hL
theorem diff_top {L t r : Nat} (hL : L ≤ 12) (ht : t < 2 ^ L) (hr : r < 2 ^ L) : (r + 2 ^ L) &&& (MM - (t + 2 ^ L)) = r &&& (MM - t) := by
  have hp := pow_lt64 hL
  apply Nat.eq_of_testBit_eq
  intro j
  rw [Nat.testBit_and, Nat.testBit_and, tb hr, cm (by omega), cm (by omega), tb ht]
  by_cases h : j = L
  · subst h; rw [Nat.testBit_lt_two_pow hr]; simp
  · rw [decide_eq_false h]; simp
theorem diff_low {L t r : Nat} (hL : L ≤ 12) (ht : t < 2 ^ L) (hr : r < 2 ^ L) : (r + 2 ^ L) &&& (MM - t) = (r &&& (MM - t)) + 2 ^ L := by
  have hp := pow_lt64 hL
  have h1 : r &&& (MM - t) < 2 ^ L := Nat.lt_of_le_of_lt Nat.and_le_left hr
  apply Nat.eq_of_testBit_eq
  intro j
  rw [Nat.testBit_and, tb hr, tb h1, Nat.testBit_and, cm (by omega)]
  by_cases h : j = L
  · subst h; rw [Nat.testBit_lt_two_pow ht, decide_eq_true (show j < 64 by omega)]; simp
  · rw [decide_eq_false h]; simp
theorem low_all {L : Nat} {r : Nat} (hr : r < 2 ^ L) : (2 ^ L - 1) &&& (r + 2 ^ L) = r := by
  apply Nat.eq_of_testBit_eq
  intro j
  rw [Nat.testBit_and, tb hr, Nat.testBit_two_pow_sub_one]
  by_cases h : j < L
  · rw [decide_eq_true h, decide_eq_false (show ¬ j = L by omega)]; simp
  · rw [decide_eq_false h, Nat.testBit_lt_two_pow (Nat.lt_of_lt_of_le hr (Nat.pow_le_pow_right (by decide) (by omega)))]; simp

/-- the sum over the parts s of r, downward from s -/
def E (f : Nat → Int) (r : Nat) (s : Nat) : Int := if h : s = 0 then f 0 else f s + E f r ((s - 1) &&& r)
termination_by s
decreasing_by have := Nat.and_le_left (n := s - 1) (m := r); omega
theorem E_zero (f : Nat → Int) (r : Nat) : E f r 0 = f 0 := by rw [E, dif_pos rfl]
theorem E_succ (f : Nat → Int) (r : Nat) {s : Nat} (h : s ≠ 0) : E f r s = f s + E f r ((s - 1) &&& r) := by rw [E, dif_neg h]
theorem sub_next {s r : Nat} : ((s - 1) &&& r) &&& r = (s - 1) &&& r := by rw [Nat.and_assoc, Nat.and_self]
theorem E_congr (r : Nat) (f g : Nat → Int) : ∀ s, s &&& r = s → (∀ t, t &&& r = t → f t = g t) → E f r s = E g r s := by
  intro s
  induction s using Nat.strongRecOn with
  | ind s ih =>
    intro hs h
    by_cases e : s = 0
    · subst e; rw [E_zero, E_zero, h 0 (by simp)]
    · rw [E_succ f r e, E_succ g r e, h s hs, ih _ (by have := Nat.and_le_left (n := s - 1) (m := r); omega) sub_next h]
theorem E_le (r : Nat) (f g : Nat → Int) : ∀ s, s &&& r = s → (∀ t, t &&& r = t → f t ≤ g t) → E f r s ≤ E g r s := by
  intro s
  induction s using Nat.strongRecOn with
  | ind s ih =>
    intro hs h
    by_cases e : s = 0
    · subst e; rw [E_zero, E_zero]; exact h 0 (by simp)
    · rw [E_succ f r e, E_succ g r e]
      have h1 := h s hs
      have h2 := ih ((s - 1) &&& r) (by have := Nat.and_le_left (n := s - 1) (m := r); omega) sub_next h
      omega
theorem E_nonneg (r : Nat) (f : Nat → Int) : ∀ s, s &&& r = s → (∀ t, t &&& r = t → 0 ≤ f t) → 0 ≤ E f r s := by
  intro s
  induction s using Nat.strongRecOn with
  | ind s ih =>
    intro hs h
    by_cases e : s = 0
    · subst e; rw [E_zero]; exact h 0 (by simp)
    · rw [E_succ f r e]
      have h1 := h s hs
      have h2 := ih ((s - 1) &&& r) (by have := Nat.and_le_left (n := s - 1) (m := r); omega) sub_next h
      omega
theorem E_mul (c : Int) (f : Nat → Int) (r : Nat) : ∀ s, E (fun t => c * f t) r s = c * E f r s := by
  intro s
  induction s using Nat.strongRecOn with
  | ind s ih =>
    by_cases e : s = 0
    · subst e; rw [E_zero, E_zero]
    · rw [E_succ _ r e, E_succ _ r e, ih _ (by have := Nat.and_le_left (n := s - 1) (m := r); omega), Int.mul_add]
/-- the upper half, then the lower one -/
theorem E_low {L r : Nat} (hr : r < 2 ^ L) (f : Nat → Int) : ∀ s, s < 2 ^ L → E f (r + 2 ^ L) s = E f r s := by
  intro s
  induction s using Nat.strongRecOn with
  | ind s ih =>
    intro hs
    by_cases e : s = 0
    · subst e; rw [E_zero, E_zero]
    · have h1 := Nat.and_le_left (n := s - 1) (m := r)
      rw [E_succ _ _ e, E_succ _ _ e, and_low (by omega) hr, ih _ (by omega) (by omega)]
theorem E_top {L r : Nat} (hr : r < 2 ^ L) (f : Nat → Int) : ∀ s, s < 2 ^ L → E f (r + 2 ^ L) (s + 2 ^ L) = E (fun t => f (t + 2 ^ L)) r s + E f r r := by
  intro s
  have hp : 0 < 2 ^ L := Nat.two_pow_pos L
  induction s using Nat.strongRecOn with
  | ind s ih =>
    intro hs
    rw [E_succ _ _ (by omega)]
    by_cases e : s = 0
    · subst e
      rw [E_zero, Nat.zero_add, low_all hr, E_low hr _ _ hr]
    · have h1 := Nat.and_le_left (n := s - 1) (m := r)
      rw [show s + 2 ^ L - 1 = s - 1 + 2 ^ L by omega, and_top (by omega) hr, ih _ (by omega) (by omega), E_succ _ r e, Int.add_assoc]

/-- c to the number of digits -/
def pw (c : Int) : Nat → Nat → Int
  | 0, _ => 1
  | L + 1, m => if 2 ^ L ≤ m then c * pw c L (m - 2 ^ L) else pw c L m
def popc : Nat → Nat → Nat
  | 0, _ => 0
  | L + 1, m => if 2 ^ L ≤ m then popc L (m - 2 ^ L) + 1 else popc L m
theorem pw_popc (c : Int) : ∀ (L m : Nat), pw c L m = c ^ popc L m
  | 0, m => by simp [pw, popc]
  | L + 1, m => by
    rw [pw, popc]
    split
    · rw [pw_popc c L, Int.pow_succ, Int.mul_comm]
    · exact pw_popc c L m
theorem popc_le : ∀ (L m : Nat), popc L m ≤ L
  | 0, _ => Nat.le_refl _
  | L + 1, m => by
    rw [popc]
    split
    · have := popc_le L (m - 2 ^ L); omega
    · have := popc_le L m; omega
theorem pw_sum : ∀ (L r : Nat), L ≤ 12 → r < 2 ^ L → E (fun t => pw 6 L (r &&& (MM - t))) r r = pw 7 L r
  | 0, r, _, h => by
    have : r = 0 := by simpa using h
    subst this
    rw [E_zero]; rfl
  | L + 1, r, hL, h => by
    by_cases h2 : 2 ^ L ≤ r
    · obtain ⟨q, rfl⟩ : ∃ q, r = q + 2 ^ L := ⟨r - 2 ^ L, by omega⟩
      have hq : q < 2 ^ L := by rw [Nat.pow_succ] at h; omega
      have ih := pw_sum L q (by omega) hq
      rw [E_top hq _ q hq]
      have e1 : E (fun t => pw 6 (L + 1) (q + 2 ^ L &&& (MM - (t + 2 ^ L)))) q q = E (fun t => pw 6 L (q &&& (MM - t))) q q := by
        refine E_congr q _ _ q (Nat.and_self q) (fun t ht => ?_)
        have htq : t ≤ q := by rw [← ht]; exact Nat.and_le_right
        rw [diff_top (by omega) (by omega) hq, pw, if_neg]
        have := Nat.and_le_left (n := q) (m := MM - t)
        omega
      have e2 : E (fun t => pw 6 (L + 1) (q + 2 ^ L &&& (MM - t))) q q = E (fun t => 6 * pw 6 L (q &&& (MM - t))) q q := by
        refine E_congr q _ _ q (Nat.and_self q) (fun t ht => ?_)
        have htq : t ≤ q := by rw [← ht]; exact Nat.and_le_right
        rw [diff_low (by omega) (by omega) hq, pw, if_pos (by omega), Nat.add_sub_cancel]
      rw [e1, e2, E_mul, ih, pw, if_pos h2, Nat.add_sub_cancel]
      omega
    · have ih := pw_sum L r (by omega) (by omega)
      rw [pw, if_neg h2, ← ih]
      refine E_congr r _ _ r (Nat.and_self r) (fun t ht => ?_)
      rw [pw, if_neg]
      have := Nat.and_le_left (n := r) (m := MM - t)
      omega

/-- one summand -/
def tm (room : Int) (sums : List Int) (V : Nat → Int) (rest low : Nat) (s : Nat) : Int := if rd sums ((s ||| low : Nat) : Int) ≤ room then V (rest &&& (MM - s)) else 0
theorem sumE_E (room : Int) (sums : List Int) (V : Nat → Int) (rest low : Nat) : ∀ (s : Nat) (acc : Int), s &&& rest = s → 0 ≤ acc → (∀ t, t &&& rest = t → 0 ≤ tm room sums V rest low t) → acc + E (tm room sums V rest low) rest s ≤ 9223372036854775807 → sumE room sums V rest low s acc = acc + E (tm room sums V rest low) rest s := by
  intro s
  induction s using Nat.strongRecOn with
  | ind s ih =>
    intro acc hs ha h0 hb
    have ht := h0 s hs
    have hstep : (acc + tm room sums V rest low s ≤ 9223372036854775807) → (if rd sums ((s ||| low : Nat) : Int) ≤ room then wrap64 (acc + V (rest &&& (MM - s))) else acc) = acc + tm room sums V rest low s := by
      intro hb2
      unfold tm at ht hb2 ⊢
      split
      · rename_i hc
        rw [if_pos hc] at ht hb2
        exact w64 (by omega)
      · omega
    by_cases e : s = 0
    · subst e
      rw [E_zero] at hb ⊢
      rw [sumE_zero]
      exact hstep hb
    · have h1 := Nat.and_le_left (n := s - 1) (m := rest)
      rw [E_succ _ _ e] at hb ⊢
      have h2 := E_nonneg rest (tm room sums V rest low) ((s - 1) &&& rest) sub_next h0
      rw [sumE_succ e, hstep (by omega), ih _ (by omega) _ sub_next (by omega) h0 (by omega)]
      omega

set_option maxRecDepth 100000 in
theorem popc_rest_all : ((List.range 4096).all fun m : Nat => decide (m = 0) || decide (popc 12 (restb m) + 1 = popc 12 m)) = true := by decide +kernel
theorem pow_67 : ∀ k : Nat, k ≤ 11 → (7 : Int) ^ k ≤ 6 ^ (k + 1) := by decide +kernel
theorem pow_6 : ∀ k : Nat, k ≤ 12 → (6 : Int) ^ k ≤ 2176782336 := by decide +kernel
theorem pw_nonneg {c : Int} (hc : 0 ≤ c) (L m : Nat) : 0 ≤ pw c L m := by rw [pw_popc]; exact Int.pow_nonneg hc

theorem V_bound {room : Int} {sums : List Int} {V : Nat → Int} {N : Nat} (h : WaysEq room sums V N) (hN : N ≤ 4096) : ∀ m, m < N → (0 ≤ V m ∧ V m ≤ pw 6 12 m) ∧ (0 < m → V m = E (tm room sums V (restb m) (lowb m)) (restb m) (restb m)) := by
  intro m
  induction m using Nat.strongRecOn with
  | ind m ih =>
    intro hm
    rcases Nat.eq_zero_or_pos m with e | e
    · subst e
      rw [h.zero]
      exact ⟨⟨by omega, by decide +kernel⟩, fun h => by omega⟩
    · have h3 := List.all_eq_true.1 restb_lt_all m (List.mem_range.2 (by omega))
      have h4 := List.all_eq_true.1 popc_rest_all m (List.mem_range.2 (by omega))
      simp only [Bool.or_eq_true, decide_eq_true_eq] at h3 h4
      have hlt : ∀ t, restb m &&& (MM - t) < m := fun t => by have := Nat.and_le_left (n := restb m) (m := MM - t); omega
      have h0 : ∀ t, t &&& restb m = t → 0 ≤ tm room sums V (restb m) (lowb m) t := by
        intro t _
        unfold tm
        split
        · exact (ih _ (hlt t) (by have := hlt t; omega)).1.1
        · omega
      have h1 : E (tm room sums V (restb m) (lowb m)) (restb m) (restb m) ≤ pw 7 12 (restb m) := by
        rw [← pw_sum 12 (restb m) (by omega) (by omega)]
        refine E_le _ _ _ _ (Nat.and_self _) (fun t _ => ?_)
        unfold tm
        split
        · exact (ih _ (hlt t) (by have := hlt t; omega)).1.2
        · exact pw_nonneg (by omega) _ _
      have h2 : pw 7 12 (restb m) ≤ pw 6 12 m := by
        rw [pw_popc, pw_popc, show popc 12 m = popc 12 (restb m) + 1 by omega]
        have := popc_le 12 m; exact pow_67 _ (by omega)
      have h5 : pw 6 12 m ≤ 2176782336 := by rw [pw_popc]; exact pow_6 _ (popc_le _ _)
      have h6 := E_nonneg _ _ _ (Nat.and_self (restb m)) h0
      have h7 := sumE_E room sums V (restb m) (lowb m) (restb m) 0 (Nat.and_self _) (by omega) h0 (by omega)
      have h8 := h.step m e hm
      rw [h7, Int.zero_add] at h8
      exact ⟨⟨by omega, by omega⟩, fun _ => h8⟩
end Go.Proofs.Ytpckfllalpiliaa.G
