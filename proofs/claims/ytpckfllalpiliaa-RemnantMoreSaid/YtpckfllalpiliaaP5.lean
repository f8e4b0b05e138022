/- Plain Lean: what a further piece does to Best, Ways and Fill. -/
import Derived.Test.YtpckfllalpiliaaP4
import Derived.Test.YtpckfllalpiliaaP3
namespace Go.Proofs.Ytpckfllalpiliaa.G
open Go.RowKit Go.Proofs.YtpckfllalpiliaaW.PrintWords Go.Proofs.YtpckfllalpiliaaW.PrintMore
set_option linter.unusedVariables false

set_option maxRecDepth 100000 in
theorem up_all : ((List.range 12).all fun L : Nat => (List.range (2 ^ L)).all fun m : Nat => decide (m = 0) || (decide (lowb (m + 2 ^ L) = lowb m) && decide (restb (m + 2 ^ L) = restb m + 2 ^ L))) = true := by decide +kernel
theorem up_one : ∀ L : Nat, L < 12 → lowb (2 ^ L) = 2 ^ L ∧ restb (2 ^ L) = 0 := by decide +kernel
theorem up_at {L m : Nat} (hL : L < 12) (hm : m < 2 ^ L) (h0 : 0 < m) : lowb (m + 2 ^ L) = lowb m ∧ restb (m + 2 ^ L) = restb m + 2 ^ L := by
  have h := List.all_eq_true.1 (List.all_eq_true.1 up_all L (List.mem_range.2 hL)) m (List.mem_range.2 hm)
  simp only [Bool.or_eq_true, Bool.and_eq_true, decide_eq_true_eq] at h
  omega
theorem ssum_snoc (x : Int) : ∀ (l : List Int) (t : Nat), ssum (l ++ [x]) t = ssum l t + (if t / 2 ^ l.length % 2 = 1 then x else 0)
  | [], t => by simp [ssum]
  | y :: l, t => by
    rw [List.cons_append, ssum, ssum, ssum_snoc x l (t / 2), List.length_cons, Nat.div_div_eq_div_mul, Nat.pow_succ, Nat.mul_comm 2]; omega
theorem ssum_mod : ∀ (l : List Int) (t q : Nat), ssum l (t + 2 ^ l.length * q) = ssum l t
  | [], t, q => rfl
  | y :: l, t, q => by
    have e : (t + 2 ^ (y :: l).length * q) % 2 = t % 2 ∧ (t + 2 ^ (y :: l).length * q) / 2 = t / 2 + 2 ^ l.length * q := by
      rw [List.length_cons, Nat.pow_succ, Nat.mul_comm (2 ^ l.length) 2, Nat.mul_assoc]; omega
    rw [ssum, ssum, e.1, e.2, ssum_mod l]
theorem ssum_low (x : Int) (l : List Int) (t : Nat) (h : t < 2 ^ l.length) : ssum (l ++ [x]) t = ssum l t := by
  rw [ssum_snoc, Nat.div_eq_of_lt h]; simp
theorem ssum_up (x : Int) (l : List Int) (t : Nat) (h : t < 2 ^ l.length) : ssum (l ++ [x]) (t + 2 ^ l.length) = ssum l t + x := by
  have h1 := ssum_mod l t 1
  rw [Nat.mul_one] at h1
  rw [ssum_snoc, h1, Nat.add_div_right _ (Nat.two_pow_pos _), Nat.div_eq_of_lt h, if_pos (by decide)]
theorem rd_sums (l : List Int) (t : Nat) (h : t < 2 ^ l.length) : rd (sumsL l) (t : Int) = ssum l t := by
  unfold sumsL
  rw [rd_nat, List.getD_eq_getElem?_getD, List.getElem?_map, List.getElem?_range h]; rfl
theorem ssum_pos {room : Int} {l : List Int} {n : Nat} (h : Pcs room l n) {t : Nat} (h0 : 0 < t) (ht : t < 2 ^ l.length) : 1 ≤ ssum l t := by
  obtain ⟨j, hj, hb⟩ := has_bit l.length t h0 ht
  have h1 := (h.at_ hj).1
  have h2 := (ssum_le l (t - 2 ^ j) (fun x hx => by have := (h.mem x hx).1; omega)).1
  rw [ssum_sub l t j hj hb]; omega
theorem Pcs.snoc {room x : Int} {l : List Int} {n : Nat} (h : Pcs room l n) (hx : 1 ≤ x ∧ x ≤ room) : Pcs room (l ++ [x]) (n + 1) := ⟨h.room0, h.room1, by have := h.len; simp; omega, fun y hy => by
  rcases List.mem_append.1 hy with hy | hy
  · exact h.mem y hy
  · rw [List.mem_singleton.1 hy]; exact hx⟩
theorem lowb_pos : ∀ m : Nat, 0 < m → m < 4096 → 0 < lowb m := by
  intro m h0 h1
  have h3 := List.all_eq_true.1 restb_lt_all m (List.mem_range.2 (by omega))
  simp only [Bool.or_eq_true, decide_eq_true_eq] at h3
  rcases Nat.eq_zero_or_pos (lowb m) with e | e
  · exfalso
    have h4 : restb m = m := by
      unfold restb
      rw [e]
      apply Nat.eq_of_testBit_eq
      intro j
      rw [Nat.testBit_and, cm (by omega)]
      by_cases hj : j < 64
      · rw [decide_eq_true hj]; simp
      · rw [decide_eq_false hj, Nat.testBit_lt_two_pow (Nat.lt_of_lt_of_le (show m < 2 ^ 12 by omega) (Nat.pow_le_pow_right (by decide) (by omega)))]; rfl
    omega
  · exact e

section
variable {room x : Int} {l : List Int}
theorem ways_same (h : Pcs room l 11) (hx : 1 ≤ x ∧ x ≤ room) : ∀ m, m < 2 ^ l.length → waysV room (sumsL (l ++ [x])) m = waysV room (sumsL l) m := by
  have hlen := h.len
  have hp := pow_lt64 (L := l.length) (by omega)
  have hp2 : 2 ^ (l.length + 1) ≤ 4096 := pow_lt64 (by omega)
  intro m
  induction m using Nat.strongRecOn with
  | ind m ih =>
    intro hm
    have b1 := (V_bound (waysV_eq room (sumsL l) (2 ^ l.length) hp) hp m hm).2
    have b2 := (V_bound (waysV_eq room (sumsL (l ++ [x])) (2 ^ (l.length + 1)) hp2) hp2 m (by rw [Nat.pow_succ]; omega)).2
    rcases Nat.eq_zero_or_pos m with e | e
    · subst e; rfl
    · rw [b1 e, b2 e]
      have h3 := List.all_eq_true.1 restb_lt_all m (List.mem_range.2 (by omega))
      simp only [Bool.or_eq_true, decide_eq_true_eq] at h3
      refine E_congr _ _ _ _ (Nat.and_self _) (fun t ht => ?_)
      have htr : t ≤ restb m := by rw [← ht]; exact Nat.and_le_right
      have hlo : lowb m ≤ m := Nat.and_le_left
      have hor : t ||| lowb m < 2 ^ l.length := Nat.or_lt_two_pow (by omega) (by omega)
      have hle := Nat.and_le_left (n := restb m) (m := MM - t)
      unfold tm
      rw [rd_sums _ _ hor, rd_sums _ _ (by rw [List.length_append, List.length_singleton, Nat.pow_succ]; omega), ssum_low _ _ _ hor, ih _ (by omega) (by omega)]

theorem ways_more (h : Pcs room l 11) (hx : 1 ≤ x ∧ x ≤ room) : ∀ m, m < 2 ^ l.length → waysV room (sumsL l) m ≤ waysV room (sumsL (l ++ [x])) (m + 2 ^ l.length) ∧ (x = room → waysV room (sumsL (l ++ [x])) (m + 2 ^ l.length) = waysV room (sumsL l) m) := by
  have hlen := h.len
  have hp := pow_lt64 (L := l.length) (by omega)
  have hp2 : 2 ^ (l.length + 1) ≤ 4096 := pow_lt64 (by omega)
  have hpp : 0 < 2 ^ l.length := Nat.two_pow_pos _
  have hsl : (l ++ [x]).length = l.length + 1 := by simp
  intro m
  induction m using Nat.strongRecOn with
  | ind m ih =>
    intro hm
    have hm2 : m + 2 ^ l.length < 2 ^ (l.length + 1) := by rw [Nat.pow_succ]; omega
    have b1 := V_bound (waysV_eq room (sumsL l) (2 ^ l.length) hp) hp m hm
    have b2 := (V_bound (waysV_eq room (sumsL (l ++ [x])) (2 ^ (l.length + 1)) hp2) hp2 (m + 2 ^ l.length) hm2).2 (by omega)
    have bn := fun q hq => (V_bound (waysV_eq room (sumsL (l ++ [x])) (2 ^ (l.length + 1)) hp2) hp2 q hq).1.1
    rcases Nat.eq_zero_or_pos m with e | e
    · subst e
      rw [Nat.zero_add] at b2 ⊢
      rw [b2, (up_one _ (by omega)).1, (up_one _ (by omega)).2, E_zero]
      have h1 : waysV room (sumsL l) 0 = 1 := rfl
      have h2 : tm room (sumsL (l ++ [x])) (waysV room (sumsL (l ++ [x]))) 0 (2 ^ l.length) 0 = 1 := by
        unfold tm
        rw [Nat.zero_or, rd_sums _ _ (by rw [hsl, Nat.pow_succ]; omega)]
        have h3 := ssum_up x l 0 hpp
        rw [Nat.zero_add, ssum_zero] at h3
        rw [h3, if_pos (by omega)]
        rfl
      rw [h1, h2]
      exact ⟨Int.le_refl _, fun _ => rfl⟩
    · obtain ⟨u1, u2⟩ := up_at (by omega) hm e
      have b1' := b1.2 e
      rw [u1, u2] at b2
      have h3 := List.all_eq_true.1 restb_lt_all m (List.mem_range.2 (by omega))
      simp only [Bool.or_eq_true, decide_eq_true_eq] at h3
      have hlo : lowb m ≤ m := Nat.and_le_left
      have hlp := lowb_pos m e (by omega)
      have hrl : restb m < 2 ^ l.length := by omega
      rw [E_top hrl _ _ hrl] at b2
      -- the upper half
      have hup : ∀ t, t &&& restb m = t → tm room (sumsL (l ++ [x])) (waysV room (sumsL (l ++ [x]))) (restb m + 2 ^ l.length) (lowb m) (t + 2 ^ l.length) = if ssum l (t ||| lowb m) + x ≤ room then waysV room (sumsL (l ++ [x])) (restb m &&& (MM - t)) else 0 := by
        intro t ht
        have htr : t ≤ restb m := by rw [← ht]; exact Nat.and_le_right
        have hor : t ||| lowb m < 2 ^ l.length := Nat.or_lt_two_pow (by omega) (by omega)
        unfold tm
        rw [or_top (by omega) (by omega), rd_sums _ _ (by rw [hsl, Nat.pow_succ]; omega), ssum_up _ _ _ hor, diff_top (by omega) (by omega) hrl]
      have hdn : ∀ t, t &&& restb m = t → tm room (sumsL (l ++ [x])) (waysV room (sumsL (l ++ [x]))) (restb m + 2 ^ l.length) (lowb m) t = if ssum l (t ||| lowb m) ≤ room then waysV room (sumsL (l ++ [x])) ((restb m &&& (MM - t)) + 2 ^ l.length) else 0 := by
        intro t ht
        have htr : t ≤ restb m := by rw [← ht]; exact Nat.and_le_right
        have hor : t ||| lowb m < 2 ^ l.length := Nat.or_lt_two_pow (by omega) (by omega)
        unfold tm
        rw [rd_sums _ _ (by rw [hsl, Nat.pow_succ]; omega), ssum_low _ _ _ hor, diff_low (by omega) (by omega) hrl]
      have hold : ∀ t, t &&& restb m = t → tm room (sumsL l) (waysV room (sumsL l)) (restb m) (lowb m) t = if ssum l (t ||| lowb m) ≤ room then waysV room (sumsL l) (restb m &&& (MM - t)) else 0 := by
        intro t ht
        have htr : t ≤ restb m := by rw [← ht]; exact Nat.and_le_right
        have hor : t ||| lowb m < 2 ^ l.length := Nat.or_lt_two_pow (by omega) (by omega)
        unfold tm
        rw [rd_sums _ _ hor]
      have hdl : ∀ t, restb m &&& (MM - t) < m := fun t => by have := Nat.and_le_left (n := restb m) (m := MM - t); omega
      have up0 : 0 ≤ E (fun t => tm room (sumsL (l ++ [x])) (waysV room (sumsL (l ++ [x]))) (restb m + 2 ^ l.length) (lowb m) (t + 2 ^ l.length)) (restb m) (restb m) := by
        refine E_nonneg _ _ _ (Nat.and_self _) (fun t ht => ?_)
        rw [hup t ht]
        split
        · exact bn _ (by have := hdl t; omega)
        · omega
      have dn1 : E (tm room (sumsL l) (waysV room (sumsL l)) (restb m) (lowb m)) (restb m) (restb m) ≤ E (tm room (sumsL (l ++ [x])) (waysV room (sumsL (l ++ [x]))) (restb m + 2 ^ l.length) (lowb m)) (restb m) (restb m) := by
        refine E_le _ _ _ _ (Nat.and_self _) (fun t ht => ?_)
        rw [hdn t ht, hold t ht]
        split
        · exact (ih _ (hdl t) (by have := hdl t; omega)).1
        · omega
      refine ⟨by omega, fun ex => ?_⟩
      have up1 : E (fun t => tm room (sumsL (l ++ [x])) (waysV room (sumsL (l ++ [x]))) (restb m + 2 ^ l.length) (lowb m) (t + 2 ^ l.length)) (restb m) (restb m) = E (fun _ => 0 * 0) (restb m) (restb m) := by
        refine E_congr _ _ _ _ (Nat.and_self _) (fun t ht => ?_)
        rw [hup t ht, if_neg]; · rfl
        have htr : t ≤ restb m := by rw [← ht]; exact Nat.and_le_right
        have hor : t ||| lowb m < 2 ^ l.length := Nat.or_lt_two_pow (by omega) (by omega)
        have hor0 : 0 < t ||| lowb m := Nat.lt_of_lt_of_le hlp Nat.right_le_or
        have := ssum_pos h hor0 hor
        omega
      have dn2 : E (tm room (sumsL (l ++ [x])) (waysV room (sumsL (l ++ [x]))) (restb m + 2 ^ l.length) (lowb m)) (restb m) (restb m) = E (tm room (sumsL l) (waysV room (sumsL l)) (restb m) (lowb m)) (restb m) (restb m) := by
        refine E_congr _ _ _ _ (Nat.and_self _) (fun t ht => ?_)
        rw [hdn t ht, hold t ht, (ih _ (hdl t) (by have := hdl t; omega)).2 ex]
      have z := E_mul 0 (fun _ => 0) (restb m) (restb m)
      rw [b2, up1, dn2, z, ← b1']; omega
end

theorem Packable.drop {room x : Int} {m : Nat} {l : List Int} (h : Packable room m (l ++ [x])) (hx : 0 ≤ x) : Packable room m l := by
  obtain ⟨p, h1, h2, h3⟩ := h
  have hne : p ≠ [] := by intro e; subst e; simp at h1
  have hp := List.dropLast_concat_getLast hne
  refine ⟨p.dropLast, by rw [List.length_dropLast, h1]; simp, fun q hq => h2 q ((List.dropLast_sublist p).subset hq), fun b hb => ?_⟩
  have h4 := h3 b hb
  rw [← hp, load_snoc _ _ _ _ _ (by rw [List.length_dropLast, h1]; simp)] at h4
  have h5 : (0 : Int) + (load p.dropLast l b + if p.getLast hne = b then x else 0) ≤ room := h4
  show (0 : Int) + load p.dropLast l b ≤ room
  split at h5 <;> omega
theorem Packable.snoc {room x : Int} {m : Nat} {l : List Int} (h : Packable room m l) (hx : x ≤ room) (hr : 0 ≤ room) : Packable room (m + 1) (l ++ [x]) := by
  obtain ⟨p, h1, h2, h3⟩ := h
  refine ⟨p ++ [m], by simp [h1], fun q hq => ?_, fun b hb => ?_⟩
  · rcases List.mem_append.1 hq with hq | hq
    · have := h2 q hq; omega
    · rw [List.mem_singleton.1 hq]; omega
  · show (0 : Int) + load (p ++ [m]) (l ++ [x]) b ≤ room
    rw [load_snoc _ _ _ _ _ h1]
    by_cases e : m = b
    · rw [if_pos e, load_zero p l b (fun q hq => by have := h2 q hq; omega)]; omega
    · rw [if_neg e]
      have : (0 : Int) + load p l b ≤ room := h3 b (by omega)
      omega

/-- Best with a further piece -/
theorem best_more {room x : Int} {l : List Int} (h : Pcs room l 11) (hx : 1 ≤ x ∧ x ≤ room) {w w' : Int} {n m : Nat} (ha : ∃ a : Int, 0 ≤ a ∧ a ≤ room / 2 ∧ w = weighV room a l) (hb : ∃ a : Int, 0 ≤ a ∧ a ≤ room / 2 ∧ w' = weighV room a (l ++ [x])) (hw : ∀ a : Int, 0 ≤ a → a ≤ room / 2 → weighV room a l ≤ w) (hw' : ∀ a : Int, 0 ≤ a → a ≤ room / 2 → weighV room a (l ++ [x]) ≤ w')
    (h1 : w ≤ n) (h2 : Packable room n l) (h3 : ∀ q : Nat, w ≤ q → q < n → ¬ Packable room q l) (h4 : w' ≤ m) (h5 : Packable room m (l ++ [x])) (h6 : ∀ q : Nat, w' ≤ q → q < m → ¬ Packable room q (l ++ [x])) : n ≤ m ∧ m ≤ n + 1 := by
  have hr := h.room0
  obtain ⟨a, ha0, ha1, ha2⟩ := ha
  obtain ⟨a', hb0, hb1, hb2⟩ := hb
  have e1 : w ≤ w' := by
    have := (weighV_snoc (a := a) (l := l) hr hx).1
    have := hw' a ha0 ha1
    omega
  have e2 : w' ≤ w + 1 := by
    have := (weighV_snoc (a := a') (l := l) hr hx).2
    have := hw a' hb0 hb1
    omega
  constructor
  · rcases Nat.lt_or_ge m n with hlt | hge
    · exact absurd (h5.drop (by omega)) (h3 m (by omega) hlt)
    · exact hge
  · rcases Nat.lt_or_ge (n + 1) m with hlt | hge
    · exact absurd (h2.snoc hx.2 (by omega)) (h6 (n + 1) (by omega) hlt)
    · exact hge

theorem div_bit_low {u i L : Nat} (hu : u < 2 ^ L) (hi : i < L) : (u + 2 ^ L) / 2 ^ i % 2 = u / 2 ^ i % 2 := by
  obtain ⟨d, rfl⟩ : ∃ d, L = i + (d + 1) := ⟨L - i - 1, by omega⟩
  rw [show (2 : Nat) ^ (i + (d + 1)) = 2 ^ i * (2 * 2 ^ d) by rw [Nat.pow_add, Nat.pow_succ]; ac_rfl, Nat.add_mul_div_left _ _ (Nat.two_pow_pos i)]
  omega
theorem rd_left (l : List Int) (x : Int) {i : Nat} (h : i < l.length) : rd (l ++ [x]) (i : Int) = rd l (i : Int) := by
  rw [rd_nat, rd_nat, List.getD_eq_getElem?_getD, List.getD_eq_getElem?_getD, List.getElem?_append_left h]
theorem rd_last (l : List Int) (x : Int) : rd (l ++ [x]) (l.length : Int) = x := by
  rw [rd_nat, List.getD_eq_getElem?_getD, List.getElem?_append_right (Nat.le_refl _)]; simp
theorem GoodT.sub {room x : Int} {l : List Int} {Tb Tc : Nat → S51} (h : Pcs room l 11) (hx : 1 ≤ x ∧ x ≤ room) (g : GoodT room l Tb (2 ^ l.length)) (g' : GoodT room (l ++ [x]) Tc (2 ^ (l.length + 1))) : ∀ t, t < 2 ^ l.length → pr (Tc t) = pr (Tb t) := by
  intro t
  have hpw : 2 ^ (l.length + 1) = 2 ^ l.length + 2 ^ l.length := by rw [Nat.pow_succ]; omega
  have hsl : (l ++ [x]).length = l.length + 1 := by simp
  induction t using Nat.strongRecOn with
  | ind t ih =>
    intro ht
    rcases Nat.eq_zero_or_pos t with e | e
    · subst e; rw [g.zero, g'.zero]
    · have hnb : ∀ i, i < (l ++ [x]).length → t / 2 ^ i % 2 = 1 → i < l.length := by
        intro i hi hb
        rcases Nat.lt_or_ge i l.length with h1 | h1
        · exact h1
        · have : i = l.length := by omega
          subst this
          rw [Nat.div_eq_of_lt ht] at hb; cases hb
      refine LexLe.antisymm ?_ ?_
      · obtain ⟨i, hi, hb, he, -⟩ := g'.eq t e (by omega)
        have hi' := hnb i hi hb
        have hp : 0 < 2 ^ i := Nat.two_pow_pos i
        have hge := bit_ge hb
        rw [he, ih (t - 2 ^ i) (by omega) (by omega), rd_left _ _ hi']
        exact g.ge t e ht i hi' hb
      · obtain ⟨i, hi, hb, he, -⟩ := g.eq t e ht
        have hp : 0 < 2 ^ i := Nat.two_pow_pos i
        have hge := bit_ge hb
        have h2 := g'.ge t e (by omega) i (by omega) hb
        rw [ih (t - 2 ^ i) (by omega) (by omega), rd_left _ _ hi] at h2
        rw [he]; exact h2
/-- Fill with a further piece -/
theorem fill_more {room x : Int} {l : List Int} {Tb Tc : Nat → S51} (h : Pcs room l 11) (hx : 1 ≤ x ∧ x ≤ room) (g : GoodT room l Tb (2 ^ l.length)) (g' : GoodT room (l ++ [x]) Tc (2 ^ (l.length + 1))) : ∀ t, t < 2 ^ l.length → (Tb t).f0 ≤ (Tc (t + 2 ^ l.length)).f0 ∧ LexLe (pr (Tc (t + 2 ^ l.length))) ((Tb t).f0 + 1, (Tb t).f1) := by
  intro t
  have hpw : 2 ^ (l.length + 1) = 2 ^ l.length + 2 ^ l.length := by rw [Nat.pow_succ]; omega
  have hpp : 0 < 2 ^ l.length := Nat.two_pow_pos _
  have hsl : (l ++ [x]).length = l.length + 1 := by simp
  have hsub := GoodT.sub h hx g g'
  have h' := h.snoc hx
  induction t using Nat.strongRecOn with
  | ind t ih =>
    intro ht
    have hbit : (t + 2 ^ l.length) / 2 ^ l.length % 2 = 1 := by rw [Nat.add_div_right _ hpp, Nat.div_eq_of_lt ht]
    obtain ⟨q0, q1, q2, -⟩ := g.bd h t (by omega)
    constructor
    · have h1 := g'.ge (t + 2 ^ l.length) (by omega) (by omega) l.length (by omega) hbit
      rw [Nat.add_sub_cancel, rd_last, hsub t ht] at h1
      have h2 := (stepR_ge (room := room) (n := x) (a := pr (Tb t)) hx.1 q1).trans h1
      unfold LexLe pr at h2
      simp only at h2
      omega
    · obtain ⟨i, hi, hb, he, -⟩ := g'.eq (t + 2 ^ l.length) (by omega) (by omega)
      by_cases e : i = l.length
      · subst e
        rw [Nat.add_sub_cancel, rd_last, hsub t ht] at he
        rw [he]
        exact stepR_le (a := pr (Tb t)) ⟨q1, q2⟩
      · have hi' : i < l.length := by omega
        have hb' : t / 2 ^ i % 2 = 1 := by rw [← div_bit_low ht hi']; exact hb
        have hp : 0 < 2 ^ i := Nat.two_pow_pos i
        have hge := bit_ge hb'
        have e2 : t + 2 ^ l.length - 2 ^ i = (t - 2 ^ i) + 2 ^ l.length := by omega
        rw [e2, rd_left _ _ hi'] at he
        have ih2 := (ih (t - 2 ^ i) (by omega) (by omega)).2
        have hxi := h.at_ hi'
        obtain ⟨s0, s1, s2, -⟩ := g.bd h (t - 2 ^ i) (by omega)
        obtain ⟨r0, r1, r2, -⟩ := g'.bd h' ((t - 2 ^ i) + 2 ^ l.length) (by omega)
        have h3 := stepR_mono (room := room) (n := rd l (i : Int)) hxi.1 ⟨r1, r2⟩ ⟨s1, s2⟩ ih2
        rw [he]
        refine h3.trans ?_
        have h4 := stepR_shift room (rd l (i : Int)) (pr (Tb (t - 2 ^ i)))
        have h5 := g.ge t (by omega) ht i hi' hb'
        have h6 : stepR room (rd l (i : Int)) ((Tb (t - 2 ^ i)).f0 + 1, (Tb (t - 2 ^ i)).f1) = ((stepR room (rd l (i : Int)) (pr (Tb (t - 2 ^ i)))).1 + 1, (stepR room (rd l (i : Int)) (pr (Tb (t - 2 ^ i)))).2) := h4
        rw [h6]
        unfold LexLe at h5 ⊢
        unfold pr at h5 ⊢
        simp only at h5 ⊢
        omega
end Go.Proofs.Ytpckfllalpiliaa.G
