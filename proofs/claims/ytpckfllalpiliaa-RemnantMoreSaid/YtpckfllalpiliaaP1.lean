/- Plain Lean: tame, sum, weigh, Weight and Weigh. -/
import Derived.Test.YtpckfllalpiliaaG0x0
import Derived.Test.YtpckfllalpiliaaG2x
namespace Go.Proofs.Ytpckfllalpiliaa.G
open Go.RowKit Go.Proofs.YtpckfllalpiliaaW.PrintWords

/-- from some round on the answer is r -/
def Ev {α : Type} (g : Nat → Option α) (r : α) : Prop := ∃ k0, ∀ k, k0 ≤ k → g k = some r
theorem Ev.step {α : Type} {g : Nat → Option α} {r : α} (h : Ev (fun k => g (k + 1)) r) : Ev g r := by
  obtain ⟨k0, h⟩ := h
  refine ⟨k0 + 1, fun k hk => ?_⟩
  have := h (k - 1) (by omega)
  dsimp only at this
  rwa [show k - 1 + 1 = k by omega] at this
theorem Ev.const {α : Type} (r : α) : Ev (fun _ => some r) r := ⟨0, fun _ _ => rfl⟩
theorem Ev.bind {α β : Type} {f : Nat → Option α} {h : Nat → α → Option β} {a : α} {r : β} (hf : Ev f a) (hh : Ev (fun k => h k a) r) : Ev (fun k => (f k).bind (h k)) r := by
  obtain ⟨k1, h1⟩ := hf; obtain ⟨k2, h2⟩ := hh
  exact ⟨max k1 k2, fun k hk => by show (f k).bind (h k) = some r; rw [h1 k (by omega)]; exact h2 k (by omega)⟩
theorem Ev.bindc {α β : Type} {f : Option α} {h : Nat → α → Option β} {a : α} {r : β} (hf : f = some a) (hh : Ev (fun k => h k a) r) : Ev (fun k => f.bind (h k)) r := by
  subst hf; exact hh
theorem Ev.pos {α : Type} {c : Prop} [Decidable c] {A B : Nat → Option α} {r : α} (hc : c) (h : Ev A r) : Ev (fun k => if c then A k else B k) r := by
  simpa only [if_pos hc] using h
theorem Ev.neg {α : Type} {c : Prop} [Decidable c] {A B : Nat → Option α} {r : α} (hc : ¬ c) (h : Ev B r) : Ev (fun k => if c then A k else B k) r := by
  simpa only [if_neg hc] using h
theorem Ev.of_mono {α : Type} {g : Nat → Option α} (hm : ∀ k, LeO (g k) (g (k + 1))) {k0 : Nat} {r : α} (h : g k0 = some r) : Ev g r :=
  ⟨k0, fun k hk => at_rounds hm hk h⟩
theorem Ev.congr {α : Type} {g g' : Nat → Option α} {r : α} (h : Ev g' r) (e : ∀ k, g k = g' k) : Ev g r := by
  obtain ⟨k0, h⟩ := h
  exact ⟨k0, fun k hk => (e k).trans (h k hk)⟩

theorem w64 {n : Int} (h : -9223372036854775808 ≤ n ∧ n ≤ 9223372036854775807) : wrap64 n = n := by unfold wrap64; omega
theorem rd_nat (l : List Int) (i : Nat) : rd l (i : Int) = l.getD i 0 := by unfold rd; rw [Int.toNat_natCast]
theorem rd_mem {l : List Int} {i : Int} (h0 : 0 ≤ i) (h1 : i < l.length) : rd l i ∈ l := by
  unfold rd; rw [List.getD_eq_getElem?_getD, List.getElem?_eq_getElem (by omega)]; exact List.getElem_mem _
theorem mem_rd {l : List Int} {x : Int} (h : x ∈ l) : ∃ i : Nat, i < l.length ∧ rd l (i : Int) = x := by
  obtain ⟨i, hi, rfl⟩ := List.getElem_of_mem h
  exact ⟨i, hi, by rw [rd_nat, List.getD_eq_getElem?_getD, List.getElem?_eq_getElem hi]; rfl⟩
theorem rd_set (l : List Int) (j x : Nat) (v : Int) (hj : j < l.length) : rd (l.set j v) (x : Int) = if x = j then v else rd l (x : Int) := by
  rw [rd_nat, rd_nat, List.getD_eq_getElem?_getD, List.getD_eq_getElem?_getD, List.getElem?_set]
  by_cases h : x = j
  · subst h; simp [hj]
  · rw [if_neg (fun e => h e.symm), if_neg h]
theorem rd_snoc (l : List Int) (x : Nat) (v : Int) (hx : x ≤ l.length) : rd (l ++ [v]) (x : Int) = if x = l.length then v else rd l (x : Int) := by
  rw [rd_nat, rd_nat, List.getD_eq_getElem?_getD, List.getD_eq_getElem?_getD]
  by_cases h : x = l.length
  · subst h; simp
  · rw [List.getElem?_append_left (by omega), if_neg h]
theorem tmod_emod {a b : Int} (h : 0 ≤ a) : Int.tmod a b = a % b := Int.tmod_eq_emod_of_nonneg h
end Go.Proofs.Ytpckfllalpiliaa.G

namespace Go.Proofs.Ytpckfllalpiliaa.G
open Go.RowKit Go.Proofs.YtpckfllalpiliaaW.PrintWords Go.Proofs.YtpckfllalpiliaaW.PrintMore
set_option linter.unusedVariables false

theorem u64_wrap (n : Int) : IntKind.u64.wrap n = n % 18446744073709551616 := by
  simp [IntKind.wrap, IntKind.signed, IntKind.bits]
theorem mod_ev (a m : Int) (h1 : 1 ≤ m) (h2 : m ≤ 1000) : ∃ t, galloonlaw09_mod.f a m = some t ∧ 0 ≤ t ∧ t < m := by
  unfold galloonlaw09_mod.f
  rw [u64_wrap, u64_wrap, show m % 18446744073709551616 = m by omega, if_neg (by omega)]
  have h := Int.emod_nonneg a (show (18446744073709551616 : Int) ≠ 0 by decide)
  rw [tmod_emod h]
  have ha := Int.emod_nonneg (a % 18446744073709551616) (show m ≠ 0 by omega)
  have hb := Int.emod_lt_of_pos (a % 18446744073709551616) (show 0 < m by omega)
  exact ⟨_, rfl, by rw [w64 (by omega)]; exact ⟨ha, hb⟩⟩
theorem tdiv_ediv {a b : Int} (h : 0 ≤ a) : Int.tdiv a b = a / b := Int.tdiv_eq_ediv_of_nonneg h

/-- pieces for a room -/
structure Pcs (room : Int) (l : List Int) (n : Nat) : Prop where
  room0 : 1 ≤ room
  room1 : room ≤ 100
  len : l.length ≤ n
  mem : ∀ x ∈ l, 1 ≤ x ∧ x ≤ room
theorem Pcs.pieces {room : Int} {l : List Int} {n : Nat} (h : Pcs room l n) (hn : n ≤ 12) : piecesB room l = true := by
  unfold piecesB
  simp only [Bool.and_eq_true, decide_eq_true_eq, List.all_eq_true]
  exact ⟨⟨⟨h.room0, h.room1⟩, by have := h.len; omega⟩, h.mem⟩
theorem Pcs.are {room : Int} {l : List Int} {n : Nat} (h : Pcs room l n) (hn : n ≤ 12) : remnant_arePieces.f room l = some true := by
  unfold remnant_arePieces.f; rw [h.pieces hn]
theorem Pcs.at_ {room : Int} {l : List Int} {n : Nat} (h : Pcs room l n) {i : Nat} (hi : i < l.length) : 1 ≤ rd l (i : Int) ∧ rd l (i : Int) ≤ room := h.mem _ (rd_mem (by omega) (by omega))

theorem tame_ev (a : Int) (l : List Int) (most : Nat) (hm : most ≤ 12) : ∃ room r, Ev (fun k => galloonlaw09_tame.f k a l most) (room, r) ∧ Pcs room r most := by
  obtain ⟨t, ht, ht0, ht1⟩ := mod_ev a 100 (by omega) (by omega)
  have main : ∀ (d i : Nat) (acc : List Int), i + d = most → acc.length = i → (∀ x ∈ acc, 1 ≤ x ∧ x ≤ 1 + t) → ∃ r, Ev (fun k => galloonlaw09_tame.l0 k (1 + t) l most acc i) (1 + t, r) ∧ r.length ≤ most ∧ ∀ x ∈ r, 1 ≤ x ∧ x ≤ 1 + t := by
    intro d
    induction d with
    | zero =>
      intro i acc hi hl hr
      refine ⟨acc, Ev.step ?_, by omega, hr⟩
      simp only [galloonlaw09_tame.l0]
      by_cases h : (i : Int) < l.length
      · exact Ev.pos h (Ev.neg (by omega) (Ev.const _))
      · exact Ev.neg h (Ev.const _)
    | succ d ih =>
      intro i acc hi hl hr
      by_cases h : (i : Int) < l.length
      · obtain ⟨s, hs, hs0, hs1⟩ := mod_ev (rd l i) (1 + t) (by omega) (by omega)
        obtain ⟨r, hr1, hr2, hr3⟩ := ih (i + 1) (acc ++ [1 + s]) (by omega) (by simp [hl]) (fun x hx => by
          rcases List.mem_append.1 hx with hx | hx
          · exact hr x hx
          · rw [List.mem_singleton.1 hx]; omega)
        refine ⟨r, Ev.step ?_, hr2, hr3⟩
        simp only [galloonlaw09_tame.l0]
        refine Ev.pos h (Ev.pos (by omega) (Ev.pos (by omega) (Ev.bindc hs (Ev.pos (by omega) ?_))))
        rw [w64 (by omega), w64 (by omega)]
        exact hr1
      · refine ⟨acc, Ev.step ?_, by omega, hr⟩
        simp only [galloonlaw09_tame.l0]
        exact Ev.neg h (Ev.const _)
  obtain ⟨r, h1, h2, h3⟩ := main most 0 [] (by omega) rfl (fun x hx => by cases hx)
  refine ⟨1 + t, r, ?_, ⟨by omega, by omega, h2, h3⟩⟩
  unfold galloonlaw09_tame.f
  refine Ev.bindc ht ?_
  rw [w64 (by omega)]
  exact h1

theorem drop_rd {l : List Int} {i : Nat} (h : i < l.length) : l.drop i = rd l (i : Int) :: l.drop (i + 1) := by
  rw [List.drop_eq_getElem_cons h, rd_nat, List.getD_eq_getElem?_getD, List.getElem?_eq_getElem h]; rfl

theorem Pcs.sum {room : Int} {l : List Int} {n : Nat} (h : Pcs room l n) : 0 ≤ l.sum ∧ l.sum ≤ 100 * l.length := by
  have h0 := h.room1
  have h1 := h.mem
  clear h
  induction l with
  | nil => simp
  | cons x l ih =>
    have := ih (fun y hy => h1 y (List.mem_cons_of_mem _ hy))
    have := h1 x List.mem_cons_self
    simp only [List.sum_cons, List.length_cons]; omega

theorem sum_ev {room : Int} {l : List Int} {n : Nat} (h : Pcs room l n) (hn : n ≤ 13) : Ev (fun k => galloonlaw09_sum.f k l) l.sum := by
  have main : ∀ (d i : Nat) (acc : Int), i + d = l.length → 0 ≤ acc → acc ≤ 100 * i → Ev (fun k => galloonlaw09_sum.l0 k l acc i) (acc + (l.drop i).sum) := by
    intro d
    induction d with
    | zero =>
      intro i acc hi h0 h1
      refine Ev.step ?_
      simp only [galloonlaw09_sum.l0]
      rw [List.drop_eq_nil_of_le (by omega), List.sum_nil, Int.add_zero]
      exact Ev.neg (by omega) (Ev.const _)
    | succ d ih =>
      intro i acc hi h0 h1
      have hx := h.at_ (i := i) (by omega)
      have hr := h.room1
      have hl := h.len
      refine Ev.step ?_
      simp only [galloonlaw09_sum.l0]
      refine Ev.pos (by omega) (Ev.pos (by omega) ?_)
      rw [w64 (by omega), w64 (by omega), drop_rd (by omega), List.sum_cons, ← Int.add_assoc]
      exact ih (i + 1) _ (by omega) (by omega) (by omega)
  have h := main l.length 0 0 (by omega) (by omega) (by omega)
  rw [List.drop_zero, Int.zero_add] at h
  exact h

/-- a weighing, from what has been counted on -/
def wAcc (room a : Int) : List Int → Int → Int → Int → Int → Int
  | [], L, H, B, S => L + H + (max 0 (S - B) + room - 1) / room
  | n :: l, L, H, B, S =>
    if n > room - a then wAcc room a l (L + 1) H B S
    else if 2 * n > room then wAcc room a l L (H + 1) (B + (room - n)) S
    else if n ≥ max a 1 then wAcc room a l L H B (S + n)
    else wAcc room a l L H B S
def weighV (room a : Int) (l : List Int) : Int := wAcc room a l 0 0 0 0
theorem mx_max' (a b : Int) : mx a b = max a b := by unfold mx; split <;> omega

theorem div_le_of {a b q : Int} (hb : 0 < b) (h : a ≤ q * b) : a / b ≤ q := by
  have := Int.ediv_le_ediv hb h
  rwa [Int.mul_ediv_cancel _ (by omega)] at this
theorem le_div_of {a b q : Int} (hb : 0 < b) (h : q * b ≤ a) : q ≤ a / b := (Int.le_ediv_iff_mul_le hb).2 h
theorem add_div1 {a b : Int} (hb : 0 < b) : (a + b) / b = a / b + 1 := by
  rw [Int.add_ediv_of_dvd_right (Int.dvd_refl b), Int.ediv_self (by omega)]

theorem weigh_ev {room a : Int} {l : List Int} {n : Nat} (h : Pcs room l n) (hn : n ≤ 13) (ha : 0 ≤ a) (ha2 : a ≤ room / 2) : Ev (fun k => remnant_weigh.f k room l a) (weighV room a l) := by
  have main : ∀ (d i : Nat) (L H B S : Int), i + d = l.length → 0 ≤ L → L ≤ i → 0 ≤ H → H ≤ i → 0 ≤ B → B ≤ 100 * i → 0 ≤ S → S ≤ 100 * i → Ev (fun k => remnant_weigh.l0 k room a L H B S l l.length i) (wAcc room a (l.drop i) L H B S) := by
    intro d
    have r0 := h.room0
    have r1 := h.room1
    have hl := h.len
    induction d with
    | zero =>
      intro i L H B S hi h1 h2 h3 h4 h5 h6 h7 h8
      refine Ev.step ?_
      simp only [remnant_weigh.l0]
      rw [List.drop_eq_nil_of_le (by omega), wAcc]
      refine Ev.neg (by omega) (Ev.neg (by omega) ?_)
      rw [mx_max', w64 (n := S - B) (by omega), w64 (n := max 0 (S - B) + room) (by omega), w64 (n := max 0 (S - B) + room - 1) (by omega), tdiv_ediv (by omega)]
      have q0 : 0 ≤ (max 0 (S - B) + room - 1) / room := Int.ediv_nonneg (by omega) (by omega)
      have q1 : (max 0 (S - B) + room - 1) / room ≤ 10000 := div_le_of (by omega) (by omega)
      rw [w64 (n := L + H) (by omega), w64 (n := (max 0 (S - B) + room - 1) / room) (by omega), w64 (by omega)]
      exact Ev.const _
    | succ d ih =>
      intro i L H B S hi h1 h2 h3 h4 h5 h6 h7 h8
      have hx := h.at_ (i := i) (by omega)
      refine Ev.step ?_
      simp only [remnant_weigh.l0]
      rw [drop_rd (l := l) (i := i) (by omega), wAcc]
      refine Ev.pos (by omega) (Ev.pos (by omega) (Ev.pos (by omega) ?_))
      rw [w64 (n := room - a) (by omega), w64 (n := (i : Int) + 1) (by omega)]
      generalize rd l (i : Int) = x at hx ⊢
      by_cases c1 : x > room - a
      · rw [if_pos c1]
        refine Ev.pos c1 ?_
        rw [w64 (n := L + 1) (by omega)]
        exact ih (i + 1) _ _ _ _ (by omega) (by omega) (by omega) (by omega) (by omega) (by omega) (by omega) (by omega) (by omega)
      · rw [if_neg c1]
        refine Ev.neg c1 ?_
        by_cases c2 : 2 * x > room
        · rw [if_pos c2]
          refine Ev.pos (by rw [w64 (by omega)]; exact c2) ?_
          rw [w64 (n := H + 1) (by omega), w64 (n := room - x) (by omega), w64 (n := B + (room - x)) (by omega)]
          exact ih (i + 1) _ _ _ _ (by omega) (by omega) (by omega) (by omega) (by omega) (by omega) (by omega) (by omega) (by omega)
        · rw [if_neg c2]
          refine Ev.neg (by rw [w64 (by omega)]; exact c2) ?_
          rw [mx_max']
          by_cases c3 : x ≥ max a 1
          · rw [if_pos c3]
            refine Ev.pos c3 ?_
            rw [w64 (n := S + x) (by omega)]
            exact ih (i + 1) _ _ _ _ (by omega) (by omega) (by omega) (by omega) (by omega) (by omega) (by omega) (by omega) (by omega)
          · rw [if_neg c3]
            refine Ev.neg c3 ?_
            exact ih (i + 1) _ _ _ _ (by omega) (by omega) (by omega) (by omega) (by omega) (by omega) (by omega) (by omega) (by omega)
  exact main l.length 0 0 0 0 0 (by omega) (by omega) (by omega) (by omega) (by omega) (by omega) (by omega) (by omega) (by omega)

/-- the third number of a weighing -/
def upQ (room x : Int) : Int := (max 0 x + room - 1) / room
theorem upQ_mono {room x y : Int} (hr : 1 ≤ room) (h : x ≤ y) : upQ room x ≤ upQ room y := Int.ediv_le_ediv (by omega) (by omega)
theorem upQ_add {room x y : Int} (hr : 1 ≤ room) (h : y ≤ x + room) : upQ room y ≤ upQ room x + 1 := by
  unfold upQ
  rw [← add_div1 (a := max 0 x + room - 1) (by omega)]
  exact Int.ediv_le_ediv (by omega) (by omega)
theorem upQ_nonneg {room x : Int} (hr : 1 ≤ room) : 0 ≤ upQ room x := Int.ediv_nonneg (by omega) (by omega)

/-- at most one more for each piece -/
theorem wAcc_le {room a : Int} (hr : 1 ≤ room) : ∀ (l : List Int) (L H B S : Int), (∀ x ∈ l, 1 ≤ x ∧ x ≤ room) → wAcc room a l L H B S ≤ L + H + upQ room (S - B) + l.length := by
  intro l
  induction l with
  | nil => intro L H B S _; simp [wAcc, upQ]
  | cons n l ih =>
    intro L H B S hl
    have hn := hl n List.mem_cons_self
    have ih2 := fun L H B S => (ih L H B S (fun x hx => hl x (List.mem_cons_of_mem _ hx)))
    rw [wAcc]
    simp only [List.length_cons]
    split
    · have := ih2 (L + 1) H B S; omega
    · split
      · have := ih2 L (H + 1) (B + (room - n)) S
        have := upQ_mono (room := room) hr (show S - (B + (room - n)) ≤ S - B by omega)
        omega
      · split
        · have := ih2 L H B (S + n)
          have := upQ_add (room := room) hr (show S + n - B ≤ S - B + room by omega)
          omega
        · have := ih2 L H B S; omega
theorem weighV_le {room a : Int} {l : List Int} (hr : 1 ≤ room) (hl : ∀ x ∈ l, 1 ≤ x ∧ x ≤ room) : weighV room a l ≤ l.length := by
  have h : weighV room a l ≤ 0 + 0 + upQ room (0 - 0) + l.length := wAcc_le hr l 0 0 0 0 hl
  have h0 : upQ room (0 - 0) = 0 := by
    unfold upQ
    rw [show max 0 ((0 : Int) - 0) + room - 1 = room - 1 by omega]
    exact Int.ediv_eq_zero_of_lt (by omega) (by omega)
  omega
theorem wAcc_nonneg {room a : Int} (hr : 1 ≤ room) : ∀ (l : List Int) (L H B S : Int), 0 ≤ L → 0 ≤ H → 0 ≤ wAcc room a l L H B S := by
  intro l
  induction l with
  | nil => intro L H B S h1 h2; have := upQ_nonneg (room := room) (x := S - B) hr; unfold upQ at this; simp only [wAcc]; omega
  | cons n l ih =>
    intro L H B S h1 h2
    rw [wAcc]
    split
    · exact ih _ _ _ _ (by omega) h2
    · split
      · exact ih _ _ _ _ h1 (by omega)
      · split
        · exact ih _ _ _ _ h1 h2
        · exact ih _ _ _ _ h1 h2
/-- the weighing for 0 is at least the sum, divided -/
theorem wAcc_sum {room : Int} (hr : 1 ≤ room) : ∀ (l : List Int) (L H B S : Int), (∀ x ∈ l, 1 ≤ x ∧ x ≤ room) → (S - B + (H + L) * room + l.sum + room - 1) / room ≤ wAcc room 0 l L H B S := by
  intro l
  induction l with
  | nil =>
    intro L H B S _
    simp only [wAcc, List.sum_nil, Int.add_zero]
    rw [show S - B + (H + L) * room + room - 1 = S - B + room - 1 + (H + L) * room by omega, Int.add_mul_ediv_right _ _ (by omega)]
    have := Int.ediv_le_ediv (show 0 < room by omega) (show S - B + room - 1 ≤ max 0 (S - B) + room - 1 by omega)
    omega
  | cons n l ih =>
    intro L H B S hl
    have hn := hl n List.mem_cons_self
    have ih' := fun L H B S => ih L H B S (fun x hx => hl x (List.mem_cons_of_mem _ hx))
    rw [wAcc, if_neg (by omega)]
    simp only [List.sum_cons]
    split
    · have h := ih' L (H + 1) (B + (room - n)) S
      rwa [show S - (B + (room - n)) + (H + 1 + L) * room + l.sum + room - 1 = S - B + (H + L) * room + (n + l.sum) + room - 1 by rw [show H + 1 + L = (H + L) + 1 by omega, Int.add_mul, Int.one_mul]; omega] at h
    · rw [if_pos (by omega)]
      have h := ih' L H B (S + n)
      rwa [show S + n - B + (H + L) * room + l.sum + room - 1 = S - B + (H + L) * room + (n + l.sum) + room - 1 by omega] at h
theorem weighV_sum {room : Int} {l : List Int} (hr : 1 ≤ room) (hl : ∀ x ∈ l, 1 ≤ x ∧ x ≤ room) : (l.sum + room - 1) / room ≤ weighV room 0 l := by
  have h := wAcc_sum hr l 0 0 0 0 hl
  rwa [show (0 : Int) - 0 + (0 + 0) * room + l.sum + room - 1 = l.sum + room - 1 by omega] at h

/-- a further piece -/
theorem wAcc_snoc {room a : Int} (n : Int) : ∀ (l : List Int) (L H B S : Int), ∃ L' H' B' S', wAcc room a l L H B S = wAcc room a [] L' H' B' S' ∧ wAcc room a (l ++ [n]) L H B S = wAcc room a [n] L' H' B' S' := by
  intro l
  induction l with
  | nil => intro L H B S; exact ⟨L, H, B, S, rfl, rfl⟩
  | cons x l ih =>
    intro L H B S
    rw [List.cons_append, wAcc, wAcc]
    split
    · exact ih _ _ _ _
    · split
      · exact ih _ _ _ _
      · split
        · exact ih _ _ _ _
        · exact ih _ _ _ _
theorem weighV_snoc {room a n : Int} {l : List Int} (hr : 1 ≤ room) (hn : 1 ≤ n ∧ n ≤ room) : weighV room a l ≤ weighV room a (l ++ [n]) ∧ weighV room a (l ++ [n]) ≤ weighV room a l + 1 := by
  obtain ⟨L, H, B, S, h1, h2⟩ := wAcc_snoc (room := room) (a := a) n l 0 0 0 0
  unfold weighV
  rw [h1, h2]
  have e : ∀ L H B S, wAcc room a [] L H B S = L + H + upQ room (S - B) := fun _ _ _ _ => rfl
  have e1 : wAcc room a [n] L H B S = if n > room - a then wAcc room a [] (L + 1) H B S else if 2 * n > room then wAcc room a [] L (H + 1) (B + (room - n)) S else if n ≥ max a 1 then wAcc room a [] L H B (S + n) else wAcc room a [] L H B S := by simp only [wAcc]
  rw [e1, e]
  split
  · rw [e]; omega
  · split
    · rw [e]
      have := upQ_mono (room := room) hr (show S - (B + (room - n)) ≤ S - B by omega)
      have := upQ_add (room := room) hr (show S - B ≤ S - (B + (room - n)) + room by omega)
      omega
    · split
      · rw [e]
        have := upQ_mono (room := room) hr (show S - B ≤ S + n - B by omega)
        have := upQ_add (room := room) hr (show S + n - B ≤ S - B + room by omega)
        omega
      · omega

/-- Weight: the greatest weighing, and where it is -/
theorem weight_ev {room : Int} {l : List Int} {n : Nat} (h : Pcs room l n) (hn : n ≤ 12) : ∃ w at_, Ev (fun k => remnant_Weight.f k room l) (w, at_, 0) ∧ 0 ≤ at_ ∧ at_ ≤ room / 2 ∧ w = weighV room at_ l ∧ ∀ a : Int, 0 ≤ a → a ≤ room / 2 → weighV room a l ≤ w := by
  have r0 := h.room0
  have r1 := h.room1
  have hl := h.len
  have hq : 0 ≤ room / 2 ∧ room / 2 ≤ 50 := by omega
  have main : ∀ (d i : Nat) (w at_ : Int), (i : Int) + d = room / 2 + 1 → (0 < i → 0 ≤ at_ ∧ at_ ≤ room / 2 ∧ w = weighV room at_ l) → (i = 0 → w = -1) → (∀ a : Int, 0 ≤ a → a < i → weighV room a l ≤ w) →
      ∃ w' at', Ev (fun k => remnant_Weight.l0 k room l w at_ (room / 2 + 1) i) (w', at', 0) ∧ 0 ≤ at' ∧ at' ≤ room / 2 ∧ w' = weighV room at' l ∧ ∀ a : Int, 0 ≤ a → a ≤ room / 2 → weighV room a l ≤ w' := by
    intro d
    induction d with
    | zero =>
      intro i w at_ hi h1 h2 h3
      have := h1 (by omega)
      refine ⟨w, at_, Ev.step ?_, this.1, this.2.1, this.2.2, fun a ha ha2 => h3 a ha (by omega)⟩
      simp only [remnant_Weight.l0]
      exact Ev.neg (by omega) (Ev.const _)
    | succ d ih =>
      intro i w at_ hi h1 h2 h3
      have hwe := weigh_ev h (by omega) (a := (i : Int)) (by omega) (by omega)
      have hnn : 0 ≤ weighV room i l := wAcc_nonneg r0 l 0 0 0 0 (by omega) (by omega)
      by_cases c : weighV room i l > w
      · obtain ⟨w', at', e1, e2⟩ := ih (i + 1) (weighV room i l) i (by omega) (fun _ => ⟨by omega, by omega, rfl⟩) (fun e => by omega) (fun a ha ha2 => by
          by_cases e : a = i
          · subst e; omega
          · have := h3 a ha (by omega); omega)
        refine ⟨w', at', Ev.step ?_, e2⟩
        simp only [remnant_Weight.l0]
        refine Ev.pos (by omega) (Ev.bind hwe (Ev.pos c ?_))
        rw [w64 (by omega)]
        exact e1
      · have hi0 : 0 < i := by
          rcases Nat.eq_zero_or_pos i with e | e
          · have := h2 e; omega
          · exact e
        obtain ⟨w', at', e1, e2⟩ := ih (i + 1) w at_ (by omega) (fun _ => h1 hi0) (fun e => by omega) (fun a ha ha2 => by
          by_cases e : a = i
          · subst e; omega
          · exact h3 a ha (by omega))
        refine ⟨w', at', Ev.step ?_, e2⟩
        simp only [remnant_Weight.l0]
        refine Ev.pos (by omega) (Ev.bind hwe (Ev.neg c ?_))
        rw [w64 (by omega)]
        exact e1
  obtain ⟨w, at_, h1, h2⟩ := main (room / 2 + 1).toNat 0 (-1) 0 (by omega) (fun e => by omega) (fun _ => rfl) (fun a h0 h1 => by omega)
  refine ⟨w, at_, ?_, h2⟩
  unfold remnant_Weight.f
  refine Ev.bindc (h.are hn) (Ev.pos rfl ?_)
  rw [tdiv_ediv (by omega), w64 (n := room / 2) (by omega), w64 (by omega)]
  exact h1

theorem Weigh_ev {room a : Int} {l : List Int} {n : Nat} (h : Pcs room l n) (hn : n ≤ 12) (ha : 0 ≤ a) (ha2 : a ≤ room / 2) : Ev (fun k => remnant_Weigh.f k room l a) (weighV room a l, 0) := by
  have r0 := h.room0
  have r1 := h.room1
  unfold remnant_Weigh.f
  have hw : remnant_within.f a 0 (wrap64 (Int.tdiv room 2)) = some true := by
    unfold remnant_within.f
    rw [tdiv_ediv (by omega), w64 (by omega), if_pos ha, show decide (a ≤ room / 2) = true from decide_eq_true ha2]
  exact Ev.bindc (h.are hn) (Ev.pos rfl (Ev.bindc hw (Ev.pos rfl (Ev.bind (weigh_ev h (by omega) ha ha2) (Ev.const _)))))
end Go.Proofs.Ytpckfllalpiliaa.G
