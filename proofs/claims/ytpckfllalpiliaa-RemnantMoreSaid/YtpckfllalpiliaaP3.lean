/- Plain Lean: Fill's table, and its number of boxes. -/
import Derived.Test.YtpckfllalpiliaaG0x0
import Derived.Test.YtpckfllalpiliaaP1
namespace Go.Proofs.Ytpckfllalpiliaa.G
open Go.RowKit Go.Proofs.YtpckfllalpiliaaW.PrintWords Go.Proofs.YtpckfllalpiliaaW.PrintMore

set_option maxRecDepth 100000 in
theorem bits_all : ((List.range 4096).all fun s : Nat => (List.range 12).all fun i : Nat =>
    decide ((Go.bits .and .i64 (shr .i64 (s : Int) (i : Int)) 1 = 0) = (s / 2 ^ i % 2 = 0)) && decide (Go.bits .andNot .i64 (s : Int) (shl .i64 1 (i : Int)) = ((if s / 2 ^ i % 2 = 0 then s else s - 2 ^ i : Nat) : Int))) = true := by decide +kernel
end Go.Proofs.Ytpckfllalpiliaa.G

namespace Go.Proofs.Ytpckfllalpiliaa.G
open Go.RowKit Go.Proofs.YtpckfllalpiliaaW.PrintWords Go.Proofs.YtpckfllalpiliaaW.PrintMore
set_option linter.unusedVariables false

theorem bit_spec {s i : Nat} (hs : s < 4096) (hi : i < 12) : ((Go.bits .and .i64 (shr .i64 (s : Int) (i : Int)) 1 = 0) ↔ s / 2 ^ i % 2 = 0) ∧ Go.bits .andNot .i64 (s : Int) (shl .i64 1 (i : Int)) = ((if s / 2 ^ i % 2 = 0 then s else s - 2 ^ i : Nat) : Int) := by
  have h := List.all_eq_true.1 (List.all_eq_true.1 bits_all s (List.mem_range.2 hs)) i (List.mem_range.2 hi)
  simp only [Bool.and_eq_true, decide_eq_true_eq] at h
  exact ⟨by rw [h.1], h.2⟩
theorem bit_ge {s i : Nat} (h : s / 2 ^ i % 2 = 1) : 2 ^ i ≤ s := by
  rcases Nat.lt_or_ge s (2 ^ i) with h1 | h1
  · rw [Nat.div_eq_of_lt h1] at h; cases h
  · exact h1

/-- the sum of a set of pieces -/
def ssum : List Int → Nat → Int
  | [], _ => 0
  | x :: l, t => (if t % 2 = 1 then x else 0) + ssum l (t / 2)
theorem ssum_zero : ∀ l, ssum l 0 = 0
  | [] => rfl
  | x :: l => by rw [ssum, if_neg (by omega), ssum_zero l]; rfl
theorem ssum_sub : ∀ (l : List Int) (t i : Nat), i < l.length → t / 2 ^ i % 2 = 1 → ssum l t = rd l (i : Int) + ssum l (t - 2 ^ i)
  | [], _, _, h, _ => by cases h
  | x :: l, t, 0, _, h => by
    rw [Nat.pow_zero, Nat.div_one] at h
    rw [ssum, ssum, if_pos h, Nat.pow_zero, if_neg (by omega), show (t - 1) / 2 = t / 2 by omega, rd_nat]
    simp
  | x :: l, t, i + 1, hi, h => by
    have hp : 2 ^ (i + 1) = 2 * 2 ^ i := by rw [Nat.pow_succ]; omega
    have h2 : t / 2 / 2 ^ i % 2 = 1 := by rw [Nat.div_div_eq_div_mul, ← hp]; exact h
    have ih := ssum_sub l (t / 2) i (by simpa using hi) h2
    have hg := bit_ge h
    rw [ssum, ssum, ih, show (t - 2 ^ (i + 1)) % 2 = t % 2 by omega, show (t - 2 ^ (i + 1)) / 2 = t / 2 - 2 ^ i by omega, rd_nat, rd_nat]
    simp only [List.getD_cons_succ]
    omega
theorem ssum_le : ∀ (l : List Int) (t : Nat), (∀ x ∈ l, 0 ≤ x) → 0 ≤ ssum l t ∧ ssum l t ≤ l.sum
  | [], _, _ => ⟨Int.le_refl _, Int.le_refl _⟩
  | x :: l, t, h => by
    have h1 := ssum_le l (t / 2) (fun y hy => h y (List.mem_cons_of_mem _ hy))
    have h2 := h x List.mem_cons_self
    rw [ssum, List.sum_cons]; split <;> omega
theorem Pcs.sum_room {room : Int} {l : List Int} {n : Nat} (h : Pcs room l n) : l.sum ≤ l.length * room := by
  have h1 := h.mem
  clear h
  induction l with
  | nil => simp
  | cons x l ih =>
    have := ih (fun y hy => h1 y (List.mem_cons_of_mem _ hy))
    have := h1 x List.mem_cons_self
    rw [List.sum_cons, List.length_cons, show ((l.length + 1 : Nat) : Int) = (l.length : Int) + 1 by omega, Int.add_mul, Int.one_mul]; omega

/-- a state is at most another one: full boxes, then what is in the open one -/
def LexLe (a b : Int × Int) : Prop := a.1 < b.1 ∨ (a.1 = b.1 ∧ a.2 ≤ b.2)
theorem LexLe.refl (a : Int × Int) : LexLe a a := .inr ⟨rfl, Int.le_refl _⟩
theorem LexLe.trans {a b c : Int × Int} (h : LexLe a b) (k : LexLe b c) : LexLe a c := by unfold LexLe at *; omega
theorem LexLe.antisymm {a b : Int × Int} (h : LexLe a b) (k : LexLe b a) : a = b := by
  unfold LexLe at *; obtain ⟨a1, a2⟩ := a; obtain ⟨b1, b2⟩ := b; simp only at *; rw [Prod.mk.injEq]; omega
/-- a further piece -/
def stepR (room n : Int) (a : Int × Int) : Int × Int := if a.2 + n ≥ room then (a.1 + 1, 0) else (a.1, a.2 + n)
theorem stepR_mono {room n : Int} {a b : Int × Int} (hn : 1 ≤ n) (ha : 0 ≤ a.2 ∧ a.2 < room) (hb : 0 ≤ b.2 ∧ b.2 < room) (h : LexLe a b) : LexLe (stepR room n a) (stepR room n b) := by
  unfold LexLe stepR at *
  split <;> split <;> simp only <;> omega
theorem stepR_ge {room n : Int} {a : Int × Int} (hn : 1 ≤ n) (ha : 0 ≤ a.2) : LexLe a (stepR room n a) := by
  unfold stepR
  by_cases c : a.2 + n ≥ room
  · rw [if_pos c]; exact .inl (show a.1 < a.1 + 1 by omega)
  · rw [if_neg c]; exact .inr ⟨rfl, show a.2 ≤ a.2 + n by omega⟩
theorem stepR_le {room n : Int} {a : Int × Int} (ha : 0 ≤ a.2 ∧ a.2 < room) : LexLe (stepR room n a) (a.1 + 1, a.2) := by
  unfold stepR
  by_cases c : a.2 + n ≥ room
  · rw [if_pos c]; exact .inr ⟨rfl, ha.1⟩
  · rw [if_neg c]; exact .inl (show a.1 < a.1 + 1 by omega)
theorem stepR_shift (room n : Int) (a : Int × Int) : stepR room n (a.1 + 1, a.2) = ((stepR room n a).1 + 1, (stepR room n a).2) := by
  unfold stepR
  split <;> rfl

def pr (x : S51) : Int × Int := (x.f0, x.f1)
/-- a table that is right below N -/
structure GoodT (room : Int) (l : List Int) (Tb : Nat → S51) (N : Nat) : Prop where
  zero : pr (Tb 0) = (0, 0)
  ge : ∀ t, 0 < t → t < N → ∀ i, i < l.length → t / 2 ^ i % 2 = 1 → LexLe (stepR room (rd l (i : Int)) (pr (Tb (t - 2 ^ i)))) (pr (Tb t))
  eq : ∀ t, 0 < t → t < N → ∃ i, i < l.length ∧ t / 2 ^ i % 2 = 1 ∧ pr (Tb t) = stepR room (rd l (i : Int)) (pr (Tb (t - 2 ^ i))) ∧ (Tb t).f2 = i

theorem GoodT.bd {room : Int} {l : List Int} {Tb : Nat → S51} {N n : Nat} (g : GoodT room l Tb N) (h : Pcs room l n) : ∀ t, t < N ∨ t = 0 → 0 ≤ (Tb t).f0 ∧ 0 ≤ (Tb t).f1 ∧ (Tb t).f1 < room ∧ (Tb t).f0 * room + (Tb t).f1 ≤ ssum l t := by
  intro t
  have r0 := h.room0
  induction t using Nat.strongRecOn with
  | ind t ih =>
    intro ht
    rcases Nat.eq_zero_or_pos t with e | e
    · subst e
      have := g.zero
      unfold pr at this
      simp only [Prod.mk.injEq] at this
      rw [this.1, this.2, ssum_zero]; omega
    · obtain ⟨i, hi, hb, he, -⟩ := g.eq t e (by omega)
      have hp : 0 < 2 ^ i := Nat.two_pow_pos i
      have hge := bit_ge hb
      obtain ⟨q0, q1, q2, q3⟩ := ih (t - 2 ^ i) (by omega) (by omega)
      have hx := h.at_ hi
      rw [ssum_sub l t i hi hb]
      unfold pr stepR at he
      simp only at he
      by_cases c : (Tb (t - 2 ^ i)).f1 + rd l (i : Int) ≥ room
      · rw [if_pos c] at he
        simp only [Prod.mk.injEq] at he
        rw [he.1, he.2, Int.add_mul, Int.one_mul]; omega
      · rw [if_neg c] at he
        simp only [Prod.mk.injEq] at he
        rw [he.1, he.2]; omega
theorem GoodT.le {room : Int} {l : List Int} {Tb : Nat → S51} {N n : Nat} (g : GoodT room l Tb N) (h : Pcs room l n) (t : Nat) (ht : t < N ∨ t = 0) : (Tb t).f0 ≤ l.length ∧ (Tb t).f0 * room ≤ l.sum := by
  obtain ⟨q0, q1, q2, q3⟩ := g.bd h t ht
  have h1 := (ssum_le l t (fun x hx => by have := (h.mem x hx).1; omega)).2
  have h2 := h.sum_room
  have h3 : (Tb t).f0 * room ≤ l.length * room := by omega
  exact ⟨Int.le_of_mul_le_mul_right h3 (by have := h.room0; omega), by omega⟩

theorem more_ev (a b c d : Int) : Ev (fun k => remnant_more.f k [a, b, c, d]) (if a = b then (if c = d then false else decide (c > d)) else decide (a > b)) := by
  unfold remnant_more.f
  have w1 : wrap64 (0 + 1) = 1 := w64 (by omega)
  have w2 : wrap64 (0 + 2) = 2 := w64 (by omega)
  have w3 : wrap64 (2 + 1) = 3 := w64 (by omega)
  have w4 : wrap64 (2 + 2) = 4 := w64 (by omega)
  have w5 : wrap64 (4 + 1) = 5 := w64 (by omega)
  have hl : (([a, b, c, d] : List Int).length : Int) = 4 := rfl
  have e0 : rd [a, b, c, d] 0 = a := rfl
  have e1 : rd [a, b, c, d] 1 = b := rfl
  have e2 : rd [a, b, c, d] 2 = c := rfl
  have e3 : rd [a, b, c, d] 3 = d := rfl
  refine Ev.step ?_
  simp only [remnant_more.l0]
  rw [w1, hl, e0, e1]
  refine Ev.pos (by decide) (Ev.pos (by decide) (Ev.pos (by decide) (Ev.pos (by decide) ?_)))
  by_cases h : a = b
  · rw [if_pos h]
    refine Ev.pos h (Ev.step ?_)
    simp only [remnant_more.l0]
    rw [w2, w3, hl, e2, e3]
    refine Ev.pos (by decide) (Ev.pos (by decide) (Ev.pos (by decide) (Ev.pos (by decide) ?_)))
    by_cases h2 : c = d
    · rw [if_pos h2]
      refine Ev.pos h2 (Ev.step ?_)
      simp only [remnant_more.l0]
      rw [w4, w5, hl]
      exact Ev.neg (by decide) (Ev.const _)
    · rw [if_neg h2]
      exact Ev.neg h2 (Ev.const _)
  · rw [if_neg h]
    exact Ev.neg h (Ev.const _)

theorem rdT_nat (l : List S51) (i : Nat) : rd_T51 l (i : Int) = l.getD i z51 := by unfold rd_T51; rw [Int.toNat_natCast]
theorem rdT_set (l : List S51) (j x : Nat) (v : S51) (hj : j < l.length) : rd_T51 (l.set j v) (x : Int) = if x = j then v else rd_T51 l (x : Int) := by
  rw [rdT_nat, rdT_nat, List.getD_eq_getElem?_getD, List.getD_eq_getElem?_getD, List.getElem?_set]
  by_cases h : x = j
  · subst h; simp [hj]
  · rw [if_neg (fun e => h e.symm), if_neg h]

/-- the test of more -/
def betterB (c : Int × Int) (cur : S51) : Bool := if c.1 = cur.f0 then (if c.2 = cur.f1 then false else decide (c.2 > cur.f1)) else decide (c.1 > cur.f0)
theorem better_true {c : Int × Int} {cur : S51} (h : betterB c cur = true) : LexLe (pr cur) c := by
  unfold betterB at h
  by_cases h1 : c.1 = cur.f0
  · rw [if_pos h1] at h
    by_cases h2 : c.2 = cur.f1
    · rw [if_pos h2] at h; cases h
    · rw [if_neg h2, decide_eq_true_eq] at h
      exact .inr ⟨h1.symm, show cur.f1 ≤ c.2 by omega⟩
  · rw [if_neg h1, decide_eq_true_eq] at h
    exact .inl (show cur.f0 < c.1 by omega)
theorem better_false {c : Int × Int} {cur : S51} (h : ¬ betterB c cur = true) : LexLe c (pr cur) := by
  unfold betterB at h
  by_cases h1 : c.1 = cur.f0
  · rw [if_pos h1] at h
    by_cases h2 : c.2 = cur.f1
    · exact .inr ⟨h1, show c.2 ≤ cur.f1 by omega⟩
    · rw [if_neg h2, decide_eq_true_eq] at h
      exact .inr ⟨h1, show c.2 ≤ cur.f1 by omega⟩
  · rw [if_neg h1, decide_eq_true_eq] at h
    exact .inl (show c.1 < cur.f0 by omega)
/-- what a round of the inner loop makes of the entry -/
def nextC (room n : Int) (i : Nat) (prev cur : S51) : S51 :=
  if betterB (stepR room n (pr prev)) cur = true then ⟨(stepR room n (pr prev)).1, (stepR room n (pr prev)).2, i⟩ else cur

theorem inner_ev {room : Int} {l : List Int} {n : Nat} (h : Pcs room l n) (hn : n ≤ 12) (tab : List S51) (s : Nat) (hs0 : 0 < s) (hs : s < tab.length) (htl : tab.length ≤ 4096) (g : GoodT room l (fun t => rd_T51 tab (t : Int)) s) :
    ∀ (d i : Nat) (cur : S51), i + d = l.length → ((cur.f0 = -1 ∧ ∀ j, j < i → s / 2 ^ j % 2 = 0) ∨ ∃ j, j < i ∧ s / 2 ^ j % 2 = 1 ∧ pr cur = stepR room (rd l (j : Int)) (pr (rd_T51 tab ((s - 2 ^ j : Nat) : Int))) ∧ cur.f2 = j) →
      (∀ j, j < i → s / 2 ^ j % 2 = 1 → LexLe (stepR room (rd l (j : Int)) (pr (rd_T51 tab ((s - 2 ^ j : Nat) : Int)))) (pr cur)) → (∃ j, j < l.length ∧ s / 2 ^ j % 2 = 1) →
      ∃ cur' : S51, GoodT room l (fun t => rd_T51 (tab.set s cur') (t : Int)) (s + 1) ∧ ∀ r : List Int × Int × Int, Ev (fun k => remnant_Fill.l0 k room l (tab.set s cur') ((s : Int) + 1)) r → Ev (fun k => remnant_Fill.l1 k room l (tab.set s cur) s l l.length i) r := by
  intro d
  have r1 := h.room1
  have hl := h.len
  induction d with
  | zero =>
    intro i cur hi hA hC hex
    refine ⟨cur, ⟨?_, ?_, ?_⟩, fun r hr => Ev.step ?_⟩
    rotate_left 3
    · simp only [remnant_Fill.l1]
      refine Ev.neg (by omega) ?_
      rw [w64 (by omega)]
      exact hr
    · show pr (rd_T51 (tab.set s cur) ((0 : Nat) : Int)) = _
      rw [rdT_set _ _ _ _ hs, if_neg (by omega)]; exact g.zero
    · intro t ht0 ht j hj hb
      have hp : 0 < 2 ^ j := Nat.two_pow_pos j
      have hge := bit_ge hb
      rw [rdT_set _ _ _ _ hs, rdT_set _ _ _ _ hs]
      rw [if_neg (by omega)]
      by_cases e : t = s
      · subst e
        rw [if_pos rfl]
        exact hC j (by omega) hb
      · rw [if_neg e]; exact g.ge t ht0 (by omega) j hj hb
    · intro t ht0 ht
      by_cases e : t = s
      · subst e
        rcases hA with ⟨-, hA⟩ | ⟨j, hj, hb, he, hf⟩
        · obtain ⟨j, hj, hb⟩ := hex
          rw [hA j (by omega)] at hb; cases hb
        · refine ⟨j, by omega, hb, ?_, ?_⟩
          · have hp : 0 < 2 ^ j := Nat.two_pow_pos j
            rw [rdT_set _ _ _ _ hs, rdT_set _ _ _ _ hs, if_pos rfl, if_neg (by omega)]; exact he
          · rw [rdT_set _ _ _ _ hs, if_pos rfl]; exact hf
      · obtain ⟨j, hj, hb, he, hf⟩ := g.eq t ht0 (by omega)
        refine ⟨j, hj, hb, ?_, ?_⟩
        · have hp : 0 < 2 ^ j := Nat.two_pow_pos j
          rw [rdT_set _ _ _ _ hs, rdT_set _ _ _ _ hs, if_neg e, if_neg (by omega)]; exact he
        · rw [rdT_set _ _ _ _ hs, if_neg e]; exact hf
  | succ d ih =>
    intro i cur hi hA hC hex
    obtain ⟨hb1, hb2⟩ := bit_spec (s := s) (i := i) (by omega) (by omega)
    by_cases c : s / 2 ^ i % 2 = 0
    · have hih : ∃ cur' : S51, GoodT room l (fun t => rd_T51 (tab.set s cur') (t : Int)) (s + 1) ∧ ∀ r : List Int × Int × Int, Ev (fun k => remnant_Fill.l0 k room l (tab.set s cur') ((s : Int) + 1)) r → Ev (fun k => remnant_Fill.l1 k room l (tab.set s cur) s l l.length ((i + 1 : Nat) : Int)) r := by
        refine ih (i + 1) cur (by omega) ?_ ?_ hex
        · rcases hA with ⟨h1, h2⟩ | ⟨j, h1, h2⟩
          · refine .inl ⟨h1, fun j hj => ?_⟩
            by_cases e : j = i
            · rw [e]; exact c
            · exact h2 j (by omega)
          · exact .inr ⟨j, by omega, h2⟩
        · intro j hj hbj
          by_cases e : j = i
          · rw [e, c] at hbj; cases hbj
          · exact hC j (by omega) hbj
      obtain ⟨cur', hg, hk⟩ := hih
      refine ⟨cur', hg, fun r hr => Ev.step ?_⟩
      simp only [remnant_Fill.l1]
      refine Ev.pos (by omega) (Ev.pos (by omega) (Ev.pos (by omega) (Ev.pos (hb1.2 c) ?_)))
      rw [w64 (n := (i : Int) + 1) (by omega)]
      exact hk r hr
    · have hbit : s / 2 ^ i % 2 = 1 := by omega
      rw [if_neg c] at hb2
      have hp : 0 < 2 ^ i := Nat.two_pow_pos i
      have hge := bit_ge hbit
      have hlen : (tab.set s cur).length = tab.length := List.length_set
      have hprev : rd_T51 (tab.set s cur) ((s - 2 ^ i : Nat) : Int) = rd_T51 tab ((s - 2 ^ i : Nat) : Int) := by rw [rdT_set _ _ _ _ hs, if_neg (by omega)]
      have hcur : rd_T51 (tab.set s cur) (s : Int) = cur := by rw [rdT_set _ _ _ _ hs, if_pos rfl]
      obtain ⟨q0, q1, q2, q3⟩ := g.bd h (s - 2 ^ i) (by omega)
      have q4 := (g.le h (s - 2 ^ i) (by omega)).1
      have hx := h.at_ (i := i) (by omega)
      -- the next entry
      have hnext : ∀ prev : S51, prev = rd_T51 tab ((s - 2 ^ i : Nat) : Int) → ∃ cur' : S51, GoodT room l (fun t => rd_T51 (tab.set s cur') (t : Int)) (s + 1) ∧ ∀ r : List Int × Int × Int, Ev (fun k => remnant_Fill.l0 k room l (tab.set s cur') ((s : Int) + 1)) r → Ev (fun k => remnant_Fill.l1 k room l (tab.set s (nextC room (rd l (i : Int)) i prev cur)) s l l.length ((i + 1 : Nat) : Int)) r := by
        intro prev hprv
        have hpf0 : 0 ≤ prev.f0 := by rw [hprv]; exact q0
        have hst0 : 0 ≤ (stepR room (rd l (i : Int)) (pr prev)).1 := by unfold stepR pr; split <;> simp only <;> omega
        by_cases hbt : betterB (stepR room (rd l (i : Int)) (pr prev)) cur = true
        · have e : nextC room (rd l (i : Int)) i prev cur = ⟨(stepR room (rd l (i : Int)) (pr prev)).1, (stepR room (rd l (i : Int)) (pr prev)).2, i⟩ := if_pos hbt
          rw [e]
          refine ih (i + 1) _ (by omega) (.inr ⟨i, by omega, hbit, by rw [← hprv]; rfl, rfl⟩) (fun j hj hbj => ?_) hex
          by_cases e : j = i
          · subst e; rw [← hprv]; exact LexLe.refl _
          · exact (hC j (by omega) hbj).trans (better_true hbt)
        · have e : nextC room (rd l (i : Int)) i prev cur = cur := if_neg hbt
          rw [e]
          refine ih (i + 1) _ (by omega) ?_ (fun j hj hbj => ?_) hex
          · rcases hA with ⟨h1, h2⟩ | ⟨j, h1, h2⟩
            · exfalso
              have := better_false hbt
              unfold LexLe pr at this
              simp only [h1] at this
              have hst0 : 0 ≤ (stepR room (rd l (i : Int)) (prev.f0, prev.f1)).1 := hst0
              omega
            · exact .inr ⟨j, by omega, h2⟩
          · by_cases e : j = i
            · subst e; rw [← hprv]; exact better_false hbt
            · exact hC j (by omega) hbj
      obtain ⟨cur', hg, hn2⟩ := hnext _ rfl
      refine ⟨cur', hg, fun r hr => Ev.step ?_⟩
      replace hn2 := hn2 r hr
      rw [show ((i + 1 : Nat) : Int) = (i : Int) + 1 by omega] at hn2
      simp only [remnant_Fill.l1]
      refine Ev.pos (by omega) (Ev.pos (by omega) (Ev.pos (by omega) (Ev.neg (fun e => c (hb1.1 e)) ?_)))
      rw [w64 (n := (i : Int) + 1) (by omega), hb2]
      refine Ev.pos (by omega) (Ev.pos (by rw [hlen]; omega) ?_)
      rw [hprev, hcur]
      clear hg hnext g ih hC hA
      generalize rd_T51 tab ((s - 2 ^ i : Nat) : Int) = prev at *
      generalize rd l (i : Int) = x at *
      rw [w64 (n := prev.f1 + x) (by omega)]
      unfold nextC at hn2
      by_cases c2 : prev.f1 + x ≥ room
      · refine Ev.pos c2 (Ev.pos (by omega) (Ev.pos (by rw [hlen]; omega) ?_))
        rw [w64 (n := prev.f0 + 1) (by omega)]
        have hst : stepR room x (pr prev) = (prev.f0 + 1, 0) := by unfold stepR pr; rw [if_pos c2]
        rw [hst] at hn2
        refine Ev.bind (more_ev _ _ _ _) ?_
        simp only at hn2
        by_cases c3 : betterB (prev.f0 + 1, 0) cur = true
        · rw [if_pos c3] at hn2
          refine Ev.pos c3 ?_
          rw [Int.toNat_natCast, List.set_set]
          exact hn2
        · rw [if_neg c3] at hn2
          exact Ev.neg c3 hn2
      · refine Ev.neg c2 (Ev.pos (by omega) (Ev.pos (by rw [hlen]; omega) ?_))
        have hst : stepR room x (pr prev) = (prev.f0, prev.f1 + x) := by unfold stepR pr; rw [if_neg c2]
        rw [hst] at hn2
        refine Ev.bind (more_ev _ _ _ _) ?_
        simp only at hn2
        by_cases c3 : betterB (prev.f0, prev.f1 + x) cur = true
        · rw [if_pos c3] at hn2
          refine Ev.pos c3 ?_
          rw [Int.toNat_natCast, List.set_set]
          exact hn2
        · rw [if_neg c3] at hn2
          exact Ev.neg c3 hn2

theorem two_pow_le {L n : Nat} (h : L ≤ n) : 2 ^ L ≤ 2 ^ n := Nat.pow_le_pow_right (by decide) h
theorem has_bit : ∀ (L s : Nat), 0 < s → s < 2 ^ L → ∃ j, j < L ∧ s / 2 ^ j % 2 = 1
  | 0, s, h0, h1 => by simp at h1; omega
  | L + 1, s, h0, h1 => by
    by_cases h : s % 2 = 1
    · exact ⟨0, by omega, by simpa using h⟩
    · obtain ⟨j, hj, hb⟩ := has_bit L (s / 2) (by omega) (by rw [Nat.pow_succ] at h1; omega)
      exact ⟨j + 1, by omega, by rw [Nat.pow_succ, Nat.mul_comm, ← Nat.div_div_eq_div_mul]; exact hb⟩

/-- what stands behind Fill's first loop -/
def fillEnd (k : Nat) (l : List Int) (tab : List S51) : Option (List Int × Int × Int) :=
  (slices_Repeat_int_int.f (([(-1)] : List Int)) (l.length : Int)).bind fun t131 => (if 0 ≤ (wrap64 ((tab.length : Int) - 1)) then (if (wrap64 ((tab.length : Int) - 1)) < (tab.length : Int) then (remnant_Fill.l2 k tab t131 ((rd_T51 tab (wrap64 ((tab.length : Int) - 1))).f0) (wrap64 ((tab.length : Int) - 1))) else (none)) else (none))

theorem outer_ev {room : Int} {l : List Int} {n : Nat} (h : Pcs room l n) (hn : n ≤ 12) : ∀ (d s : Nat) (tab : List S51), s + d = 2 ^ l.length → 0 < s → tab.length = 2 ^ l.length → GoodT room l (fun t => rd_T51 tab (t : Int)) s →
    ∃ tab' : List S51, tab'.length = 2 ^ l.length ∧ GoodT room l (fun t => rd_T51 tab' (t : Int)) (2 ^ l.length) ∧ ∀ r : List Int × Int × Int, Ev (fun k => fillEnd k l tab') r → Ev (fun k => remnant_Fill.l0 k room l tab s) r := by
  intro d
  have hle : 2 ^ l.length ≤ 4096 := two_pow_le (n := 12) (by have := h.len; omega)
  induction d with
  | zero =>
    intro s tab hs hs0 htl g
    refine ⟨tab, htl, (by rw [← hs]; exact g), fun r hr => Ev.step ?_⟩
    simp only [remnant_Fill.l0]
    exact Ev.neg (by omega) hr
  | succ d ih =>
    intro s tab hs hs0 htl g
    obtain ⟨cur', hg, hk⟩ := inner_ev h hn tab s hs0 (by omega) (by omega) g l.length 0 ⟨-1, (rd_T51 tab (s : Int)).f1, (rd_T51 tab (s : Int)).f2⟩ (by omega) (.inl ⟨rfl, fun j hj => by omega⟩) (fun j hj => by omega) (has_bit l.length s hs0 (by omega))
    obtain ⟨tab', h1, h2, h3⟩ := ih (s + 1) (tab.set s cur') (by omega) (by omega) (by rw [List.length_set]; exact htl) hg
    refine ⟨tab', h1, h2, fun r hr => Ev.step ?_⟩
    have hk2 := hk r (by have := h3 r hr; rwa [show ((s + 1 : Nat) : Int) = (s : Int) + 1 by omega] at this)
    simp only [remnant_Fill.l0]
    refine Ev.pos (by omega) (Ev.pos (by omega) ?_)
    rw [Int.toNat_natCast]
    exact hk2

theorem l2_ev {room : Int} {l : List Int} {n : Nat} (h : Pcs room l n) (hn : n ≤ 12) (tab : List S51) (htl : tab.length = 2 ^ l.length) (g : GoodT room l (fun t => rd_T51 tab (t : Int)) (2 ^ l.length)) (count : Int) :
    ∀ (m : Nat) (out : List Int), m < 2 ^ l.length → out.length = l.length → (∀ x ∈ out, -1 ≤ x ∧ x ≤ 12) → ∃ y, Ev (fun k => remnant_Fill.l2 k tab out count m) (y, count, 0) := by
  intro m
  have hle : 2 ^ l.length ≤ 4096 := two_pow_le (n := 12) (by have := h.len; omega)
  have hl := h.len
  induction m using Nat.strongRecOn with
  | ind m ih =>
    intro out hm hol hob
    rcases Nat.eq_zero_or_pos m with e | e
    · subst e
      refine ⟨usedL usedD0 out, Ev.step ?_⟩
      simp only [remnant_Fill.l2]
      refine Ev.neg (by omega) (Ev.bindc ?_ (Ev.const _))
      unfold remnant_used.f
      rw [if_pos]
      simp only [Bool.and_eq_true, decide_eq_true_eq, List.all_eq_true]
      exact ⟨fun x hx => by have := hob x hx; omega, by omega⟩
    · obtain ⟨i, hi, hb, -, hf⟩ := g.eq m e hm
      have hp : 0 < 2 ^ i := Nat.two_pow_pos i
      have hge := bit_ge hb
      obtain ⟨-, hb2⟩ := bit_spec (s := m) (i := i) (by omega) (by omega)
      rw [if_neg (by omega)] at hb2
      obtain ⟨q0, -, -, -⟩ := g.bd h (m - 2 ^ i) (by omega)
      have q4 := (g.le h (m - 2 ^ i) (by omega)).1
      have hq0 : 0 ≤ (rd_T51 tab ((m - 2 ^ i : Nat) : Int)).f0 := q0
      have hq4 : (rd_T51 tab ((m - 2 ^ i : Nat) : Int)).f0 ≤ l.length := q4
      have hf' : (rd_T51 tab (m : Int)).f2 = i := hf
      by_cases c : (rd_T51 tab ((m - 2 ^ i : Nat) : Int)).f0 < count
      · obtain ⟨y, hy⟩ := ih (m - 2 ^ i) (by omega) (out.set i (rd_T51 tab ((m - 2 ^ i : Nat) : Int)).f0) (by omega) (by rw [List.length_set]; exact hol) (fun x hx => by
          rcases List.mem_or_eq_of_mem_set hx with hx | rfl
          · exact hob x hx
          · omega)
        refine ⟨y, Ev.step ?_⟩
        simp only [remnant_Fill.l2]
        rw [hf', hb2]
        refine Ev.pos (by omega) (Ev.pos (by omega) (Ev.pos (by omega) (Ev.pos (by omega) (Ev.pos (by omega) (Ev.pos (by omega) (Ev.pos c (Ev.pos (by omega) ?_)))))))
        rw [Int.toNat_natCast]
        exact hy
      · obtain ⟨y, hy⟩ := ih (m - 2 ^ i) (by omega) out (by omega) hol hob
        refine ⟨y, Ev.step ?_⟩
        simp only [remnant_Fill.l2]
        rw [hf', hb2]
        exact Ev.pos (by omega) (Ev.pos (by omega) (Ev.pos (by omega) (Ev.pos (by omega) (Ev.pos (by omega) (Ev.pos (by omega) (Ev.neg c hy))))))

theorem shl_one : ∀ L : Nat, L ≤ 12 → shl .i64 1 (L : Int) = ((2 ^ L : Nat) : Int) := by decide +kernel

/-- Fill: the number of boxes of the right table -/
theorem fill_ev {room : Int} {l : List Int} {n : Nat} (h : Pcs room l n) (hn : n ≤ 12) : ∃ (y : List Int) (Tb : Nat → S51), GoodT room l Tb (2 ^ l.length) ∧ Ev (fun k => remnant_Fill.f k room l) (y, (Tb (2 ^ l.length - 1)).f0, 0) := by
  have hl := h.len
  have hle : 2 ^ l.length ≤ 4096 := two_pow_le (n := 12) (by omega)
  have hp : 0 < 2 ^ l.length := Nat.two_pow_pos _
  obtain ⟨tab, h1, h2, h3⟩ := outer_ev h hn (2 ^ l.length - 1) 1 (List.replicate (2 ^ l.length) z51) (by omega) (by omega) (by simp) ⟨by
    show pr (rd_T51 _ ((0 : Nat) : Int)) = _
    rw [rdT_nat, List.getD_eq_getElem?_getD, List.getElem?_replicate, if_pos hp]; rfl, fun t h0 h1 => by omega, fun t h0 h1 => by omega⟩
  obtain ⟨y, hy⟩ := l2_ev h hn tab h1 h2 (rd_T51 tab ((2 ^ l.length - 1 : Nat) : Int)).f0 (2 ^ l.length - 1) (List.replicate l.length (-1)) (by omega) (by simp) (fun x hx => by rw [List.eq_of_mem_replicate hx]; omega)
  refine ⟨y, _, h2, ?_⟩
  unfold remnant_Fill.f
  rw [shl_one l.length (by omega), Int.toNat_natCast]
  refine Ev.bindc (h.are hn) (Ev.pos rfl (Ev.pos (by omega) (Ev.pos (by omega) (h3 _ ?_))))
  unfold fillEnd
  have hrep : slices_Repeat_int_int.f [(-1)] (l.length : Int) = some (List.replicate l.length (-1)) := by
    unfold slices_Repeat_int_int.f
    rw [if_pos ⟨rfl, by omega, by omega⟩, Int.toNat_natCast]; rfl
  refine Ev.bindc hrep ?_
  rw [h1, w64 (n := ((2 ^ l.length : Nat) : Int) - 1) (by omega), show ((2 ^ l.length : Nat) : Int) - 1 = ((2 ^ l.length - 1 : Nat) : Int) by omega]
  exact Ev.pos (by omega) (Ev.pos (by omega) hy)
end Go.Proofs.Ytpckfllalpiliaa.G
