/- Plain Lean: a function with rounds comes to an answer from some number of rounds on. -/
import Derived.Test.YtohgdegklhlldaaG0x0
namespace Go.Proofs.Ytohgdegklhlldaa.G
open Go.RowKit Go.Proofs.YtohgdegklhlldaaW.PrintWords

/-- from some round on the answer is r -/
def Ev {α : Type} (g : Nat → Option α) (r : α) : Prop := ∃ k0, ∀ k, k0 ≤ k → g k = some r
theorem Ev.step {α : Type} {g : Nat → Option α} {r : α} (h : Ev (fun k => g (k + 1)) r) : Ev g r := by
  obtain ⟨k0, h⟩ := h
  refine ⟨k0 + 1, fun k hk => ?_⟩
  have := h (k - 1) (by omega)
  dsimp only at this
  rwa [show k - 1 + 1 = k by omega] at this
theorem Ev.const {α : Type} (r : α) : Ev (fun _ => some r) r := ⟨0, fun _ _ => rfl⟩
theorem Ev.bind {α β : Type} {f : Nat → Option α} {h : Nat → α → Option β} {a : α} {r : β} (hf : Ev f a) (hh : Ev (fun k => h k a) r) : Ev (fun k => (f k).bind (h k)) r := by
  obtain ⟨k1, h1⟩ := hf; obtain ⟨k2, h2⟩ := hh
  exact ⟨max k1 k2, fun k hk => by show (f k).bind (h k) = some r; rw [h1 k (by omega)]; exact h2 k (by omega)⟩
theorem Ev.bindc {α β : Type} {f : Option α} {h : Nat → α → Option β} {a : α} {r : β} (hf : f = some a) (hh : Ev (fun k => h k a) r) : Ev (fun k => f.bind (h k)) r := by
  subst hf; exact hh
theorem Ev.pos {α : Type} {c : Prop} [Decidable c] {A B : Nat → Option α} {r : α} (hc : c) (h : Ev A r) : Ev (fun k => if c then A k else B k) r := by
  simpa only [if_pos hc] using h
theorem Ev.neg {α : Type} {c : Prop} [Decidable c] {A B : Nat → Option α} {r : α} (hc : ¬ c) (h : Ev B r) : Ev (fun k => if c then A k else B k) r := by
  simpa only [if_neg hc] using h
theorem Ev.of_mono {α : Type} {g : Nat → Option α} (hm : ∀ k, LeO (g k) (g (k + 1))) {k0 : Nat} {r : α} (h : g k0 = some r) : Ev g r :=
  ⟨k0, fun k hk => at_rounds hm hk h⟩
theorem Ev.congr {α : Type} {g g' : Nat → Option α} {r : α} (h : Ev g' r) (e : ∀ k, g k = g' k) : Ev g r := by
  obtain ⟨k0, h⟩ := h
  exact ⟨k0, fun k hk => (e k).trans (h k hk)⟩

theorem w64 {n : Int} (h : -9223372036854775808 ≤ n ∧ n ≤ 9223372036854775807) : wrap64 n = n := by unfold wrap64; omega
theorem rd_nat (l : List Int) (i : Nat) : rd l (i : Int) = l.getD i 0 := by unfold rd; rw [Int.toNat_natCast]
theorem rd_mem {l : List Int} {i : Int} (h0 : 0 ≤ i) (h1 : i < l.length) : rd l i ∈ l := by
  unfold rd; rw [List.getD_eq_getElem?_getD, List.getElem?_eq_getElem (by omega)]; exact List.getElem_mem _
theorem mem_rd {l : List Int} {x : Int} (h : x ∈ l) : ∃ i : Nat, i < l.length ∧ rd l (i : Int) = x := by
  obtain ⟨i, hi, rfl⟩ := List.getElem_of_mem h
  exact ⟨i, hi, by rw [rd_nat, List.getD_eq_getElem?_getD, List.getElem?_eq_getElem hi]; rfl⟩
theorem rd_set (l : List Int) (j x : Nat) (v : Int) (hj : j < l.length) : rd (l.set j v) (x : Int) = if x = j then v else rd l (x : Int) := by
  rw [rd_nat, rd_nat, List.getD_eq_getElem?_getD, List.getD_eq_getElem?_getD, List.getElem?_set]
  by_cases h : x = j
  · subst h; simp [hj]
  · rw [if_neg (fun e => h e.symm), if_neg h]
theorem rd_snoc (l : List Int) (x : Nat) (v : Int) (hx : x ≤ l.length) : rd (l ++ [v]) (x : Int) = if x = l.length then v else rd l (x : Int) := by
  rw [rd_nat, rd_nat, List.getD_eq_getElem?_getD, List.getD_eq_getElem?_getD]
  by_cases h : x = l.length
  · subst h; simp
  · rw [List.getElem?_append_left (by omega), if_neg h]
theorem tmod_emod {a b : Int} (h : 0 ≤ a) : Int.tmod a b = a % b := Int.tmod_eq_emod_of_nonneg h
end Go.Proofs.Ytohgdegklhlldaa.G
