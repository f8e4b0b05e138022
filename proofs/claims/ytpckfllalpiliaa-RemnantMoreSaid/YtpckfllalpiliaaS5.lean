/- Split in the printer's form. -/
import Derived.Test.YtpckfllalpiliaaS3
namespace Go.Proofs.Ytpckfllalpiliaa.G
open Go.RowKit Go.Shelf Go.Proofs.YtpckfllalpiliaaW.PrintWords Go.Proofs.YtpckfllalpiliaaW.PrintMore Go.Proofs.YtpckfllalpiliaaW.PrintLast
set_option linter.unusedVariables false

theorem splitStep_mono (ps : List Int) (all : Int) (k : Nat) (acc : List Int × Int) (l : List Int) : LeO (splitStep k ps all acc l) (splitStep (k + 1) ps all acc l) := by
  unfold splitStep
  exact LeO.ite (LeO.refl _) (LeO.bind (remnant_sum.mono ps l k) (fun _ => LeO.refl _))
theorem splitAll_mono (ps : List Int) (all : Int) (k : Nat) : ∀ (S : List (List Int)) (acc : List Int × Int), LeO (splitAll k ps all S acc) (splitAll (k + 1) ps all S acc)
  | [], acc => LeO.refl _
  | l :: S, acc => LeO.bind (splitStep_mono ps all k acc l) (fun x => splitAll_mono ps all k S x)
theorem remnant_Split.mono (l0 : List Int) (k : Nat) : LeO (remnant_Split.f k l0) (remnant_Split.f (k + 1) l0) := by
  unfold remnant_Split.f
  exact LeO.ite (LeO.bind (remnant_inOrder.mono l0 k) (fun o => LeO.bind (remnant_sum.mono l0 o k) (fun all => LeO.bind (splitAll_mono l0 all k _ _) (fun _ => LeO.refl _)))) (LeO.refl _)
theorem remnant_Split.calls (k : Nat) (A0 : Option Addr) (c0 : Nat) (l0 : List Int) (r1 : List Int) (r2 : Int) (r3 : Int) (w : World) (hr0 : Kd.C (Kd.int .i64) w A0 l0.length l0) (hc0 : l0.length ≤ c0) (h : remnant_Split.f k l0 = some (r1, r2, r3)) :
    Calls Try.prog 31 #[.slice A0 l0.length c0] w fun e w' => ∃ v0_ : Value, e = .returned (.tuple #[v0_, .int .i64 r2, .int .i64 r3]) ∧ Kd.R (Kd.int .i64) 3 w' w.heap.size (fun _ => True) v0_ r1 ∧ Below w.heap.size w w' := by
  unfold remnant_Split.f at h
  split at h
  · rename_i hp
    obtain ⟨o, h1, h⟩ := Option.bind_eq_some_iff.1 h
    obtain ⟨all, h2, h⟩ := Option.bind_eq_some_iff.1 h
    obtain ⟨r, h3, h⟩ := Option.bind_eq_some_iff.1 h
    have h4 := Option.some.inj h
    simp only [Prod.mk.injEq] at h4
    obtain ⟨rfl, rfl, rfl⟩ := h4
    have hl : l0.length ≤ 1000 := by
      unfold piecesB at hp
      simp only [Bool.and_eq_true, decide_eq_true_eq] at hp
      omega
    refine (split_walk k A0 c0 l0 o all r w hr0 hc0 hp hl h1 h2 h3).mono ?_
    rintro e w' ⟨v, he, hrow, hb⟩
    exact ⟨v, he, R_of_RowF hrow, hb⟩
  · rename_i hp
    obtain ⟨rfl, rfl, rfl⟩ : r1 = [] ∧ r2 = 0 ∧ r3 = 2 := by
      have := Option.some.inj h
      simp only [Prod.mk.injEq] at this
      exact ⟨this.1.symm, this.2.1.symm, this.2.2.symm⟩
    have HP := Aside0.mk (show remnant_arePieces.f 100 l0 = some false by unfold remnant_arePieces.f; rw [Bool.not_eq_true] at hp; rw [hp])
    have HR := Aside0.mk hr0
    have HC := Aside0.mk hc0
    clear hp h hr0 hc0
    go_enter Try.func31, Try.ntmps31
    go_wp2_with fail
    refine (remnant_arePieces.calls 100 A0 c0 l0 false _ (Kd.C_alloc HR.out _) HC.out HP.out).mono ?_
    rintro e w1 ⟨rfl, hb1⟩
    have b1 : w1.heap[w.heap.size]? = some (.cells #[.slice A0 l0.length c0] 22 (0, 0)) := blk_below (blk_new w _) hb1
    have HB := Aside0.mk (((Below.refl _ w).alloc (Nat.le_refl _) (.cells #[.slice A0 l0.length c0] 22)).trans (hb1.mono (by simp)))
    clear hb1 b1
    go_wp2_with fail
    go_ret3
    exact ⟨_, rfl, Kd.R_nil _ _ _ _ _, HB.out⟩
end Go.Proofs.Ytpckfllalpiliaa.G
