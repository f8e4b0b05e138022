/- First in the printer's form. -/
import Derived.Test.YtpckfllalpiliaaH4
import Derived.Test.YtpckfllalpiliaaG2x
namespace Go.Proofs.Ytpckfllalpiliaa.G
open Go.RowKit Go.Proofs.YtpckfllalpiliaaW.PrintWords Go.Proofs.YtpckfllalpiliaaW.PrintMore Go.Proofs.YtpckfllalpiliaaW.PrintLast
set_option linter.unusedVariables false

def fitOk (ps od : List Int) : Bool := (od.all fun i => decide (0 ≤ i) && decide (i < ps.length)) && decide (od.length ≤ 12) && decide (ps.length ≤ 1000)
def remnant_First.f (k : Nat) (room : Int) (ps : List Int) : Option (List Int × Int) :=
  if piecesB room ps = true then (remnant_inOrder.f k ps).bind fun o => if fitOk ps o = true then some (fitL room ps o (List.replicate 12 0) 0 (List.replicate ps.length 0), 0) else none else some ([], 2)
theorem remnant_First.mono (a0 : Int) (l1 : List Int) (k : Nat) : LeO (remnant_First.f k a0 l1) (remnant_First.f (k + 1) a0 l1) := by
  unfold remnant_First.f
  exact LeO.ite (LeO.bind (remnant_inOrder.mono l1 k) (fun _ => LeO.refl _)) (LeO.refl _)
theorem remnant_First.calls (k : Nat) (a0 : Int) (A1 : Option Addr) (c1 : Nat) (l1 : List Int) (r1 : List Int) (r2 : Int) (w : World) (hr1 : Kd.C (Kd.int .i64) w A1 l1.length l1) (hc1 : l1.length ≤ c1) (h : remnant_First.f k a0 l1 = some (r1, r2)) :
    Calls Try.prog 30 #[.int .i64 a0, .slice A1 l1.length c1] w fun e w' => ∃ v0_ : Value, e = .returned (.tuple #[v0_, .int .i64 r2]) ∧ Kd.R (Kd.int .i64) 3 w' w.heap.size (fun _ => True) v0_ r1 ∧ Below w.heap.size w w' := by
  unfold remnant_First.f at h
  have HR := Aside0.mk hr1
  have HC := Aside0.mk hc1
  clear hr1 hc1
  split at h
  · rename_i hp
    obtain ⟨o, h1, h⟩ := Option.bind_eq_some_iff.1 h
    split at h
    · rename_i hok
      have h4 := Option.some.inj h
      simp only [Prod.mk.injEq] at h4
      obtain ⟨rfl, rfl⟩ := h4
      unfold fitOk at hok
      simp only [Bool.and_eq_true, decide_eq_true_eq, List.all_eq_true] at hok
      have HP := Aside0.mk (show remnant_arePieces.f a0 l1 = some true by unfold remnant_arePieces.f; rw [hp])
      have HO := Aside0.mk h1
      have HK := Aside0.mk hok
      clear hp h1 hok h
      go_enter Try.func30, Try.ntmps30
      go_wp2_with fail
      refine (remnant_arePieces.calls a0 A1 c1 l1 true _ HR.out HC.out HP.out).mono ?_
      rintro e w1 ⟨rfl, hb1⟩
      have HB1 := Aside0.mk hb1
      clear hb1
      go_wp2_with fail
      refine (remnant_inOrder.calls k A1 c1 l1 o _ (Kd.C_below HR.out HB1.out) HC.out HO.out).mono ?_
      rintro e w2 ⟨v, rfl, hl, hb2⟩
      obtain ⟨A5, c5, rfl, hc5, hC5⟩ := Kd.R_reads hl
      have HB2 := Aside0.mk (HB1.out.trans (hb2.mono HB1.out.size))
      have HC5 := Aside0.mk hC5
      clear hl hb2 hC5 hc5
      go_wp2_with fail
      refine (fit_walk a0 A1 c1 l1 A5 c5 o _ (Kd.C_below HR.out HB2.out) HC5.out HK.out.1.1 HK.out.1.2 HK.out.2).mono ?_
      rintro e w3 ⟨v, rfl, hl, hb3⟩
      have HB3 := Aside0.mk (HB2.out.trans (hb3.mono HB2.out.size))
      have HL := Aside0.mk (Kd.R_lower hl HB2.out.size)
      clear hl hb3
      go_wp2_with fail
      go_ret2
      exact ⟨_, rfl, HL.out, HB3.out⟩
    · cases h
  · rename_i hp
    obtain ⟨rfl, rfl⟩ : r1 = [] ∧ r2 = 2 := by
      have := Option.some.inj h
      simp only [Prod.mk.injEq] at this
      exact ⟨this.1.symm, this.2.symm⟩
    have HP := Aside0.mk (show remnant_arePieces.f a0 l1 = some false by unfold remnant_arePieces.f; rw [Bool.not_eq_true] at hp; rw [hp])
    clear hp h
    go_enter Try.func30, Try.ntmps30
    go_wp2_with fail
    refine (remnant_arePieces.calls a0 A1 c1 l1 false _ HR.out HC.out HP.out).mono ?_
    rintro e w1 ⟨rfl, hb1⟩
    have HB1 := Aside0.mk hb1
    clear hb1
    go_wp2_with fail
    go_ret2
    exact ⟨_, rfl, Kd.R_nil _ _ _ _ _, HB1.out⟩
end Go.Proofs.Ytpckfllalpiliaa.G
