/- RemnantBounds: its call answers true where its callees' answers meet the law. -/
import Derived.Test.YtpckfllalpiliaaK6
namespace Go.Proofs.Ytpckfllalpiliaa.G
open Go.RowKit Go.Proofs.YtpckfllalpiliaaW.PrintWords Go.Proofs.YtpckfllalpiliaaW.PrintMore Go.Proofs.YtpckfllalpiliaaW.PrintLast
set_option linter.unusedVariables false

set_option maxHeartbeats 4000000 in
set_option maxRecDepth 100000 in
theorem bounds_head (a0 : Int) (A1 : Option Addr) (c1 : Nat) (l1 : List Int) (a2 : Int) (w : World) (hr1 : Kd.C (Kd.int .i64) w A1 l1.length l1) (hc1 : l1.length ≤ c1) (k : Nat)
    (room : Int) (l p y : List Int) (n wt at_ t x kk s : Int) (htame : galloonlaw09_tame.f k a0 l1 12 = some (room, l)) (hbest : remnant_Best.f k room l = some (p, n, 0)) (hweight : remnant_Weight.f k room l = some (wt, at_, 0))
    (hmod : galloonlaw09_mod.f a2 (room / 2 + 1) = some t) (hweigh : remnant_Weigh.f k room l t = some (x, 0)) (hweigh2 : remnant_Weigh.f k room l at_ = some (wt, 0)) (hfill : remnant_Fill.f k room l = some (y, kk, 0)) (hsum : galloonlaw09_sum.f k l = some s)
    (hroom : 1 ≤ room ∧ room ≤ 100) (hs : 0 ≤ s ∧ s ≤ 100000) (h1 : wt ≤ n) (h2 : (s + room - 1) / room ≤ wt) (h3 : x ≤ wt) (h4 : kk ≤ n) (h5 : 0 ≤ kk) (h6 : kk * room ≤ s) :
    Calls Try.prog 3 #[.int .i64 a0, .slice A1 l1.length c1, .int .i64 a2] w fun e w' => e = .returned (.bool true) ∧ Below w.heap.size w w' := by
  have HR := Aside0.mk hr1
  have HC := Aside0.mk hc1
  have HT := Aside0.mk htame
  have HB := Aside0.mk hbest
  have HW := Aside0.mk hweight
  have HM := Aside0.mk hmod
  have HX := Aside0.mk hweigh
  have HY := Aside0.mk hweigh2
  have HF := Aside0.mk hfill
  have HS := Aside0.mk hsum
  have hwr : wrap64 (kk * room) = kk * room := IntWalk.wrap64_in _ (by have : 0 ≤ kk * room := Int.mul_nonneg h5 (by omega); omega)
  clear hr1 hc1 htame hbest hweight hmod hweigh hweigh2 hfill hsum
  go_enter Try.func3, Try.ntmps3
  go_wp2_with fail
  refine (galloonlaw09_tame.calls k a0 A1 c1 l1 12 room l _ HR.out HC.out HT.out).mono ?_
  rintro e w1 ⟨v1, rfl, hl1, hb1⟩
  obtain ⟨A, c, rfl, hc, hC⟩ := Kd.R_reads hl1
  have B1 := Aside0.mk hb1
  have R1 := Aside0.mk (And.intro hc hC)
  clear hb1 hl1 hc hC
  go_wp2_with fail
  refine (remnant_Best.calls k room A c l p n 0 _ R1.out.2 R1.out.1 HB.out).mono ?_
  rintro e w2 ⟨v2, rfl, hl2, hb2⟩
  have R2 := Aside0.mk (And.intro R1.out.1 (Kd.C_below R1.out.2 hb2))
  have B2 := Aside0.mk (B1.out.trans (hb2.mono B1.out.size))
  obtain ⟨A2, c2, rfl, -, -⟩ := Kd.R_reads hl2
  clear hb2 hl2 R1 B1
  go_wp2_with fail
  refine (remnant_Weight.calls k room A c l wt at_ 0 _ R2.out.2 R2.out.1 HW.out).mono ?_
  rintro e w3 ⟨rfl, hb3⟩
  have R3 := Aside0.mk (And.intro R2.out.1 (Kd.C_below R2.out.2 hb3))
  have B3 := Aside0.mk (B2.out.trans (hb3.mono B2.out.size))
  clear hb3 R2 B2
  go_wp2_with fail
  refine (galloonlaw09_mod.calls a2 (room / 2 + 1) t _ HM.out).mono ?_
  rintro e w4 ⟨rfl, hd4⟩
  have R4 := Aside0.mk (And.intro R3.out.1 (Kd.C_below R3.out.2 hd4.below))
  have B4 := Aside0.mk (B3.out.trans (hd4.below.mono B3.out.size))
  clear hd4 R3 B3
  go_wp2_with fail
  refine (remnant_Weigh.calls k room A c l t x 0 _ R4.out.2 R4.out.1 HX.out).mono ?_
  rintro e w5 ⟨rfl, hb5⟩
  have R5 := Aside0.mk (And.intro R4.out.1 (Kd.C_below R4.out.2 hb5))
  have B5 := Aside0.mk (B4.out.trans (hb5.mono B4.out.size))
  clear hb5 R4 B4
  go_wp2_with fail
  refine (remnant_Weigh.calls k room A c l at_ wt 0 _ R5.out.2 R5.out.1 HY.out).mono ?_
  rintro e w6 ⟨rfl, hb6⟩
  have R6 := Aside0.mk (And.intro R5.out.1 (Kd.C_below R5.out.2 hb6))
  have B6 := Aside0.mk (B5.out.trans (hb6.mono B5.out.size))
  clear hb6 R5 B5
  go_wp2_with fail
  refine (remnant_Fill.calls k room A c l y kk 0 _ R6.out.2 R6.out.1 HF.out).mono ?_
  rintro e w7 ⟨v7, rfl, hl7, hb7⟩
  have R7 := Aside0.mk (And.intro R6.out.1 (Kd.C_below R6.out.2 hb7))
  have B7 := Aside0.mk (B6.out.trans (hb7.mono B6.out.size))
  obtain ⟨A7, c7, rfl, -, -⟩ := Kd.R_reads hl7
  clear hb7 hl7 R6 B6
  go_wp2_with fail
  refine (galloonlaw09_sum.calls k A c l s _ R7.out.2 R7.out.1 HS.out).mono ?_
  rintro e w8 ⟨rfl, hd8⟩
  have R8 := Aside0.mk (And.intro R7.out.1 (Kd.C_below R7.out.2 hd8.below))
  have B8 := Aside0.mk (B7.out.trans (hd8.below.mono B7.out.size))
  clear hd8 R7 B7
  go_wp2_with fail
  refine (galloonlaw09_sum.calls k A c l s _ R8.out.2 R8.out.1 HS.out).mono ?_
  rintro e w9 ⟨rfl, hd9⟩
  have B9 := Aside0.mk (B8.out.trans (hd9.below.mono B8.out.size))
  clear hd9 R8 B8
  go_wp2_with fail
  refine (galloonlaw09_awake.calls true _ rfl).mono ?_
  rintro e w10 ⟨rfl, hb10⟩
  have B10 := Aside0.mk (B9.out.trans (hb10.mono B9.out.size))
  clear hb10 B9
  go_wp2_with fail
  go_ret
  exact ⟨rfl, B10.out⟩
end Go.Proofs.Ytpckfllalpiliaa.G
