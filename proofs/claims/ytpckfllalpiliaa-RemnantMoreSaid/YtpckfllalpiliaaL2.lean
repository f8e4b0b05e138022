/- RemnantMore: its call answers true where its callees' answers meet the law. -/
import Derived.Test.YtpckfllalpiliaaK6
import Derived.Test.YtpckfllalpiliaaU2
namespace Go.Proofs.Ytpckfllalpiliaa.G
open Go.RowKit Go.Proofs.YtpckfllalpiliaaW.PrintWords Go.Proofs.YtpckfllalpiliaaW.PrintMore Go.Proofs.YtpckfllalpiliaaW.PrintLast
set_option linter.unusedVariables false

set_option maxHeartbeats 8000000 in
set_option maxRecDepth 100000 in
theorem more_head (a0 : Int) (A1 : Option Addr) (c1 : Nat) (l1 : List Int) (a2 : Int) (w : World) (hr1 : Kd.C (Kd.int .i64) w A1 l1.length l1) (hc1 : l1.length ≤ c1) (k : Nat)
    (room : Int) (l ml fl b1 b2 y1 y2 : List Int) (t n m v wy j p : Int) (hml : l ++ [1 + t] = ml) (hfl : l ++ [room] = fl) (htame : galloonlaw09_tame.f k a0 l1 11 = some (room, l)) (hmod : galloonlaw09_mod.f a2 room = some t) (hll : l.length ≤ 11) (hroom : 1 ≤ room ∧ room ≤ 100) (ht : 0 ≤ t ∧ t < room)
    (hb1 : remnant_Best.f k room l = some (b1, n, 0)) (hb2 : remnant_Best.f k room ml = some (b2, m, 0)) (hv : remnant_Ways.f room l = some (v, 0)) (hwy : remnant_Ways.f room ml = some (wy, 0)) (hx : remnant_Ways.f room fl = some (v, 0))
    (hf1 : remnant_Fill.f k room l = some (y1, j, 0)) (hf2 : remnant_Fill.f k room ml = some (y2, p, 0))
    (h1 : n ≤ m) (h2 : m ≤ n + 1) (h3 : v ≤ wy) (h4 : j ≤ p) (h5 : p ≤ j + 1) (hn : 0 ≤ n ∧ n ≤ 1000) (hj : 0 ≤ j ∧ j ≤ 1000) :
    Calls Try.prog 4 #[.int .i64 a0, .slice A1 l1.length c1, .int .i64 a2] w fun e w' => e = .returned (.bool true) ∧ Below w.heap.size w w' := by
  have HML := Aside0.mk hml
  have HFL := Aside0.mk hfl
  have HR := Aside0.mk hr1
  have HC := Aside0.mk hc1
  have HT := Aside0.mk htame
  have HM := Aside0.mk hmod
  have HLL := Aside0.mk hll
  have HLI := Aside0.mk (show galloonlaw09_list.f l = some l by unfold galloonlaw09_list.f; rw [List.take_of_length_le (by omega)])
  have HB1 := Aside0.mk hb1
  have HB2 := Aside0.mk hb2
  have HV := Aside0.mk hv
  have HW := Aside0.mk hwy
  have HX := Aside0.mk hx
  have HF1 := Aside0.mk hf1
  have HF2 := Aside0.mk hf2
  clear hml hfl hr1 hc1 htame hmod hb1 hb2 hv hwy hx hf1 hf2 hll
  obtain ⟨hq1, hq2⟩ := hroom
  obtain ⟨hq3, hq4⟩ := ht
  have hm2 : m = n ∨ m = n + 1 := by omega
  go_enter Try.func4, Try.ntmps4
  go_wp2_with fail
  refine (galloonlaw09_tame.calls k a0 A1 c1 l1 11 room l _ HR.out HC.out HT.out).mono ?_
  rintro e w1 ⟨v1, rfl, hl1, hd1⟩
  obtain ⟨A, c, rfl, hc, hC⟩ := Kd.R_reads hl1
  have B1 := Aside0.mk hd1
  have R1 := Aside0.mk (And.intro hc hC)
  clear hd1 hl1 hc hC
  go_wp2_with fail
  refine (galloonlaw09_list.calls A c l l _ R1.out.2 R1.out.1 HLI.out).mono ?_
  rintro e w2 ⟨v2, rfl, hl2, hd2⟩
  obtain ⟨A2, c2, rfl⟩ := Kd.R_slice hl2
  have B2 := Aside0.mk hd2
  have V2 := Aside0.mk hl2
  clear hd2 hl2
  have hll2 := HLL.out
  go_wp2_with (first | (go_at_call 10; refine (galloonlaw09_mod.calls a2 room t _ HM.out).mono ?_; rintro e w3 ⟨rfl, ⟨nd, rfl⟩⟩) | (at_builtin; (refine Kd.R_append (Kd.int .i64) (w0 := w1) w1.heap.size rfl (.tmp 35) (.tmp 40) 22 3 (.int .i64 0) 8 rfl Try.underlying22 info3 rfl (by decide) (by omega) (.slice A2 l.length c2) l (1 + t) [.int .i64 (1 + t)] (fun _ => True) (fun _ => False) rfl rfl rfl (fun _ hk => hk.elim) (fun _ _ => trivial) (Kd.R_drewN V2.out nd) (pw_below_drewN B2.out nd) (Below.size (pw_below_drewN B2.out nd)) (by omega) ?_); intro v3 w3 ho3 hb3 hg3 hat3; have V3 := Aside0.mk ho3; have B3 := Aside0.mk hb3; clear ho3 hb3 hg3 hat3))
  have v3x := V3.out
  rw [HML.out] at v3x
  obtain ⟨A3, c3, rfl, hc3, hC3⟩ := Kd.R_reads v3x
  clear v3x
  have R3 := Aside0.mk (And.intro R1.out.1 (Kd.C_below R1.out.2 B3.out))
  have Q3 := Aside0.mk (And.intro hc3 hC3)
  have D3 := Aside0.mk (B1.out.trans (B3.out.mono B1.out.size))
  clear hc3 hC3 R1 B1 V2 B2 V3 B3
  refine (galloonlaw09_list.calls A c l l _ R3.out.2 R3.out.1 HLI.out).mono ?_
  rintro e w4 ⟨v4, rfl, hl4, hd4⟩
  obtain ⟨A4, c4, rfl⟩ := Kd.R_slice hl4
  have B4 := Aside0.mk hd4
  have V4 := Aside0.mk hl4
  clear hd4 hl4
  go_wp2_with (at_builtin; (refine Kd.R_append (Kd.int .i64) (w0 := w3) w3.heap.size rfl (.tmp 43) (.tmp 45) 22 3 (.int .i64 0) 8 rfl Try.underlying22 info3 rfl (by decide) (by omega) (.slice A4 l.length c4) l room [.int .i64 room] (fun _ => True) (fun _ => False) rfl rfl rfl (fun _ hk => hk.elim) (fun _ _ => trivial) V4.out B4.out (Below.size B4.out) (by omega) ?_); intro v5 w5 ho5 hb5 hg5 hat5; have V5 := Aside0.mk ho5; have B5 := Aside0.mk hb5; clear ho5 hb5 hg5 hat5)
  have v5x := V5.out
  rw [HFL.out] at v5x
  obtain ⟨A5, c5, rfl, hc5, hC5⟩ := Kd.R_reads v5x
  clear v5x
  have R5 := Aside0.mk (And.intro R3.out.1 (Kd.C_below R3.out.2 B5.out))
  have Q5 := Aside0.mk (And.intro Q3.out.1 (Kd.C_below Q3.out.2 B5.out))
  have F5 := Aside0.mk (And.intro hc5 hC5)
  have D5 := Aside0.mk (D3.out.trans (B5.out.mono D3.out.size))
  clear hc5 hC5 R3 Q3 D3 V4 B4 V5 B5

  refine (remnant_Best.calls k room A c l b1 n 0 _ R5.out.2 R5.out.1 HB1.out).mono ?_
  rintro e w6 ⟨v6, rfl, hl6, hd6⟩
  obtain ⟨A6, c6, rfl⟩ := Kd.R_slice hl6
  clear hl6
  have R6 := Aside0.mk (And.intro R5.out.1 (Kd.C_below R5.out.2 hd6))
  have Q6 := Aside0.mk (And.intro Q5.out.1 (Kd.C_below Q5.out.2 hd6))
  have F6 := Aside0.mk (And.intro F5.out.1 (Kd.C_below F5.out.2 hd6))
  have D6 := Aside0.mk (D5.out.trans (hd6.mono D5.out.size))
  clear hd6 R5 Q5 F5 D5
  go_wp2_with fail
  refine (remnant_Best.calls k room A3 c3 ml b2 m 0 _ Q6.out.2 Q6.out.1 HB2.out).mono ?_
  rintro e w7 ⟨v7, rfl, hl7, hd7⟩
  obtain ⟨A7, c7, rfl⟩ := Kd.R_slice hl7
  clear hl7
  have R7 := Aside0.mk (And.intro R6.out.1 (Kd.C_below R6.out.2 hd7))
  have Q7 := Aside0.mk (And.intro Q6.out.1 (Kd.C_below Q6.out.2 hd7))
  have F7 := Aside0.mk (And.intro F6.out.1 (Kd.C_below F6.out.2 hd7))
  have D7 := Aside0.mk (D6.out.trans (hd7.mono D6.out.size))
  clear hd7 R6 Q6 F6 D6
  go_wp2_with fail
  refine (remnant_Ways.calls room A c l v 0 _ R7.out.2 R7.out.1 HV.out).mono ?_
  rintro e w8 ⟨rfl, hd8⟩
  have R8 := Aside0.mk (And.intro R7.out.1 (Kd.C_below R7.out.2 hd8))
  have Q8 := Aside0.mk (And.intro Q7.out.1 (Kd.C_below Q7.out.2 hd8))
  have F8 := Aside0.mk (And.intro F7.out.1 (Kd.C_below F7.out.2 hd8))
  have D8 := Aside0.mk (D7.out.trans (hd8.mono D7.out.size))
  clear hd8 R7 Q7 F7 D7
  go_wp2_with fail
  refine (remnant_Ways.calls room A3 c3 ml wy 0 _ Q8.out.2 Q8.out.1 HW.out).mono ?_
  rintro e w9 ⟨rfl, hd9⟩
  have R9 := Aside0.mk (And.intro R8.out.1 (Kd.C_below R8.out.2 hd9))
  have Q9 := Aside0.mk (And.intro Q8.out.1 (Kd.C_below Q8.out.2 hd9))
  have F9 := Aside0.mk (And.intro F8.out.1 (Kd.C_below F8.out.2 hd9))
  have D9 := Aside0.mk (D8.out.trans (hd9.mono D8.out.size))
  clear hd9 R8 Q8 F8 D8
  go_wp2_with fail
  refine (remnant_Ways.calls room A5 c5 fl v 0 _ F9.out.2 F9.out.1 HX.out).mono ?_
  rintro e w10 ⟨rfl, hd10⟩
  have R10 := Aside0.mk (And.intro R9.out.1 (Kd.C_below R9.out.2 hd10))
  have Q10 := Aside0.mk (And.intro Q9.out.1 (Kd.C_below Q9.out.2 hd10))
  have F10 := Aside0.mk (And.intro F9.out.1 (Kd.C_below F9.out.2 hd10))
  have D10 := Aside0.mk (D9.out.trans (hd10.mono D9.out.size))
  clear hd10 R9 Q9 F9 D9
  go_wp2_with fail
  refine (remnant_Fill.calls k room A c l y1 j 0 _ R10.out.2 R10.out.1 HF1.out).mono ?_
  rintro e w11 ⟨v11, rfl, hl11, hd11⟩
  obtain ⟨A11, c11, rfl⟩ := Kd.R_slice hl11
  clear hl11
  have R11 := Aside0.mk (And.intro R10.out.1 (Kd.C_below R10.out.2 hd11))
  have Q11 := Aside0.mk (And.intro Q10.out.1 (Kd.C_below Q10.out.2 hd11))
  have F11 := Aside0.mk (And.intro F10.out.1 (Kd.C_below F10.out.2 hd11))
  have D11 := Aside0.mk (D10.out.trans (hd11.mono D10.out.size))
  clear hd11 R10 Q10 F10 D10
  go_wp2_with fail
  refine (remnant_Fill.calls k room A3 c3 ml y2 p 0 _ Q11.out.2 Q11.out.1 HF2.out).mono ?_
  rintro e w12 ⟨v12, rfl, hl12, hd12⟩
  obtain ⟨A12, c12, rfl⟩ := Kd.R_slice hl12
  clear hl12
  have R12 := Aside0.mk (And.intro R11.out.1 (Kd.C_below R11.out.2 hd12))
  have Q12 := Aside0.mk (And.intro Q11.out.1 (Kd.C_below Q11.out.2 hd12))
  have F12 := Aside0.mk (And.intro F11.out.1 (Kd.C_below F11.out.2 hd12))
  have D12 := Aside0.mk (D11.out.trans (hd12.mono D11.out.size))
  clear hd12 R11 Q11 F11 D11
  go_wp2_with fail
  refine (galloonlaw09_awake.calls true _ rfl).mono ?_
  rintro e w20 ⟨rfl, hd20⟩
  have D20 := Aside0.mk (D12.out.trans (hd20.mono D12.out.size))
  clear hd20
  go_wp2_with fail
  go_ret
  exact ⟨rfl, D20.out⟩
end Go.Proofs.Ytpckfllalpiliaa.G
