/- awake answers true. -/
import Derived.Test.YtpckfllalpiliaaK4
import Derived.Test.YtpckfllalpiliaaK5
import Derived.Test.YtpckfllalpiliaaS5
namespace Go.Proofs.Ytpckfllalpiliaa.G
open Go.RowKit Go.Proofs.YtpckfllalpiliaaW.PrintWords Go.Proofs.YtpckfllalpiliaaW.PrintMore Go.Proofs.YtpckfllalpiliaaW.PrintLast
set_option linter.unusedVariables false

theorem C_lit {W : World} {b : Nat} {l : List Int} (h : W.heap[b]? = some (.cells ((l.map (Value.int .i64)).toArray) 3 (0, 0))) (hl : l.length ≤ 1000) : Kd.C (Kd.int .i64) W (some ⟨b, 0, none⟩) l.length l := by
  refine Kd.C_of_reads (d := (0 : Int)) (h1 := fun _ => rfl) ⟨rfl, by omega, fun _ => ⟨_, rfl, fun j hj => ?_⟩⟩
  have e : (⟨b, 0, none⟩ : Addr).add j = ⟨b, j, none⟩ := by rcases j with _ | j <;> simp [Addr.add]
  rw [e, blk_cell h]
  simp [hj]

set_option maxRecDepth 100000 in
theorem aw_first : remnant_First.f 100 10 [6, 5, 4, 5] = some ([0, 1, 0, 1], 0) := by decide +kernel
set_option maxRecDepth 100000 in
theorem aw_weight : remnant_Weight.f 100 10 [6, 5, 4, 5] = some (2, 0, 0) := by decide +kernel
set_option maxRecDepth 100000 in
theorem aw_fill : remnant_Fill.f 100 10 [4, 4, 4] = some ([0, 0, 0], 1, 0) := by decide +kernel
set_option maxRecDepth 100000 in
theorem aw_split : remnant_Split.f 100 [3, 1, 2] = some ([0], 0, 0) := by decide +kernel
theorem aw_ints1 : galloonlaw09_ints.f 100 [0, 1, 0, 1] [0, 1, 0, 1] = some true := by decide +kernel
theorem aw_ints2 : galloonlaw09_ints.f 100 [0, 0, 0] [0, 0, 0] = some true := by decide +kernel
theorem aw_ints3 : galloonlaw09_ints.f 100 [0] [0] = some true := by decide +kernel

def galloonlaw09_awake.f : Option Bool := some true
set_option maxHeartbeats 4000000 in
set_option maxRecDepth 100000 in
theorem galloonlaw09_awake.calls (r : Bool) (w : World) (h : galloonlaw09_awake.f = some r) : Calls Try.prog 13 #[] w fun e w' => e = .returned (.bool r) ∧ Below w.heap.size w w' := by
  obtain rfl := Option.some.inj h
  clear h
  go_enter Try.func13, Try.ntmps13
  go_wp2_with fail
  have h1 : Below w.heap.size w (w.alloc (.cells #[.int .i64 6, .int .i64 5, .int .i64 4, .int .i64 5] 3)) := (Below.refl _ w).alloc (Nat.le_refl _) _
  have c1 := C_lit (l := [6, 5, 4, 5]) (blk_new w (.cells #[.int .i64 6, .int .i64 5, .int .i64 4, .int .i64 5] 3)) (by decide)
  have H1 := Aside0.mk h1
  have C1 := Aside0.mk c1
  clear h1 c1
  refine (remnant_First.calls 100 10 _ 4 [6, 5, 4, 5] _ _ _ C1.out (by decide) aw_first).mono ?_
  rintro e w1 ⟨v1, rfl, hl1, hb1⟩
  have H2 := Aside0.mk (H1.out.trans (hb1.mono (by simp)))
  obtain ⟨A1, c1, rfl, hc1, hC1⟩ := Kd.R_reads hl1
  have R1 := Aside0.mk (And.intro hc1 hC1)
  clear hl1 hb1 hC1 hc1 C1 H1
  go_wp2_with fail
  have C2 := Aside0.mk (C_lit (l := [6, 5, 4, 5]) (blk_new w1 (.cells #[.int .i64 6, .int .i64 5, .int .i64 4, .int .i64 5] 3)) (by decide))
  refine (remnant_Weight.calls 100 10 _ 4 [6, 5, 4, 5] _ _ _ _ C2.out (by decide) aw_weight).mono ?_
  rintro e w2 ⟨rfl, hb2⟩
  have hb2' : Below w1.heap.size w1 w2 := ((Below.refl _ w1).alloc (Nat.le_refl _) (.cells #[.int .i64 6, .int .i64 5, .int .i64 4, .int .i64 5] 3)).trans (hb2.mono (by simp))
  have R2 := Aside0.mk (And.intro R1.out.1 (Kd.C_below R1.out.2 hb2'))
  have H3 := Aside0.mk (H2.out.trans (hb2'.mono H2.out.size))
  clear hb2 hb2' C2 R1 H2
  go_wp2_with fail
  have C3 := Aside0.mk (C_lit (l := [4, 4, 4]) (blk_new w2 (.cells #[.int .i64 4, .int .i64 4, .int .i64 4] 3)) (by decide))
  refine (remnant_Fill.calls 100 10 _ 3 [4, 4, 4] _ _ _ _ C3.out (by decide) aw_fill).mono ?_
  rintro e w3 ⟨v3, rfl, hl3, hb3⟩
  have hb3' : Below w2.heap.size w2 w3 := ((Below.refl _ w2).alloc (Nat.le_refl _) (.cells #[.int .i64 4, .int .i64 4, .int .i64 4] 3)).trans (hb3.mono (by simp))
  have R3 := Aside0.mk (And.intro R2.out.1 (Kd.C_below R2.out.2 hb3'))
  have H4 := Aside0.mk (H3.out.trans (hb3'.mono H3.out.size))
  obtain ⟨A3, c3, rfl, hc3, hC3⟩ := Kd.R_reads hl3
  have Q3 := Aside0.mk (And.intro hc3 hC3)
  clear hl3 hc3 hC3 hb3 hb3' C3 R2 H3
  go_wp2_with fail
  have C4 := Aside0.mk (C_lit (l := [3, 1, 2]) (blk_new w3 (.cells #[.int .i64 3, .int .i64 1, .int .i64 2] 3)) (by decide))
  refine (remnant_Split.calls 100 _ 3 [3, 1, 2] _ _ _ _ C4.out (by decide) aw_split).mono ?_
  rintro e w4 ⟨v4, rfl, hl4, hb4⟩
  have hb4' : Below w3.heap.size w3 w4 := ((Below.refl _ w3).alloc (Nat.le_refl _) (.cells #[.int .i64 3, .int .i64 1, .int .i64 2] 3)).trans (hb4.mono (by simp))
  have R4 := Aside0.mk (And.intro R3.out.1 (Kd.C_below R3.out.2 hb4'))
  have Q4 := Aside0.mk (And.intro Q3.out.1 (Kd.C_below Q3.out.2 hb4'))
  have H5 := Aside0.mk (H4.out.trans (hb4'.mono H4.out.size))
  obtain ⟨A4, c4, rfl, hc4, hC4⟩ := Kd.R_reads hl4
  have S4 := Aside0.mk (And.intro hc4 hC4)
  clear hl4 hc4 hC4 hb4 hb4' C4 R3 Q3 H4
  go_wp2_with fail
  have C5 := Aside0.mk (C_lit (l := [0, 1, 0, 1]) (blk_new w4 (.cells #[.int .i64 0, .int .i64 1, .int .i64 0, .int .i64 1] 3)) (by decide))
  refine (galloonlaw09_ints.calls 100 A1 c1 [0, 1, 0, 1] _ 4 [0, 1, 0, 1] _ _ (Kd.C_alloc R4.out.2 _) R4.out.1 C5.out (by decide) aw_ints1).mono ?_
  rintro e w5 ⟨rfl, hd5⟩
  have hb5' : Below w4.heap.size w4 w5 := ((Below.refl _ w4).alloc (Nat.le_refl _) (.cells #[.int .i64 0, .int .i64 1, .int .i64 0, .int .i64 1] 3)).trans (hd5.below.mono (by simp))
  have Q5 := Aside0.mk (And.intro Q4.out.1 (Kd.C_below Q4.out.2 hb5'))
  have S5 := Aside0.mk (And.intro S4.out.1 (Kd.C_below S4.out.2 hb5'))
  have H6 := Aside0.mk (H5.out.trans (hb5'.mono H5.out.size))
  clear hd5 hb5' C5 Q4 S4 H5 R4
  go_wp2_with fail
  have C6 := Aside0.mk (C_lit (l := [0, 0, 0]) (blk_new w5 (.cells #[.int .i64 0, .int .i64 0, .int .i64 0] 3)) (by decide))
  refine (galloonlaw09_ints.calls 100 A3 c3 [0, 0, 0] _ 3 [0, 0, 0] _ _ (Kd.C_alloc Q5.out.2 _) Q5.out.1 C6.out (by decide) aw_ints2).mono ?_
  rintro e w6 ⟨rfl, hd6⟩
  have hb6' : Below w5.heap.size w5 w6 := ((Below.refl _ w5).alloc (Nat.le_refl _) (.cells #[.int .i64 0, .int .i64 0, .int .i64 0] 3)).trans (hd6.below.mono (by simp))
  have S6 := Aside0.mk (And.intro S5.out.1 (Kd.C_below S5.out.2 hb6'))
  have H7 := Aside0.mk (H6.out.trans (hb6'.mono H6.out.size))
  clear hd6 hb6' C6 Q5 S5 H6
  go_wp2_with fail
  have C7 := Aside0.mk (C_lit (l := [0]) (blk_new w6 (.cells #[.int .i64 0] 3)) (by decide))
  refine (galloonlaw09_ints.calls 100 A4 c4 [0] _ 1 [0] _ _ (Kd.C_alloc S6.out.2 _) S6.out.1 C7.out (by decide) aw_ints3).mono ?_
  rintro e w7 ⟨rfl, hd7⟩
  have H8 := Aside0.mk (H7.out.trans ((((Below.refl _ w6).alloc (Nat.le_refl _) (.cells #[.int .i64 0] 3)).trans (hd7.below.mono (by simp))).mono H7.out.size))
  clear hd7 C7 S6 H7
  go_wp2_with fail
  go_ret
  exact ⟨rfl, H8.out⟩
end Go.Proofs.Ytpckfllalpiliaa.G
