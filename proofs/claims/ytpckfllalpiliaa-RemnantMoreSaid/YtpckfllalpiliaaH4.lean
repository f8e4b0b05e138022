/- The contract of fit with never: first fit for an order. -/
import Derived.BigQuiet
import Derived.Deep.QuietTactic
import Derived.Test.YtpckfllalpiliaaH1
namespace Go.Proofs.Ytpckfllalpiliaa.G
open Go.RowKit Go.Proofs.YtpckfllalpiliaaW.PrintWords Go.Proofs.YtpckfllalpiliaaW.PrintLast Go.Proofs.YtpckfllalpiliaaW.PrintMore
set_option linter.unusedVariables false
attribute [local go_sem] max2_int min2_int max_two min_two max_three min_three max_four min_four

theorem pw_cell_below' {w w1 : World} (h : Below w.heap.size w w1) {a : Addr} {v : Value} (hc : w.cell? a = some v) : w1.cell? a = some v := (h.cell (World.block_lt_of_cell? w a hc)).trans hc

/-- the box that first fit takes: from b on, of n boxes; best is what was found -/
def fitB (room size : Int) (X : List Int) : Nat → Int → Nat → Int
  | 0, best, _ => best
  | d + 1, best, b => fitB room size X d (if wrap64 (rd X b + size) ≤ room ∧ best < 0 then (b : Int) else best) (b + 1)
def fitPut (X : List Int) (i : Nat) (size : Int) : List Int := X.set i (wrap64 (rd X i + size))
/-- first fit -/
def fitL (room : Int) (ps : List Int) : List Int → List Int → Nat → List Int → List Int
  | [], _, _, O => O
  | i :: l, X, n, O =>
    let best := fitB room (rd ps i) X n (-1) 0
    if best < 0 then fitL room ps l (fitPut X n (rd ps i)) (n + 1) (O.set i.toNat (n : Int))
    else fitL room ps l (fitPut X best.toNat (rd ps i)) n (O.set i.toNat best)
theorem fitB_bound (room size : Int) (X : List Int) : ∀ (d : Nat) (best : Int) (b : Nat), -1 ≤ best → best < b → -1 ≤ fitB room size X d best b ∧ fitB room size X d best b < ((b + d : Nat) : Int)
  | 0, best, b, h0, h1 => ⟨h0, by simpa [fitB] using h1⟩
  | d + 1, best, b, h0, h1 => by
    have := fitB_bound room size X d (if wrap64 (rd X b + size) ≤ room ∧ best < 0 then (b : Int) else best) (b + 1) (by split <;> omega) (by split <;> omega)
    rw [fitB]
    constructor
    · exact this.1
    · have := this.2; omega

def cells12 (X : List Int) : Array Value := (X.map (Value.int .i64)).toArray
theorem cells12_at {X : List Int} {b : Nat} (h : b < X.length) : (cells12 X)[b]? = some (.int .i64 (rd X (b : Int))) := by
  unfold cells12 rd
  rw [Int.toNat_natCast, List.getD_eq_getElem?_getD]
  simp [h]
theorem cells12_set (X : List Int) (b : Nat) (v : Int) : (cells12 X).setIfInBounds b (.int .i64 v) = cells12 (X.set b v) := by
  unfold cells12
  simp [List.map_set]

theorem fit_step {w W : World} {B L : Nat} {X O : List Int} {v x : Int} {b i : Nat} (hX : W.heap[B + 1]? = some (.cells (cells12 X) 63 (0, 0)))
    (hR : Kd.R (Kd.int .i64) 3 W B (fun k => k ≠ B + 1) (.slice (some ⟨B, 0, none⟩) L L) O) (hO : O.length = L) (hi : i < L) (hB : Below B w W) :
    ((W.setCell ⟨B + 1, b, none⟩ (.int .i64 v)).setCell ⟨B, i, none⟩ (.int .i64 x)).heap[B + 1]? = some (.cells (cells12 (X.set b v)) 63 (0, 0)) ∧
    Kd.R (Kd.int .i64) 3 ((W.setCell ⟨B + 1, b, none⟩ (.int .i64 v)).setCell ⟨B, i, none⟩ (.int .i64 x)) B (fun k => k ≠ B + 1) (.slice (some ⟨B, 0, none⟩) L L) (O.set i x) ∧
    Below B w ((W.setCell ⟨B + 1, b, none⟩ (.int .i64 v)).setCell ⟨B, i, none⟩ (.int .i64 x)) := by
  refine ⟨?_, ?_, (hB.setCell (p := ⟨B + 1, b, none⟩) (by show B ≤ B + 1; omega) _).setCell (p := ⟨B, i, none⟩) (Nat.le_refl _) _⟩
  · rw [← cells12_set]
    exact blk_far (blk_set hX b _) (by show B + 1 ≠ B; omega) _
  · subst hO
    have h1 : Kd.R (Kd.int .i64) 3 (W.setCell ⟨B + 1, b, none⟩ (.int .i64 v)) B (fun k => k ≠ B + 1) (.slice (some ⟨B, 0, none⟩) O.length O.length) O := Kd.R_far (p := ⟨B + 1, b, none⟩) hR (fun _ hk => hk) _
    have h2 := (Kd.R_put h1 (i : Int) x).1
    rwa [Int.toNat_natCast] at h2

set_option maxHeartbeats 4000000 in
theorem fit_walk (room : Int) (A1 : Option Addr) (c1 : Nat) (ps : List Int) (A2 : Option Addr) (c2 : Nat) (od : List Int) (w : World) (hr1 : Kd.C (Kd.int .i64) w A1 ps.length ps) (hr2 : Kd.C (Kd.int .i64) w A2 od.length od)
    (hod : ∀ i ∈ od, 0 ≤ i ∧ i < ps.length) (hol : od.length ≤ 12) (hpl : ps.length ≤ 1000) :
    Calls Try.prog 44 #[.int .i64 room, .slice A1 ps.length c1, .slice A2 od.length c2, .func (.func 46) #[] #[]] w fun e w' => ∃ v0_ : Value, e = .returned (v0_) ∧ Kd.R (Kd.int .i64) 3 w' w.heap.size (fun _ => True) v0_ (fitL room ps od (List.replicate 12 0) 0 (List.replicate ps.length 0)) ∧ Below w.heap.size w w' := by
  have HR1 := Aside0.mk hr1
  have HR2 := Aside0.mk hr2
  have HOD := Aside0.mk hod
  clear hr1 hr2 hod
  have hmk := print_make_of (P := Try.prog) 22 3 (.int .i64 0) 8 Try.underlying22 info3 rfl (by decide) ps.length (by omega)
  go_enter Try.func44, Try.ntmps44
  go_wp2_with fail
  obtain ⟨W0, hW0⟩ : ∃ W0, ((w.alloc (.cells (madeCells #[Value.int .i64 0] ps.length) 3)).alloc (.cells (cells12 (List.replicate 12 0)) 63)) = W0 := ⟨_, rfl⟩
  have hrow : Kd.R (Kd.int .i64) 3 W0 w.heap.size (fun k => k ≠ w.heap.size + 1) (.slice (some ⟨w.heap.size, 0, none⟩) ps.length ps.length) (List.replicate ps.length 0) := by
    rw [← hW0]
    refine Kd.R_alloc (Kd.R_of_own ?_ (fun k hk => ?_)) _
    · have h := own_made_of (enc := Value.int .i64) (d := (0 : Int)) w w.heap.size 3 ps.length (Nat.le_refl _) (by omega)
      rwa [List.length_replicate]
    · have : w.heap.size = k := by simpa [Value.ownBlock] using hk
      omega
  have hx : W0.heap[w.heap.size + 1]? = some (.cells (cells12 (List.replicate 12 0)) 63 (0, 0)) := by
    rw [← hW0]
    have h := blk_new (w.alloc (.cells (madeCells #[Value.int .i64 0] ps.length) 3)) (.cells (cells12 (List.replicate 12 0)) 63 (0, 0))
    rwa [World.size_alloc] at h
  have hb0 : Below w.heap.size w W0 := by
    rw [← hW0]; exact ((Below.refl _ w).alloc (Nat.le_refl _) _).alloc (by simp) _
  have hW0' : ((w.alloc (.cells (madeCells #[Value.int .i64 0] ps.length) 3)).alloc (.cells #[.int .i64 0, .int .i64 0, .int .i64 0, .int .i64 0, .int .i64 0, .int .i64 0, .int .i64 0, .int .i64 0, .int .i64 0, .int .i64 0, .int .i64 0, .int .i64 0] 63)) = W0 := hW0
  rw [hW0']
  have HRW := Aside0.mk hrow
  have HX := Aside0.mk hx
  have HB0 := Aside0.mk hb0
  clear hrow hx hb0 hW0 hW0'
  go_loopg [11, 13, 14, 15, 21] od.length (fun kq v11 v13 v14 v15 v21 wr => ∃ (j n : Nat) (X O : List Int), v21 = .int .i64 j ∧ v11 = .int .i64 n ∧ Aside0 (kq + j = od.length) ∧ Aside0 (n ≤ j ∧ X.length = 12 ∧ O.length = ps.length) ∧
    Aside0 (wr.heap[w.heap.size + 1]? = some (.cells (cells12 X) 63 (0, 0))) ∧ Aside0 (Kd.R (Kd.int .i64) 3 wr w.heap.size (fun k => k ≠ w.heap.size + 1) (.slice (some ⟨w.heap.size, 0, none⟩) ps.length ps.length) O) ∧
    Aside0 (fitL room ps (od.drop j) X n O = fitL room ps od (List.replicate 12 0) 0 (List.replicate ps.length 0)) ∧ Aside0 (Below w.heap.size w wr))
  case atStart => exact ⟨0, 0, _, _, rfl, rfl, ⟨by omega⟩, ⟨by simp⟩, HX, HRW, ⟨rfl⟩, HB0⟩
  case round =>
    obtain ⟨j, n, X, O, rfl, rfl, HJ, HN, HXr, HRr, HF, HB⟩ := hrel
    have hj := HJ.out
    by_cases hlt : j < od.length
    · obtain ⟨ad2, rfl, hx2⟩ := Kd.at_int HR2.out (j : Int) (by omega) (by omega)
      have hmem : rd od (j : Int) ∈ od := by
        unfold rd; rw [List.getD_eq_getElem?_getD, Int.toNat_natCast, List.getElem?_eq_getElem hlt]; exact List.getElem_mem hlt
      have hdrop : od.drop j = rd od (j : Int) :: od.drop (j + 1) := by
        rw [List.drop_eq_getElem_cons hlt]; unfold rd
        rw [List.getD_eq_getElem?_getD, Int.toNat_natCast, List.getElem?_eq_getElem hlt]; rfl
      rw [Int.toNat_natCast] at hx2
      replace hx2 := pw_cell_below' HB.out hx2
      obtain ⟨i, hi⟩ : ∃ i : Nat, rd od (j : Int) = i := ⟨(rd od (j : Int)).toNat, by have := HOD.out _ hmem; omega⟩
      have hib := HOD.out _ hmem
      rw [hi] at hx2 hib hdrop
      obtain ⟨ad1, rfl, hx1⟩ := Kd.at_int HR1.out (i : Int) (by omega) (by omega)
      rw [Int.toNat_natCast] at hx1
      replace hx1 := pw_cell_below' HB.out hx1
      have HD := Aside0.mk hdrop
      obtain ⟨size, hsize⟩ : ∃ size, rd ps (i : Int) = size := ⟨_, rfl⟩
      rw [hsize] at hx1
      have HS := Aside0.mk hsize
      clear hdrop hmem hi hsize
      have hn := HN.out
      go_wp2_with fail
      go_loopg [14, 15, 26] n (fun kq v14 v15 v26 wi => ∃ (b : Nat) (best : Int), v26 = .int .i64 b ∧ v14 = .int .i64 best ∧ Aside0 (kq + b = n) ∧ Aside0 (-1 ≤ best ∧ best < b) ∧ Aside0 (fitB room size X (n - b) best b = fitB room size X n (-1) 0) ∧ Aside0 (Drawn0 wr wi))
      case atStart => exact ⟨0, -1, rfl, rfl, ⟨by omega⟩, ⟨by omega⟩, ⟨rfl⟩, ⟨Drawn0.refl _⟩⟩
      case round =>
        obtain ⟨b, best, rfl, rfl, HJ2, HBE, HF2, HD2⟩ := hrel
        have hj2 := HJ2.out
        have hbe := HBE.out
        obtain ⟨⟨m, rfl⟩⟩ := HD2
        by_cases hltb : b < n
        · have hxb := (blk_cell HXr.out b).trans (show (cells12 X)[b]? = some (.int .i64 (rd X b)) from cells12_at (by have := HN.out; omega))
          have hq0 : 0 ≤ (b : Int) := by omega
          have hq1 : (b : Int) < 12 := by omega
          have hq2 : 0 ≤ (i : Int) := by omega
          have hq3 := hib.2
          by_cases h1 : wrap64 (rd X b + size) ≤ room
          · have d1 : decide (wrap64 (rd X b + size) ≤ room) = true := decide_eq_true h1
            by_cases h2 : best < 0
            · have d2 : decide (best < 0) = true := decide_eq_true h2
              go_wp2_with fail
              go_quiet (fail)
              go_wp2_with fail
              go_roundg (n - (b + 1))
              case measure => omega
              case rel => exact ⟨b + 1, b, by go_num, rfl, ⟨by omega⟩, ⟨by omega⟩, ⟨by
                have h := HF2.out
                rw [show n - b = (n - (b + 1)) + 1 by omega, fitB, if_pos ⟨h1, h2⟩] at h; exact h⟩, ⟨⟨_, rfl⟩⟩⟩
            · have d2 : decide (best < 0) = false := decide_eq_false h2
              have hxb2 := (blk_cell HXr.out best.toNat).trans (show (cells12 X)[best.toNat]? = some (.int .i64 (rd X (best.toNat : Int))) from cells12_at (by have := HN.out; omega))
              have hq4 : best < 12 := by omega
              have hq5 : 0 ≤ best := by omega
              go_wp2_with fail
              go_quiet ((go_at_call 46; refine (remnant_never.calls _ _ false _ rfl).mono ?_; rintro e w' ⟨rfl, ⟨nd, rfl⟩⟩; exact ⟨rfl, _, (World.drewN_drewN _ _ _).trans (by rw [Nat.add_assoc])⟩))
              go_wp2_with fail
              go_roundg (n - (b + 1))
              case measure => omega
              case rel => exact ⟨b + 1, best, by go_num, rfl, ⟨by omega⟩, ⟨by omega⟩, ⟨by
                have h := HF2.out
                rw [show n - b = (n - (b + 1)) + 1 by omega, fitB, if_neg (by omega)] at h; exact h⟩, ⟨⟨_, rfl⟩⟩⟩
          · have d1 : decide (wrap64 (rd X b + size) ≤ room) = false := decide_eq_false h1
            go_wp2_with fail
            go_quiet (fail)
            go_wp2_with fail
            go_roundg (n - (b + 1))
            case measure => omega
            case rel => exact ⟨b + 1, best, by go_num, rfl, ⟨by omega⟩, ⟨by omega⟩, ⟨by
                have h := HF2.out
                rw [show n - b = (n - (b + 1)) + 1 by omega, fitB, if_neg (by omega)] at h; exact h⟩, ⟨⟨_, rfl⟩⟩⟩
        · have hfb : best = fitB room size X n (-1) 0 := by
            have h := HF2.out
            rw [show n - b = 0 by omega, fitB] at h; exact h
          have HFB := Aside0.mk hfb
          clear hfb
          have hq2 : 0 ≤ (i : Int) := by omega
          have hq3 := hib.2
          by_cases h2 : best < 0
          · have hn12 : (n : Int) < 12 := by omega
            have hn0 : 0 ≤ (n : Int) := by omega
            have hxn := (blk_cell HXr.out n).trans (show (cells12 X)[n]? = some (.int .i64 (rd X n)) from cells12_at (by have := HN.out; omega))
            have hfn := blk_frozen HXr.out n
            go_wp2_with fail
            obtain ⟨ho1, ho2⟩ := Kd.R_cell (0 : Int) (by rw [HN.out.2.2]; exact HRr.out) (i : Int) hq2 (by rw [HN.out.2.2]; exact hq3)
            rw [Int.toNat_natCast] at ho1 ho2
            go_region
            go_wp2_with fail
            go_roundg (od.length - (j + 1))
            case measure => omega
            case rel =>
              obtain ⟨s1, s2, s3⟩ := fit_step (W := wr.drewN (m + 1)) (v := wrap64 (rd X n + size)) (x := n) (b := n) (i := i) (blk_drewN HXr.out _) (Kd.R_drewN HRr.out _) HN.out.2.2 (by omega) (pw_below_drewN HB.out _)
              refine ⟨j + 1, n + 1, _, _, by go_num, by go_num, ⟨by omega⟩, ⟨by have := HN.out; simp; omega⟩, ⟨s1⟩, ⟨s2⟩, ⟨?_⟩, ⟨s3⟩⟩
              rw [← HF.out, HD.out, fitL]
              simp only [HS.out]
              rw [if_pos (by rw [← HFB.out]; omega)]
              rfl
          · have hb12 : best < 12 := by have := HBE.out; omega
            have hb0 : 0 ≤ best := by omega
            have hxn := (blk_cell HXr.out best.toNat).trans (show (cells12 X)[best.toNat]? = some (.int .i64 (rd X (best.toNat : Int))) from cells12_at (by have := HN.out; omega))
            have hfn := blk_frozen HXr.out best.toNat
            have hmx : max best 0 = best := by omega
            obtain ⟨ho1, ho2⟩ := Kd.R_cell (0 : Int) (by rw [HN.out.2.2]; exact HRr.out) (i : Int) hq2 (by rw [HN.out.2.2]; exact hq3)
            rw [Int.toNat_natCast] at ho1 ho2
            go_wp2_with fail
            go_region
            go_wp2_with fail
            go_roundg (od.length - (j + 1))
            case measure => omega
            case rel =>
              obtain ⟨s1, s2, s3⟩ := fit_step (W := wr.drewN (m + 1)) (v := wrap64 (rd X best + size)) (x := best) (b := best.toNat) (i := i) (blk_drewN HXr.out _) (Kd.R_drewN HRr.out _) HN.out.2.2 (by omega) (pw_below_drewN HB.out _)
              refine ⟨j + 1, n, _, _, by go_num, rfl, ⟨by omega⟩, ⟨by have := HN.out; simp; omega⟩, ⟨s1⟩, ⟨s2⟩, ⟨?_⟩, ⟨s3⟩⟩
              rw [← HF.out, HD.out, fitL]
              simp only [HS.out]
              rw [if_neg (by rw [← HFB.out]; omega), ← HFB.out]
              unfold fitPut
              rw [show ((best.toNat : Nat) : Int) = best by omega]
              rfl
    · go_wp2_with fail
      go_ret
      have h := HF.out
      rw [List.drop_eq_nil_of_le (by omega), fitL] at h
      exact ⟨_, rfl, by rw [← h]; exact Kd.R_mono HRr.out (fun _ _ => trivial), HB.out⟩
end Go.Proofs.Ytpckfllalpiliaa.G
