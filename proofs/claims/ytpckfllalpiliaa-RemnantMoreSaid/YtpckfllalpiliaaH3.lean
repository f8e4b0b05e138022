/- The contract of used: names by a map. -/
import Derived.Maps.OwnSet
import Derived.Maps.OwnOps
import Derived.Test.YtpckfllalpiliaaH1
namespace Go.Proofs.Ytpckfllalpiliaa.G
open Go.RowKit Go.Maps Go.Proofs.YtpckfllalpiliaaW.PrintWords Go.Proofs.YtpckfllalpiliaaW.PrintLast Go.Proofs.YtpckfllalpiliaaW.PrintMore
set_option linter.unusedVariables false
attribute [local go_sem] max2_int min2_int max_two min_two max_three min_three max_four min_four

theorem pw_cell_below' {w w1 : World} (h : Below w.heap.size w w1) {a : Addr} {v : Value} (hc : w.cell? a = some v) : w1.cell? a = some v := (h.cell (World.block_lt_of_cell? w a hc)).trans hc

abbrev DU := DataW Unit
def ki (x : Int) : Lit := .int .i64 x
def lv (x : Int) : DU := .lit (.int .i64 x)
def litInt : DU → Int
  | .lit (.int _ n) => n
  | _ => 0
def usedStep (D : DU) (b : Int) : DU := if Maps.has D (ki b) = true then D else D.put (ki b) (lv (wrap64 ((Maps.size D : Int) - 1)))
def usedL : DU → List Int → List Int
  | _, [] => []
  | D, b :: l => litInt ((usedStep D b).atKey (ki b) (lv 0)) :: usedL (usedStep D b) l
def usedD0 : DU := (DataW.map []).put (ki (-1)) (lv (-1))
def remnant_used.f (l0 : List Int) : Option (List Int) := if (l0.all fun b => decide (-1 ≤ b) && decide (b ≤ 1000)) && decide (l0.length ≤ 1000) then some (usedL usedD0 l0) else none
theorem law3 : Keyed Try.prog 3 := int_keyed Try.underlying3
theorem zero3 (w : World) : (zeroValue 3).run Try.prog w = .ok (.int .i64 0) w := by kernel_rfl

theorem int_R_grown {W W' : World} {base M : Nat} {v : Value} {xs : List Int} (h : Kd.R (Kd.int .i64) 3 W base (fun _ => True) v xs) (hg : W.grownBy W' (some M)) (hM : v.ownBlock ≠ some M) : Kd.R (Kd.int .i64) 3 W' base (fun _ => True) v xs :=
  Kd.R_of_own ((Kd.own_of_R h).kept hg (.inr hM)) (fun _ _ => trivial)
theorem map_not_row {W : World} {base M n : Nat} {D : DU} {v : Value} {xs : List Int} (h : Kd.R (Kd.int .i64) 3 W base (fun _ => True) v xs) (ho : W.ownsMap Try.prog 3 (plainElem Try.prog 3) M n D) : v.ownBlock ≠ some M := by
  intro e
  obtain ⟨inner, hi⟩ := Kd.R_own h
  obtain ⟨cells, hc⟩ := own_typed hi M e
  obtain ⟨es, clock, hb, _⟩ := ho
  rw [hb] at hc; cases hc

set_option maxHeartbeats 2000000 in
theorem used_walk (A0 : Option Addr) (c0 : Nat) (l0 : List Int) (w : World) (hr0 : Kd.C (Kd.int .i64) w A0 l0.length l0) (hb : ∀ b ∈ l0, -1 ≤ b ∧ b ≤ 1000) (hl : l0.length ≤ 1000) :
    Calls Try.prog 29 #[.slice A0 l0.length c0] w fun e w' => ∃ v0_ : Value, e = .returned (v0_) ∧ Kd.R (Kd.int .i64) 3 w' w.heap.size (fun _ => True) v0_ (usedL usedD0 l0) ∧ Below w.heap.size w w' := by
  have hmm := @run_makeMap Try.prog
  have HR := Aside0.mk hr0
  have HBD := Aside0.mk hb
  obtain ⟨w1, hrun, hown1, hgr1⟩ := (World.ownsMap_made (H := Unit) w Try.prog 3 (plainElem Try.prog 3)).update law3 Try.underlying72 (by decide) (keyOf_int_mk Try.underlying3 (a := -1) (by decide)) (plainElem_int Try.underlying3 (a := -1) (by decide))
  have hB1 : Below w.heap.size w w1 := ((Below.refl _ w).alloc (Nat.le_refl _) _).grown hgr1 (by simp) (fun k e => by cases e; exact Nat.le_refl _)
  have HB1 := Aside0.mk hB1
  have HO1 := Aside0.mk hown1
  clear hr0 hb hB1 hown1 hgr1
  go_enter Try.func29, Try.ntmps29
  go_wp2_with fail
  go_loopg [4, 6, 7, 8, 13] l0.length (fun kq v4 v6 v7 v8 v13 wr => ∃ (j : Nat) (D : DU) (out : List Int), v13 = .int .i64 j ∧ Aside0 (kq + j = l0.length) ∧ Aside0 (wr.ownsMap Try.prog 3 (plainElem Try.prog 3) w.heap.size (j + 1) D) ∧ Aside0 (Kd.R (Kd.int .i64) 3 wr w.heap.size (fun _ => True) v4 out) ∧ Aside0 (out.length = j ∧ out ++ usedL D (l0.drop j) = usedL usedD0 l0) ∧ Aside0 (Below w.heap.size w wr))
  case atStart => exact ⟨0, _, [], rfl, ⟨by omega⟩, HO1, ⟨Kd.R_nil _ _ _ _ _⟩, ⟨rfl, rfl⟩, HB1⟩
  case round =>
    rename Value => v4
    obtain ⟨j, D, out, rfl, HJ, HO, HV, HE, HB⟩ := hrel
    have hj := HJ.out
    obtain ⟨A4, c4, rfl⟩ := Kd.R_slice HV.out
    obtain ⟨hol, hee⟩ := HE.out
    subst hol
    by_cases hlt : out.length < l0.length
    · obtain ⟨ad, rfl, hx⟩ := Kd.at_int HR.out (out.length : Int) (by omega) (by omega)
      have hmem : rd l0 (out.length : Int) ∈ l0 := by
        unfold rd; rw [List.getD_eq_getElem?_getD, Int.toNat_natCast, List.getElem?_eq_getElem hlt]; exact List.getElem_mem hlt
      have hdrop : l0.drop out.length = rd l0 (out.length : Int) :: l0.drop (out.length + 1) := by
        rw [List.drop_eq_getElem_cons hlt]; unfold rd
        rw [List.getD_eq_getElem?_getD, Int.toNat_natCast, List.getElem?_eq_getElem hlt]; rfl
      rw [Int.toNat_natCast] at hx
      have hx' := pw_cell_below' HB.out hx
      obtain ⟨x, hxe⟩ : ∃ x, rd l0 (out.length : Int) = x := ⟨_, rfl⟩
      rw [hxe] at hx' hmem hdrop
      have hxb := HBD.out x hmem
      have hwf : (Lit.int .i64 x).wf = true := WalkArith.wf_i64 (by omega)
      have HKEY : Aside0 (keyOf Try.prog 3 (.int .i64 x) = some (ki x)) := ⟨keyOf_int_mk Try.underlying3 hwf⟩
      have HD := Aside0.mk hdrop
      clear hdrop hmem hx hwf hxb
      cases hh : Maps.has D (ki x) with
      | true =>
        have HH := Aside0.mk hh
        go_wp2_with (first | (at_lookup; refine wpList_lookup_own_ok_int _ rfl _ _ 72 rfl 3 3 .i64 law3 Try.underlying72 Try.underlying3 (zero3 _) w.heap.size (out.length + 1) D rfl HO.out _ _ rfl HKEY.out ?_; intro c hat hwc) | (at_lookup; refine wpList_lookup_own_int _ rfl _ _ 72 rfl 3 3 .i64 law3 Try.underlying72 Try.underlying3 (zero3 _) w.heap.size (out.length + 1) D rfl HO.out _ _ rfl HKEY.out ?_; intro c2 hat2 hwc2; have HAT := Aside0.mk hat2; clear hat2 hwc2) | (at_builtin; (refine Kd.R_append (Kd.int .i64) (w0 := w) w.heap.size rfl (.tmp 30) (.tmp 34) 22 3 (.int .i64 0) 8 rfl Try.underlying22 info3 rfl (by decide) (by omega) (.slice A4 out.length c4) out c2 [.int .i64 c2] (fun _ => True) (fun _ => False) rfl rfl rfl (fun _ hk => hk.elim) (fun _ _ => trivial) HV.out HB.out (Below.size HB.out) (by omega) ?_); intro v3 w3 ho3 hb3 hg3 hat3; have HS3 := Aside0.mk ho3; have HB3 := Aside0.mk hb3; have HG3 := Aside0.mk hg3; clear ho3 hb3 hg3 hat3))
        have HM3 := Aside0.mk ((HO.out.kept HG3.out (fun e => map_not_row HV.out HO.out e.symm)).mono (Nat.le_succ _))
        have HE3 : Aside0 ((out ++ [c2]).length = out.length + 1 ∧ (out ++ [c2]) ++ usedL D (l0.drop (out.length + 1)) = usedL usedD0 l0) := ⟨by simp, by
          rw [← hee, HD.out, usedL, usedStep, if_pos HH.out]
          rw [show D.atKey (ki x) (lv 0) = _ from HAT.out]; simp [litInt]⟩
        go_roundg (l0.length - (out.length + 1))
        case measure => omega
        case rel => exact ⟨out.length + 1, D, out ++ [c2], by go_num, ⟨by omega⟩, HM3, HS3, HE3, HB3⟩
      | false =>
        have HH := Aside0.mk hh
        have HW := Aside0.mk (show (Lit.int .i64 (wrap64 ((Maps.size D : Int) - 1))).wf = true from wrap64_wf _)
        go_wp2_with (first | (at_lookup; refine wpList_lookup_own_ok_int _ rfl _ _ 72 rfl 3 3 .i64 law3 Try.underlying72 Try.underlying3 (zero3 _) w.heap.size (out.length + 1) D rfl HO.out _ _ rfl HKEY.out ?_; intro c hat hwc) | (at_len; refine wpList_len_own _ rfl _ 72 rfl 3 3 Try.underlying72 _ w.heap.size (out.length + 1) D rfl HO.out ?_) | (at_mapUpdate; refine wpList_mapUpdate_own _ rfl _ _ _ 72 rfl 3 3 law3 Try.underlying72 _ w.heap.size (out.length + 1) D rfl HO.out (by unfold maxLen; omega) _ _ _ rfl rfl HKEY.out _ [] (plainElem_int Try.underlying3 HW.out) ?_; intro w2 hown2 hgr2; have HO2 := Aside0.mk hown2; have HG2 := Aside0.mk hgr2; clear hown2 hgr2) | (at_lookup; refine wpList_lookup_own_int _ rfl _ _ 72 rfl 3 3 .i64 law3 Try.underlying72 Try.underlying3 (zero3 _) w.heap.size (out.length + 1 + 1) _ rfl HO2.out _ _ rfl HKEY.out ?_; intro c2 hat2 hwc2; have HAT := Aside0.mk hat2; clear hat2 hwc2) | (at_builtin; (refine Kd.R_append (Kd.int .i64) (w0 := w) w.heap.size rfl (.tmp 30) (.tmp 34) 22 3 (.int .i64 0) 8 rfl Try.underlying22 info3 rfl (by decide) (by omega) (.slice A4 out.length c4) out c2 [.int .i64 c2] (fun _ => True) (fun _ => False) rfl rfl rfl (fun _ hk => hk.elim) (fun _ _ => trivial) (int_R_grown HV.out HG2.out (map_not_row HV.out HO.out)) (HB.out.grown HG2.out (by have := HB.out.size; omega) (fun k e => by cases e; exact Nat.le_refl _)) (Below.size (HB.out.grown HG2.out (by have := HB.out.size; omega) (fun k e => by cases e; exact Nat.le_refl _))) (by omega) ?_); intro v3 w3 ho3 hb3 hg3 hat3; have HS3 := Aside0.mk ho3; have HB3 := Aside0.mk hb3; have HG3 := Aside0.mk hg3; clear ho3 hb3 hg3 hat3))
        have HM3 := Aside0.mk (HO2.out.kept HG3.out (fun e => map_not_row HV.out HO.out e.symm))
        have HE3 : Aside0 ((out ++ [c2]).length = out.length + 1 ∧ (out ++ [c2]) ++ usedL (usedStep D x) (l0.drop (out.length + 1)) = usedL usedD0 l0) := ⟨by simp, by
          rw [← hee, HD.out, usedL, usedStep, if_neg (by rw [HH.out]; decide)]
          rw [show (D.put (ki x) (lv _)).atKey (ki x) (lv 0) = _ from HAT.out]; simp [litInt]⟩
        have HM4 : Aside0 (w3.ownsMap Try.prog 3 (plainElem Try.prog 3) w.heap.size (out.length + 1 + 1) (usedStep D x)) := ⟨by rw [usedStep, if_neg (by rw [HH.out]; decide)]; exact HM3.out⟩
        go_roundg (l0.length - (out.length + 1))
        case measure => omega
        case rel => exact ⟨out.length + 1, usedStep D x, out ++ [c2], by go_num, ⟨by omega⟩, HM4, HS3, HE3, HB3⟩
    · go_wp2_with fail
      go_ret
      rw [List.drop_eq_nil_of_le (by omega), usedL, List.append_nil] at hee
      exact ⟨_, rfl, by rw [← hee]; exact HV.out, HB.out⟩

theorem remnant_used.calls (A0 : Option Addr) (c0 : Nat) (l0 : List Int) (r : List Int) (w : World) (hr0 : Kd.C (Kd.int .i64) w A0 l0.length l0) (hc0 : l0.length ≤ c0) (h : remnant_used.f l0 = some r) :
    Calls Try.prog 29 #[.slice A0 l0.length c0] w fun e w' => ∃ v0_ : Value, e = .returned (v0_) ∧ Kd.R (Kd.int .i64) 3 w' w.heap.size (fun _ => True) v0_ r ∧ Below w.heap.size w w' := by
  unfold remnant_used.f at h
  split at h
  · rename_i hc
    obtain rfl := Option.some.inj h
    simp only [Bool.and_eq_true, decide_eq_true_eq, List.all_eq_true] at hc
    exact used_walk A0 c0 l0 w hr0 hc.1 hc.2
  · cases h
theorem used_try : remnant_used.f [0, 0, 0] = some [0, 0, 0] := by decide +kernel
end Go.Proofs.Ytpckfllalpiliaa.G
