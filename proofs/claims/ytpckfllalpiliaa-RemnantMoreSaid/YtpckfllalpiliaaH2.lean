/- The contracts of slices.Repeat (of one number) and of used. -/
import Derived.Deep.RegionLaw
import Derived.RegionTactic
import Derived.Laws.CopyOwn
import Derived.Maps.OwnSet
import Derived.Maps.OwnOps
import Derived.Test.YtpckfllalpiliaaH1
namespace Go.Proofs.Ytpckfllalpiliaa.G
open Go.RowKit Go.Maps Go.Proofs.YtpckfllalpiliaaW.PrintWords Go.Proofs.YtpckfllalpiliaaW.PrintLast Go.Proofs.YtpckfllalpiliaaW.PrintMore
set_option linter.unusedVariables false
attribute [local go_sem] max2_int min2_int max_two min_two max_three min_three max_four min_four

theorem pw_cell_below' {w w1 : World} (h : Below w.heap.size w w1) {a : Addr} {v : Value} (hc : w.cell? a = some v) : w1.cell? a = some v := (h.cell (World.block_lt_of_cell? w a hc)).trans hc

def rowJ (x : Int) (n j : Nat) : List Value := List.replicate j (.int .i64 x) ++ List.replicate (n - j) (.int .i64 0)
theorem rowJ_len (x : Int) (n j : Nat) (h : j ≤ n) : (rowJ x n j).length = n := by simp [rowJ]; omega
theorem rowJ_splice (x : Int) (n j m : Nat) (h : j + m ≤ n) : splice (rowJ x n j) j (List.replicate m (.int .i64 x)) = rowJ x n (j + m) := by
  unfold splice rowJ
  rw [List.take_left' (by simp), List.length_replicate, List.drop_append, List.drop_eq_nil_of_le (by simp), List.nil_append, List.length_replicate, List.drop_replicate]
  rw [← List.append_assoc, List.replicate_append_replicate]
  congr 2; omega
theorem rowJ_at (x : Int) (n j i : Nat) (hi : i < j) : (rowJ x n j)[i]? = some (.int .i64 x) := by
  unfold rowJ; rw [List.getElem?_append_left (by simpa using hi)]; simp [hi]

def slices_Repeat_int_int.f (l0 : List Int) (c : Int) : Option (List Int) := if l0.length = 1 ∧ 0 ≤ c ∧ c ≤ 1000 then some (List.replicate c.toNat (rd l0 0)) else none

set_option maxRecDepth 100000 in
theorem mul1_all : ((List.range 1001).all fun n : Nat => decide (bits_Mul.f 1 (n : Int) = some (0, (n : Int)))) = true := by decide +kernel
theorem mul1 (n : Nat) (hn : n ≤ 1000) : bits_Mul.f 1 (n : Int) = some (0, (n : Int)) := of_decide_eq_true (List.all_eq_true.1 mul1_all n (List.mem_range.2 (by omega)))

set_option maxHeartbeats 2000000 in
theorem repeat1 (A : Addr) (c0 : Nat) (x : Int) (n : Nat) (w : World) (hx : w.cell? A = some (.int .i64 x)) (hn : n ≤ 1000) :
    Calls Try.prog 28 #[.slice (some A) 1 c0, .int .i64 n] w fun e w' => ∃ v0_ : Value, e = .returned v0_ ∧ Kd.R (Kd.int .i64) 3 w' w.heap.size (fun _ => True) v0_ (List.replicate n x) ∧ Below w.heap.size w w' := by
  have hb := mul1 n hn
  have HM := Aside0.mk hb
  have hmk := print_make_of (P := Try.prog) 22 3 (.int .i64 0) 8 Try.underlying22 info3 rfl (by decide) n (by omega)
  have hg0 : ∀ nd : Nat, ((w.drewN nd).alloc (.cells (madeCells #[Value.int .i64 0] n) 3)).heap[w.heap.size]? = some (.cells (rowJ x n 0).toArray 3 (0, 0)) := by
    intro nd
    have h := blk_new (w.drewN nd) (.cells (madeCells #[Value.int .i64 0] n) 3 (0, 0))
    have e : madeCells #[Value.int .i64 0] n = (rowJ x n 0).toArray := by
      apply Array.toList_inj.1; rw [toList_madeCells_one]; simp [rowJ]
    rw [e] at h ⊢
    simpa using h
  have hb0 : ∀ nd : Nat, Below w.heap.size w ((w.drewN nd).alloc (.cells (madeCells #[Value.int .i64 0] n) 3)) := fun nd => (pw_below_drewN (Below.refl _ _) nd).alloc (by simp) _
  have HG := Aside0.mk hg0
  have HB := Aside0.mk hb0
  have HX := Aside0.mk hx
  clear hg0 hb0 hx
  rcases Nat.eq_zero_or_pos n with h0 | h0
  · subst h0
    have hmk0 : ∀ W : World, (Instr.makeSlice 22 (.int .i64 0) (.int .i64 0)).run Try.prog W = .ok (.slice (some ⟨W.heap.size, 0, none⟩) 0 0) (W.alloc (.cells (madeCells #[Value.int .i64 0] 0) 3)) := hmk
    go_enter Try.func28, Try.ntmps28
    go_wp2_with (first | (go_at_call 43; refine (bits_Mul.calls 1 (0 : Nat) 0 (0 : Nat) _ HM.out).mono ?_; rintro e w' ⟨rfl, ⟨nd, rfl⟩⟩) | ((with_reducible refine gate_builtin (b := .copy) (xs := #[.tmp 31, .tmp 32]) rfl ?_); go_loud (refine wpList_copy_nothing rfl (.tmp 31) (.tmp 32) 22 22 rfl 3 Try.underlying22 (by kernel_rfl) _ _ _ _ _ _ rfl rfl (by rfl) ?_)))
    refine wp_loop_rounds 1 ?_
    rw [rounds_succ]
    go_wp2_with fail
    go_ret
    have hb := HB.out nd
    exact ⟨_, rfl, Kd.R_of_own (by simpa using own_made_of (enc := Value.int .i64) (d := (0 : Int)) (w.drewN nd) w.heap.size 3 0 (by simp) (by decide)) (fun _ _ => trivial), hb⟩
  · go_enter Try.func28, Try.ntmps28
    go_wp2_with (first | (go_at_call 43; refine (bits_Mul.calls 1 n 0 n _ HM.out).mono ?_; rintro e w' ⟨rfl, ⟨nd, rfl⟩⟩) | ((with_reducible refine gate_builtin (b := .copy) (xs := #[.tmp 31, .tmp 32]) rfl ?_); go_loud (refine wpList_copy_splice rfl (.tmp 31) (.tmp 32) 22 22 rfl 3 Try.underlying22 (by kernel_rfl) (some ⟨w.heap.size, 0, none⟩) (some A) n n 1 c0 rfl rfl w.heap.size 0 (rowJ x n 0) 3 (HG.out nd) [.int .i64 x] ?hn ?hpos ?hfit ?h1 w.heap.size w (HB.out nd) (Nat.le_refl _) ?_)))
    case hn => show 1 = min 1 n; omega
    case hpos => intro j v hv; (
      rcases j with _ | j
      · simp at hv; subst hv; rw [show A.add 0 = A by simp [Addr.add]]; exact pw_cell_below' ((pw_below_drewN (Below.refl _ _) nd).alloc (by simp) _) HX.out
      · simp at hv)
    case hfit => rw [rowJ_len _ _ _ (by omega)]; show 0 + 1 ≤ n; omega
    case h1 => intro v hv; rw [List.mem_singleton.1 hv]; rfl
    intro w1 hh hb
    have hg1 : w1.heap[w.heap.size]? = some (.cells (rowJ x n 1).toArray 3 (0, 0)) := by
      have := hh.out
      rwa [show [Value.int IntKind.i64 x] = List.replicate 1 (Value.int IntKind.i64 x) from rfl, rowJ_splice x n 0 1 (by omega)] at this
    have HG1 := Aside0.mk hg1
    have HB1 := Aside0.mk hb
    clear hh hb hg1
    go_wp2_with fail
    go_loopg [8] n (fun kq v8 wr => ∃ j : Nat, v8 = .int .i64 j ∧ Aside0 (kq + j = n + 1) ∧ Aside0 (1 ≤ j ∧ j ≤ n) ∧ Aside0 (wr.heap[w.heap.size]? = some (.cells (rowJ x n j).toArray 3 (0, 0))) ∧ Aside0 (Below w.heap.size w wr))
    case atStart => exact ⟨1, rfl, ⟨by omega⟩, ⟨by omega⟩, HG1, HB1⟩
    case round =>
      obtain ⟨j, rfl, HJ, HP, HGr, HBr⟩ := hrel
      have hj := HJ.out
      by_cases hlt : j < n
      · have hlt1 : (j : Int) < n := by omega
        have hle : j ≤ n := by omega
        have hne : ¬ n = j := by omega
        have hmm : min j (n - j) ≤ j := Nat.min_le_left _ _
        have hmm2 : min j (n - j) ≤ n - j := Nat.min_le_right _ _
        have hcs : ∀ (i : Nat) (v : Value), (List.replicate (min j (n - j)) (Value.int .i64 x))[i]? = some v → wr.cell? ((⟨w.heap.size, 0, none⟩ : Addr).add i) = some v := by
          intro i v hv
          have hi := (List.getElem?_eq_some_iff.1 hv).1
          rw [List.length_replicate] at hi
          rw [List.getElem?_replicate, if_pos hi] at hv
          have e : (⟨w.heap.size, 0, none⟩ : Addr).add i = ⟨w.heap.size, i, none⟩ := by rcases i with _ | i <;> simp [Addr.add]
          rw [e, blk_cell HGr.out, ← hv]
          have := rowJ_at x n j i (by omega)
          simpa using this
        have HCS := Aside0.mk hcs
        have HM1 := Aside0.mk hmm
        have HM2 := Aside0.mk hmm2
        have HL := Aside0.mk (rowJ_len x n j (by omega))
        clear hcs hmm hmm2
        go_wp2_with fail
        go_region_law (refine step_copy_splice rfl (.tmp 41) (.tmp 44) 22 22 rfl 3 Try.underlying22 (by kernel_rfl) (some ⟨w.heap.size, j, none⟩) (some ⟨w.heap.size, 0, none⟩) (n - j) (n - j) j n (by simp [Act.eval, Act.put]) (by simp [Act.eval, Act.put]) w.heap.size j (rowJ x n j) 3 HGr.out (List.replicate (min j (n - j)) (.int .i64 x)) (by simp [Nat.min_def]) (fun _ => ⟨rfl, _, rfl, HCS.out⟩) (by rw [HL.out, List.length_replicate]; have := HM1.out; have := HM2.out; omega) (by intro v hv; rw [List.eq_of_mem_replicate hv]; rfl) w.heap.size w (below_drew1 HBr.out) (Nat.le_refl _) ?_; intro w' hh hb)
        have hm1 := HM1.out
        have hm2 := HM2.out
        have hp := HP.out
        have h1m : 1 ≤ min j (n - j) := by rw [Nat.min_def]; split <;> omega
        have hgn := hh.out
        rw [rowJ_splice x n j _ (by omega)] at hgn
        have HGN := Aside0.mk hgn
        have HBN := Aside0.mk hb
        clear hgn hb hh
        generalize min j (n - j) = m at *
        have hw : IntKind.i64.wrap ((j : Int) + (m : Int)) = (j : Int) + (m : Int) := by rw [IntWalk.i64_left]; exact IntWalk.wrap64_in _ (by omega)
        go_wp2_with fail
        go_roundg (n + 1 - (j + m))
        case measure => omega
        case rel => exact ⟨j + m, by go_num, ⟨by omega⟩, ⟨by omega⟩, HGN, HBN⟩
      · go_wp2_with fail
        go_ret
        have hp := HP.out
        have hjn : j = n := by omega
        subst hjn
        have hrow : World.ownsRow wr w.heap.size 3 1 (.slice (some ⟨w.heap.size, 0, none⟩) j j) (List.replicate j x).length (encs (Value.int .i64) (List.replicate j x)) := by
          rw [List.length_replicate]
          refine ⟨by simp [encs], .inr ⟨w.heap.size, j, _, rfl, Nat.le_refl _, HGr.out, by simp, by unfold maxLen; omega, by simp [rowJ_len x j j (Nat.le_refl _)], ?_⟩⟩
          rw [Nat.mul_one, List.take_of_length_le (by simp [rowJ_len x j j (Nat.le_refl _)])]
          simp [rowJ, encs]
        exact ⟨_, rfl, Kd.R_of_own hrow (fun _ _ => trivial), HBr.out⟩

theorem slices_Repeat_int_int.calls (A0 : Option Addr) (c0 : Nat) (l0 : List Int) (a1 : Int) (r : List Int) (w : World) (hr0 : Kd.C (Kd.int .i64) w A0 l0.length l0) (hc0 : l0.length ≤ c0) (h : slices_Repeat_int_int.f l0 a1 = some r) :
    Calls Try.prog 28 #[.slice A0 l0.length c0, .int .i64 a1] w fun e w' => ∃ v0_ : Value, e = .returned (v0_) ∧ Kd.R (Kd.int .i64) 3 w' w.heap.size (fun _ => True) v0_ r ∧ Below w.heap.size w w' := by
  unfold slices_Repeat_int_int.f at h
  split at h
  · rename_i hc
    obtain rfl := Option.some.inj h
    obtain ⟨ad, rfl, hx⟩ := Kd.at_int hr0 0 (by omega) (by omega)
    obtain ⟨n, rfl⟩ : ∃ n : Nat, a1 = n := ⟨a1.toNat, by omega⟩
    rw [hc.1, Int.toNat_natCast]
    exact repeat1 ad c0 (rd l0 0) n w (by simpa [Addr.add] using hx) (by omega)
  · cases h
end Go.Proofs.Ytpckfllalpiliaa.G
