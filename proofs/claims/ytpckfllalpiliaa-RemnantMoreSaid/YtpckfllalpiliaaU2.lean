/- The contract of Ways. -/
import Derived.Deep.RegionWith
import Derived.Test.YtpckfllalpiliaaU1
import Derived.Test.YtpckfllalpiliaaP3
namespace Go.Proofs.Ytpckfllalpiliaa.G
open Go.RowKit Go.Maps Go.Proofs.YtpckfllalpiliaaW.PrintWords Go.Proofs.YtpckfllalpiliaaW.PrintMore
set_option linter.unusedVariables false

def sumsL (ps : List Int) : List Int := (List.range (2 ^ ps.length)).map fun s => ssum ps s

theorem madeCells_zero (N : Nat) : madeCells #[Value.int .i64 0] N = cells12 (List.replicate N 0) := by
  apply Array.ext
  · simp [madeCells, cells12]
  · intro i h1 h2
    have h3 : i % 1 = 0 := by omega
    simp [madeCells, cells12, h3]
theorem rd_repl (N t : Nat) : rd (List.replicate N 0) (t : Int) = 0 := by
  rw [rd_nat, List.getD_eq_getElem?_getD, List.getElem?_replicate]; split <;> rfl
theorem set_same {O : List Int} {N j : Nat} (h : O.length = N) (hj : j < N) (h0 : rd O (j : Int) = 0) : O.set j 0 = O := by
  apply List.ext_getElem?
  intro i
  rw [List.getElem?_set]
  split
  · rename_i e; subst e
    rw [rd_nat, List.getD_eq_getElem?_getD, List.getElem?_eq_getElem (by omega)] at h0
    rw [if_pos (by omega), List.getElem?_eq_getElem (by omega)]
    exact congrArg some h0.symm
  · rfl
/-- what lies in memory while the sums are laid -/
def WaysL (w : World) (room : Int) (S N : Nat) (O : List Int) (W : World) : Prop :=
  W.heap[S]? = some (.cells (cells12 O) 3 (0, 0)) ∧ W.heap[S + 1]? = some (.cells #[.slice (some ⟨S, 0, none⟩) N N] 22 (0, 0)) ∧ W.heap[w.heap.size]? = some (.cells #[.int .i64 room] 3 (0, 0)) ∧ W.heap.size = S + 2 ∧ Below w.heap.size w W

set_option maxRecDepth 100000 in
theorem and_one_all : ((List.range 4096).all fun t : Nat => decide (bits .and .i64 (t : Int) 1 = ((t % 2 : Nat) : Int))) = true := by decide +kernel
theorem bit_eq {j : Nat} (hj : j < 4096) (i : Nat) : bits .and .i64 ((j : Int) / 2 ^ i) 1 = ((j / 2 ^ i % 2 : Nat) : Int) := by
  have h := of_decide_eq_true (List.all_eq_true.1 and_one_all (j / 2 ^ i) (List.mem_range.2 (Nat.lt_of_le_of_lt (Nat.div_le_self _ _) hj)))
  rw [← h]
  congr 1
theorem WaysL.set {w W : World} {room : Int} {S N : Nat} {O : List Int} {j : Nat} (h : WaysL w room S N O W) (hS : w.heap.size < S) (v : Int) : WaysL w room S N (O.set j v) (W.setCell ⟨S, j, none⟩ (.int .i64 v)) := by
  refine ⟨by rw [← cells12_set]; exact blk_set h.1 j _, blk_far (p := ⟨S, j, none⟩) h.2.1 (by show S + 1 ≠ S; omega) _, blk_far (p := ⟨S, j, none⟩) h.2.2.1 (by show w.heap.size ≠ S; omega) _, by rw [← h.2.2.2.1]; simp, h.2.2.2.2.setCell (p := ⟨S, j, none⟩) (by show w.heap.size ≤ S; omega) _⟩

set_option maxRecDepth 100000 in
theorem restb_lt_all : ((List.range 4096).all fun m : Nat => decide (m = 0) || decide (restb m < m)) = true := by decide +kernel
theorem ways_bits {L N : Nat} (hL : 2 ^ L = N) (hN : N ≤ 4096) : ∀ m s, 0 < m → m < N → s &&& restb m = s → s ||| lowb m < N ∧ restb m &&& (18446744073709551615 - s) < m := by
  intro m s h0 h1 h2
  have h3 := List.all_eq_true.1 restb_lt_all m (List.mem_range.2 (by omega))
  simp only [Bool.or_eq_true, decide_eq_true_eq] at h3
  have h4 : s ≤ restb m := by rw [← h2]; exact Nat.and_le_right
  have h5 : lowb m ≤ m := Nat.and_le_left
  have h6 := Nat.and_le_left (n := restb m) (m := 18446744073709551615 - s)
  refine ⟨?_, by omega⟩
  rw [← hL]
  exact Nat.or_lt_two_pow (by omega) (by omega)
theorem memo_start {V : Nat → Int} {N : Nat} (h : V 0 = 1) (hN : 0 < N) : Memo V N 1 ((DataW.map [] : DU).put (ku 0) (lv 1)) := by
  have hm : IsMap (DataW.map [] : DU) := ⟨[], rfl⟩
  refine ⟨⟨_, rfl⟩, has_put_same hm (show WideAt.IsKeyLit (ku 0) from trivial) _, fun m hm' hh => ?_, ?_⟩
  · by_cases e : m = 0
    · subst e; rw [h]; exact atKey_put_same hm (show WideAt.IsKeyLit (ku 0) from trivial) _ _
    · rw [has_put_other (ku_ne e)] at hh; cases hh
  · have h1 := countP_drop (fun x => !Maps.has (DataW.map [] : DU) (ku x)) (fun x => !Maps.has ((DataW.map [] : DU).put (ku 0) (lv 1)) (ku x)) 0 (fun x hx => by rw [has_put_other (ku_ne hx)]) rfl (by simp [has_put_same hm (show WideAt.IsKeyLit (ku 0) from trivial)]) N
    rw [if_pos hN] at h1
    have h2 := List.countP_le_length (p := fun x => !Maps.has (DataW.map [] : DU) (ku x)) (l := List.range N)
    rw [List.length_range] at h2
    omega
theorem WaysS.drew {V : Nat → Int} {N B M n : Nat} {D : DU} {W0 W : World} (h : WaysS V N B M n D W0 W) : WaysS V N B M n D W0 W.drew := ⟨h.keep.trans ⟨Nat.le_refl _, fun _ _ _ => rfl⟩, below_drew h.below, h.own, h.memo⟩

set_option maxHeartbeats 8000000 in
set_option maxRecDepth 100000 in
theorem ways_walk (room : Int) (A1 : Option Addr) (c1 : Nat) (ps : List Int) (V : Nat → Int) (w : World) (hr1 : Kd.C (Kd.int .i64) w A1 ps.length ps) (hc1 : ps.length ≤ c1)
    (hp : piecesB room ps = true) (hV : WaysEq room (sumsL ps) V (2 ^ ps.length)) :
    Calls Try.prog 15 #[.int .i64 room, .slice A1 ps.length c1] w fun e w' => e = .returned (.tuple #[.int .i64 (V (2 ^ ps.length - 1)), .int .i64 0]) ∧ Below w.heap.size w w' := by
  have hpp : (1 ≤ room ∧ room ≤ 100) ∧ ps.length ≤ 12 ∧ ∀ s ∈ ps, 1 ≤ s ∧ s ≤ room := by
    have h := hp
    unfold piecesB at h
    simp only [Bool.and_eq_true, decide_eq_true_eq, List.all_eq_true] at h
    exact ⟨h.1.1, by omega, h.2⟩
  obtain ⟨hroom, hpl, hps⟩ := hpp
  have hmf : ∀ (fn : Fn) (first cap : Array Value) (w : World), (Instr.makeFunc fn first cap).run Try.prog w = .ok (.func fn first cap) w := fun _ _ _ _ => rfl
  have hmm := @run_makeMap Try.prog
  have HR := Aside0.mk hr1
  have HC := Aside0.mk hc1
  have HPS := Aside0.mk hps
  have HV := Aside0.mk hV
  have HP := Aside0.mk (show remnant_arePieces.f room ps = some true by unfold remnant_arePieces.f; rw [hp])
  obtain ⟨N, hN⟩ : ∃ N : Nat, 2 ^ ps.length = N := ⟨_, rfl⟩
  have hN1 : 0 < N := by rw [← hN]; exact Nat.two_pow_pos _
  have hN2 : N ≤ 4096 := by rw [← hN]; exact two_pow_le (n := 12) hpl
  rw [hN] at HV
  have HN := Aside0.mk hN
  clear hr1 hc1 hps hp hV hN
  have hmk := print_make_of (P := Try.prog) 22 3 (.int .i64 0) 8 Try.underlying22 info3 rfl (by decide) N (by omega)
  have hshl : wrap64 (2 ^ ps.length) = (N : Int) := by
    rw [show ((2 : Int) ^ ps.length) = ((2 ^ ps.length : Nat) : Int) by simp, HN.out]
    exact IntWalk.wrap64_in _ (by omega)
  go_enter Try.func15, Try.ntmps15
  go_wp2_with fail
  refine (remnant_arePieces.calls room A1 c1 ps true _ (Kd.C_alloc HR.out _) HC.out HP.out).mono ?_
  rintro e w1 ⟨rfl, hb1⟩
  have e0 := blk_below (blk_new w (.cells #[.int .i64 room] 3 (0, 0))) hb1
  have HE0 := Aside0.mk e0
  have HB1 := Aside0.mk (((Below.refl _ w).alloc (Nat.le_refl _) (.cells #[.int .i64 room] 3 (0, 0))).trans (hb1.mono (by simp)))
  clear hb1 e0
  go_wp2_with fail
  obtain ⟨S, hS⟩ : ∃ S, w1.heap.size = S := ⟨_, rfl⟩
  obtain ⟨W0, hW0⟩ : ∃ W0, ((w1.alloc (.cells (madeCells #[Value.int .i64 0] N) 3)).alloc (.cells #[.slice (some ⟨w1.heap.size, 0, none⟩) N N] 22)) = W0 := ⟨_, rfl⟩
  rw [hW0]
  have hb0 : Below w.heap.size w W0 := by rw [← hW0]; exact (HB1.out.alloc HB1.out.size _).alloc (by have := HB1.out.size; simp; omega) _
  have hr0 : W0.heap[S]? = some (.cells (cells12 (List.replicate N 0)) 3 (0, 0)) := by rw [← hW0, ← hS, ← madeCells_zero]; exact blk_alloc (blk_new _ _) _
  have hs0 : W0.heap[S + 1]? = some (.cells #[.slice (some ⟨S, 0, none⟩) N N] 22 (0, 0)) := by
    rw [← hW0, ← hS]
    have h := blk_new (w1.alloc (.cells (madeCells #[Value.int .i64 0] N) 3)) (.cells #[.slice (some ⟨w1.heap.size, 0, none⟩) N N] 22 (0, 0))
    rwa [World.size_alloc] at h
  have hm0 : W0.heap[w.heap.size]? = some (.cells #[.int .i64 room] 3 (0, 0)) := by rw [← hW0]; exact blk_alloc (blk_alloc HE0.out _) _
  have hz0 : W0.heap.size = S + 2 := by rw [← hW0, ← hS]; simp
  have hwS : w.heap.size < S := by rw [← hS]; exact blk_lt HE0.out
  rw [hS]
  have HX0 := Aside0.mk (And.intro hr0 (And.intro hs0 (And.intro hm0 (And.intro hz0 hb0))))
  have HWS := Aside0.mk hwS
  have cs0 := (blk_cell hs0 0).trans (show (#[Value.slice (some ⟨S, 0, none⟩) N N] : Array Value)[0]? = some (Value.slice (some ⟨S, 0, none⟩) N N) from rfl)
  clear hr0 hs0 hm0 hz0 hb0 hW0 hS hwS
  go_wp2_with fail
  go_loopg [22] N (fun kq v22 wr => ∃ (j : Nat) (O : List Int), v22 = .int .i64 j ∧ Aside0 (kq + j = N) ∧ Aside0 (O.length = N ∧ (∀ t : Nat, t < j → rd O (t : Int) = ssum ps t) ∧ ∀ t : Nat, j ≤ t → rd O (t : Int) = 0) ∧ Aside0 (WaysL w room S N O wr))
  case atStart => exact ⟨0, List.replicate N 0, rfl, ⟨by omega⟩, ⟨by simp, fun t h => by omega, fun t _ => rd_repl N t⟩, HX0⟩
  case round =>
    obtain ⟨j, O, rfl, HJ, HO, HL⟩ := hrel
    have hj := HJ.out
    have cs1 := (blk_cell HL.out.2.1 0).trans (show (#[Value.slice (some ⟨S, 0, none⟩) N N] : Array Value)[0]? = some (Value.slice (some ⟨S, 0, none⟩) N N) from rfl)
    by_cases hlt : j < N
    · go_wp2_with fail
      go_loopg [27] ps.length (fun kq v27 wi => ∃ (i : Nat) (acc : Int), v27 = .int .i64 i ∧ Aside0 (kq + i = ps.length) ∧ Aside0 (acc + ssum (ps.drop i) (j / 2 ^ i) = ssum ps j ∧ 0 ≤ acc ∧ acc ≤ 100 * i) ∧ Aside0 (WaysL w room S N (O.set j acc) wi))
      case atStart => exact ⟨0, 0, rfl, ⟨by omega⟩, ⟨by simp⟩, ⟨by rw [show O.set j 0 = O from set_same HO.out.1 hlt (HO.out.2.2 j (Nat.le_refl _))]; exact HL.out⟩⟩
      case round =>
        rename World => wi
        obtain ⟨i, acc, rfl, HI, HA, HL2⟩ := hrel
        have hi := HI.out
        have cs2 := (blk_cell HL2.out.2.1 0).trans (show (#[Value.slice (some ⟨S, 0, none⟩) N N] : Array Value)[0]? = some (Value.slice (some ⟨S, 0, none⟩) N N) from rfl)
        by_cases hlt2 : i < ps.length
        · obtain ⟨ad, rfl, hx⟩ := Kd.at_int HR.out (i : Int) (by omega) (by omega)
          rw [Int.toNat_natCast] at hx
          replace hx := pw_cell_below' HL2.out.2.2.2.2 hx
          obtain ⟨x, hxe⟩ : ∃ x, rd ps (i : Int) = x := ⟨_, rfl⟩
          rw [hxe] at hx
          have hxb : 1 ≤ x ∧ x ≤ room := by
            rw [← hxe]; exact HPS.out _ (rd_mem (by omega) (by omega))
          have hab := HA.out.2
          have hac : 0 ≤ acc ∧ acc ≤ 1200 := by omega
          have hdrop := drop_rd hlt2
          rw [hxe] at hdrop
          have hsm : ssum (ps.drop i) (j / 2 ^ i) = (if j / 2 ^ i % 2 = 1 then x else 0) + ssum (ps.drop (i + 1)) (j / 2 ^ (i + 1)) := by
            rw [hdrop, ssum, Nat.pow_succ, Nat.div_div_eq_div_mul]
          have HSM := Aside0.mk hsm
          have cj := (blk_cell HL2.out.1 j).trans (show (cells12 (O.set j acc))[j]? = some (.int .i64 acc) by rw [cells12_at (by rw [List.length_set]; have := HO.out.1; omega), rd_set O j j acc (by have := HO.out.1; omega), if_pos rfl])
          have fj := blk_frozen HL2.out.1 j
          have hbe := bit_eq (j := j) (by omega) i
          have hq0 : (0 : Int) ≤ j := by omega
          have hq1 : (j : Int) < N := by omega
          clear hxe hdrop hsm
          by_cases hbt : j / 2 ^ i % 2 = 1
          · have hbv : (bits .and .i64 ((j : Int) / 2 ^ i) 1 == 1) = true := by rw [hbe, hbt]; rfl
            have HBT := Aside0.mk hbt
            clear hbe hbt
            go_wp2_with fail
            go_roundg (ps.length - (i + 1))
            case measure => omega
            case rel =>
              refine ⟨i + 1, acc + x, by go_num, ⟨by omega⟩, ⟨?_, by omega, by omega⟩, ⟨?_⟩⟩
              · have h := HA.out.1
                rw [HSM.out, if_pos HBT.out] at h
                omega
              · have h := HL2.out.set HWS.out (j := j) (acc + x)
                rw [List.set_set] at h
                exact h
          · have hbv : (bits .and .i64 ((j : Int) / 2 ^ i) 1 == 1) = false := by rw [hbe, show j / 2 ^ i % 2 = 0 by omega]; rfl
            have HBT := Aside0.mk hbt
            clear hbe hbt
            go_wp2_with fail
            go_roundg (ps.length - (i + 1))
            case measure => omega
            case rel =>
              refine ⟨i + 1, acc, by go_num, ⟨by omega⟩, ⟨?_, by omega, by omega⟩, HL2⟩
              have h := HA.out.1
              rw [HSM.out, if_neg HBT.out] at h
              omega
        · have hdone : acc = ssum ps j := by
            have h := HA.out.1
            rw [List.drop_eq_nil_of_le (by omega), ssum] at h; omega
          have HDN := Aside0.mk hdone
          clear hdone
          go_wp2_with fail
          go_roundg (N - (j + 1))
          case measure => omega
          case rel =>
            refine ⟨j + 1, O.set j acc, by go_num, ⟨by omega⟩, ⟨by rw [List.length_set]; exact HO.out.1, fun t ht => ?_, fun t ht => ?_⟩, HL2⟩
            · rw [rd_set O j t acc (by have := HO.out.1; omega)]
              split
              · rename_i e; rw [e]; exact HDN.out
              · exact HO.out.2.1 t (by omega)
            · rw [rd_set O j t acc (by have := HO.out.1; omega), if_neg (by omega)]
              exact HO.out.2.2 t (by omega)
    · have hO : O = sumsL ps := by
        unfold sumsL
        rw [HN.out]
        apply List.ext_getElem
        · simp [HO.out.1]
        · intro t h1 h2
          have h := HO.out.2.1 t (by have := HO.out.1; omega)
          rw [rd_nat, List.getD_eq_getElem?_getD, List.getElem?_eq_getElem h1] at h
          simpa using h
      subst hO
      have HLN : Aside0 ((sumsL ps).length = N) := ⟨by unfold sumsL; rw [HN.out]; simp⟩
      have HLX := Aside0.mk HL.out
      clear HL HO HX0 cs0 cs1
      have hsz : wr.heap.size = S + 2 := HLX.out.2.2.2.1
      obtain ⟨w5, hrun, hown5, hgr5⟩ := (World.ownsMap_made (H := Unit) wr Try.prog 57 (plainElem Try.prog 3)).update lawS Try.underlying58 (by decide) (keyOf_int_mk Try.underlying57 (a := 0) (by decide)) (plainElem_int Try.underlying3 (a := 1) (by decide))
      have hb5 : Below (S + 2) wr w5 := ((Below.refl _ wr).alloc (by omega) _).grown hgr5 (by simp; omega) (fun k e => by cases e; omega)
      have hz5 : wr.heap.size + 1 ≤ w5.heap.size := by have := hgr5.size; simpa using this
      have HO5 := Aside0.mk hown5
      have HB5 := Aside0.mk hb5
      have HZ5 := Aside0.mk hz5
      have HSZ := Aside0.mk hsz
      clear hown5 hb5 hgr5 hz5 hsz
      go_wp2_with fail
      obtain ⟨W6, hW6⟩ : ∃ W6, ((w5.alloc (.cells #[.map (some wr.heap.size)] 58)).alloc (.cells #[.func (.func 33) #[] #[.pointer (some ⟨w5.heap.size, 0, none⟩), .pointer (some ⟨S + 1, 0, none⟩), .pointer (some ⟨w.heap.size, 0, none⟩), .pointer (some ⟨w5.heap.size + 1, 0, none⟩)]] 59)) = W6 := ⟨_, rfl⟩
      rw [hW6]
      have hz5 := HZ5.out
      have hsz := HSZ.out
      have hws := HWS.out
      have hB5 : Below (S + 2) wr W6 := by rw [← hW6]; exact (HB5.out.alloc (by omega) _).alloc (by simp; omega) _
      have k6 : W6.heap[w5.heap.size]? = some (.cells #[.map (some wr.heap.size)] 58 (0, 0)) := by rw [← hW6]; exact blk_alloc (blk_new w5 _) _
      have s6 : W6.heap[w5.heap.size + 1]? = some (.cells #[.func (.func 33) #[] #[.pointer (some ⟨w5.heap.size, 0, none⟩), .pointer (some ⟨S + 1, 0, none⟩), .pointer (some ⟨w.heap.size, 0, none⟩), .pointer (some ⟨w5.heap.size + 1, 0, none⟩)]] 59 (0, 0)) := by
        rw [← hW6]
        have h := blk_new (w5.alloc (.cells #[.map (some wr.heap.size)] 58)) (.cells #[.func (.func 33) #[] #[.pointer (some ⟨w5.heap.size, 0, none⟩), .pointer (some ⟨S + 1, 0, none⟩), .pointer (some ⟨w.heap.size, 0, none⟩), .pointer (some ⟨w5.heap.size + 1, 0, none⟩)]] 59 (0, 0))
        rwa [World.size_alloc] at h
      have r6 : W6.heap[S]? = some (.cells (cells12 (sumsL ps)) 3 (0, 0)) := (hB5.block _ (by omega)).trans HLX.out.1
      have b6 : W6.heap[S + 1]? = some (.cells #[.slice (some ⟨S, 0, none⟩) (sumsL ps).length N] 22 (0, 0)) := by rw [HLN.out]; exact (hB5.block _ (by omega)).trans HLX.out.2.1
      have m6 : W6.heap[w.heap.size]? = some (.cells #[.int .i64 room] 3 (0, 0)) := (hB5.block _ (by omega)).trans HLX.out.2.2.1
      have hE : WaysM room (sumsL ps) wr.heap.size w5.heap.size (S + 1) w.heap.size (w5.heap.size + 1) ⟨S, 0, none⟩ N W6 := ⟨k6, b6, m6, s6, by
        refine Kd.C_of_reads (d := (0 : Int)) (h1 := fun _ => rfl) ⟨rfl, by rw [HLN.out]; omega, fun _ => ⟨_, rfl, fun i hi => ?_⟩⟩
        have e : (⟨S, 0, none⟩ : Addr).add i = ⟨S, i, none⟩ := by rcases i with _ | i <;> simp [Addr.add]
        rw [e, blk_cell r6, cells12_at hi, rd_nat]⟩
      have hS : WaysS V N w.heap.size wr.heap.size 1 ((DataW.map [] : DU).put (ku 0) (lv 1)) W6 W6 := ⟨KeepsK.refl _ _, Below.refl _ _, by rw [← hW6]; exact (HO5.out.alloc _).alloc _, memo_start HV.out.zero hN1⟩
      have hbw : Below w.heap.size w W6 := HLX.out.2.2.2.2.trans (hB5.mono (by omega))
      obtain ⟨NL, hNL⟩ : ∃ NL : Nat, N - 1 = NL := ⟨_, rfl⟩
      have hs1 : IntKind.u64.wrap (2 ^ ps.length) = (N : Int) := by
        rw [show ((2 : Int) ^ ps.length) = ((2 ^ ps.length : Nat) : Int) by simp, HN.out]
        simp [IntKind.wrap, IntKind.signed, IntKind.bits]; omega
      have hs2 : (N : Int) - 1 = (NL : Int) := by omega
      have hs3 : IntKind.u64.wrap (NL : Int) = (NL : Int) := by simp [IntKind.wrap, IntKind.signed, IntKind.bits]; omega
      have cf := (blk_cell s6 0).trans (show (#[.func (.func 33) #[] #[.pointer (some ⟨w5.heap.size, 0, none⟩), .pointer (some ⟨S + 1, 0, none⟩), .pointer (some ⟨w.heap.size, 0, none⟩), .pointer (some ⟨w5.heap.size + 1, 0, none⟩)]] : Array Value)[0]? = some _ from rfl)
      have HE := Aside0.mk hE
      have HS6 := Aside0.mk hS
      have HBW := Aside0.mk hbw
      have HNL := Aside0.mk hNL
      clear hE hS hbw k6 s6 r6 b6 m6 hB5 hW6 hNL
      go_region_with (go_at_call 33; refine (ways_in room (sumsL ps) V N w.heap.size wr.heap.size w5.heap.size (S + 1) w.heap.size (w5.heap.size + 1) ⟨S, 0, none⟩ N hN2 HV.out HLN.out (by omega) (by omega) (by omega) (by omega) (by omega) (by show S ≠ wr.heap.size; omega) (ways_bits HN.out hN2) NL 1 _ W6 _ (by have := HNL.out; omega) (Below.size HBW.out) HE.out (by first | exact HS6.out | exact HS6.out.drew)).mono ?_; rintro e w7 ⟨rfl, n7, D7, hs7, -⟩; have HS7 := Aside0.mk hs7; clear hs7)
      all_goals
        go_wp2_with fail
        go_ret2
        exact ⟨by rw [HN.out, HNL.out]; rfl, HBW.out.trans HS7.out.below⟩

/-- the table of the numbers of ways -/
def waysTab (room : Int) (sums : List Int) : Nat → List Int
  | 0 => []
  | n + 1 => waysTab room sums n ++ [if n = 0 then 1 else sumE room sums (fun m => rd (waysTab room sums n) (m : Int)) (restb n) (lowb n) (restb n) 0]
def waysV (room : Int) (sums : List Int) (m : Nat) : Int := rd (waysTab room sums (m + 1)) (m : Int)
theorem waysTab_len (room : Int) (sums : List Int) : ∀ n, (waysTab room sums n).length = n
  | 0 => rfl
  | n + 1 => by rw [waysTab, List.length_append, waysTab_len room sums n]; rfl
theorem waysTab_at (room : Int) (sums : List Int) (m : Nat) : ∀ n, m < n → rd (waysTab room sums n) (m : Int) = waysV room sums m
  | 0, h => by omega
  | n + 1, h => by
    by_cases e : m = n
    · subst e; rfl
    · rw [waysTab, rd_snoc _ _ _ (by rw [waysTab_len]; omega), if_neg (by rw [waysTab_len]; exact e)]
      exact waysTab_at room sums m n (by omega)
theorem sumE_congr (room : Int) (sums : List Int) (V V' : Nat → Int) (rest low : Nat) : ∀ (s : Nat) (acc : Int), (∀ t, V (rest &&& t) = V' (rest &&& t)) → sumE room sums V rest low s acc = sumE room sums V' rest low s acc := by
  intro s
  induction s using Nat.strongRecOn with
  | ind s ih =>
    intro acc h
    by_cases e : s = 0
    · subst e; rw [sumE_zero, sumE_zero, h]
    · rw [sumE_succ e, sumE_succ e, h]
      exact ih _ (by have := Nat.and_le_left (n := s - 1) (m := rest); omega) _ h
theorem waysV_eq (room : Int) (sums : List Int) (N : Nat) (hN : N ≤ 4096) : WaysEq room sums (waysV room sums) N := by
  refine ⟨rfl, fun m h0 h1 => ?_⟩
  have h3 := List.all_eq_true.1 restb_lt_all m (List.mem_range.2 (by omega))
  simp only [Bool.or_eq_true, decide_eq_true_eq] at h3
  rw [waysV, waysTab, rd_snoc _ _ _ (by rw [waysTab_len]; omega), if_pos (by rw [waysTab_len]), if_neg (by omega)]
  refine sumE_congr _ _ _ _ _ _ _ _ (fun t => ?_)
  have := Nat.and_le_left (n := restb m) (m := t)
  exact waysTab_at room sums _ m (by omega)

def remnant_Ways.f (room : Int) (ps : List Int) : Option (Int × Int) := if piecesB room ps = true then some (waysV room (sumsL ps) (2 ^ ps.length - 1), 0) else some (0, 2)
theorem remnant_Ways.calls (a0 : Int) (A1 : Option Addr) (c1 : Nat) (l1 : List Int) (r1 : Int) (r2 : Int) (w : World) (hr1 : Kd.C (Kd.int .i64) w A1 l1.length l1) (hc1 : l1.length ≤ c1) (h : remnant_Ways.f a0 l1 = some (r1, r2)) :
    Calls Try.prog 15 #[.int .i64 a0, .slice A1 l1.length c1] w fun e w' => e = .returned (.tuple #[.int .i64 r1, .int .i64 r2]) ∧ Below w.heap.size w w' := by
  unfold remnant_Ways.f at h
  split at h
  · rename_i hp
    have h4 := Option.some.inj h
    simp only [Prod.mk.injEq] at h4
    obtain ⟨rfl, rfl⟩ := h4
    refine ways_walk a0 A1 c1 l1 _ w hr1 hc1 hp (waysV_eq _ _ _ (two_pow_le (n := 12) ?_))
    unfold piecesB at hp
    simp only [Bool.and_eq_true, decide_eq_true_eq] at hp
    omega
  · rename_i hp
    obtain ⟨rfl, rfl⟩ : r1 = 0 ∧ r2 = 2 := by
      have := Option.some.inj h
      simp only [Prod.mk.injEq] at this
      exact ⟨this.1.symm, this.2.symm⟩
    have HP := Aside0.mk (show remnant_arePieces.f a0 l1 = some false by unfold remnant_arePieces.f; rw [Bool.not_eq_true] at hp; rw [hp])
    have HR := Aside0.mk hr1
    have HC := Aside0.mk hc1
    clear hp h hr1 hc1
    go_enter Try.func15, Try.ntmps15
    go_wp2_with fail
    refine (remnant_arePieces.calls a0 A1 c1 l1 false _ (Kd.C_alloc HR.out _) HC.out HP.out).mono ?_
    rintro e w1 ⟨rfl, hb1⟩
    have HB := Aside0.mk (((Below.refl _ w).alloc (Nat.le_refl _) (.cells #[.int .i64 a0] 3)).trans (hb1.mono (by simp)))
    clear hb1
    go_wp2_with fail
    go_ret2
    exact ⟨rfl, HB.out⟩
end Go.Proofs.Ytpckfllalpiliaa.G
