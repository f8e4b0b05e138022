/- The contract of shuffle.at: a range over slices.Backward. -/
import Derived.RangeFuncNested
import Derived.RangeFuncBound
import Derived.RangeFuncCalls
import Derived.RangeFuncLeaves
import Derived.Shelf.Abstract
import Derived.Shelf.RegionOpen
import Derived.WalkKit
import Derived.OwnWalkIn
import Derived.TacticsInMore
import Derived.LoopNIn
import Derived.LoopIn
import Derived.Test.YtohgdegklhlldaaG0x0
namespace Go.Proofs.Ytohgdegklhlldaa.G
open Go.RowKit Go.Shelf Go.Proofs.YtohgdegklhlldaaW.PrintWords
attribute [local go_sem] Oper.semAt_some
set_option linter.unusedVariables false

def bkf (l : List Int) (k : Nat) : Int × Int := ((l.length : Int) - 1 - k, rd l ((l.length : Int) - 1 - k))
def bks (l : List Int) (k : Nat) : List (Int × Int) := (List.range k).map (bkf l)
theorem bks_succ (l : List Int) (k : Nat) : bks l (k + 1) = bks l k ++ [bkf l k] := by simp [bks, List.range_succ]
theorem bks_length (l : List Int) (k : Nat) : (bks l k).length = k := by simp [bks]

def KpB (n₀ Bs : Nat) (W W' : World) : Prop := Below n₀ W W' ∧ W'.heap[Bs]? = W.heap[Bs]?

theorem backwardCalls (A : Option Addr) (n c : Nat) (w : World) :
    Calls Try.prog 25 #[.slice A n c] w fun e w' => e = .returned (.func (.func 35) #[] #[.pointer (some ⟨w.heap.size, 0, none⟩)]) ∧ w' = w.alloc (.cells #[.slice A n c] 22) := by
  have hmf : ∀ (fn : Fn) (first cap : Array Value) (w : World), (Instr.makeFunc fn first cap).run Try.prog w = .ok (.func fn first cap) w := fun _ _ _ _ => rfl
  go_enter Try.func25, Try.ntmps25
  go_wp2
  go_ret
  exact ⟨rfl, rfl⟩

theorem pw_cell_below' {w w1 : World} (h : Below w.heap.size w w1) {a : Addr} {v : Value} (hc : w.cell? a = some v) : w1.cell? a = some v := (h.cell (World.block_lt_of_cell? w a hc)).trans hc

set_option maxRecDepth 100000 in
set_option maxHeartbeats 2000000 in
theorem backStops (n : Nat) (hn : 1 ≤ n) (Bs : Nat) (A : Option Addr) (c : Nat) (l : List Int) (w0 w : World) (hr : Kd.C (Kd.int .i64) w0 A l.length l)
    (hB0 : Below w0.heap.size w0 w) (hBs : w.heap[Bs]? = some (.cells #[.slice A l.length c] 22 (0, 0))) :
    SeqStopsK Fence.wide n Try.prog 35 #[.pointer (some ⟨Bs, 0, none⟩)] (fun x : Int × Int => #[.int .i64 x.1, .int .i64 x.2]) (KpB w0.heap.size Bs)
      (fun xs => xs = bks l l.length) (fun _ => True) l.length w := by
  intro ll J Jx W hW hJ hJx hY h0
  have hm := Kd.C_max hr
  have HR := Aside0.mk hr
  clear hr
  have hbsl : Bs < w.heap.size := (Array.getElem?_eq_some_iff.1 hBs).1
  have hBsW : W.heap[Bs]? = some (.cells #[.slice A l.length c] 22 (0, 0)) := (hW.block _ hbsl).trans hBs
  have hBW : Below w0.heap.size w0 W := hB0.trans (hW.mono hB0.size)
  have HBW := Aside0.mk hBW
  have HBS := Aside0.mk hBsW
  have hcell := (blk_cell hBsW 0).trans rfl
  clear hB0 hBs hW hBW hBsW
  refine callsIn_of_wp Try.func35 rfl trivial ?_ rfl
  simp only [Try.ntmps35, List.size_toArray, List.length_cons, List.length_nil, Nat.reduceAdd, Nat.reduceSub, Array.replicate_succ, Array.replicate_zero, List.push_toArray, List.append_toArray, List.nil_append, List.cons_append]
  gi_wp2
  gi_loopw [3] (fun i wr => ∃ k : Nat, k ≤ l.length ∧ i = .int .i64 ((l.length : Int) - 1 - k) ∧ Aside0 (J (bks l k) wr) ∧ Aside0 (Below w0.heap.size w0 wr) ∧ Aside0 (wr.heap[Bs]? = some (.cells #[.slice A l.length c] 22 (0, 0))))
    (fun i wr => (intOf i + 1).toNat)
  case atStart =>
    exact ⟨0, by omega, by simp, ⟨h0⟩, HBW, HBS⟩
  case round =>
    obtain ⟨k, hk, rfl, HJ, HB, HS⟩ := hrel
    have hcell := (blk_cell HS.out 0).trans rfl
    by_cases hlt : k < l.length
    · obtain ⟨ad, rfl, hx⟩ := Kd.at_int HR.out ((l.length : Int) - 1 - k) (by omega) (by omega)
      replace hx := pw_cell_below' HB.out hx
      have e1 : ((l.length : Int) - 1 - (k : Int)).toNat = l.length - 1 - k := by omega
      rw [e1] at hx
      obtain ⟨fn, tmps, assign, body, hy, hR⟩ := hY (bks l k) (bkf l k) wr HJ.out (by rw [bks_length]; exact hlt)
      simp only [bkf] at hy hx
      gi_wp2
      refine hR.mono ?_
      rintro e W3 (⟨rfl, hJ3, hk3⟩ | ⟨rfl, hJx3⟩)
      · have HK3 := Aside0.mk hk3
        have HJ3 := Aside0.mk hJ3
        clear hk3 hJ3
        gi_wp2
        go_roundw
        case rel => exact ⟨k + 1, by omega, by congr 1; omega, ⟨by rw [bks_succ]; exact HJ3.out⟩, ⟨HB.out.trans HK3.out.1⟩, ⟨HK3.out.2.trans HS.out⟩⟩
        case measure => simp [intOf]; omega
      · gi_wp2
        refine bodyPost_ret (results_none rfl _ _ _) rfl ?_
        exact ⟨⟨_, rfl⟩, .inr ⟨_, trivial, hJx3⟩⟩
    · obtain rfl : k = l.length := by omega
      gi_wp2
      go_end0
      exact ⟨⟨_, rfl⟩, .inl ⟨_, rfl, HJ.out⟩⟩

theorem blk_own {W W' : World} {row : Option Nat} {g : Nat} {cs : Array Value} {t : TypeId} (h : W.heap[g]? = some (.cells cs t (0, 0))) (hg : W.grownBy W' row) (hr : ∀ r, row = some r → ∃ o : Obj, W.heap[r]? = some o ∧ o.isCells = false) : W'.heap[g]? = some (.cells cs t (0, 0)) :=
  (hg.block g (blk_lt h) (fun e => by obtain ⟨o, ho, hc⟩ := hr g e.symm; rw [h] at ho; cases ho; simp [Obj.isCells] at hc)).trans h

def atS (m x out c : Int) : Int := Int.tmod (wrap64 (wrap64 (out * x) + c)) m
def atF (m x : Int) (pre : List (Int × Int)) : Int := pre.foldl (fun out p => atS m x out p.2) 0
theorem atF_snoc (m x : Int) (pre : List (Int × Int)) (p : Int × Int) : atF m x (pre ++ [p]) = atS m x (atF m x pre) p.2 := by simp [atF]
theorem atF_bks (m x : Int) (l : List Int) : ∀ k, k ≤ l.length → atF m x (bks l k) = (l.drop (l.length - k)).foldr (fun c out => atS m x out c) 0
  | 0, _ => by simp [bks, atF]
  | k + 1, h => by
    rw [bks_succ, atF_snoc, atF_bks m x l k (by omega)]
    have e : l.drop (l.length - (k + 1)) = rd l ((l.length : Int) - 1 - k) :: l.drop (l.length - k) := by
      have e1 : ((l.length : Int) - 1 - (k : Int)).toNat = l.length - (k + 1) := by omega
      unfold rd
      rw [e1, List.drop_eq_getElem_cons (by omega), List.getD_eq_getElem?_getD, List.getElem?_eq_getElem (by omega)]
      have e2 : l.length - (k + 1) + 1 = l.length - k := by omega
      rw [e2]; rfl
    rw [e]; rfl

def shuffle_at.f (a0 : Int) (l1 : List Int) (a2 : Int) : Option Int := if a0 = 0 then none else some (l1.foldr (fun c out => atS a0 a2 out c) 0)

set_option maxRecDepth 100000 in
set_option maxHeartbeats 4000000 in
theorem shuffle_at.calls (a0 : Int) (A1 : Option Addr) (c1 : Nat) (l1 : List Int) (a2 : Int) (r : Int) (w : World) (hr1 : Kd.C (Kd.int .i64) w A1 l1.length l1) (hc1 : l1.length ≤ c1) (h : shuffle_at.f a0 l1 a2 = some r) :
    Calls Try.prog 16 #[.int .i64 a0, .slice A1 l1.length c1, .int .i64 a2] w fun e w' => e = .returned (.int .i64 r) ∧ Below w.heap.size w w' := by
  have hm : a0 ≠ 0 := by
    intro he; unfold shuffle_at.f at h; rw [if_pos he] at h; cases h
  unfold shuffle_at.f at h; rw [if_neg hm] at h
  obtain rfl := Option.some.inj h
  have hz : atF a0 a2 (bks l1 l1.length) = l1.foldr (fun c out => atS a0 a2 out c) 0 := by rw [atF_bks a0 a2 l1 _ (Nat.le_refl _), Nat.sub_self, List.drop_zero]
  have HZ := Aside0.mk hz
  have HR := Aside0.mk hr1
  have hmb : (a0 == 0) = false := by simpa using hm
  clear h hz hr1 hc1
  refine (callsIn_wide (n := 6)).1 ?_
  refine callsIn_of_wp_marks Try.func16 rfl trivial ?_ rfl
  simp only [Try.ntmps16, List.size_toArray, List.length_cons, List.length_nil, Nat.reduceAdd, Nat.reduceSub, Array.replicate_succ, Array.replicate_zero, List.push_toArray, List.append_toArray, List.nil_append, List.cons_append]
  gi_wp2_with fail
  refine ⟨trivial, (callsIn_wide.2 (backwardCalls _ _ _ _)).mono ?_⟩
  rintro e w' ⟨rfl, rfl⟩
  gi_wp2_with fail
  obtain ⟨W0, hW0⟩ : ∃ W0, ((((w.alloc (Obj.cells #[Value.int IntKind.i64 a0] 3)).alloc (Obj.cells #[Value.int IntKind.i64 a2] 3)).alloc (Obj.cells #[Value.int IntKind.i64 0] 3)).alloc (Obj.cells #[Value.slice A1 l1.length c1] 22)) = W0 := ⟨_, rfl⟩
  rw [hW0]
  have hsz : W0.heap.size = w.heap.size + 4 := by rw [← hW0]; simp
  have b0 : W0.heap[w.heap.size]? = some (.cells #[.int .i64 a0] 3 (0, 0)) := by
    rw [← hW0]; exact blk_alloc (blk_alloc (blk_alloc (blk_new _ _) _) _) _
  have b1 : W0.heap[w.heap.size + 1]? = some (.cells #[.int .i64 a2] 3 (0, 0)) := by
    rw [← hW0]; have := blk_alloc (blk_alloc (blk_new (w.alloc (Obj.cells #[Value.int IntKind.i64 a0] 3)) (.cells #[.int .i64 a2] 3 (0, 0))) (.cells #[.int .i64 0] 3 (0, 0))) (.cells #[Value.slice A1 l1.length c1] 22 (0, 0)); rwa [World.size_alloc] at this
  have b2 : W0.heap[w.heap.size + 1 + 1]? = some (.cells #[.int .i64 0] 3 (0, 0)) := by
    rw [← hW0]; have := blk_alloc (blk_new ((w.alloc (Obj.cells #[Value.int IntKind.i64 a0] 3)).alloc (Obj.cells #[Value.int IntKind.i64 a2] 3)) (.cells #[.int .i64 0] 3 (0, 0))) (.cells #[Value.slice A1 l1.length c1] 22 (0, 0)); rwa [World.size_alloc, World.size_alloc] at this
  have b3 : W0.heap[w.heap.size + 1 + 1 + 1]? = some (.cells #[.slice A1 l1.length c1] 22 (0, 0)) := by
    rw [← hW0]; have := (blk_new (((w.alloc (Obj.cells #[Value.int IntKind.i64 a0] 3)).alloc (Obj.cells #[Value.int IntKind.i64 a2] 3)).alloc (Obj.cells #[Value.int IntKind.i64 0] 3)) (.cells #[Value.slice A1 l1.length c1] 22 (0, 0))); rwa [World.size_alloc, World.size_alloc, World.size_alloc] at this
  have hB0 : Below w.heap.size w W0 := by
    rw [← hW0]; exact ((((Below.refl _ w).alloc (Nat.le_refl _) _).alloc (by simp) _).alloc (by simp; omega) _).alloc (by simp; omega) _
  clear hW0
  refine wpIn_rangeFunc_ownF rfl (by omega) (gf := 35) (lb := #[.pointer (some ⟨w.heap.size + 1 + 1 + 1, 0, none⟩)]) rfl trivial (enters_of Try.func35 (by kernel_rfl) rfl)
    (backStops 5 (by omega) (w.heap.size + 1 + 1 + 1) A1 c1 l1 w W0 HR.out hB0 b3) (fun h k => ⟨h.1.trans k.1, k.2.trans h.2⟩)
    (fun W l o o' hl ho h1 h2 => ⟨belowK_b (w := W0) (by omega) W l o o' hl ho h1 h2, World.putObj_heap_other (by omega)⟩) (Below.refl _ _) (fun _ => rfl)
    (fun pre W => (W.heap[w.heap.size]? = some (.cells #[.int .i64 a0] 3 (0, 0)) ∧ W.heap[w.heap.size + 1]? = some (.cells #[.int .i64 a2] 3 (0, 0)) ∧ W.heap[w.heap.size + 1 + 1]? = some (.cells #[.int .i64 (atF a0 a2 pre)] 3 (0, 0))) ∧ Below w.heap.size w W)
    (fun _ _ _ => False)
    (OwnFrom.and (Own.from (fun s A B row hs hg hr => ⟨blk_own hs.1 hg hr, blk_own hs.2.1 hg hr, blk_own hs.2.2 hg hr⟩) _) (ownFrom_below (Nat.le_refl _) (by omega)))
    (fun _ _ _ _ _ hs _ _ => hs)
    ⟨⟨b0, b1, b2⟩, hB0⟩
    (fun x => { tmps := #[Value.int IntKind.i64 a0, Value.slice A1 l1.length c1, Value.int IntKind.i64 a2,
          Value.pointer (some { block := w.heap.size, off := 0 }), undef,
          Value.pointer (some { block := w.heap.size + 1, off := 0 }), Value.int IntKind.i64 0,
          Value.pointer (some { block := w.heap.size + 1 + 1, off := 0 }), undef, .int .i64 x.2, Value.slice A1 l1.length c1,
          Value.func (Fn.func 35) #[] #[Value.pointer (some { block := w.heap.size + 1 + 1 + 1, off := 0 })], .int .i64 x.1,
          .int .i64 x.2, undef, undef, undef, undef, undef, undef, undef, undef], defers := [] }) ?assign ?body ?done ?stop
  case assign =>
    intro l x W K hK
    gi_wp2
    exact hK
  case body =>
    rintro l pre x W ⟨⟨h0, h1, h2⟩, hB⟩ _
    have c0 := (blk_cell h0 0).trans rfl
    have c1 := (blk_cell h1 0).trans rfl
    have c2 := (blk_cell h2 0).trans rfl
    have f2 := blk_frozen h2 0
    have HH := Aside0.mk (And.intro h0 (And.intro h1 (And.intro h2 hB)))
    clear h0 h1 h2 hB
    gi_wp2
    obtain ⟨h0, h1, h2, hB⟩ := HH.out
    refine ⟨KeepsOthers.setCell _ _ _, ⟨(Below.refl w.heap.size W).setCell (p := ⟨w.heap.size + 1 + 1, 0, none⟩) (by show w.heap.size ≤ w.heap.size + 1 + 1; omega) _, Below.heap_setCell _ _ _ _ (by show w.heap.size + 1 + 1 + 1 ≠ w.heap.size + 1 + 1; omega)⟩, ⟨?_, ?_, ?_⟩, hB.setCell (p := ⟨w.heap.size + 1 + 1, 0, none⟩) (by show w.heap.size ≤ w.heap.size + 1 + 1; omega) _⟩
    · exact blk_far h0 (by show w.heap.size ≠ w.heap.size + 1 + 1; omega) _
    · exact blk_far h1 (by show w.heap.size + 1 ≠ w.heap.size + 1 + 1; omega) _
    · rw [atF_snoc]; simpa [atS] using blk_set h2 0 (Value.int IntKind.i64 ((wrap64 (wrap64 (atF a0 a2 pre * a2) + x.snd)).tmod a0))
  case done =>
    rintro D ys W hD rfl ⟨⟨h0, h1, h2⟩, hB⟩ hK
    have c2 := (blk_cell h2 0).trans rfl
    gi_wp2
    refine ⟨by simp, .inl ⟨_, _, rfl, run_takeDeferred hK, ?_⟩⟩
    exact ⟨_, results_tmp rfl _ _ _, by rw [← HZ.out]; rfl, hB.trans (belowK_b (w := w) (Nat.le_refl _) W D _ _ (by omega) hK rfl rfl)⟩
  case stop =>
    rintro D c pre W _ _ h _
    exact h.elim
end Go.Proofs.Ytohgdegklhlldaa.G
