/- The contract of Split. -/
import Derived.Stop.RegionWithIn
import Derived.Deep.RegionWith
import Derived.BigQuiet
import Derived.Deep.QuietTactic
import Derived.Sort.QuietIn
import Derived.Test.YtpckfllalpiliaaS2
namespace Go.Proofs.Ytpckfllalpiliaa.G
open Go.RowKit Go.Shelf Go.Proofs.YtpckfllalpiliaaW.PrintWords Go.Proofs.YtpckfllalpiliaaW.PrintMore Go.Proofs.YtpckfllalpiliaaW.PrintLast
attribute [local go_sem] Oper.semAt_some max2_int min2_int max_two min_two max_three min_three max_four min_four
set_option linter.unusedVariables false

def splitD (s all : Int) : Int := mx (wrap64 (wrap64 (2 * s) - all)) (wrap64 (-(wrap64 (wrap64 (2 * s) - all))))
def splitStep (k : Nat) (ps : List Int) (all : Int) (acc : List Int × Int) (l : List Int) : Option (List Int × Int) :=
  if 0 < ps.length ∧ (l.length = 0 ∨ rd l 0 ≠ 0) then some acc
  else (remnant_sum.f k ps l).bind fun s => if acc.2 < 0 ∨ splitD s all < acc.2 then some (l, splitD s all) else some acc
def splitAll (k : Nat) (ps : List Int) (all : Int) : List (List Int) → List Int × Int → Option (List Int × Int)
  | [], acc => some acc
  | l :: r, acc => (splitStep k ps all acc l).bind (splitAll k ps all r)
theorem splitAll_append (k : Nat) (ps : List Int) (all : Int) : ∀ (a b : List (List Int)) (acc : List Int × Int), splitAll k ps all (a ++ b) acc = (splitAll k ps all a acc).bind (splitAll k ps all b)
  | [], b, acc => rfl
  | l :: a, b, acc => by
    simp only [List.cons_append, splitAll, Option.bind_assoc]
    congr 1; funext x; exact splitAll_append k ps all a b x

/-- the post of a piece of code that ends normally -/
def onlyN (K : Act → World → Prop) : Exit → Act → World → Prop
  | .normal, a, w => K a w
  | _, _, _ => False

theorem wp_onlyN {P : Program} {c : Code} {Q : Exit → Act → World → Prop} {a : Act} {w : World} (h : c.wp P (onlyN fun a w => Q .normal a w) a w) : c.wp P Q a w :=
  wp_mono h (fun e a w hq => by cases e <;> first | exact hq | exact hq.elim)
theorem wp_mid {P : Program} {c : Code} {Q : Exit → Act → World → Prop} {a : Act} {w : World} {Mid : Act → World → Prop} (h : c.wp P (onlyN Mid) a w) (k : ∀ a w, Mid a w → Q .normal a w) : c.wp P Q a w :=
  wp_mono h (fun e a w hq => by cases e <;> first | exact k _ _ hq | exact hq.elim)
theorem R_C {α : Type} {d : Kd α} {e base : Nat} {ok : Nat → Prop} {w : World} {v : Value} {xs : List α} (h : d.R e w base ok v xs) : ∃ A c, v = .slice A xs.length c ∧ xs.length ≤ c ∧ d.C w A xs.length xs := Kd.R_reads h

def remnant_Split.f (k : Nat) (ps : List Int) : Option (List Int × Int × Int) :=
  if piecesB 100 ps = true then (remnant_inOrder.f k ps).bind fun o => (remnant_sum.f k ps o).bind fun all => (splitAll k ps all (setsX ps.length [] 0) ([], -1)).bind fun r => some (r.1, r.2, 0) else some ([], 0, 2)

def splitFrame (w : World) (A0 : Option Addr) (c0 : Nat) (ps o : List Int) (all : Int) (pB : Nat) (A5 : Option Addr) (c5 : Nat) : Act where
  tmps := #[Value.slice A0 ps.length c0, Value.pointer (some { block := w.heap.size, off := 0 }), Value.slice none 0 0,           Value.int IntKind.i64 0, Value.int IntKind.i64 0, Value.pointer (some { block := pB, off := 0 }),           undef, undef, undef, undef, Value.slice A0 ps.length c0, Value.bool true, Value.bool false,           Value.slice A0 ps.length c0, Value.slice A0 ps.length c0, Value.slice A5 o.length c5,           Value.int IntKind.i64 all, undef, undef, undef, undef, undef, undef, undef, undef, undef, undef, undef, undef,           undef, undef, undef, undef, undef, undef, undef, undef, undef, undef, undef, undef, undef, undef, undef,           undef, undef, undef, undef, undef, undef, undef, undef, undef, undef, undef, undef]
  defers := []

def splitFrame2 (w w4 W5 : World) (A0 : Option Addr) (c0 : Nat) (ps o : List Int) (all : Int) (pB : Nat) (A5 : Option Addr) (c5 : Nat) (v : Value) : Act where
  tmps := #[Value.slice A0 ps.length c0, Value.pointer (some { block := w.heap.size, off := 0 }), Value.slice none 0 0, Value.int IntKind.i64 0, Value.int IntKind.i64 0, Value.pointer (some { block := pB, off := 0 }), Value.pointer (some { block := w4.heap.size, off := 0 }), Value.pointer (some { block := w4.heap.size + 1, off := 0 }), v, undef, Value.slice A0 ps.length c0, Value.bool true, Value.bool false, Value.slice A0 ps.length c0, Value.slice A0 ps.length c0, Value.slice A5 o.length c5, Value.int IntKind.i64 all, Value.slice A0 ps.length c0, Value.int IntKind.i64 (ps.length : Int), Value.func (Fn.func 52) #[] #[Value.pointer (some { block := W5.heap.size, off := 0 })], v, undef, undef, undef, undef, undef, undef, undef, undef, undef, undef, undef, undef, undef, undef, undef, undef, undef, undef, undef, undef, undef, undef, undef, undef, undef, undef, undef, undef, undef, undef, undef, undef, undef, undef, undef]
  defers := []

/-- what the loop of Split keeps -/
structure SplitI (k : Nat) (w : World) (A0 : Option Addr) (c0 : Nat) (ps : List Int) (all : Int) (pB b6 b7 : Nat) (pre : List (List Int)) (W : World) : Prop where
  ex : ∃ (acc : List Int × Int) (v : Value), splitAll k ps all pre ([], -1) = some acc ∧ W.heap[b6]? = some (.cells #[v] 22 (0, 0)) ∧ W.heap[b7]? = some (.cells #[.int .i64 acc.2] 3 (0, 0)) ∧ RowF w.heap.size W v acc.1
  e1 : W.heap[w.heap.size]? = some (.cells #[.slice A0 ps.length c0] 22 (0, 0))
  e5 : W.heap[pB]? = some (.cells #[.int .i64 all] 3 (0, 0))
  below : Below w.heap.size w W
theorem SplitI.of_keep {k : Nat} {w : World} {A0 : Option Addr} {c0 : Nat} {ps : List Int} {all : Int} {pB b6 b7 : Nat} {pre : List (List Int)} {W W' : World} (h : SplitI k w A0 c0 ps all pB b6 b7 pre W)
    (hb : ∀ q o, q = w.heap.size ∨ q = pB ∨ q = b6 ∨ q = b7 → W.heap[q]? = some o → (∃ cs t, o = .cells cs t (0, 0)) → W'.heap[q]? = some o) (hr : ∀ v l, RowF w.heap.size W v l → RowF w.heap.size W' v l) (hbl : Below w.heap.size W W') : SplitI k w A0 c0 ps all pB b6 b7 pre W' := by
  obtain ⟨acc, v, h1, h2, h3, h4⟩ := h.ex
  exact ⟨⟨acc, v, h1, hb _ _ (by simp) h2 ⟨_, _, rfl⟩, hb _ _ (by simp) h3 ⟨_, _, rfl⟩, hr _ _ h4⟩, hb _ _ (by simp) h.e1 ⟨_, _, rfl⟩, hb _ _ (by simp) h.e5 ⟨_, _, rfl⟩, h.below.trans hbl⟩

theorem RowF.far {B b o : Nat} {W : World} {v u : Value} {l : List Int} (h : RowF B W v l) (hb : b < B) : RowF B (W.setCell ⟨b, o, none⟩ u) v l := by
  rcases h with h | ⟨g, cap, cs, e, hB, h1, h2, h3, h4⟩
  · exact .inl h
  · exact .inr ⟨g, cap, cs, e, hB, h1, h2, blk_far h3 (by show g ≠ b; omega) u, h4⟩
theorem RowF.base {B B' : Nat} {W : World} {v : Value} {l : List Int} (h : RowF B W v l) (hb : B' ≤ B) : RowF B' W v l := by
  rcases h with h | ⟨g, cap, cs, e, hB, h1, h2, h3, h4⟩
  · exact .inl h
  · exact .inr ⟨g, cap, cs, e, Nat.le_trans hb hB, h1, h2, h3, h4⟩
theorem SplitI.set {k : Nat} {w : World} {A0 : Option Addr} {c0 : Nat} {ps : List Int} {all : Int} {pB b6 B : Nat} {pre : List (List Int)} {W : World} (h : SplitI k w A0 c0 ps all pB b6 (b6 + 1) pre W) (n : Nat) {x : List Int} {v : Value} {d : Int}
    (h1 : w.heap.size < pB) (h2 : pB < b6) (hB : b6 + 1 < B) (hx : RowF B W v x) (hn : splitAll k ps all (pre ++ [x]) ([], -1) = some (x, d)) :
    SplitI k w A0 c0 ps all pB b6 (b6 + 1) (pre ++ [x]) (((W.drewN n).setCell ⟨b6, 0, none⟩ v).setCell ⟨b6 + 1, 0, none⟩ (.int .i64 d)) := by
  obtain ⟨acc, u, q1, q2, q3, q4⟩ := h.ex
  have hx' : RowF B (W.drewN n) v x := hx.soft (B' := 0) ⟨pw_below_drewN (Below.refl _ _) n, fun _ _ _ _ h => h⟩
  refine ⟨⟨(x, d), v, hn, ?_, ?_, ((hx'.far (by omega)).far (by omega)).base (by omega)⟩, ?_, ?_, ?_⟩
  · exact blk_far (blk_set (blk_drewN q2 n) 0 v) (by show b6 ≠ b6 + 1; omega) _
  · exact blk_set (blk_far (blk_drewN q3 n) (by show b6 + 1 ≠ b6; omega) v) 0 _
  · exact blk_far (blk_far (blk_drewN h.e1 n) (by show w.heap.size ≠ b6; omega) _) (by show w.heap.size ≠ b6 + 1; omega) _
  · exact blk_far (blk_far (blk_drewN h.e5 n) (by show pB ≠ b6; omega) _) (by show pB ≠ b6 + 1; omega) _
  · exact ((pw_below_drewN h.below n).setCell (p := ⟨b6, 0, none⟩) (by show w.heap.size ≤ b6; omega) _).setCell (p := ⟨b6 + 1, 0, none⟩) (by show w.heap.size ≤ b6 + 1; omega) _
theorem KeepsK.set2 {K : Nat → Prop} {W : World} {n b : Nat} {v u : Value} (h1 : ¬ K b) (h2 : ¬ K (b + 1)) : KeepsK K W (((W.drewN n).setCell ⟨b, 0, none⟩ v).setCell ⟨b + 1, 0, none⟩ u) :=
  ⟨by simp, fun q hq _ => (Below.heap_setCell _ _ _ _ (fun e => h2 (by have e' : q = b + 1 := e; rwa [e'] at hq))).trans (Below.heap_setCell _ _ _ _ (fun e => h1 (by have e' : q = b := e; rwa [e'] at hq)))⟩

set_option maxHeartbeats 8000000 in
set_option maxRecDepth 100000 in
theorem split_walk (k : Nat) (A0 : Option Addr) (c0 : Nat) (ps : List Int) (o : List Int) (all : Int) (r : List Int × Int) (w : World) (hr0 : Kd.C (Kd.int .i64) w A0 ps.length ps) (hc0 : ps.length ≤ c0)
    (hp : piecesB 100 ps = true) (hL : ps.length ≤ 1000) (ho : remnant_inOrder.f k ps = some o) (ha : remnant_sum.f k ps o = some all) (hs : splitAll k ps all (setsX ps.length [] 0) ([], -1) = some r) :
    Calls Try.prog 31 #[.slice A0 ps.length c0] w fun e w' => ∃ v0_ : Value, e = .returned (.tuple #[v0_, .int .i64 r.2, .int .i64 0]) ∧ RowF w.heap.size w' v0_ r.1 ∧ Below w.heap.size w w' := by
  have HR := Aside0.mk hr0
  have HC := Aside0.mk hc0
  have HO := Aside0.mk ho
  have HA := Aside0.mk ha
  have HS := Aside0.mk hs
  have HP := Aside0.mk (show remnant_arePieces.f 100 ps = some true by unfold remnant_arePieces.f; rw [hp])
  have HL := Aside0.mk hL
  clear hr0 hc0 ho ha hs hp hL
  refine (callsIn_wide (n := 40)).1 ?_
  refine callsIn_of_wp_marks Try.func31 rfl trivial ?_ rfl
  simp only [Try.ntmps31, List.size_toArray, List.length_cons, List.length_nil, Nat.reduceAdd, Nat.reduceSub, Array.replicate_succ, Array.replicate_zero, List.push_toArray, List.append_toArray, List.nil_append, List.cons_append]
  gi_wp2_with fail
  refine ⟨trivial, (callsIn_wide.2 (remnant_arePieces.calls 100 A0 c0 ps true _ (Kd.C_alloc HR.out _) HC.out HP.out)).mono ?_⟩
  rintro e w1 ⟨rfl, hb1⟩
  have HB1 := Aside0.mk hb1
  clear hb1
  have hbw : Below w.heap.size w w1 := ((Below.refl _ w).alloc (Nat.le_refl _) _).trans (HB1.out.mono (by simp))
  have b1 : w1.heap[w.heap.size]? = some (.cells #[.slice A0 ps.length c0] 22 (0, 0)) := blk_below (blk_new w _) HB1.out
  have c1 := (blk_cell b1 0).trans (show (#[Value.slice A0 ps.length c0] : Array Value)[0]? = some (.slice A0 ps.length c0) from rfl)
  have HS1 : Aside0 (w.heap.size + 1 ≤ w1.heap.size) := ⟨by simpa using HB1.out.size⟩
  have c1a : ∀ o' : Obj, (w1.alloc o').cell? ⟨w.heap.size, 0, none⟩ = some (.slice A0 ps.length c0) := fun o' => (blk_cell (blk_alloc b1 o') 0).trans (show (#[Value.slice A0 ps.length c0] : Array Value)[0]? = some (.slice A0 ps.length c0) from rfl)
  have HBW := Aside0.mk hbw
  have HB1 := Aside0.mk b1
  clear hbw b1
  gi_wp2_with fail
  refine wpIn_wide.2 (wp_mid (Mid := fun a w' => ∃ (pB : Nat) (A5 : Option Addr) (c5 : Nat), a = splitFrame w A0 c0 ps o all pB A5 c5 ∧
      Aside0 (w'.heap[pB]? = some (.cells #[.int .i64 all] 3 (0, 0))) ∧ Aside0 (w.heap.size < pB) ∧ Aside0 (Below w.heap.size w w') ∧ Aside0 (w'.heap[w.heap.size]? = some (.cells #[.slice A0 ps.length c0] 22 (0, 0)))) ?_ ?_)
  rotate_left
  · rintro a w4 ⟨pB, A5, c5, rfl, HP4, HQ4, HB4, HE4⟩
    unfold splitFrame
    obtain ⟨W5, hW5⟩ : ∃ W5, (w4.alloc (.cells #[.slice none 0 0] 22)).alloc (.cells #[.int .i64 (-1)] 3) = W5 := ⟨_, rfl⟩
    have hs5 : W5.heap.size = w4.heap.size + 2 := by rw [← hW5]; simp
    have d1 : W5.heap[w.heap.size]? = some (.cells #[.slice A0 ps.length c0] 22 (0, 0)) := by rw [← hW5]; exact blk_alloc (blk_alloc HE4.out _) _
    have d5 : W5.heap[pB]? = some (.cells #[.int .i64 all] 3 (0, 0)) := by rw [← hW5]; exact blk_alloc (blk_alloc HP4.out _) _
    have d6 : W5.heap[w4.heap.size]? = some (.cells #[.slice none 0 0] 22 (0, 0)) := by rw [← hW5]; exact blk_alloc (blk_new _ _) _
    have d7 : W5.heap[w4.heap.size + 1]? = some (.cells #[.int .i64 (-1)] 3 (0, 0)) := by
      rw [← hW5]
      have h := blk_new (w4.alloc (.cells #[.slice none 0 0] 22)) (.cells #[Value.int .i64 (-1)] 3 (0, 0))
      rwa [World.size_alloc] at h
    have hb5 : Below w.heap.size w W5 := by rw [← hW5]; exact below_alloc (below_alloc HB4.out _) _
    have e1 : ((w4.alloc (.cells #[.slice none 0 0] 22)).alloc (.cells #[.int .i64 (-1)] 3)).cell? ⟨w.heap.size, 0, none⟩ = some (.slice A0 ps.length c0) := by rw [hW5]; exact (blk_cell d1 0).trans rfl
    have D1 := Aside0.mk d1
    have D5 := Aside0.mk d5
    have D6 := Aside0.mk d6
    have D7 := Aside0.mk d7
    have DB := Aside0.mk hb5
    have DS := Aside0.mk hs5
    have DW := Aside0.mk hW5
    clear d1 d5 d6 d7 hb5 hs5 hW5
    gi_wp2_with fail
    rw [DW.out]
    refine ⟨trivial, (callsIn_wide.2 (setsCalls _ _)).mono ?_⟩
    rintro e w6 ⟨rfl, rfl⟩
    gi_wp2_with fail
    have ds := DS.out
    have hw4 : w.heap.size ≤ w4.heap.size := HB4.out.size
    have hpB : pB < w4.heap.size := blk_lt HP4.out
    have hw4' : w.heap.size < w4.heap.size := blk_lt HE4.out
    refine wpIn_iter rfl (by omega) (gf := 52) (lb := #[.pointer (some ⟨W5.heap.size, 0, none⟩)]) rfl trivial (enters_of Try.func52 (by kernel_rfl) rfl)
      (K := fun q => (W5.alloc (.cells #[.int .i64 ps.length] 3)).heap.size + 2 ≤ q ∨ q = W5.heap.size) (S := setsX ps.length [] 0) (E := fun W => W.heap[W5.heap.size]? = some (.cells #[.int .i64 ps.length] 3 (0, 0)))
      (setsIter ps.length W5.heap.size _ 39 HL.out (by rw [World.size_alloc]; omega)) (by intro h; rcases h with h | h; (· omega); (· rw [World.size_alloc] at h; omega)) (fun o1 o2 => blk_alloc (blk_alloc (blk_new W5 _) _) _)
      (SplitI k w A0 c0 ps all pB w4.heap.size (w4.heap.size + 1)) (fun _ _ _ => False)
      ?hIs ?hIp (fun _ _ _ _ h => h.elim) (fun _ _ _ _ h => h.elim) ?h0 (splitFrame2 w w4 W5 A0 c0 ps o all pB A5 c5) ?hassign ?hbody ?hdone ?hstop
    case hIs =>
      intro s W W' h hs
      exact h.of_keep (fun q o' hq ho _ => (hs.below.block q (by simp; omega)).trans ho) (fun v l hv => hv.step hs) (hs.below.mono (by simp; omega))
    case hIp =>
      intro s W W' h hs
      exact h.of_keep (fun q o' hq ho hc => by obtain ⟨cs, t, rfl⟩ := hc; exact hs.cells q cs t _ ho) (fun v l hv => hv.soft hs) (hs.below.mono (by simp; omega))
    case h0 => exact ⟨⟨([], -1), .slice none 0 0, rfl, blk_alloc D6.out _, blk_alloc D7.out _, .inl ⟨rfl, rfl⟩⟩, blk_alloc D1.out _, blk_alloc D5.out _, below_alloc DB.out _⟩
    case hassign =>
      intro m l v W Kc hK
      clear ds
      gi_wp2
      exact hK
    case hbody =>
      intro m l pre x v W hpS hI hrow
      clear ds e1
      obtain ⟨acc, u, h1, h6, h7, h8⟩ := hI.ex
      obtain ⟨acc', hacc⟩ : ∃ acc', splitStep k ps all acc x = some acc' := by
        obtain ⟨rest, hrest⟩ := hpS
        have h := HS.out
        rw [← hrest, List.append_assoc, splitAll_append, h1] at h
        simp only [Option.bind_some, List.singleton_append, splitAll] at h
        obtain ⟨y, hy, _⟩ := Option.bind_eq_some_iff.1 h
        exact ⟨y, hy⟩
      have hnext : splitAll k ps all (pre ++ [x]) ([], -1) = some acc' := by
        rw [splitAll_append, h1]; simp only [Option.bind_some, splitAll, hacc]
      obtain ⟨A, c, rfl, hc, hC⟩ := hrow.C
      have k1 := (blk_cell hI.e1 0).trans (show (#[Value.slice A0 ps.length c0] : Array Value)[0]? = some (.slice A0 ps.length c0) from rfl)
      have k5 := (blk_cell hI.e5 0).trans (show (#[Value.int .i64 all] : Array Value)[0]? = some (.int .i64 all) from rfl)
      have k6 := (blk_cell h6 0).trans (show (#[u] : Array Value)[0]? = some u from rfl)
      have k7 := (blk_cell h7 0).trans (show (#[Value.int .i64 acc.2] : Array Value)[0]? = some (.int .i64 acc.2) from rfl)
      have g6 := blk_frozen h6 0
      have g7 := blk_frozen h7 0
      have HI := Aside0.mk hI
      have HX := Aside0.mk hC
      have HXC := Aside0.mk hc
      have HN := Aside0.mk hnext
      have HROWX := Aside0.mk hrow
      have HA6 := Aside0.mk (And.intro h6 (And.intro h7 h8))
      have hCp := Kd.C_below HR.out hI.below
      have HRW := Aside0.mk hCp
      clear hI hC hc hnext hrow h1 h6 h7 h8 hpS hCp
      unfold splitFrame2
      by_cases p0 : 0 < (ps.length : Int)
      · by_cases p1 : (x.length : Int) = 0
        · have hsk : acc' = acc := by
            unfold splitStep at hacc
            rw [if_pos ⟨by omega, .inl (by omega)⟩] at hacc
            exact (Option.some.inj hacc).symm
          subst hsk
          clear hacc
          gi_wp2
          exact ⟨KeepsOthers.refl _, KeepsK.refl _ _, { HI.out with ex := ⟨_, u, HN.out, HA6.out.1, HA6.out.2.1, HA6.out.2.2⟩ }⟩
        · obtain ⟨ad, rfl, hx0⟩ := Kd.at_int HX.out 0 (by omega) (by omega)
          replace hx0 : W.cell? ad = some (.int .i64 (rd x 0)) := by simpa [Addr.add] using hx0
          have p3 : (0 : Int) < x.length := by omega
          by_cases p2 : rd x 0 = 0
          · obtain ⟨s, hs, hacc2⟩ : ∃ s, remnant_sum.f k ps x = some s ∧ (if acc.2 < 0 ∨ splitD s all < acc.2 then some (x, splitD s all) else some acc) = some acc' := by
              unfold splitStep at hacc
              rw [if_neg (fun h => by rcases h.2 with h' | h'; (· omega); (· exact h' p2))] at hacc
              exact Option.bind_eq_some_iff.1 hacc
            have HSX := Aside0.mk hs
            have HA2 := Aside0.mk hacc2
            clear hacc hs hacc2
            have p2f : (rd x 0 != 0) = false := by simpa using p2
            have p1e : ((x.length : Int) == 0) = false := by simpa using p1
            gi_wp2_with fail
            gi_region_with (refine ⟨trivial, fun h => (by simp [Fence.wide] at h), (callsIn_wide (n := m - 1)).2 ((remnant_sum.calls k A0 c0 ps (some ad) c x s _ (Kd.C_drew HRW.out) HC.out (Kd.C_drew HX.out) HXC.out HSX.out).mono ?_)⟩; rintro e w' ⟨rfl, ⟨nd, rfl⟩⟩)
            all_goals
              by_cases q1 : acc.2 < 0
              · have q1d : decide (acc.2 < 0) = true := decide_eq_true q1
                gi_wp2
                all_goals
                  refine ⟨KeepsOthers.trans (B := W.drewN (1 + nd)) ⟨Nat.le_refl _, fun _ _ h _ => h⟩ ((KeepsOthers.setCell _ _ _).trans (KeepsOthers.setCell _ _ _)), KeepsK.set2 (by intro h; have h' := DS.out; rcases h with h | h; (· first | omega | (rw [World.size_alloc] at h; omega)); (· omega)) (by intro h; have h' := DS.out; rcases h with h | h; (· first | omega | (rw [World.size_alloc] at h; omega)); (· omega)), HI.out.set _ HQ4.out hpB (by have h' := DS.out; first | omega | (rw [World.size_alloc]; omega)) HROWX.out ?_⟩
                  rw [HN.out, ← HA2.out, if_pos (by first | exact .inl q1 | exact .inr q2)]
                  congr 2
                  unfold splitD mx
                  split <;> omega
              · have q1d : decide (acc.2 < 0) = false := decide_eq_false q1
                gi_wp2
                all_goals first
                | (refine ⟨KeepsOthers.trans (B := W.drewN (1 + nd)) ⟨Nat.le_refl _, fun _ _ h _ => h⟩ ((KeepsOthers.setCell _ _ _).trans (KeepsOthers.setCell _ _ _)), KeepsK.set2 (by intro h; have h' := DS.out; rcases h with h | h; (· first | omega | (rw [World.size_alloc] at h; omega)); (· omega)) (by intro h; have h' := DS.out; rcases h with h | h; (· first | omega | (rw [World.size_alloc] at h; omega)); (· omega)), HI.out.set _ HQ4.out hpB (by have h' := DS.out; first | omega | (rw [World.size_alloc]; omega)) HROWX.out ?_⟩
                   rw [HN.out, ← HA2.out, if_pos (.inr (by unfold splitD mx; split <;> omega))]
                   congr 2
                   unfold splitD mx
                   split <;> omega)
                | (have hsk : acc' = acc := by
                     have h := HA2.out
                     rw [if_neg (fun hq => by rcases hq with hq | hq; (· exact absurd hq (by omega)); (· revert hq; unfold splitD mx; split <;> intro hq <;> omega))] at h
                     exact (Option.some.inj h).symm
                   subst hsk
                   exact ⟨⟨Nat.le_refl _, fun _ _ h _ => h⟩, ⟨Nat.le_refl _, fun _ _ _ => rfl⟩, ⟨⟨_, u, HN.out, blk_drewN HA6.out.1 _, blk_drewN HA6.out.2.1 _, HA6.out.2.2.soft (B' := 0) ⟨pw_below_drewN (Below.refl _ _) _, fun _ _ _ _ h => h⟩⟩, blk_drewN HI.out.e1 _, blk_drewN HI.out.e5 _, pw_below_drewN HI.out.below _⟩⟩)
          · have hsk : acc' = acc := by
              unfold splitStep at hacc
              rw [if_pos ⟨by omega, .inr p2⟩] at hacc
              exact (Option.some.inj hacc).symm
            subst hsk
            clear hacc
            have p2f : (rd x 0 != 0) = true := by simpa using p2
            have p1e : ((x.length : Int) == 0) = false := by simpa using p1
            gi_wp2
            all_goals first | exact ⟨KeepsOthers.refl _, KeepsK.refl _ _, { HI.out with ex := ⟨_, u, HN.out, HA6.out.1, HA6.out.2.1, HA6.out.2.2⟩ }⟩ | contradiction | (exfalso; omega)
      · obtain ⟨s, hs, hacc2⟩ : ∃ s, remnant_sum.f k ps x = some s ∧ (if acc.2 < 0 ∨ splitD s all < acc.2 then some (x, splitD s all) else some acc) = some acc' := by
          unfold splitStep at hacc
          rw [if_neg (fun h => p0 (by omega))] at hacc
          exact Option.bind_eq_some_iff.1 hacc
        have HSX := Aside0.mk hs
        have HA2 := Aside0.mk hacc2
        clear hacc hs hacc2
        gi_wp2_with fail
        gi_region_with (refine ⟨trivial, fun h => (by simp [Fence.wide] at h), (callsIn_wide (n := m - 1)).2 ((remnant_sum.calls k A0 c0 ps A c x s _ (Kd.C_drew HRW.out) HC.out (Kd.C_drew HX.out) HXC.out HSX.out).mono ?_)⟩; rintro e w' ⟨rfl, ⟨nd, rfl⟩⟩)
        all_goals
          by_cases q1 : acc.2 < 0
          · have q1d : decide (acc.2 < 0) = true := decide_eq_true q1
            gi_wp2
            all_goals
              refine ⟨KeepsOthers.trans (B := W.drewN (1 + nd)) ⟨Nat.le_refl _, fun _ _ h _ => h⟩ ((KeepsOthers.setCell _ _ _).trans (KeepsOthers.setCell _ _ _)), KeepsK.set2 (by intro h; have h' := DS.out; rcases h with h | h; (· first | omega | (rw [World.size_alloc] at h; omega)); (· omega)) (by intro h; have h' := DS.out; rcases h with h | h; (· first | omega | (rw [World.size_alloc] at h; omega)); (· omega)), HI.out.set _ HQ4.out hpB (by have h' := DS.out; first | omega | (rw [World.size_alloc]; omega)) HROWX.out ?_⟩
              rw [HN.out, ← HA2.out, if_pos (by first | exact .inl q1 | exact .inr q2)]
              congr 2
              unfold splitD mx
              split <;> omega
          · have q1d : decide (acc.2 < 0) = false := decide_eq_false q1
            gi_wp2
            all_goals first
            | (refine ⟨KeepsOthers.trans (B := W.drewN (1 + nd)) ⟨Nat.le_refl _, fun _ _ h _ => h⟩ ((KeepsOthers.setCell _ _ _).trans (KeepsOthers.setCell _ _ _)), KeepsK.set2 (by intro h; have h' := DS.out; rcases h with h | h; (· first | omega | (rw [World.size_alloc] at h; omega)); (· omega)) (by intro h; have h' := DS.out; rcases h with h | h; (· first | omega | (rw [World.size_alloc] at h; omega)); (· omega)), HI.out.set _ HQ4.out hpB (by have h' := DS.out; first | omega | (rw [World.size_alloc]; omega)) HROWX.out ?_⟩
               rw [HN.out, ← HA2.out, if_pos (.inr (by unfold splitD mx; split <;> omega))]
               congr 2
               unfold splitD mx
               split <;> omega)
            | (have hsk : acc' = acc := by
                 have h := HA2.out
                 rw [if_neg (fun hq => by rcases hq with hq | hq; (· exact absurd hq (by omega)); (· revert hq; unfold splitD mx; split <;> intro hq <;> omega))] at h
                 exact (Option.some.inj h).symm
               subst hsk
               exact ⟨⟨Nat.le_refl _, fun _ _ h _ => h⟩, ⟨Nat.le_refl _, fun _ _ _ => rfl⟩, ⟨⟨_, u, HN.out, blk_drewN HA6.out.1 _, blk_drewN HA6.out.2.1 _, HA6.out.2.2.soft (B' := 0) ⟨pw_below_drewN (Below.refl _ _) _, fun _ _ _ _ h => h⟩⟩, blk_drewN HI.out.e1 _, blk_drewN HI.out.e5 _, pw_below_drewN HI.out.below _⟩⟩)
    case hdone =>
      rintro D W hD hI hK
      have hall := HS.out
      obtain ⟨acc, v, h1, h2, h3, h4⟩ := hI.ex
      rw [hall] at h1
      obtain rfl := Option.some.inj h1
      have k6 := (blk_cell h2 0).trans (show (#[v] : Array Value)[0]? = some v from rfl)
      have k7 := (blk_cell h3 0).trans (show (#[Value.int .i64 r.2] : Array Value)[0]? = some (.int .i64 r.2) from rfl)
      have HROW := Aside0.mk h4
      have HBL := Aside0.mk hI.below
      clear h1 h2 h3 h4 hall hI
      gi_wp2_with fail
      refine wpIn_wide.2 ?_
      go_quiet (fail)
      gi_wp2_with fail
      have hK' : (W.drewN nq).heap[D]? = some (.deferred (some [])) := hK
      have hDs : w.heap.size ≤ D := by rw [World.size_alloc] at hD; omega
      refine ⟨by simp, .inl ⟨_, _, rfl, run_takeDeferred hK', ?_⟩⟩
      exact ⟨_, results_tmp3 rfl _ _ _, ⟨v, rfl, HROW.out.soft (Soft.trans (B := w.heap.size) ⟨pw_below_drewN (Below.refl _ _) nq, fun _ _ _ _ h => h⟩ (Soft.putObj hK' rfl hDs)), (pw_below_drewN HBL.out nq).trans (Soft.putObj (B := w.heap.size) hK' rfl hDs).below⟩⟩
    case hstop =>
      rintro D c pre W _ _ _ h _
      exact h.elim
  go_region_with (first
    | (go_at_call 45; refine (remnant_inOrder.calls k A0 c0 ps o _ (Kd.C_below HR.out (by repeat (first | (with_reducible first | exact HBW.out | apply below_alloc | apply pw_below_drewN | apply below_drew1) | exact HBW.out))) HC.out HO.out).mono ?_; rintro e w2 ⟨v, rfl, hl, hb⟩; obtain ⟨A5, c5, rfl, hc5, hC5⟩ := R_C hl; (first | (have hz : w2.heap[w1.heap.size]? = some (.cells #[Value.int .i64 0] 3 (0, 0)) := blk_below (blk_new w1.drew (.cells #[Value.int .i64 0] 3 (0, 0))) hb; have cz := (blk_cell hz 0).trans (show (#[Value.int .i64 0] : Array Value)[0]? = some (.int .i64 0) from rfl); have fz := blk_frozen hz 0; have HZ := Aside0.mk hz; clear hz) | (have hz : w2.heap[w1.heap.size]? = some (.cells #[Value.int .i64 0] 3 (0, 0)) := blk_below (blk_drew (blk_new w1 (.cells #[Value.int .i64 0] 3 (0, 0)))) hb; have cz := (blk_cell hz 0).trans (show (#[Value.int .i64 0] : Array Value)[0]? = some (.int .i64 0) from rfl); have fz := blk_frozen hz 0; have HZ := Aside0.mk hz; clear hz) | skip); have b2 : w2.heap[w.heap.size]? = some (.cells #[.slice A0 ps.length c0] 22 (0, 0)) := (by first | exact blk_below (blk_drew HB1.out) hb | exact blk_below (blk_drew (blk_alloc HB1.out _)) hb); have c2 := (blk_cell b2 0).trans (show (#[Value.slice A0 ps.length c0] : Array Value)[0]? = some (.slice A0 ps.length c0) from rfl); have c2a : ∀ o' : Obj, (w2.alloc o').cell? ⟨w.heap.size, 0, none⟩ = some (.slice A0 ps.length c0) := fun o' => (blk_cell (blk_alloc b2 o') 0).trans (show (#[Value.slice A0 ps.length c0] : Array Value)[0]? = some (.slice A0 ps.length c0) from rfl); have HBb2 := Aside0.mk b2; clear b2; have HS2 : Aside0 (w1.heap.size ≤ w2.heap.size) := (by have h_ := hb.size; first | exact ⟨h_⟩ | exact ⟨Nat.le_of_succ_le (by simpa using h_)⟩); have HC5 := Aside0.mk hC5; have HL5 := Aside0.mk hc5; have HB2 := Aside0.mk (below_step (by repeat (first | (with_reducible first | exact HBW.out | apply below_alloc | apply pw_below_drewN | apply below_drew1) | exact HBW.out)) hb); clear hl hC5 hc5 hb)
    | (go_at_call 47; refine (remnant_sum.calls k A0 c0 ps A5 c5 o all _ (Kd.C_below HR.out (by repeat (first | (with_reducible first | exact HB2.out | apply below_alloc | apply pw_below_drewN | apply below_drew1) | exact HB2.out))) HC.out (by first | exact HC5.out | exact Kd.C_alloc HC5.out _) HL5.out HA.out).mono ?_; rintro e w3 ⟨rfl, hd⟩; (first | (have hz := blk_below (blk_new w2 (.cells #[Value.int .i64 0] 3 (0, 0))) hd.below; have cz := (blk_cell hz 0).trans (show (#[Value.int .i64 0] : Array Value)[0]? = some (.int .i64 0) from rfl); have fz := blk_frozen hz 0; have HZ := Aside0.mk hz; clear hz) | (have hz := blk_below HZ.out hd.below; have cz := (blk_cell hz 0).trans (show (#[Value.int .i64 0] : Array Value)[0]? = some (.int .i64 0) from rfl); have fz := blk_frozen hz 0; have HZ := Aside0.mk hz; clear hz) | skip); have HB5 : Aside0 (w3.heap[w.heap.size]? = some (.cells #[.slice A0 ps.length c0] 22 (0, 0))) := (by first | exact ⟨blk_below HBb2.out hd.below⟩ | exact ⟨blk_below (blk_alloc HBb2.out _) hd.below⟩); have HS3 : Aside0 (w2.heap.size ≤ w3.heap.size) := (by have h_ := hd.below.size; first | exact ⟨h_⟩ | exact ⟨Nat.le_of_succ_le (by simpa using h_)⟩); have HB3 := Aside0.mk (below_step (by repeat (first | (with_reducible first | exact HB2.out | apply below_alloc | apply pw_below_drewN | apply below_drew1) | exact HB2.out)) hd.below); clear hd))
  all_goals
    have q1 := HS1.out
    have q2 := HS2.out
    have q3 := HS3.out
    show ∃ _ _ _, _
    first
    | exact ⟨w3.heap.size, A5, c5, rfl, ⟨blk_new _ _⟩, ⟨by omega⟩, ⟨below_alloc HB3.out _⟩, ⟨blk_alloc HB5.out _⟩⟩
    | exact ⟨w2.heap.size, A5, c5, rfl, ⟨blk_set HZ.out 0 _⟩, ⟨by omega⟩, ⟨HB3.out.setCell (p := ⟨w2.heap.size, 0, none⟩) (by show w.heap.size ≤ w2.heap.size; omega) _⟩, ⟨blk_far HB5.out (by show w.heap.size ≠ w2.heap.size; omega) _⟩⟩
    | exact ⟨w1.heap.size, A5, c5, rfl, ⟨blk_set HZ.out 0 _⟩, ⟨by omega⟩, ⟨HB3.out.setCell (p := ⟨w1.heap.size, 0, none⟩) (by show w.heap.size ≤ w1.heap.size; omega) _⟩, ⟨blk_far HB5.out (by show w.heap.size ≠ w1.heap.size; omega) _⟩⟩
end Go.Proofs.Ytpckfllalpiliaa.G
