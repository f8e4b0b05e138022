/- The contract of Best. -/
import Derived.Stop.RegionWithIn
import Derived.BigQuiet
import Derived.Deep.QuietTactic
import Derived.Sort.QuietIn
import Derived.Test.YtpckfllalpiliaaK3
import Derived.Test.YtpckfllalpiliaaG2x
namespace Go.Proofs.Ytpckfllalpiliaa.G
open Go.RowKit Go.Shelf Go.Proofs.YtpckfllalpiliaaW.PrintWords Go.Proofs.YtpckfllalpiliaaW.PrintMore Go.Proofs.YtpckfllalpiliaaW.PrintLast
attribute [local go_sem] Oper.semAt_some
set_option linter.unusedVariables false

/-- a loop whose rounds are counted down by a number that stands in no slot -/
theorem wpIn_loop_down {Fe : Fence} {n : Nat} {P : Program} {Q : Exit → Act → World → Prop} {a : Act} {w : World} {c : Code} (I : Nat → Act → World → Prop) (d : Nat) (h0 : I d a w)
    (hr : ∀ d a w, I d a w → c.wpIn Fe n P (Exit.then (fun a w => ∃ d', d = d' + 1 ∧ I d' a w) Q) a w) : (Code.loop c).wpIn Fe n P Q a w := by
  refine wpIn_loop_rounds (d + 1) ?_
  revert a w
  induction d with
  | zero =>
    intro a w h
    refine wpIn_mono (hr 0 a w h) ?_
    intro e a' w' hq
    cases e <;> first | exact hq | (obtain ⟨d', h1, _⟩ := hq; omega)
  | succ d ih =>
    intro a w h
    refine wpIn_mono (hr (d + 1) a w h) ?_
    intro e a' w' hq
    cases e <;> first | exact hq | (obtain ⟨d', h1, h2⟩ := hq; exact ih (by rw [show d = d' by omega]; exact h2))

theorem leaves_marks {Fe : Fence} {n : Nat} {P : Program} {fn : Func} {tmps : Array Value} {R : Ending → World → Prop} {B : Nat} : ∀ (Ds : List Nat) (W : World), Ds.Nodup → (∀ D, D ∈ Ds → B ≤ D ∧ W.heap[D]? = some (.deferred (some []))) →
    (∀ W', Soft B W W' → LeavesIn Fe n P fn tmps R [] .returning W') → LeavesInM Fe n P fn tmps R (Ds.map fun D => { target := .collected D, args := #[] }) .returning W
  | [], W, _, _, h => h W ⟨Below.refl _ _, fun _ _ _ _ h => h⟩
  | D :: Ds, W, hn, hD, h => by
    have h1 := hD D (by simp)
    rw [List.nodup_cons] at hn
    refine ⟨by simp, .inl ⟨D, _, rfl, run_takeDeferred h1.2, ?_⟩⟩
    have hs : Soft B W (W.putObj D (.deferred none)) := Soft.putObj h1.2 rfl h1.1
    refine leaves_marks Ds _ hn.2 (fun D' hD' => ⟨(hD D' (by simp [hD'])).1, ?_⟩) (fun W' hW' => h W' (hs.trans hW'))
    exact (World.putObj_heap_other (fun e => hn.1 (by rw [← e]; exact hD'))).trans (hD D' (by simp [hD'])).2

def bestL (room : Int) (ps : List Int) : Nat → Int → List Int × Int × Int
  | 0, _ => ([], 0, 0)
  | d + 1, most => match packX room most ps [] (List.replicate 12 0) 0 with
    | [] => bestL room ps d (most + 1)
    | l :: _ => (l, most, 0)
def remnant_Best.f (k : Nat) (room : Int) (ps : List Int) : Option (List Int × Int × Int) :=
  if piecesB room ps = true then (remnant_Weight.f k room ps).bind fun r => if 0 ≤ r.1 ∧ r.1 ≤ 12 then some (bestL room ps (ps.length + 1 - r.1).toNat r.1) else none else some ([], 0, 2)

def bestT (room : Int) (A : Option Addr) (n cp b0 mB : Nat) (u2 u3 u7 u8 u9 u11 u12 u13 u14 u15 u16 u17 u18 u19 u20 u21 u22 u23 u24 u25 u26 u27 u28 u29 u30 u31 u32 u33 u34 u35 u36 u37 : Value) : Array Value :=
  #[.int .i64 room, .slice A n cp, u2, u3, .pointer (some ⟨b0, 0, none⟩), .pointer (some ⟨b0 + 1, 0, none⟩), .pointer (some ⟨b0 + 2, 0, none⟩), u7, u8, u9, .pointer (some ⟨mB, 0, none⟩), u11, u12, u13, u14, u15, u16, u17, u18, u19, u20, u21, u22, u23, u24, u25, u26, u27, u28, u29, u30, u31, u32, u33, u34, u35, u36, u37]
/-- what stands at the head of a round -/
structure BestW (w : World) (most : Int) (mB : Nat) (Ds : List Nat) (W : World) : Prop where
  b0 : W.heap[w.heap.size]? = some (.cells #[.slice none 0 0] 22 (0, 0))
  b1 : W.heap[w.heap.size + 1]? = some (.cells #[.int .i64 0] 3 (0, 0))
  b2 : W.heap[w.heap.size + 2]? = some (.cells #[.int .i64 0] 25 (0, 0))
  most_ : W.heap[mB]? = some (.cells #[.int .i64 most] 3 (0, 0))
  mlt : w.heap.size + 2 < mB
  nodup : Ds.Nodup
  marks : ∀ D, D ∈ Ds → w.heap.size + 2 < D ∧ W.heap[D]? = some (.deferred (some []))
  below : Below w.heap.size w W

/-- no row has been handed out -/
def BestP (w3 : World) (pre : List (List Int)) (W : World) : Prop := pre = [] ∧ Below w3.heap.size w3 W
/-- the first row has been handed out, and taken -/
structure BestX (w : World) (most : Int) (Ds : List Nat) (S : List (List Int)) (c : Code) (pre : List (List Int)) (W : World) : Prop where
  code : c = .ret
  ex : ∃ x rest v, S = x :: rest ∧ RowF w.heap.size W v x ∧ W.heap[w.heap.size]? = some (.cells #[v] 22 (0, 0))
  b1 : W.heap[w.heap.size + 1]? = some (.cells #[.int .i64 most] 3 (0, 0))
  b2 : W.heap[w.heap.size + 2]? = some (.cells #[.int .i64 0] 25 (0, 0))
  marks : ∀ D, D ∈ Ds → W.heap[D]? = some (.deferred (some []))
  below : Below w.heap.size w W

theorem best_body {w w3 W4 : World} {K : Nat → Prop} {most : Int} {Ds : List Nat} {S : List (List Int)} {x : List Int} {A6 : Option Addr} {c6 B : Nat} (hb : Below w.heap.size w w3) (hb4 : Below w3.heap.size w3 W4)
    (h0 : W4.heap[w.heap.size]? = some (.cells #[.slice none 0 0] 22 (0, 0))) (h1 : W4.heap[w.heap.size + 1]? = some (.cells #[.int .i64 0] 3 (0, 0))) (h2 : W4.heap[w.heap.size + 2]? = some (.cells #[.int .i64 0] 25 (0, 0)))
    (hrow : RowF B W4 (.slice A6 x.length c6) x) (hB : w.heap.size + 2 < B) (hx : [] ++ [x] <+: S) (hK : ∀ q, w.heap.size ≤ q → q ≤ w.heap.size + 2 → ¬ K q) (hD : ∀ D, D ∈ Ds → w.heap.size + 2 < D ∧ W4.heap[D]? = some (.deferred (some []))) (n : Nat) :
    KeepsOthers W4 ((((W4.drewN n).setCell ⟨w.heap.size, 0, none⟩ (.slice A6 x.length c6)).setCell ⟨w.heap.size + 1, 0, none⟩ (.int .i64 most)).setCell ⟨w.heap.size + 2, 0, none⟩ (.int .i64 0)) ∧
    KeepsK K W4 ((((W4.drewN n).setCell ⟨w.heap.size, 0, none⟩ (.slice A6 x.length c6)).setCell ⟨w.heap.size + 1, 0, none⟩ (.int .i64 most)).setCell ⟨w.heap.size + 2, 0, none⟩ (.int .i64 0)) ∧
    BestX w most Ds S .ret [x] ((((W4.drewN n).setCell ⟨w.heap.size, 0, none⟩ (.slice A6 x.length c6)).setCell ⟨w.heap.size + 1, 0, none⟩ (.int .i64 most)).setCell ⟨w.heap.size + 2, 0, none⟩ (.int .i64 0)) := by
  have other : ∀ q, q ≠ w.heap.size → q ≠ w.heap.size + 1 → q ≠ w.heap.size + 2 → ((((W4.drewN n).setCell ⟨w.heap.size, 0, none⟩ (.slice A6 x.length c6)).setCell ⟨w.heap.size + 1, 0, none⟩ (.int .i64 most)).setCell ⟨w.heap.size + 2, 0, none⟩ (.int .i64 0)).heap[q]? = W4.heap[q]? := fun q q0 q1 q2 =>
    (Below.heap_setCell _ _ _ _ q2).trans ((Below.heap_setCell _ _ _ _ q1).trans (Below.heap_setCell _ _ _ _ q0))
  refine ⟨KeepsOthers.trans (B := W4.drewN n) ⟨Nat.le_refl _, fun _ _ h _ => h⟩ ((KeepsOthers.setCell _ _ _).trans ((KeepsOthers.setCell _ _ _).trans (KeepsOthers.setCell _ _ _))), ⟨by simp, fun q hq _ => other q (fun e => hK q (by omega) (by omega) hq) (fun e => hK q (by omega) (by omega) hq) (fun e => hK q (by omega) (by omega) hq)⟩, rfl, ?_, ?_, ?_, ?_, ?_⟩
  · obtain ⟨rest, hrest⟩ := hx
    refine ⟨x, rest, .slice A6 x.length c6, by rw [← hrest]; rfl, ?_, ?_⟩
    · rcases hrow with h | ⟨g, cap, cs, e, hg, q1, q2, q3, q4⟩
      · exact .inl h
      · exact .inr ⟨g, cap, cs, e, by omega, q1, q2, (other g (by omega) (by omega) (by omega)).trans q3, q4⟩
    · exact blk_far (p := ⟨w.heap.size + 2, 0, none⟩) (blk_far (p := ⟨w.heap.size + 1, 0, none⟩) (blk_set (blk_drewN h0 n) 0 _) (by show w.heap.size ≠ w.heap.size + 1; omega) _) (by show w.heap.size ≠ w.heap.size + 2; omega) _
  · exact blk_far (p := ⟨w.heap.size + 2, 0, none⟩) (blk_set (blk_far (p := ⟨w.heap.size, 0, none⟩) (blk_drewN h1 n) (by show w.heap.size + 1 ≠ w.heap.size; omega) _) 0 _) (by show w.heap.size + 1 ≠ w.heap.size + 2; omega) _
  · exact blk_set (blk_far (p := ⟨w.heap.size + 1, 0, none⟩) (blk_far (p := ⟨w.heap.size, 0, none⟩) (blk_drewN h2 n) (by show w.heap.size + 2 ≠ w.heap.size; omega) _) (by show w.heap.size + 2 ≠ w.heap.size + 1; omega) _) 0 _
  · intro D hd
    have := hD D hd
    exact (other D (by omega) (by omega) (by omega)).trans this.2
  · exact (((pw_below_drewN (hb.trans (hb4.mono hb.size)) n).setCell (p := ⟨w.heap.size, 0, none⟩) (Nat.le_refl _) _).setCell (p := ⟨w.heap.size + 1, 0, none⟩) (by show w.heap.size ≤ w.heap.size + 1; omega) _).setCell (p := ⟨w.heap.size + 2, 0, none⟩) (by show w.heap.size ≤ w.heap.size + 2; omega) _
theorem BestX.of_keep {w : World} {most : Int} {Ds : List Nat} {S : List (List Int)} {c : Code} {pre : List (List Int)} {W W' : World} (h : BestX w most Ds S c pre W) (B : Nat) (hBs : w.heap.size + 2 < B) (hDs : ∀ D, D ∈ Ds → D < B) (hb : Below B W W') (hr : ∀ v l, RowF w.heap.size W v l → RowF w.heap.size W' v l) : BestX w most Ds S c pre W' := by
  obtain ⟨x, rest, v, e, hrow, h0⟩ := h.ex
  exact ⟨h.code, ⟨x, rest, v, e, hr _ _ hrow, (hb.block _ (by omega)).trans h0⟩, (hb.block _ (by omega)).trans h.b1, (hb.block _ (by omega)).trans h.b2, fun D hD => (hb.block _ (hDs D hD)).trans (h.marks D hD), h.below.trans (hb.mono (by omega))⟩

theorem best_results' {tmps : Array Value} {b0 : Nat} {W : World} {A6 : Option Addr} {n6 c6 : Nat} {a b : Int} (t4 : tmps[4]?.getD undef = .pointer (some ⟨b0, 0, none⟩)) (t5 : tmps[5]?.getD undef = .pointer (some ⟨b0 + 1, 0, none⟩)) (t6 : tmps[6]?.getD undef = .pointer (some ⟨b0 + 2, 0, none⟩))
    (h0 : W.heap[b0]? = some (.cells #[.slice A6 n6 c6] 22 (0, 0))) (h1 : W.heap[b0 + 1]? = some (.cells #[.int .i64 a] 3 (0, 0))) (h2 : W.heap[b0 + 2]? = some (.cells #[.int .i64 b] 25 (0, 0))) :
    (results Try.f7 tmps).run Try.prog W = .ok (.tuple #[.slice A6 n6 c6, .int .i64 a, .int .i64 b]) W := by
  have d0 := (blk_cell h0 0).trans (show (#[Value.slice A6 n6 c6] : Array Value)[0]? = some (Value.slice A6 n6 c6) from rfl)
  have d1 := (blk_cell h1 0).trans (show (#[Value.int .i64 a] : Array Value)[0]? = some (Value.int .i64 a) from rfl)
  have d2 := (blk_cell h2 0).trans (show (#[Value.int .i64 b] : Array Value)[0]? = some (Value.int .i64 b) from rfl)
  simp [results, Try.results7, t4, t5, t6, go_sem, d0, d1, d2]
theorem best_results {room : Int} {A : Option Addr} {n cp b0 mB : Nat} {u2 u3 u7 u8 u9 u11 u12 u13 u14 u15 u16 u17 u18 u19 u20 u21 u22 u23 u24 u25 u26 u27 u28 u29 u30 u31 u32 u33 u34 u35 u36 u37 : Value} {W : World} {A6 : Option Addr} {n6 c6 : Nat} {a b : Int} (h0 : W.heap[b0]? = some (.cells #[.slice A6 n6 c6] 22 (0, 0))) (h1 : W.heap[b0 + 1]? = some (.cells #[.int .i64 a] 3 (0, 0))) (h2 : W.heap[b0 + 2]? = some (.cells #[.int .i64 b] 25 (0, 0))) :
    (results Try.f7 (bestT room A n cp b0 mB u2 u3 u7 u8 u9 u11 u12 u13 u14 u15 u16 u17 u18 u19 u20 u21 u22 u23 u24 u25 u26 u27 u28 u29 u30 u31 u32 u33 u34 u35 u36 u37)).run Try.prog W = .ok (.tuple #[.slice A6 n6 c6, .int .i64 a, .int .i64 b]) W :=
  best_results' rfl rfl rfl h0 h1 h2

def BestInv (w : World) (room : Int) (A1 : Option Addr) (c1 : Nat) (ps : List Int) (least : Int) (d : Nat) (a : Act) (W : World) : Prop :=
  ∃ (most : Int) (mB : Nat) (Ds : List Nat) (u2 u3 u7 u8 u9 u11 u12 u13 u14 u15 u16 u17 u18 u19 u20 u21 u22 u23 u24 u25 u26 u27 u28 u29 u30 u31 u32 u33 u34 u35 u36 u37 : Value), a = { tmps := bestT room A1 ps.length c1 w.heap.size mB u2 u3 u7 u8 u9 u11 u12 u13 u14 u15 u16 u17 u18 u19 u20 u21 u22 u23 u24 u25 u26 u27 u28 u29 u30 u31 u32 u33 u34 u35 u36 u37, defers := Ds.map fun D => { target := .collected D, args := #[] } } ∧
    Aside0 (BestW w most mB Ds W) ∧ Aside0 (0 ≤ most ∧ (((ps.length : Int) + 1 - most).toNat = d) ∧ bestL room ps d most = bestL room ps (ps.length + 1 - least).toNat least)

set_option maxHeartbeats 8000000 in
set_option maxRecDepth 100000 in
theorem best_walk (room : Int) (A1 : Option Addr) (c1 : Nat) (ps : List Int) (k : Nat) (least r2 r3 : Int) (w : World) (hr1 : Kd.C (Kd.int .i64) w A1 ps.length ps) (hc1 : ps.length ≤ c1)
    (hp : piecesB room ps = true) (hw : remnant_Weight.f k room ps = some (least, r2, r3)) (hl : 0 ≤ least ∧ least ≤ 12) :
    Calls Try.prog 7 #[.int .i64 room, .slice A1 ps.length c1] w fun e w' => ∃ v0_ : Value, e = .returned (.tuple #[v0_, .int .i64 (bestL room ps (ps.length + 1 - least).toNat least).2.1, .int .i64 (bestL room ps (ps.length + 1 - least).toNat least).2.2]) ∧
      RowF w.heap.size w' v0_ (bestL room ps (ps.length + 1 - least).toNat least).1 ∧ Below w.heap.size w w' := by
  have hpp : (1 ≤ room ∧ room ≤ 100) ∧ ps.length ≤ 12 ∧ ∀ s ∈ ps, 1 ≤ s ∧ s ≤ room := by
    have h := hp
    unfold piecesB at h
    simp only [Bool.and_eq_true, decide_eq_true_eq, List.all_eq_true] at h
    exact ⟨h.1.1, by omega, h.2⟩
  obtain ⟨hroom, hpl, hps⟩ := hpp
  have HR := Aside0.mk hr1
  have HC := Aside0.mk hc1
  have HWT := Aside0.mk hw
  have HPS := Aside0.mk hps
  have HP := Aside0.mk (show remnant_arePieces.f room ps = some true by unfold remnant_arePieces.f; rw [hp])
  clear hr1 hc1 hw hps hp
  refine (callsIn_wide (n := 40)).1 ?_
  refine callsIn_of_wp_marks Try.func7 rfl trivial ?_ rfl
  simp only [Try.ntmps7, List.size_toArray, List.length_cons, List.length_nil, Nat.reduceAdd, Nat.reduceSub, Array.replicate_succ, Array.replicate_zero, List.push_toArray, List.append_toArray, List.nil_append, List.cons_append]
  obtain ⟨W0, hW0⟩ : ∃ W0, (((w.alloc (.cells #[.slice none 0 0] 22)).alloc (.cells #[.int .i64 0] 3)).alloc (.cells #[.int .i64 0] 25)) = W0 := ⟨_, rfl⟩
  have hs0 : W0.heap.size = w.heap.size + 3 := by rw [← hW0]; simp
  have hbl : Below w.heap.size w W0 := by
    rw [← hW0]; exact (((Below.refl _ w).alloc (Nat.le_refl _) _).alloc (by simp) _).alloc (by simp; omega) _
  have e0 : W0.heap[w.heap.size]? = some (.cells #[.slice none 0 0] 22 (0, 0)) := by rw [← hW0]; exact blk_alloc (blk_alloc (blk_new w _) _) _
  have e1 : W0.heap[w.heap.size + 1]? = some (.cells #[.int .i64 0] 3 (0, 0)) := by
    rw [← hW0]
    have h := blk_new (w.alloc (.cells #[.slice none 0 0] 22)) (.cells #[.int .i64 0] 3 (0, 0))
    rw [World.size_alloc] at h
    exact blk_alloc h _
  have e2 : W0.heap[w.heap.size + 2]? = some (.cells #[.int .i64 0] 25 (0, 0)) := by
    rw [← hW0]
    have h := blk_new ((w.alloc (.cells #[.slice none 0 0] 22)).alloc (.cells #[.int .i64 0] 3)) (.cells #[.int .i64 0] 25 (0, 0))
    rwa [World.size_alloc, World.size_alloc] at h
  have HS0 := Aside0.mk hs0
  have HBL := Aside0.mk hbl
  have HE0 := Aside0.mk (And.intro e0 (And.intro e1 e2))
  have HR0 := Aside0.mk (Kd.C_below HR.out hbl)
  have HW0 := Aside0.mk hW0
  clear hs0 hbl e0 e1 e2 hW0
  gi_wp2_with fail
  rw [HW0.out]
  refine ⟨trivial, (callsIn_wide.2 (remnant_arePieces.calls room A1 c1 ps true _ HR0.out HC.out HP.out)).mono ?_⟩
  rintro e w1 ⟨rfl, hb1⟩
  have HB1 := Aside0.mk hb1
  clear hb1
  gi_wp2_with fail
  refine ⟨trivial, (callsIn_wide.2 (remnant_Weight.calls k room A1 c1 ps least r2 r3 _ (Kd.C_below HR0.out HB1.out) HC.out HWT.out)).mono ?_⟩
  rintro e w2 ⟨rfl, hb2⟩
  have HB2 := Aside0.mk (HB1.out.trans (hb2.mono HB1.out.size))
  clear hb2 HB1
  gi_wp2_with fail
  refine wpIn_loop_down (BestInv w room A1 c1 ps least) (ps.length + 1 - least).toNat ?h0 ?hr
  case h0 =>
    exact ⟨least, w2.heap.size, [], _, _, _, _, _, _, _, _, _, _, _, _, _, _, _, _, _, _, _, _, _, _, _, _, _, _, _, _, _, _, _, _, rfl, ⟨⟨blk_alloc (blk_below HE0.out.1 HB2.out) _, blk_alloc (blk_below HE0.out.2.1 HB2.out) _, blk_alloc (blk_below HE0.out.2.2 HB2.out) _, blk_new _ _, by have h1 := HB2.out.size; have h2 := HS0.out; omega, List.nodup_nil, fun D hD => (by cases hD), below_alloc (HBL.out.trans (HB2.out.mono HBL.out.size)) _⟩⟩, ⟨hl.1, rfl, rfl⟩⟩
  case hr =>
    rintro d a W ⟨most, mB, Ds, u2, u3, u7, u8, u9, u11, u12, u13, u14, u15, u16, u17, u18, u19, u20, u21, u22, u23, u24, u25, u26, u27, u28, u29, u30, u31, u32, u33, u34, u35, u36, u37, rfl, HW, HM⟩
    unfold bestT
    have hm := HM.out.1
    have cm := (blk_cell HW.out.most_ 0).trans (show (#[Value.int .i64 most] : Array Value)[0]? = some (Value.int .i64 most) from rfl)
    have f0 := blk_frozen HW.out.b0 0
    have f1 := blk_frozen HW.out.b1 0
    have f2 := blk_frozen HW.out.b2 0
    have d0 := (blk_cell HW.out.b0 0).trans (show (#[Value.slice none 0 0] : Array Value)[0]? = some (Value.slice none 0 0) from rfl)
    have d1 := (blk_cell HW.out.b1 0).trans (show (#[Value.int .i64 0] : Array Value)[0]? = some (Value.int .i64 0) from rfl)
    have d2 := (blk_cell HW.out.b2 0).trans (show (#[Value.int .i64 0] : Array Value)[0]? = some (Value.int .i64 0) from rfl)
    by_cases hle : most ≤ (ps.length : Int)
    · have hmost : 0 ≤ most ∧ most ≤ 12 := by omega
      obtain ⟨S, hS⟩ : ∃ S, packX room most ps [] (List.replicate 12 0) 0 = S := ⟨_, rfl⟩
      have HSS := Aside0.mk hS
      clear hS
      gi_wp2_with fail
      refine ⟨trivial, (callsIn_wide.2 (packCalls room most A1 ps.length c1 _)).mono ?_⟩
      rintro e w3 ⟨rfl, hw3⟩
      have HS3 : Aside0 (w3.heap.size = W.heap.size + 3) := ⟨by rw [hw3]; simp⟩
      have HB3 : Aside0 (Below W.heap.size W w3) := ⟨by rw [hw3]; exact (((Below.refl _ W).alloc (Nat.le_refl _) _).alloc (by simp) _).alloc (by simp; omega) _⟩
      have HP0 : Aside0 (w3.heap[W.heap.size]? = some (.cells #[.int .i64 room] 3 (0, 0))) := ⟨by rw [hw3]; exact blk_alloc (blk_alloc (blk_new W _) _) _⟩
      have HP1 : Aside0 (w3.heap[W.heap.size + 1]? = some (.cells #[.slice A1 ps.length c1] 22 (0, 0))) := ⟨by
        rw [hw3]
        have h := blk_new (W.alloc (.cells #[.int .i64 room] 3)) (.cells #[.slice A1 ps.length c1] 22 (0, 0))
        rw [World.size_alloc] at h
        exact blk_alloc h _⟩
      have HP2 : Aside0 (w3.heap[W.heap.size + 2]? = some (.cells #[.int .i64 most] 3 (0, 0))) := ⟨by
        rw [hw3]
        have h := blk_new ((W.alloc (.cells #[.int .i64 room] 3)).alloc (.cells #[.slice A1 ps.length c1] 22)) (.cells #[.int .i64 most] 3 (0, 0))
        rwa [World.size_alloc, World.size_alloc] at h⟩
      have HBW3 : Aside0 (Below w.heap.size w w3) := ⟨HW.out.below.trans (HB3.out.mono HW.out.below.size)⟩
      have HSZ : Aside0 (w.heap.size + 2 < W.heap.size ∧ mB < W.heap.size) := ⟨⟨Nat.lt_trans HW.out.mlt (blk_lt HW.out.most_), blk_lt HW.out.most_⟩⟩
      clear hw3 f0 f1 f2 cm d0 d1 d2
      gi_wp2_with fail
      have hs3 := HS3.out
      have hsz := HSZ.out
      refine wpIn_iter rfl (by omega) (gf := 41) (lb := #[.pointer (some ⟨W.heap.size + 1, 0, none⟩), .pointer (some ⟨W.heap.size + 2, 0, none⟩), .pointer (some ⟨W.heap.size, 0, none⟩)]) rfl trivial (enters_of Try.func41 (by kernel_rfl) rfl)
        (K := PackK ps A1 (w3.heap.size + 2) (W.heap.size + 1) (W.heap.size + 2) W.heap.size) (S := S) (E := PackW ps A1 c1 room most (W.heap.size + 1) (W.heap.size + 2) W.heap.size)
        (HSS.out ▸ packIter ps A1 c1 room most (W.heap.size + 1) (W.heap.size + 2) W.heap.size (w3.heap.size + 2) 39 (by omega) (by omega) (by omega) ⟨by omega, hroom.2⟩ hmost HPS.out hpl) ?hK ?hE
        (BestP w3) (BestX w most Ds S)
        ?hIs ?hIp ?hXs ?hXp ?h0 (fun v => { tmps := bestT room A1 ps.length c1 w.heap.size mB u2 u3 u7 u8 u9 v u12 u13 u14 u15 u16 u17 u18 u19 u20 u21 u22 u23 (.int .i64 most) (.slice A1 ps.length c1) (.int .i64 ps.length) (.bool true) u28 u29 (.int .i64 room) (.slice A1 ps.length c1) (.int .i64 most) (.func (.func 41) #[] #[.pointer (some ⟨W.heap.size + 1, 0, none⟩), .pointer (some ⟨W.heap.size + 2, 0, none⟩), .pointer (some ⟨W.heap.size, 0, none⟩)]) v u35 u36 u37, defers := [] }) ?hassign ?hbody ?hdone ?hstop
      case hK =>
        rintro (h | h | h | h | ⟨a, rfl, h0, h⟩)
        · omega
        · omega
        · omega
        · omega
        · obtain ⟨-, -, h3⟩ := Kd.reads_of_C (d := (0 : Int)) HR.out
          obtain ⟨ad, e, hc⟩ := h3 h0
          cases e
          have := cell_lt (hc 0 h0)
          rw [addr_block] at this
          omega
      case hE =>
        intro o1 o2
        exact ⟨blk_alloc (blk_alloc HP1.out _) _, blk_alloc (blk_alloc HP2.out _) _, blk_alloc (blk_alloc HP0.out _) _, Kd.C_below HR.out (below_alloc (below_alloc HBW3.out _) _)⟩
      case hIs =>
        intro s W5 W6 h hs
        exact ⟨h.1, h.2.trans (hs.below.mono (by omega))⟩
      case hIp =>
        intro s W5 W6 h hs
        exact ⟨h.1, h.2.trans hs.below⟩
      case hXs =>
        intro c s W5 W6 h hs
        exact h.of_keep (w3.heap.size + 2) (by omega) (fun D hD => by have := blk_lt (HW.out.marks D hD).2; omega) hs.below (fun v l hv => hv.step hs)
      case hXp =>
        intro c s W5 W6 h hs
        exact h.of_keep w3.heap.size (by omega) (fun D hD => by have := blk_lt (HW.out.marks D hD).2; omega) hs.below (fun v l hv => hv.soft hs)
      case h0 => exact ⟨rfl, Below.refl _ _⟩
      case hassign =>
        intro m l v W Kc hK
        clear hs3 hsz
        unfold bestT at hK
        gi_wp2
        exact hK
      case hbody =>
        intro m l pre x v W4 hpS hI hrow
        clear hs3 hsz
        obtain ⟨rfl, hb4⟩ := hI
        have q0 := blk_below (blk_below HW.out.b0 HB3.out) hb4
        have q1 := blk_below (blk_below HW.out.b1 HB3.out) hb4
        have q2 := blk_below (blk_below HW.out.b2 HB3.out) hb4
        have qm := blk_below (blk_below HW.out.most_ HB3.out) hb4
        have f0 := blk_frozen q0 0
        have f1 := blk_frozen q1 0
        have f2 := blk_frozen q2 0
        have d0 := (blk_cell q0 0).trans (show (#[Value.slice none 0 0] : Array Value)[0]? = some (Value.slice none 0 0) from rfl)
        have d1 := (blk_cell q1 0).trans (show (#[Value.int .i64 0] : Array Value)[0]? = some (Value.int .i64 0) from rfl)
        have d2 := (blk_cell q2 0).trans (show (#[Value.int .i64 0] : Array Value)[0]? = some (Value.int .i64 0) from rfl)
        have cm := (blk_cell qm 0).trans (show (#[Value.int .i64 most] : Array Value)[0]? = some (Value.int .i64 most) from rfl)
        have HQ := Aside0.mk (And.intro q0 (And.intro q1 (And.intro q2 qm)))
        have HB4 := Aside0.mk hb4
        obtain ⟨A6, c6, rfl, -, -⟩ := hrow.C
        have HROW := Aside0.mk hrow
        have HPF := Aside0.mk hpS
        have n0 : mB ≠ w.heap.size := by have := HW.out.mlt; omega
        have n0' : w.heap.size ≠ mB := fun e => n0 e.symm
        have cms : ∀ v, (W4.setCell ⟨w.heap.size, 0, none⟩ v).cell? ⟨mB, 0, none⟩ = some (Value.int .i64 most) := fun v => (blk_cell (blk_far (p := ⟨w.heap.size, 0, none⟩) qm n0 v) 0).trans (show (#[Value.int .i64 most] : Array Value)[0]? = some (Value.int .i64 most) from rfl)
        have cms' : ∀ v, (W4.drew.setCell ⟨w.heap.size, 0, none⟩ v).cell? ⟨mB, 0, none⟩ = some (Value.int .i64 most) := fun v => (blk_cell (blk_far (w := W4.drew) (p := ⟨w.heap.size, 0, none⟩) (blk_drew qm) n0 v) 0).trans (show (#[Value.int .i64 most] : Array Value)[0]? = some (Value.int .i64 most) from rfl)
        clear q0 q1 q2 qm hb4 hrow hpS
        unfold bestT
        gi_wp2_with fail
        gi_region_with (fail)
        all_goals
          gi_wp2
          refine best_body HBW3.out HB4.out HQ.out.1 HQ.out.2.1 HQ.out.2.2.1 HROW.out (by have h1 := HS3.out; have h2 := HSZ.out; omega) HPF.out (fun q q1 q2 => ?_) (fun D hD => ⟨(HW.out.marks D hD).1, ?_⟩) 1
          · rintro (h | h | h | h | ⟨a, rfl, h0, h⟩)
            · have h1 := HS3.out; have h2 := HSZ.out; omega
            · have h2 := HSZ.out; omega
            · have h2 := HSZ.out; omega
            · have h2 := HSZ.out; omega
            · obtain ⟨-, -, h3⟩ := Kd.reads_of_C (d := (0 : Int)) HR.out
              obtain ⟨ad, e, hc⟩ := h3 h0
              cases e
              have := cell_lt (hc 0 h0)
              rw [addr_block] at this
              omega
          · have hd := (HW.out.marks D hD).2
            exact (HB4.out.block _ (by have := blk_lt hd; have h1 := HS3.out; omega)).trans ((HB3.out.block _ (blk_lt hd)).trans hd)
      case hdone =>
        rintro D W5 hD ⟨hS0, hb5⟩ hDef
        have HD5 := Aside0.mk (And.intro hD hDef)
        have HB5 := Aside0.mk hb5
        have qm := blk_below (blk_below HW.out.most_ HB3.out) hb5
        have HQ := Aside0.mk (And.intro (blk_below (blk_below HW.out.b0 HB3.out) hb5) (And.intro (blk_below (blk_below HW.out.b1 HB3.out) hb5) (blk_below (blk_below HW.out.b2 HB3.out) hb5)))
        have cm := (blk_cell qm 0).trans (show (#[Value.int .i64 most] : Array Value)[0]? = some (Value.int .i64 most) from rfl)
        have HS0 := Aside0.mk hS0
        clear hs3 hsz hD hDef hb5 hS0 qm
        gi_wp2_with fail
        refine ⟨((ps.length : Int) - most).toNat, by have := HM.out; omega, most + 1, W5.heap.size, D :: Ds, _, _, _, _, _, _, _, _, _, _, _, _, _, _, _, _, _, _, _, _, _, _, _, _, _, _, _, _, _, _, _, _, rfl, ⟨⟨blk_alloc HQ.out.1 _, blk_alloc HQ.out.2.1 _, blk_alloc HQ.out.2.2 _, blk_new _ _, ?_, ?_, ?_, ?_⟩⟩, ⟨by omega, by omega, ?_⟩⟩
        · have h1 := HB5.out.size; have h2 := HSZ.out; have h3 := HS3.out; omega
        · refine List.nodup_cons.2 ⟨fun hDs => ?_, HW.out.nodup⟩
          have h1 := blk_lt (HW.out.marks D hDs).2; have h3 := HS3.out; have h4 := HD5.out.1; omega
        · intro D' hD'
          rcases List.mem_cons.1 hD' with rfl | hD'
          · exact ⟨by have h2 := HSZ.out; have h3 := HS3.out; have h4 := HD5.out.1; omega, (Below.heap_alloc _ _ _ (blk_lt HD5.out.2)).trans HD5.out.2⟩
          · have hd := (HW.out.marks D' hD').2
            have h5 := (HB5.out.block _ (by have := blk_lt hd; have h1 := HS3.out; omega)).trans ((HB3.out.block _ (blk_lt hd)).trans hd)
            exact ⟨(HW.out.marks D' hD').1, (Below.heap_alloc _ _ _ (blk_lt h5)).trans h5⟩
        · exact below_alloc (HBW3.out.trans (HB5.out.mono HBW3.out.size)) _
        · rw [← HM.out.2.2, show d = ((ps.length : Int) - most).toNat + 1 by have := HM.out; omega, bestL, HSS.out, HS0.out]
      case hstop =>
        rintro D c pre W5 hD hne hpre hX hDef
        obtain ⟨rfl, ⟨x, rest, v, hSx, hrow, h0⟩, h1, h2, hDs, hbl⟩ := hX
        obtain ⟨A6, c6, rfl, -, -⟩ := hrow.C
        have HX5 := Aside0.mk (And.intro hSx (And.intro hrow (And.intro h0 (And.intro h1 (And.intro h2 (And.intro hDs (And.intro hbl (And.intro hD hDef))))))))
        clear hs3 hsz hD hDef hSx hrow h0 h1 h2 hDs hbl hpre hne
        gi_wp2_with fail
        obtain ⟨hSx, hrow, h0, h1, h2, hDs, hbl, hD, hDef⟩ := HX5.out
        have hfin : bestL room ps (ps.length + 1 - least).toNat least = (x, most, 0) := by
          rw [← HM.out.2.2, show d = ((ps.length : Int) - most).toNat + 1 by have := HM.out; omega, bestL, HSS.out, hSx]
        refine leaves_marks (B := w.heap.size) (D :: Ds) W5 (List.nodup_cons.2 ⟨fun hDs => ?_, HW.out.nodup⟩) (fun D' hD' => ?_) (fun W' hs => ⟨_, best_results (hs.cells _ _ _ _ h0) (hs.cells _ _ _ _ h1) (hs.cells _ _ _ _ h2), _, by rw [hfin], by rw [hfin]; exact hrow.soft hs, hbl.trans hs.below⟩)
        · have h1 := blk_lt (HW.out.marks D hDs).2; have h3 := HS3.out; omega
        · rcases List.mem_cons.1 hD' with rfl | hD'
          · exact ⟨by have h2 := HSZ.out; have h3 := HS3.out; omega, hDef⟩
          · exact ⟨by have := (HW.out.marks D' hD').1; omega, hDs D' hD'⟩
    · have hd0 : d = 0 := by have := HM.out; omega
      have hfin : bestL room ps (ps.length + 1 - least).toNat least = ([], 0, 0) := by
        rw [← HM.out.2.2, hd0, bestL]
      have HF := Aside0.mk hfin
      clear hd0 hfin
      gi_wp2_with fail
      have other : ∀ q, q ≠ w.heap.size → q ≠ w.heap.size + 1 → q ≠ w.heap.size + 2 → (((W.setCell ⟨w.heap.size, 0, none⟩ (.slice none 0 0)).setCell ⟨w.heap.size + 1, 0, none⟩ (.int .i64 0)).setCell ⟨w.heap.size + 2, 0, none⟩ (.int .i64 0)).heap[q]? = W.heap[q]? := fun q q0 q1 q2 =>
        (Below.heap_setCell _ _ _ _ q2).trans ((Below.heap_setCell _ _ _ _ q1).trans (Below.heap_setCell _ _ _ _ q0))
      have g0 : (((W.setCell ⟨w.heap.size, 0, none⟩ (.slice none 0 0)).setCell ⟨w.heap.size + 1, 0, none⟩ (.int .i64 0)).setCell ⟨w.heap.size + 2, 0, none⟩ (.int .i64 0)).heap[w.heap.size]? = some (.cells #[.slice none 0 0] 22 (0, 0)) :=
        blk_far (p := ⟨w.heap.size + 2, 0, none⟩) (blk_far (p := ⟨w.heap.size + 1, 0, none⟩) (blk_set HW.out.b0 0 _) (by show w.heap.size ≠ w.heap.size + 1; omega) _) (by show w.heap.size ≠ w.heap.size + 2; omega) _
      have g1 : (((W.setCell ⟨w.heap.size, 0, none⟩ (.slice none 0 0)).setCell ⟨w.heap.size + 1, 0, none⟩ (.int .i64 0)).setCell ⟨w.heap.size + 2, 0, none⟩ (.int .i64 0)).heap[w.heap.size + 1]? = some (.cells #[.int .i64 0] 3 (0, 0)) :=
        blk_far (p := ⟨w.heap.size + 2, 0, none⟩) (blk_set (blk_far (p := ⟨w.heap.size, 0, none⟩) HW.out.b1 (by show w.heap.size + 1 ≠ w.heap.size; omega) _) 0 _) (by show w.heap.size + 1 ≠ w.heap.size + 2; omega) _
      have g2 : (((W.setCell ⟨w.heap.size, 0, none⟩ (.slice none 0 0)).setCell ⟨w.heap.size + 1, 0, none⟩ (.int .i64 0)).setCell ⟨w.heap.size + 2, 0, none⟩ (.int .i64 0)).heap[w.heap.size + 2]? = some (.cells #[.int .i64 0] 25 (0, 0)) :=
        blk_set (blk_far (p := ⟨w.heap.size + 1, 0, none⟩) (blk_far (p := ⟨w.heap.size, 0, none⟩) HW.out.b2 (by show w.heap.size + 2 ≠ w.heap.size; omega) _) (by show w.heap.size + 2 ≠ w.heap.size + 1; omega) _) 0 _
      have gb : Below w.heap.size w (((W.setCell ⟨w.heap.size, 0, none⟩ (.slice none 0 0)).setCell ⟨w.heap.size + 1, 0, none⟩ (.int .i64 0)).setCell ⟨w.heap.size + 2, 0, none⟩ (.int .i64 0)) :=
        ((HW.out.below.setCell (p := ⟨w.heap.size, 0, none⟩) (Nat.le_refl _) _).setCell (p := ⟨w.heap.size + 1, 0, none⟩) (by show w.heap.size ≤ w.heap.size + 1; omega) _).setCell (p := ⟨w.heap.size + 2, 0, none⟩) (by show w.heap.size ≤ w.heap.size + 2; omega) _
      refine leaves_marks (B := w.heap.size) Ds _ HW.out.nodup (fun D' hD' => ?_) (fun W' hs => ⟨_, best_results (hs.cells _ _ _ _ g0) (hs.cells _ _ _ _ g1) (hs.cells _ _ _ _ g2), _, by rw [HF.out], by rw [HF.out]; exact .inl ⟨rfl, rfl⟩, gb.trans hs.below⟩)
      have hm' := HW.out.marks D' hD'
      exact ⟨by omega, (other D' (by omega) (by omega) (by omega)).trans hm'.2⟩

theorem remnant_Best.mono (a0 : Int) (l1 : List Int) (k : Nat) : LeO (remnant_Best.f k a0 l1) (remnant_Best.f (k + 1) a0 l1) := by
  unfold remnant_Best.f
  exact LeO.ite (LeO.bind (remnant_Weight.mono a0 l1 k) (fun _ => LeO.refl _)) (LeO.refl _)

theorem remnant_Best.calls (k : Nat) (a0 : Int) (A1 : Option Addr) (c1 : Nat) (l1 : List Int) (r1 : List Int) (r2 : Int) (r3 : Int) (w : World) (hr1 : Kd.C (Kd.int .i64) w A1 l1.length l1) (hc1 : l1.length ≤ c1) (h : remnant_Best.f k a0 l1 = some (r1, r2, r3)) :
    Calls Try.prog 7 #[.int .i64 a0, .slice A1 l1.length c1] w fun e w' => ∃ v0_ : Value, e = .returned (.tuple #[v0_, .int .i64 r2, .int .i64 r3]) ∧ Kd.R (Kd.int .i64) 3 w' w.heap.size (fun _ => True) v0_ r1 ∧ Below w.heap.size w w' := by
  unfold remnant_Best.f at h
  split at h
  · rename_i hp
    obtain ⟨⟨least, r2', r3'⟩, h1, h2⟩ := Option.bind_eq_some_iff.1 h
    split at h2
    · rename_i hl
      have h3 := Option.some.inj h2
      refine (best_walk a0 A1 c1 l1 k least r2' r3' w hr1 hc1 hp h1 hl).mono ?_
      rintro e w' ⟨v, he, hrow, hb⟩
      simp only at h3
      rw [h3] at he hrow
      exact ⟨v, he, R_of_RowF hrow, hb⟩
    · cases h2
  · rename_i hp
    obtain ⟨rfl, rfl, rfl⟩ : r1 = [] ∧ r2 = 0 ∧ r3 = 2 := by
      have := Option.some.inj h
      simp only [Prod.mk.injEq] at this
      exact ⟨this.1.symm, this.2.1.symm, this.2.2.symm⟩
    have HP := Aside0.mk (show remnant_arePieces.f a0 l1 = some false by unfold remnant_arePieces.f; rw [Bool.not_eq_true] at hp; rw [hp])
    have HR := Aside0.mk hr1
    have HC := Aside0.mk hc1
    clear hp h hr1 hc1
    obtain ⟨W0, hW0⟩ : ∃ W0, (((w.alloc (.cells #[.slice none 0 0] 22)).alloc (.cells #[.int .i64 0] 3)).alloc (.cells #[.int .i64 0] 25)) = W0 := ⟨_, rfl⟩
    have hbl : Below w.heap.size w W0 := by
      rw [← hW0]; exact (((Below.refl _ w).alloc (Nat.le_refl _) _).alloc (by simp) _).alloc (by simp; omega) _
    have e0 : W0.heap[w.heap.size]? = some (.cells #[.slice none 0 0] 22 (0, 0)) := by rw [← hW0]; exact blk_alloc (blk_alloc (blk_new w _) _) _
    have e1 : W0.heap[w.heap.size + 1]? = some (.cells #[.int .i64 0] 3 (0, 0)) := by
      rw [← hW0]
      have h := blk_new (w.alloc (.cells #[.slice none 0 0] 22)) (.cells #[.int .i64 0] 3 (0, 0))
      rw [World.size_alloc] at h
      exact blk_alloc h _
    have e2 : W0.heap[w.heap.size + 2]? = some (.cells #[.int .i64 0] 25 (0, 0)) := by
      rw [← hW0]
      have h := blk_new ((w.alloc (.cells #[.slice none 0 0] 22)).alloc (.cells #[.int .i64 0] 3)) (.cells #[.int .i64 0] 25 (0, 0))
      rwa [World.size_alloc, World.size_alloc] at h
    have HBL := Aside0.mk hbl
    have HE0 := Aside0.mk (And.intro e0 (And.intro e1 e2))
    have HW0 := Aside0.mk hW0
    clear hbl e0 e1 e2 hW0
    go_enter Try.func7, Try.ntmps7
    go_wp2_with fail
    rw [HW0.out]
    refine (remnant_arePieces.calls a0 A1 c1 l1 false _ (Kd.C_below HR.out HBL.out) HC.out HP.out).mono ?_
    rintro e W ⟨rfl, hb1⟩
    have b0 := blk_below HE0.out.1 hb1
    have b1 := blk_below HE0.out.2.1 hb1
    have b2 := blk_below HE0.out.2.2 hb1
    have f0 := blk_frozen b0 0
    have f1 := blk_frozen b1 0
    have f2 := blk_frozen b2 0
    have d0 := (blk_cell b0 0).trans (show (#[Value.slice none 0 0] : Array Value)[0]? = some (Value.slice none 0 0) from rfl)
    have d1 := (blk_cell b1 0).trans (show (#[Value.int .i64 0] : Array Value)[0]? = some (Value.int .i64 0) from rfl)
    have d2 := (blk_cell b2 0).trans (show (#[Value.int .i64 0] : Array Value)[0]? = some (Value.int .i64 0) from rfl)
    have HQ := Aside0.mk (And.intro b0 (And.intro b1 b2))
    have HB := Aside0.mk (HBL.out.trans (hb1.mono HBL.out.size))
    clear hb1 b0 b1 b2
    go_wp2_with fail
    have g0 : (((W.setCell ⟨w.heap.size, 0, none⟩ (.slice none 0 0)).setCell ⟨w.heap.size + 1, 0, none⟩ (.int .i64 0)).setCell ⟨w.heap.size + 2, 0, none⟩ (.int .i64 2)).heap[w.heap.size]? = some (.cells #[.slice none 0 0] 22 (0, 0)) :=
      blk_far (p := ⟨w.heap.size + 2, 0, none⟩) (blk_far (p := ⟨w.heap.size + 1, 0, none⟩) (blk_set HQ.out.1 0 _) (by show w.heap.size ≠ w.heap.size + 1; omega) _) (by show w.heap.size ≠ w.heap.size + 2; omega) _
    have g1 : (((W.setCell ⟨w.heap.size, 0, none⟩ (.slice none 0 0)).setCell ⟨w.heap.size + 1, 0, none⟩ (.int .i64 0)).setCell ⟨w.heap.size + 2, 0, none⟩ (.int .i64 2)).heap[w.heap.size + 1]? = some (.cells #[.int .i64 0] 3 (0, 0)) :=
      blk_far (p := ⟨w.heap.size + 2, 0, none⟩) (blk_set (blk_far (p := ⟨w.heap.size, 0, none⟩) HQ.out.2.1 (by show w.heap.size + 1 ≠ w.heap.size; omega) _) 0 _) (by show w.heap.size + 1 ≠ w.heap.size + 2; omega) _
    have g2 : (((W.setCell ⟨w.heap.size, 0, none⟩ (.slice none 0 0)).setCell ⟨w.heap.size + 1, 0, none⟩ (.int .i64 0)).setCell ⟨w.heap.size + 2, 0, none⟩ (.int .i64 2)).heap[w.heap.size + 2]? = some (.cells #[.int .i64 2] 25 (0, 0)) :=
      blk_set (blk_far (p := ⟨w.heap.size + 1, 0, none⟩) (blk_far (p := ⟨w.heap.size, 0, none⟩) HQ.out.2.2 (by show w.heap.size + 2 ≠ w.heap.size; omega) _) (by show w.heap.size + 2 ≠ w.heap.size + 1; omega) _) 0 _
    have gb : Below w.heap.size w (((W.setCell ⟨w.heap.size, 0, none⟩ (.slice none 0 0)).setCell ⟨w.heap.size + 1, 0, none⟩ (.int .i64 0)).setCell ⟨w.heap.size + 2, 0, none⟩ (.int .i64 2)) :=
      ((HB.out.setCell (p := ⟨w.heap.size, 0, none⟩) (Nat.le_refl _) _).setCell (p := ⟨w.heap.size + 1, 0, none⟩) (by show w.heap.size ≤ w.heap.size + 1; omega) _).setCell (p := ⟨w.heap.size + 2, 0, none⟩) (by show w.heap.size ≤ w.heap.size + 2; omega) _
    exact bodyPost_ret (best_results' (b0 := w.heap.size) rfl rfl rfl g0 g1 g2) rfl ⟨_, rfl, Kd.R_nil _ _ _ _ _, gb⟩
end Go.Proofs.Ytpckfllalpiliaa.G
