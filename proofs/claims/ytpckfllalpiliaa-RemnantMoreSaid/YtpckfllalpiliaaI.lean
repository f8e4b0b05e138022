/- A range over a function whose iterator has memory of its own that it writes, and hands out new rows of numbers: the iterator's contract, and the law for the loop's user. -/
import Derived.RangeFuncNested
import Derived.RangeFuncBound
import Derived.RangeFuncCalls
import Derived.RangeFuncLeaves
import Derived.Shelf.Abstract
import Derived.Shelf.RegionOpen
import Derived.WalkKit
import Derived.OwnWalkIn
import Derived.TacticsInMore
import Derived.LoopNIn
import Derived.LoopIn
import Derived.Test.YtpckfllalpiliaaG0x0
namespace Go.Proofs.Ytpckfllalpiliaa.G
open Go.RowKit Go.Shelf Go.Proofs.YtpckfllalpiliaaW.PrintWords
set_option linter.unusedVariables false

/-- what the iterator does: blocks below B stay, and so does every row of numbers -/
structure StepI (B : Nat) (W W' : World) : Prop where
  below : Below B W W'
  ints : ∀ (q : Nat) (cs : Array Value), W.heap[q]? = some (Obj.cells cs 3 (0, 0)) → W'.heap[q]? = some (Obj.cells cs 3 (0, 0))
theorem StepI.refl (B : Nat) (W : World) : StepI B W W := ⟨Below.refl _ _, fun _ _ h => h⟩
theorem StepI.trans {B : Nat} {W W' W'' : World} (h : StepI B W W') (k : StepI B W' W'') : StepI B W W'' := ⟨h.below.trans k.below, fun q cs hq => k.ints q cs (h.ints q cs hq)⟩
/-- what the loop's body does: the iterator's blocks stay -/
structure KeepsK (K : Nat → Prop) (W W' : World) : Prop where
  size : W.heap.size ≤ W'.heap.size
  blk : ∀ q, K q → q < W.heap.size → W'.heap[q]? = W.heap[q]?
theorem KeepsK.refl (K : Nat → Prop) (W : World) : KeepsK K W W := ⟨Nat.le_refl _, fun _ _ _ => rfl⟩
theorem KeepsK.trans {K : Nat → Prop} {W W' W'' : World} (h : KeepsK K W W') (k : KeepsK K W' W'') : KeepsK K W W'' :=
  ⟨Nat.le_trans h.size k.size, fun q hq hl => (k.blk q hq (Nat.lt_of_lt_of_le hl h.size)).trans (h.blk q hq hl)⟩
theorem KeepsK.at_ {K : Nat → Prop} {W W' : World} (h : KeepsK K W W') {q : Nat} (hq : K q) {o : Obj} (ho : W.heap[q]? = some o) : W'.heap[q]? = some o := (h.blk q hq (blk_lt ho)).trans ho
theorem KeepsK.putObj {K : Nat → Prop} {W : World} {l : Nat} (hK : ¬ K l) (o : Obj) : KeepsK K W (W.putObj l o) :=
  ⟨by simp [World.putObj], fun q hq _ => World.putObj_heap_other (fun e => hK (e ▸ hq))⟩
/-- what the machine's own book-keeping does -/
structure Soft (B : Nat) (W W' : World) : Prop where
  below : Below B W W'
  cells : ∀ (q : Nat) (cs : Array Value) (t : TypeId) (f : Nat × Nat), W.heap[q]? = some (Obj.cells cs t f) → W'.heap[q]? = some (Obj.cells cs t f)
theorem Soft.putObj {B l : Nat} {W : World} {o o' : Obj} (hl : W.heap[l]? = some o) (hc : o.isCells = false) (hB : B ≤ l) : Soft B W (W.putObj l o') :=
  ⟨(Below.refl B W).grown (grownBy_putObj' W l o') (by have := blk_lt hl; omega) (fun k e => by cases e; exact hB), fun q cs t f h => by
    by_cases e : q = l
    · subst e; rw [hl] at h; cases h; simp [Obj.isCells] at hc
    · exact (World.putObj_heap_other e).trans h⟩
theorem Soft.alloc {B : Nat} {W : World} (hB : B ≤ W.heap.size) (o : Obj) : Soft B W (W.alloc o) :=
  ⟨(Below.refl B W).alloc hB o, fun q cs t f h => (Below.heap_alloc _ _ _ (blk_lt h)).trans h⟩
theorem Soft.trans {B : Nat} {W W' W'' : World} (h : Soft B W W') (k : Soft B W' W'') : Soft B W W'' := ⟨h.below.trans k.below, fun q cs t f hq => k.cells q cs t f (h.cells q cs t f hq)⟩

/-- a row of numbers, in a block of its own -/
def RowF (B : Nat) (W : World) (v : Value) (l : List Int) : Prop :=
  (l = [] ∧ v = .slice none 0 0) ∨ ∃ g cap cs, v = .slice (some ⟨g, 0, none⟩) l.length cap ∧ B ≤ g ∧ (l.length ≤ cap ∧ cs.size = cap ∧ cap ≤ 9223372036854775807) ∧ l.length ≤ 9223372036854775807 ∧ W.heap[g]? = some (.cells cs 3 (0, 0)) ∧ ∀ i, i < l.length → cs[i]? = some (.int .i64 (rd l (i : Int)))
theorem RowF.step {B B' : Nat} {W W' : World} {v : Value} {l : List Int} (h : RowF B W v l) (hs : StepI B' W W') : RowF B W' v l := by
  rcases h with h | ⟨g, cap, cs, e, hB, h1, h2, h3, h4⟩
  · exact .inl h
  · exact .inr ⟨g, cap, cs, e, hB, h1, h2, hs.ints g cs h3, h4⟩
theorem RowF.soft {B B' : Nat} {W W' : World} {v : Value} {l : List Int} (h : RowF B W v l) (hs : Soft B' W W') : RowF B W' v l := by
  rcases h with h | ⟨g, cap, cs, e, hB, h1, h2, h3, h4⟩
  · exact .inl h
  · exact .inr ⟨g, cap, cs, e, hB, h1, h2, hs.cells g cs _ _ h3, h4⟩
theorem RowF.keeps {B : Nat} {K : Nat → Prop} {W W' : World} {v : Value} {l : List Int} (h : RowF B W v l) (hs : KeepsK K W W') (hK : ∀ q, B ≤ q → K q) : RowF B W' v l := by
  rcases h with h | ⟨g, cap, cs, e, hB, h1, h2, h3, h4⟩
  · exact .inl h
  · exact .inr ⟨g, cap, cs, e, hB, h1, h2, hs.at_ (hK g hB) h3, h4⟩
theorem RowF.C {B : Nat} {W : World} {v : Value} {l : List Int} (h : RowF B W v l) : ∃ A c, v = .slice A l.length c ∧ l.length ≤ c ∧ Kd.C (Kd.int .i64) W A l.length l := by
  rcases h with ⟨rfl, rfl⟩ | ⟨g, cap, cs, rfl, hB, h1, h2, h3, h4⟩
  · exact ⟨none, 0, rfl, Nat.le_refl _, Kd.C_of_reads (d := (0 : Int)) (h1 := fun _ => rfl) ⟨rfl, by decide, fun h => absurd h (by decide)⟩⟩
  · refine ⟨_, cap, rfl, h1.1, Kd.C_of_reads (d := (0 : Int)) (h1 := fun _ => rfl) ⟨rfl, h2, fun _ => ⟨_, rfl, fun j hj => ?_⟩⟩⟩
    have e : (⟨g, 0, none⟩ : Addr).add j = ⟨g, j, none⟩ := by rcases j with _ | j <;> simp [Addr.add]
    rw [e, blk_cell h3, h4 j hj, rd, Int.toNat_natCast]

variable {Fe : Fence} {n : Nat} {P : Program}

/-- the iterator's contract: it hands out the rows of the list S one after the other -/
def IterC (F : Fence) (n : Nat) (P : Program) (gf : Nat) (lb : Array Value) (K : Nat → Prop) (S : List (List Int)) (B : Nat) (E : World → Prop) : Prop :=
  ∀ (l : Nat) (J Jx : List (List Int) → World → Prop), (∀ s W W', J s W → StepI B W W' → J s W') → (∀ s W W', Jx s W → StepI B W W' → Jx s W') →
    (∀ m pre x v W1, pre ++ [x] <+: S → J pre W1 → RowF B W1 v x → YieldAt F m P l #[v] W1 fun e W' => KeepsK K W1 W' ∧ ((e = .returned (.bool true) ∧ J (pre ++ [x]) W') ∨ (e = .returned (.bool false) ∧ Jx (pre ++ [x]) W'))) →
    ∀ W, W.heap.size = B → J [] W → E W →
      CallsIn F n P gf (#[.func (.yield l) #[] #[]] ++ lb) W fun e W' => (∃ v, e = .returned v) ∧ (J S W' ∨ ∃ pre, pre ≠ [] ∧ pre <+: S ∧ Jx pre W')

/-- how a round may be left -/
def iterPost (K : Nat → Prop) (I : List (List Int) → World → Prop) (Ix : Code → List (List Int) → World → Prop) (xs : List (List Int)) (W : World) : Exit → Act → World → Prop
  | .normal, _, W' => KeepsOthers W W' ∧ KeepsK K W W' ∧ I xs W'
  | .ret, _, W' => KeepsOthers W W' ∧ KeepsK K W W' ∧ Ix .ret xs W'
  | .exit id, _, W' => KeepsOthers W W' ∧ KeepsK K W W' ∧ Ix (.exit id) xs W'
  | .goto t, _, W' => KeepsOthers W W' ∧ KeepsK K W W' ∧ Ix (.goto t) xs W'
  | .panic _, _, _ => False
  | .outgrown, _, _ => False

set_option maxHeartbeats 1000000 in
theorem wpIn_iter {g : Operand} {p : Tmp} {assign body : Code} {Q : Exit → Act → World → Prop} {a : Act} {w : World}
    (hro : Fe.round = none) (h1 : 1 ≤ n) {gf : Nat} {lb : Array Value} (hg : a.eval g = .func (.func gf) #[] lb) (hFg : Fe.fn gf) (eg : ∀ args w, (callFunc gf args).run P w = .ok (.enter gf args) w)
    {K : Nat → Prop} {S : List (List Int)} {E : World → Prop} (hseq : IterC Fe (n - 1) P gf lb K S (w.heap.size + 2) E)
    (hK : ¬ K (w.heap.size + 1)) (hE : ∀ o1 o2 : Obj, E ((w.alloc o1).alloc o2))
    (I : List (List Int) → World → Prop) (Ix : Code → List (List Int) → World → Prop)
    (hIs : ∀ s W W', I s W → StepI (w.heap.size + 2) W W' → I s W') (hIp : ∀ s W W', I s W → Soft w.heap.size W W' → I s W')
    (hXs : ∀ c s W W', Ix c s W → StepI (w.heap.size + 2) W W' → Ix c s W') (hXp : ∀ c s W W', Ix c s W → Soft w.heap.size W W' → Ix c s W')
    (h0 : I [] w) (a₁ : Value → Act)
    (hassign : ∀ (m l : Nat) (v : Value) (W : World) (Kc : Act → World → Prop), Kc (a₁ v) W →
      assign.wpIn (Fe.inRound l) m P (Exit.then Kc (fun _ _ _ => False)) { tmps := (#[p].zip #[v]).foldl (fun t (p, v) => t.setIfInBounds p v) a.tmps, defers := [] } W)
    (hbody : ∀ (m l : Nat) (pre : List (List Int)) (x : List Int) (v : Value) (W : World), pre ++ [x] <+: S → I pre W → RowF (w.heap.size + 2) W v x → body.wpIn (Fe.inRound l) m P (iterPost K I Ix (pre ++ [x]) W) (a₁ v) W)
    (hdone : ∀ (D : Nat) (W : World), w.heap.size ≤ D → I S W → W.heap[D]? = some (.deferred (some [])) → Q .normal { a with defers := { target := .collected D, args := #[] } :: a.defers } W)
    (hstop : ∀ (D : Nat) (c : Code) (pre : List (List Int)) (W : World), w.heap.size ≤ D → pre ≠ [] → pre <+: S → Ix c pre W → W.heap[D]? = some (.deferred (some [])) → c.wpIn Fe n P Q { a with defers := { target := .collected D, args := #[] } :: a.defers } W) :
    (Code.rangeFunc g #[p] assign body).wpIn Fe n P Q a w := by
  refine wpIn_rangeFunc fun fn hfn => ?_
  rw [hro]
  -- the record of the loop, as it lies at the block behind the one for the deferred calls
  obtain ⟨rc, hrc⟩ : ∃ rc : LoopState → Option Code → Loop, rc = fun st pe => { state := st, pending := pe, fn, tmps := a.tmps, params := #[p], assign, body, defers := w.heap.size } := ⟨_, rfl⟩
  obtain ⟨W1, hW1⟩ : ∃ W1, (w.alloc (.deferred (some []))).alloc (.loop (rc .ready none)) = W1 := ⟨_, rfl⟩
  have hsz : W1.heap.size = w.heap.size + 2 := by rw [← hW1]; simp
  have hL : W1.heap[w.heap.size + 1]? = some (.loop (rc .ready none)) := by
    rw [← hW1]; have := World.alloc_heap_new (w.alloc (.deferred (some []))) (.loop (rc .ready none)); rwa [World.size_alloc] at this
  have hD : W1.heap[w.heap.size]? = some (.deferred (some [])) := by
    rw [← hW1]; exact (Below.heap_alloc _ _ _ (by simp)).trans (World.alloc_heap_new w _)
  have hI1 : I [] W1 := by rw [← hW1]; exact hIp _ _ _ h0 ((Soft.alloc (Nat.le_refl _) _).trans (Soft.alloc (by simp) _))
  refine ⟨w.heap.size + 1, [{ target := .collected w.heap.size, args := #[] }], W1, { target := .fn (.func gf) lb, args := #[.func (.yield (w.heap.size + 1)) #[] #[]] }, W1, gf,
    #[.func (.yield (w.heap.size + 1)) #[] #[]] ++ lb, W1, ?_, ?_, ?_, ?_, fun _ => h1, ?_⟩
  · rw [← hW1, hrc]; exact run_enterLoop_outer _ _ _ _ _
  · simp only [resolve, hg]
    simp [go_sem]
  · intro f' hf'; simp [Target.leads] at hf'; subst hf'; exact hFg
  · simp [invoke, go_sem, eg]
  · have other : ∀ {W W' : World} {q : Nat} {o : Obj}, StepI (w.heap.size + 2) W W' → q < w.heap.size + 2 → W.heap[q]? = some o → W'.heap[q]? = some o := fun hs hq ho => (hs.below.block _ hq).trans ho
    refine (hseq (w.heap.size + 1)
      (fun pre W => I pre W ∧ W.heap[w.heap.size + 1]? = some (.loop (rc .ready none)) ∧ W.heap[w.heap.size]? = some (.deferred (some [])))
      (fun pre W => ∃ c, Ix c pre W ∧ W.heap[w.heap.size + 1]? = some (.loop (rc .done (some c))) ∧ W.heap[w.heap.size]? = some (.deferred (some [])))
      (fun s W W' h hs => ⟨hIs _ _ _ h.1 hs, other hs (by omega) h.2.1, other hs (by omega) h.2.2⟩)
      (fun s W W' h hs => by
        obtain ⟨c, hc, hl, hd⟩ := h
        exact ⟨c, hXs _ _ _ _ hc hs, other hs (by omega) hl, other hs (by omega) hd⟩)
      ?_ W1 hsz ⟨hI1, hL, hD⟩ (by rw [← hW1]; exact hE _ _)).mono ?_
    · rintro m pre x v W hpS ⟨hi, hl, hk⟩ hrow
      have hy := run_yield (P := P) (args := #[v]) hl (by rw [hrc]; rfl)
      rw [hrc] at hy
      refine ⟨fn, _, assign, body, hy, roundIn_of_wpIn hfn ?_⟩
      refine hassign m (w.heap.size + 1) v W _ ?_
      refine ⟨_, run_beginRound hl (by rw [hrc]), ?_⟩
      obtain ⟨W2, hW2⟩ : ∃ W2, W.putObj (w.heap.size + 1) (.loop { rc .ready none with state := .busy }) = W2 := ⟨_, rfl⟩
      have s2 : Soft w.heap.size W W2 := by rw [← hW2]; exact Soft.putObj hl rfl (by omega)
      have k2 : KeepsK K W W2 := by
        rw [← hW2]
        exact ⟨by simp [World.putObj], fun q hq hlt => World.putObj_heap_other (fun e => hK (e ▸ hq))⟩
      have hl2 : W2.heap[w.heap.size + 1]? = some (.loop { rc .ready none with state := .busy }) := by rw [← hW2]; exact World.putObj_heap_same (blk_lt hl)
      have hd2 : W2.heap[w.heap.size]? = some (.deferred (some [])) := by rw [← hW2]; exact (World.putObj_heap_other (by omega)).trans hk
      rw [hW2]
      refine wpIn_mono (hbody m _ pre x v W2 hpS (hIp _ _ _ hi s2) (hrow.soft s2)) ?_
      have fin : ∀ (jump : Option Code) (W3 : World), KeepsOthers W2 W3 → KeepsK K W2 W3 → ∃ W4, (Instr.endRound (w.heap.size + 1) jump).run P W3 = .ok (.bool jump.isNone) W4 ∧ Soft w.heap.size W3 W4 ∧ KeepsK K W W4 ∧
          W4.heap[w.heap.size + 1]? = some (.loop (rc (if jump.isNone then .ready else .done) jump)) ∧ W4.heap[w.heap.size]? = some (.deferred (some [])) := fun jump W3 hko hkk => by
        have hl3 := hko.same _ _ hl2 rfl
        have hr := run_endRound (P := P) jump hl3
        refine ⟨_, hr, Soft.putObj hl3 rfl (by omega), (k2.trans hkk).trans (KeepsK.putObj hK _), ?_, (World.putObj_heap_other (by omega)).trans (hko.same _ _ hd2 rfl)⟩
        rw [World.putObj_heap_same (blk_lt hl3), hrc]
      rintro e a3 W3 hp
      cases e with
      | normal =>
        obtain ⟨q1, q2, q3⟩ := hp
        obtain ⟨W4, r1, r2, r3, r4, r5⟩ := fin none W3 q1 q2
        exact ⟨_, _, r1, r3, .inl ⟨rfl, hIp _ _ _ q3 r2, r4, r5⟩⟩
      | ret =>
        obtain ⟨q1, q2, q3⟩ := hp
        obtain ⟨W4, r1, r2, r3, r4, r5⟩ := fin (some .ret) W3 q1 q2
        exact ⟨_, _, r1, r3, .inr ⟨rfl, .ret, hXp _ _ _ _ q3 r2, r4, r5⟩⟩
      | exit id =>
        obtain ⟨q1, q2, q3⟩ := hp
        obtain ⟨W4, r1, r2, r3, r4, r5⟩ := fin (some (.exit id)) W3 q1 q2
        exact ⟨_, _, r1, r3, .inr ⟨rfl, .exit id, hXp _ _ _ _ q3 r2, r4, r5⟩⟩
      | goto t =>
        obtain ⟨q1, q2, q3⟩ := hp
        obtain ⟨W4, r1, r2, r3, r4, r5⟩ := fin (some (.goto t)) W3 q1 q2
        exact ⟨_, _, r1, r3, .inr ⟨rfl, .goto t, hXp _ _ _ _ q3 r2, r4, r5⟩⟩
      | panic ch => exact hp.elim
      | outgrown => exact hp.elim
    · rintro e W2 ⟨⟨v, rfl⟩, (⟨hi, hl, hk⟩ | ⟨pre, hne, hpre, c, hi, hl, hk⟩)⟩
      · have hr := run_endLoop (P := P) hl (by rw [hrc]; simp)
        rw [hrc] at hr
        exact ⟨none, _, hr, hdone _ _ (Nat.le_refl _) (hIp _ _ _ hi (Soft.putObj hl rfl (by omega))) ((World.putObj_heap_other (by omega)).trans hk)⟩
      · have hr := run_endLoop (P := P) hl (by rw [hrc]; simp)
        rw [hrc] at hr
        exact ⟨some c, _, hr, hstop _ c pre _ (Nat.le_refl _) hne hpre (hXp _ _ _ _ hi (Soft.putObj hl rfl (by omega))) ((World.putObj_heap_other (by omega)).trans hk)⟩
end Go.Proofs.Ytpckfllalpiliaa.G
namespace Go.Proofs.Ytpckfllalpiliaa.G
open Go.RowKit Go.Proofs.YtpckfllalpiliaaW.PrintWords
theorem R_of_RowF {B : Nat} {W : World} {v : Value} {l : List Int} (h : RowF B W v l) : Kd.R (Kd.int .i64) 3 W B (fun _ => True) v l := by
  rcases h with ⟨rfl, rfl⟩ | ⟨g, cap, cs, rfl, hB, ⟨h1, h5, h6⟩, h2, h3, h4⟩
  · exact Kd.R_nil _ _ _ _ _
  · refine Kd.R_of_own ⟨by simp [encs], .inr ⟨g, cap, cs, rfl, hB, h3, h1, by simpa [maxLen] using h6, by omega, ?_⟩⟩ (fun _ _ => trivial)
    apply List.ext_getElem?
    intro i
    rw [Nat.mul_one, List.getElem?_take, encs, List.getElem?_map]
    by_cases hi : i < l.length
    · rw [if_pos hi, Array.getElem?_toList, h4 i hi, rd, Int.toNat_natCast, List.getD_eq_getElem?_getD, List.getElem?_eq_getElem hi]; rfl
    · rw [if_neg hi, List.getElem?_eq_none (by omega)]; rfl
end Go.Proofs.Ytpckfllalpiliaa.G
