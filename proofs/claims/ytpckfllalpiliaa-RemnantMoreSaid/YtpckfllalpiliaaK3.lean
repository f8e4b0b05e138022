/- packings, and the iterator that it gives. -/
import Derived.Laws.EntriesVeiled
import Derived.Test.YtpckfllalpiliaaK2
namespace Go.Proofs.Ytpckfllalpiliaa.G
open Go.RowKit Go.Shelf Go.Proofs.YtpckfllalpiliaaW.PrintWords
attribute [local go_sem] Oper.semAt_some
set_option linter.unusedVariables false

theorem packCalls (room most : Int) (A : Option Addr) (n cp : Nat) (w : World) :
    Calls Try.prog 24 #[.int .i64 room, .slice A n cp, .int .i64 most] w fun e w' => e = .returned (.func (.func 41) #[] #[.pointer (some ⟨w.heap.size + 1, 0, none⟩), .pointer (some ⟨w.heap.size + 2, 0, none⟩), .pointer (some ⟨w.heap.size, 0, none⟩)]) ∧
      w' = ((w.alloc (.cells #[.int .i64 room] 3)).alloc (.cells #[.slice A n cp] 22)).alloc (.cells #[.int .i64 most] 3) := by
  have hmf : ∀ (fn : Fn) (first cap : Array Value) (w : World), (Instr.makeFunc fn first cap).run Try.prog w = .ok (.func fn first cap) w := fun _ _ _ _ => rfl
  go_enter Try.func24, Try.ntmps24
  go_wp2
  go_ret
  exact ⟨rfl, rfl⟩

/-- what the user of the iterator leaves -/
def PackK (ps : List Int) (A : Option Addr) (B pB mB rB : Nat) (q : Nat) : Prop := B ≤ q ∨ q = pB ∨ q = mB ∨ q = rB ∨ ∃ a, A = some a ∧ 0 < ps.length ∧ q = a.block
/-- what the iterator asks of the memory it begins in -/
structure PackW (ps : List Int) (A : Option Addr) (cp : Nat) (room most : Int) (pB mB rB : Nat) (W : World) : Prop where
  pieces : W.heap[pB]? = some (.cells #[.slice A ps.length cp] 22 (0, 0))
  most_ : W.heap[mB]? = some (.cells #[.int .i64 most] 3 (0, 0))
  room_ : W.heap[rB]? = some (.cells #[.int .i64 room] 3 (0, 0))
  row : Kd.C (Kd.int .i64) W A ps.length ps

set_option maxHeartbeats 4000000 in
set_option maxRecDepth 100000 in
theorem packIter (ps : List Int) (A : Option Addr) (cp : Nat) (room most : Int) (pB mB rB B m : Nat) (hpB : pB < B) (hmB : mB < B) (hrB : rB < B)
    (hroom : 0 ≤ room ∧ room ≤ 100) (hmost : 0 ≤ most ∧ most ≤ 12) (hps : ∀ s ∈ ps, 1 ≤ s ∧ s ≤ room) (hpl : ps.length ≤ 12) :
    IterC Fence.wide m Try.prog 41 #[.pointer (some ⟨pB, 0, none⟩), .pointer (some ⟨mB, 0, none⟩), .pointer (some ⟨rB, 0, none⟩)] (PackK ps A B pB mB rB) (packX room most ps [] (List.replicate 12 0) 0) B (PackW ps A cp room most pB mB rB) := by
  intro l J Jx hJ hJx hY W hWB hJ0 hE
  have hmf : ∀ (fn : Fn) (first cap : Array Value) (w : World), (Instr.makeFunc fn first cap).run Try.prog w = .ok (.func fn first cap) w := fun _ _ _ _ => rfl
  have HY := Aside0.mk hY
  have HJ0 := Aside0.mk hJ0
  have HE := Aside0.mk hE
  have HP := Aside0.mk hps
  clear hY hJ0 hE hps
  subst hWB
  obtain ⟨W0, hW0⟩ : ∃ W0, (W.alloc (.cells #[.func (.yield l) #[] #[]] 68)).alloc (.cells (cells12 (List.replicate 12 0)) 63) = W0 := ⟨_, rfl⟩
  have hs0 : W0.heap.size = W.heap.size + 2 := by rw [← hW0]; simp
  have hb1 : (W0.alloc (.cells #[Value.nilFunc] 69)).heap[W.heap.size + 2]? = some (.cells #[Value.nilFunc] 69 (0, 0)) := by
    have h := blk_new W0 (.cells #[Value.nilFunc] 69)
    rwa [hs0] at h
  have c1 := (blk_cell hb1 0).trans (show (#[Value.nilFunc] : Array Value)[0]? = some Value.nilFunc from rfl)
  have f1 := blk_frozen hb1 0
  have HB1 := Aside0.mk hb1
  have HW0 := Aside0.mk hW0
  have HS0 := Aside0.mk hs0
  clear hb1 hW0
  refine callsIn_of_wp Try.func41 rfl trivial ?_ rfl
  simp only [Try.ntmps41, List.size_toArray, List.length_cons, List.length_nil, Nat.reduceAdd, Nat.reduceSub, Array.replicate_succ, Array.replicate_zero, List.push_toArray, List.append_toArray, List.nil_append, List.cons_append]
  gi_wp2_with fail
  obtain ⟨W2, hW2⟩ : ∃ W2, (((W.alloc (.cells #[.func (.yield l) #[] #[]] 68)).alloc (.cells (cells12 (List.replicate 12 0)) 63)).alloc (.cells #[.func (.func 42) #[] #[.pointer (some ⟨pB, 0, none⟩), .pointer (some ⟨W.heap.size, 0, none⟩), .pointer (some ⟨mB, 0, none⟩), .pointer (some ⟨W.heap.size + 1, 0, none⟩), .pointer (some ⟨rB, 0, none⟩), .pointer (some ⟨W.heap.size + 2, 0, none⟩)]] 69)) = W2 := ⟨_, rfl⟩
  have hW2' : (((W.alloc (.cells #[.func (.yield l) #[] #[]] 68)).alloc (.cells #[.int .i64 0, .int .i64 0, .int .i64 0, .int .i64 0, .int .i64 0, .int .i64 0, .int .i64 0, .int .i64 0, .int .i64 0, .int .i64 0, .int .i64 0, .int .i64 0] 63)).alloc (.cells #[.func (.func 42) #[] #[.pointer (some ⟨pB, 0, none⟩), .pointer (some ⟨W.heap.size, 0, none⟩), .pointer (some ⟨mB, 0, none⟩), .pointer (some ⟨W.heap.size + 1, 0, none⟩), .pointer (some ⟨rB, 0, none⟩), .pointer (some ⟨W.heap.size + 2, 0, none⟩)]] 69)) = W2 := hW2
  rw [hW2']
  have e0 : W2.heap[W.heap.size]? = some (.cells #[.func (.yield l) #[] #[]] 68 (0, 0)) := by rw [← hW2]; exact blk_alloc (blk_alloc (blk_new W _) _) _
  have e1 : W2.heap[W.heap.size + 1]? = some (.cells (cells12 (List.replicate 12 0)) 63 (0, 0)) := by
    rw [← hW2]
    have h := blk_new (W.alloc (.cells #[.func (.yield l) #[] #[]] 68)) (.cells (cells12 (List.replicate 12 0)) 63 (0, 0))
    rw [World.size_alloc] at h
    exact blk_alloc h _
  have e2 : W2.heap[W.heap.size + 2]? = some (.cells #[.func (.func 42) #[] #[.pointer (some ⟨pB, 0, none⟩), .pointer (some ⟨W.heap.size, 0, none⟩), .pointer (some ⟨mB, 0, none⟩), .pointer (some ⟨W.heap.size + 1, 0, none⟩), .pointer (some ⟨rB, 0, none⟩), .pointer (some ⟨W.heap.size + 2, 0, none⟩)]] 69 (0, 0)) := by
    rw [← hW2, HW0.out]
    have h := blk_new W0 (.cells #[.func (.func 42) #[] #[.pointer (some ⟨pB, 0, none⟩), .pointer (some ⟨W.heap.size, 0, none⟩), .pointer (some ⟨mB, 0, none⟩), .pointer (some ⟨W.heap.size + 1, 0, none⟩), .pointer (some ⟨rB, 0, none⟩), .pointer (some ⟨W.heap.size + 2, 0, none⟩)]] 69 (0, 0))
    rwa [HS0.out] at h
  have hbl : Below W.heap.size W W2 := by
    rw [← hW2]; exact (((Below.refl _ W).alloc (Nat.le_refl _) _).alloc (by simp) _).alloc (by simp; omega) _
  have hinner : ∀ q, ((W.heap.size ≤ q ∧ q ≠ W.heap.size + 1) ∨ q = pB ∨ q = mB ∨ q = rB ∨ ∃ a, A = some a ∧ 0 < ps.length ∧ q = a.block) ∨ q = W.heap.size + 1 → PackK ps A W.heap.size pB mB rB q := by
    intro q hq
    rcases hq with (⟨h, -⟩ | h) | h
    · exact .inl h
    · exact .inr h
    · exact .inl (by omega)
  have hE' : PackE ps A cp room most l pB W.heap.size mB (W.heap.size + 1) rB (W.heap.size + 2) (List.replicate 12 0) W2 :=
    ⟨blk_below HE.out.pieces hbl, e0, blk_below HE.out.most_ hbl, e1, blk_below HE.out.room_ hbl, e2, Kd.C_below HE.out.row hbl⟩
  have hKx : ¬ ((W.heap.size ≤ W.heap.size + 1 ∧ W.heap.size + 1 ≠ W.heap.size + 1) ∨ W.heap.size + 1 = pB ∨ W.heap.size + 1 = mB ∨ W.heap.size + 1 = rB ∨ ∃ a, A = some a ∧ 0 < ps.length ∧ W.heap.size + 1 = a.block) := by
    rintro (⟨-, h⟩ | h | h | h | ⟨a, rfl, h0, h⟩)
    · exact h rfl
    · omega
    · omega
    · omega
    · obtain ⟨-, -, h3⟩ := Kd.reads_of_C (d := (0 : Int)) HE.out.row
      obtain ⟨ad, e, hc⟩ := h3 h0
      cases e
      have := cell_lt (hc 0 h0)
      rw [addr_block] at this
      omega
  refine ⟨trivial, fun h => by simp [Fence.wide] at h, (pack_ext ps A cp room most l pB W.heap.size mB (W.heap.size + 1) rB (W.heap.size + 2) W.heap.size (fun q => (W.heap.size ≤ q ∧ q ≠ W.heap.size + 1) ∨ q = pB ∨ q = mB ∨ q = rB ∨ ∃ a, A = some a ∧ 0 < ps.length ∧ q = a.block)
    (fun q h1 h2 => .inl ⟨h1, h2⟩) hKx (.inr (.inl rfl)) (.inr (.inr (.inl rfl))) (.inr (.inr (.inr (.inl rfl)))) (fun a ha h0 => .inr (.inr (.inr (.inr ⟨a, ha, h0, rfl⟩)))) ⟨Nat.le_refl _, by omega⟩ ⟨by omega, by omega⟩ (by omega)
    hroom hmost HP.out hpl J Jx hJ hJx (packX room most ps [] (List.replicate 12 0) 0) (fun m pre x v W1 h1 h2 h3 => (HY.out m pre x v W1 h1 h2 h3).mono (fun e W' h => ⟨h.1.mono hinner, h.2⟩)) ps (m - 1) [] (.slice none 0 0) 0 [] (List.replicate 12 0) W2 rfl (by simp) (by simp) ?_ (by omega) (by simp) hbl.size (by rw [List.nil_append]; exact List.prefix_refl _) (.inl ⟨rfl, rfl⟩) (hJ _ _ _ HJ0.out (StepI.of_below hbl (Nat.le_refl _))) hE').mono ?_⟩
  · intro b
    have : rd (List.replicate 12 0) (b : Int) = 0 := by
      unfold rd
      rw [Int.toNat_natCast, List.getD_eq_getElem?_getD, List.getElem?_replicate]
      split <;> rfl
    omega
  rintro e W3 ⟨⟨hk, b, rfl, hb1, hb2⟩, -⟩
  cases b with
  | true =>
    have HB := Aside0.mk (hb1 rfl)
    clear hb1 hb2
    gi_wp2
    go_end0
    exact ⟨⟨_, rfl⟩, .inl HB.out⟩
  | false =>
    have HB := Aside0.mk (hb2 rfl)
    clear hb1 hb2
    obtain ⟨p, hp1, hp2, hp3⟩ := HB.out
    have HP := Aside0.mk hp3
    clear hp3
    gi_wp2
    go_end0
    exact ⟨⟨_, rfl⟩, .inr ⟨p, hp1, hp2, HP.out⟩⟩
end Go.Proofs.Ytpckfllalpiliaa.G
