/- RemnantMore: its call answers true at every input. -/
import Derived.Test.YtpckfllalpiliaaL2
import Derived.Test.YtpckfllalpiliaaP5
namespace Go.Proofs.Ytpckfllalpiliaa.G
open Go.RowKit Go.Proofs.YtpckfllalpiliaaW.PrintWords
set_option linter.unusedVariables false

theorem ways_f {room : Int} {l : List Int} {n : Nat} (h : Pcs room l n) (hn : n ≤ 12) : remnant_Ways.f room l = some (waysV room (sumsL l) (2 ^ l.length - 1), 0) := by
  unfold remnant_Ways.f; rw [if_pos (h.pieces hn)]
theorem remnantMore_walk (a0 : Int) (A1 : Option Addr) (c1 : Nat) (l1 : List Int) (a2 : Int) (w : World) (_ : (Lit.int .i64 a0).wf = true) (hr1 : Kd.C (Kd.int .i64) w A1 l1.length l1) (hc1 : l1.length ≤ c1)
    (_ : l1.length ≤ maxLen) (_ : l1.length * 8 ≤ 140737488351232) (_ : ∀ x ∈ l1, (Lit.int .i64 x).wf = true) (_ : (Lit.int .i64 a2).wf = true) :
    Calls Try.prog 4 #[.int .i64 a0, .slice A1 l1.length c1, .int .i64 a2] w fun e w' => e = .returned (.bool true) ∧ Below w.heap.size w w' := by
  obtain ⟨room, l, ⟨k1, h1⟩, hp⟩ := tame_ev a0 l1 11 (by decide)
  have r0 := hp.room0
  have r1 := hp.room1
  have hlen := hp.len
  obtain ⟨t, ht, ht0, ht1⟩ := mod_ev a2 room (by omega) (by omega)
  have hx : 1 ≤ 1 + t ∧ 1 + t ≤ room := by omega
  have hm := hp.snoc hx
  have hf := hp.snoc (x := room) ⟨r0, Int.le_refl _⟩
  have hsl : (l ++ [1 + t]).length = l.length + 1 := by simp
  have hsf : (l ++ [room]).length = l.length + 1 := by simp
  obtain ⟨w1, at1, b1, n, ⟨k2, h2⟩, p1, p2, p3, p4, ⟨k3, h3⟩, p5, p6, p7, p8, -⟩ := best_ev hp (by decide)
  obtain ⟨w2, at2, b2, m, ⟨k4, h4⟩, q1, q2, q3, q4, ⟨k5, h5⟩, q5, q6, q7, q8, -⟩ := best_ev hm (by decide)
  obtain ⟨hnm, hmn⟩ := best_more hp hx ⟨at1, p1, p2, p3⟩ ⟨at2, q1, q2, q3⟩ p4 q4 p5 p7 p8 q5 q7 q8
  obtain ⟨y1, Tb, g1, ⟨k6, h6⟩⟩ := fill_ev hp (by decide)
  obtain ⟨y2, Tc, g2, ⟨k7, h7⟩⟩ := fill_ev hm (by decide)
  have hpp : 0 < 2 ^ l.length := Nat.two_pow_pos _
  have hpw : 2 ^ (l.length + 1) = 2 ^ l.length + 2 ^ l.length := by rw [Nat.pow_succ]; omega
  have hW1 := ways_f hp (by decide)
  have hW2 := ways_f hm (by decide)
  have hW3 := ways_f hf (by decide)
  have hm1 := ways_more hp hx (2 ^ l.length - 1) (by omega)
  have hm2 := (ways_more hp (x := room) ⟨r0, Int.le_refl _⟩ (2 ^ l.length - 1) (by omega)).2 rfl
  rw [hsl] at hW2 h7 g2
  rw [hsf] at hW3
  have ef : 2 ^ (l.length + 1) - 1 = 2 ^ l.length - 1 + 2 ^ l.length := by omega
  rw [ef] at hW2 hW3 h7
  rw [hm2] at hW3
  have hfm := fill_more hp hx g1 g2 (2 ^ l.length - 1) (by omega)
  have hb := g1.bd hp (2 ^ l.length - 1) (by omega)
  have hle := g1.le hp (2 ^ l.length - 1) (by omega)
  have hfm2 := hfm.2
  unfold LexLe pr at hfm2
  simp only at hfm2
  refine more_head a0 A1 c1 l1 a2 w hr1 hc1 (k1 + k2 + k3 + k4 + k5 + k6 + k7) room l _ _ b1 b2 y1 y2 t n m _ _ _ _ rfl rfl (h1 _ (by omega)) ht hlen ⟨r0, r1⟩ ⟨ht0, ht1⟩ (h3 _ (by omega)) (h5 _ (by omega)) hW1 hW2 hW3 (h6 _ (by omega)) (h7 _ (by omega)) (by omega) (by omega) hm1.1 hfm.1 (by omega) (by omega) (by omega)
end Go.Proofs.Ytpckfllalpiliaa.G
