/- RemnantBounds: its call answers true at every input. -/
import Derived.Test.YtpckfllalpiliaaL1
import Derived.Test.YtpckfllalpiliaaP2
import Derived.Test.YtpckfllalpiliaaP3
namespace Go.Proofs.Ytpckfllalpiliaa.G
open Go.RowKit Go.Proofs.YtpckfllalpiliaaW.PrintWords

theorem remnantBounds_walk (a0 : Int) (A1 : Option Addr) (c1 : Nat) (l1 : List Int) (a2 : Int) (w : World) (_ : (Lit.int .i64 a0).wf = true) (hr1 : Kd.C (Kd.int .i64) w A1 l1.length l1) (hc1 : l1.length ≤ c1)
    (_ : l1.length ≤ maxLen) (_ : l1.length * 8 ≤ 140737488351232) (_ : ∀ x ∈ l1, (Lit.int .i64 x).wf = true) (_ : (Lit.int .i64 a2).wf = true) :
    Calls Try.prog 3 #[.int .i64 a0, .slice A1 l1.length c1, .int .i64 a2] w fun e w' => e = .returned (.bool true) ∧ Below w.heap.size w w' := by
  obtain ⟨room, l, ⟨k1, h1⟩, hp⟩ := tame_ev a0 l1 12 (by decide)
  have r0 := hp.room0
  have r1 := hp.room1
  obtain ⟨wt, at_, p, m, ⟨k2, h2⟩, ha0, ha1, hw, hmax, ⟨k3, h3⟩, hwm, hml, hpk, -, -⟩ := best_ev hp (by decide)
  obtain ⟨t, h4, ht0, ht1⟩ := mod_ev a2 (room / 2 + 1) (by omega) (by omega)
  obtain ⟨k5, h5⟩ := Weigh_ev hp (by decide) (a := t) ht0 (by omega)
  obtain ⟨k6, h6⟩ := Weigh_ev hp (by decide) (a := at_) ha0 ha1
  obtain ⟨y, Tb, g, ⟨k7, h7⟩⟩ := fill_ev hp (by decide)
  obtain ⟨k8, h8⟩ := sum_ev hp (by decide)
  have hpos : 0 < 2 ^ l.length := Nat.two_pow_pos _
  have hb := g.bd hp (2 ^ l.length - 1) (by omega)
  have hle := g.le hp (2 ^ l.length - 1) (by omega)
  have hsum := hp.sum
  have hlen := hp.len
  have hpl := hpk.sum_le
  generalize (Tb (2 ^ l.length - 1)).f0 = kk at *
  refine bounds_head a0 A1 c1 l1 a2 w hr1 hc1 (k1 + k2 + k3 + k5 + k6 + k7 + k8) room l p y m wt at_ t (weighV room t l) kk l.sum (h1 _ (by omega)) (h3 _ (by omega)) (h2 _ (by omega)) h4 (h5 _ (by omega)) (by rw [hw]; exact h6 _ (by omega)) (h7 _ (by omega)) (h8 _ (by omega)) ⟨r0, r1⟩ (by omega) hwm ?_ (hmax t ht0 (by omega)) ?_ hb.1 hle.2
  · have h0 := hmax 0 (by omega) (by omega)
    have h00 := weighV_sum r0 hp.mem
    omega
  · exact Int.le_of_mul_le_mul_right (show kk * room ≤ (m : Int) * room by omega) (by omega)
end Go.Proofs.Ytpckfllalpiliaa.G
