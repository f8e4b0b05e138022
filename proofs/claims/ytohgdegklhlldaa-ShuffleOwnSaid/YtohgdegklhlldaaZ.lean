/- ShuffleOwn: its call answers true at every input. -/
import Derived.Test.YtohgdegklhlldaaL1
import Derived.Test.YtohgdegklhlldaaP3
namespace Go.Proofs.Ytohgdegklhlldaa.G
open Go.RowKit Go.Proofs.YtohgdegklhlldaaW.PrintWords

theorem shuffleOwn_walk (a0 : Int) (A1 : Option Addr) (c1 : Nat) (l1 : List Int) (w : World) (hw0 : (Lit.int .i64 a0).wf = true) (hr1 : Kd.C (Kd.int .i64) w A1 l1.length l1) (hc1 : l1.length ≤ c1)
    (_ : l1.length ≤ maxLen) (_ : l1.length * 8 ≤ 140737488351232) (_ : ∀ x ∈ l1, (Lit.int .i64 x).wf = true) :
    Calls Try.prog 3 #[.int .i64 a0, .slice A1 l1.length c1] w fun e w' => e = .returned (.bool true) ∧ Below w.heap.size w w' := by
  obtain ⟨t, h0, ht0, ht1⟩ := mod_ev a0 63 (by decide) (by decide)
  have hm : 2 + t = ((2 + t.toNat : Nat) : Int) := by omega
  obtain ⟨m, hm'⟩ : ∃ m : Nat, 2 + t.toNat = m := ⟨_, rfl⟩
  rw [hm'] at hm
  have hm1 : 2 ≤ m := by omega
  have hm2 : m ≤ 64 := by omega
  obtain ⟨l, ⟨k2, h2⟩, hl1, hl2⟩ := tame_ev m l1 (by omega) (by omega)
  have hf := valV_rem m l (by omega) hm2 hl2
  have hfl := valV_len m l
  obtain ⟨k4, h4⟩ := values_ev m hm1 hm2 l hl2 hl1
  obtain ⟨c, k6, h6⟩ := form_ev m hm1 hm2 l hl2
  obtain ⟨a, k7, h7⟩ := after_ev m hm1 hm2 _ hf hfl
  obtain ⟨ps, fs, ⟨k8, h8⟩, hs1, hs2, hs3, hs4, hs5⟩ := split_ev m hm1 hm2 l hl2 hl1
  obtain ⟨k9, h9⟩ := ints_ev l (by omega)
  obtain ⟨k10, h10⟩ := ints_ev (valV m l) (by omega)
  obtain ⟨k11, h11⟩ := refvalues_ev m hm1 hm2 l hl2 hl1
  obtain ⟨k13, h13⟩ := listed_ev m hm1 _ hs4 (by omega)
  obtain ⟨k14, h14⟩ := awake_ev
  have hle : ∀ x ∈ [k2, k4, k6, k7, k8, k9, k10, k11, k13, k14], x ≤ k2 + k4 + k6 + k7 + k8 + k9 + k10 + k11 + k13 + k14 := by
    intro x hx
    simp only [List.mem_cons, List.not_mem_nil, or_false] at hx
    omega
  generalize k2 + k4 + k6 + k7 + k8 + k9 + k10 + k11 + k13 + k14 = k at hle
  simp only [List.forall_mem_cons] at hle
  obtain ⟨q2, q4, q6, q7, q8, q9, q10, q11, q13, q14, _⟩ := hle
  exact own_head a0 A1 c1 l1 w hr1 hc1 k t m l (valV m l) c a 0 ps fs [] h0 ⟨ht0, by omega⟩ hm (h2 k q2)
    (by unfold galloonlaw06_list.f; rw [List.take_of_length_le (by omega)]) (h4 k q4) (by unfold galloonlaw06_list.f; rw [List.take_of_length_le (by omega)])
    (h6 k q6) (h7 k q7) (h8 k q8) (h9 k q9) (h10 k q10) (h11 k q11) (by omega) (h13 k q13) (h14 k q14) (by omega) (by omega)
end Go.Proofs.Ytohgdegklhlldaa.G
