/- Plain Lean: what the functions of ShuffleOwn compute (all but the form). -/
import Derived.Test.YtohgdegklhlldaaE
import Derived.Test.YtohgdegklhlldaaG2x
import Derived.Test.YtohgdegklhlldaaH1
import Derived.Test.YtohgdegklhlldaaH2
namespace Go.Proofs.Ytohgdegklhlldaa.G
open Go.RowKit Go.Proofs.YtohgdegklhlldaaW.PrintWords Go.Proofs.YtohgdegklhlldaaW.PrintMore
set_option linter.unusedVariables false

theorem u64_wrap (n : Int) : IntKind.u64.wrap n = n % 18446744073709551616 := by
  simp [IntKind.wrap, IntKind.signed, IntKind.bits]

theorem mod_ev (a m : Int) (h1 : 1 ≤ m) (h2 : m ≤ 1000) : ∃ t, galloonlaw06_mod.f a m = some t ∧ 0 ≤ t ∧ t < m := by
  unfold galloonlaw06_mod.f
  rw [u64_wrap, u64_wrap, show m % 18446744073709551616 = m by omega, if_neg (by omega)]
  have h := Int.emod_nonneg a (show (18446744073709551616 : Int) ≠ 0 by decide)
  rw [tmod_emod h]
  have ha := Int.emod_nonneg (a % 18446744073709551616) (show m ≠ 0 by omega)
  have hb := Int.emod_lt_of_pos (a % 18446744073709551616) (show 0 < m by omega)
  exact ⟨_, rfl, by rw [w64 (by omega)]; exact ⟨ha, hb⟩⟩

/-- remainders of m -/
def Rem (m : Int) (l : List Int) : Prop := ∀ x ∈ l, 0 ≤ x ∧ x < m

theorem tame_ev (m : Int) (l : List Int) (hm : 1 ≤ m) (hm2 : m ≤ 1000) : ∃ r, Ev (fun k => galloonlaw06_tame.f k m l) r ∧ r.length ≤ 12 ∧ Rem m r := by
  have main : ∀ (d i : Nat) (acc : List Int), i + d = 12 → acc.length = i → Rem m acc → ∃ r, Ev (fun k => galloonlaw06_tame.l0 k m l acc i) r ∧ r.length ≤ 12 ∧ Rem m r := by
    intro d
    induction d with
    | zero =>
      intro i acc hi hl hr
      refine ⟨acc, Ev.step ?_, by omega, hr⟩
      simp only [galloonlaw06_tame.l0]
      by_cases h : (i : Int) < l.length
      · exact Ev.pos h (Ev.neg (by omega) (Ev.const _))
      · exact Ev.neg h (Ev.const _)
    | succ d ih =>
      intro i acc hi hl hr
      by_cases h : (i : Int) < l.length
      · obtain ⟨t, ht, ht0, ht1⟩ := mod_ev (rd l i) m hm hm2
        obtain ⟨r, hr1, hr2, hr3⟩ := ih (i + 1) (acc ++ [t]) (by omega) (by simp [hl]) (fun x hx => by
          rcases List.mem_append.1 hx with hx | hx
          · exact hr x hx
          · rw [List.mem_singleton.1 hx]; exact ⟨ht0, ht1⟩)
        refine ⟨r, Ev.step ?_, hr2, hr3⟩
        simp only [galloonlaw06_tame.l0]
        refine Ev.pos h (Ev.pos (by omega) (Ev.pos (by omega) (Ev.bindc ht (Ev.pos (by omega) ?_))))
        rw [w64 (by omega)]
        exact hr1
      · refine ⟨acc, Ev.step ?_, by omega, hr⟩
        simp only [galloonlaw06_tame.l0]
        exact Ev.neg h (Ev.const _)
  exact main 12 0 [] rfl rfl (fun x hx => by cases hx)

/-- the value at x, as shuffle.at tells it -/
def atV (m : Int) (l : List Int) (x : Int) : Int := l.foldr (fun c out => atS m x out c) 0
theorem at_f (m : Int) (l : List Int) (x : Int) (hm : m ≠ 0) : shuffle_at.f m l x = some (atV m l x) := by unfold shuffle_at.f; rw [if_neg hm]; rfl
theorem atV_range (q m : Int) (l : List Int) (x : Int) (hq : 1 ≤ q) (hq2 : q ≤ 64) (hm : m ≤ 64) (hl : Rem m l) (hx : 0 ≤ x) (hx2 : x < 64) : 0 ≤ atV q l x ∧ atV q l x < q := by
  induction l with
  | nil => exact ⟨Int.le_refl _, by show (0 : Int) < q; omega⟩
  | cons c l ih =>
    obtain ⟨h1, h2⟩ := ih (fun y hy => hl y (List.mem_cons_of_mem _ hy))
    obtain ⟨h3, h4⟩ := hl c List.mem_cons_self
    show 0 ≤ atS q x (atV q l x) c ∧ atS q x (atV q l x) c < q
    unfold atS
    have h5 : 0 ≤ atV q l x * x := Int.mul_nonneg h1 hx
    have h6 : atV q l x * x ≤ 64 * 64 := Int.mul_le_mul (by omega) (by omega) hx (by omega)
    rw [w64 (n := atV q l x * x) (by omega), w64 (by omega), tmod_emod (by omega)]
    exact ⟨Int.emod_nonneg _ (by omega), Int.emod_lt_of_pos _ (by omega)⟩
theorem atV_cons (q m : Int) (c : Int) (l : List Int) (x : Int) (hq : 1 ≤ q) (hq2 : q ≤ 64) (hm : m ≤ 64) (hl : Rem m (c :: l)) (hx : 0 ≤ x) (hx2 : x < 64) : atV q (c :: l) x = (atV q l x * x + c) % q := by
  obtain ⟨h1, h2⟩ := atV_range q m l x hq hq2 hm (fun y hy => hl y (List.mem_cons_of_mem _ hy)) hx hx2
  obtain ⟨h3, h4⟩ := hl c List.mem_cons_self
  show atS q x (atV q l x) c = _
  unfold atS
  have h5 : 0 ≤ atV q l x * x := Int.mul_nonneg h1 hx
  have h6 : atV q l x * x ≤ 64 * 64 := Int.mul_le_mul (by omega) (by omega) hx (by omega)
  rw [w64 (n := atV q l x * x) (by omega), w64 (by omega), tmod_emod (by omega)]

/-- the function of a polynomial -/
def valV (m : Nat) (l : List Int) : List Int := (List.range m).map fun x : Nat => atV m l x
theorem valV_len (m : Nat) (l : List Int) : (valV m l).length = m := by simp [valV]
theorem valV_rem (m : Nat) (l : List Int) (hm : 1 ≤ m) (hm2 : m ≤ 64) (hl : Rem m l) : Rem m (valV m l) := by
  intro y hy
  obtain ⟨x, hx, rfl⟩ := List.mem_map.1 hy
  have := List.mem_range.1 hx
  exact atV_range m m l x (by omega) (by omega) (by omega) hl (by omega) (by omega)

theorem isMod (m : Nat) (hm : 2 ≤ m) (hm2 : m ≤ 64) : shuffle_isModulus.f m = some true := by
  unfold shuffle_isModulus.f shuffle_within.f
  rw [if_pos (by omega), decide_eq_true (by omega)]; rfl
theorem areRem (m : Nat) (hm : 2 ≤ m) (hm2 : m ≤ 64) (l : List Int) (hl : Rem m l) : shuffle_areRemainders.f m l = some true := by
  unfold shuffle_areRemainders.f
  rw [w64 (by omega)]
  congr 1
  rw [List.all_eq_true]
  intro x hx
  have := hl x hx
  simp; omega
theorem isPoly (m : Nat) (hm : 2 ≤ m) (hm2 : m ≤ 64) (l : List Int) (hl : Rem m l) (hlen : l.length ≤ 12) : shuffle_isPolynomial.f m l = some true := by
  unfold shuffle_isPolynomial.f
  rw [isMod m hm hm2]
  simp only [Option.bind_some, if_true]
  rw [if_pos (by omega), areRem m hm hm2 l hl]; rfl
theorem isFunc (m : Nat) (hm : 2 ≤ m) (hm2 : m ≤ 64) (l : List Int) (hl : Rem m l) (hlen : l.length = m) : shuffle_isFunction.f m l = some true := by
  unfold shuffle_isFunction.f
  rw [isMod m hm hm2]
  simp only [Option.bind_some, if_true]
  rw [if_pos (by omega), areRem m hm hm2 l hl]; rfl

theorem range_snoc (m : Nat) (g : Nat → Int) : (List.range (m + 1)).map g = (List.range m).map g ++ [g m] := by simp [List.range_succ]

theorem values_ev (m : Nat) (hm : 2 ≤ m) (hm2 : m ≤ 64) (l : List Int) (hl : Rem m l) (hlen : l.length ≤ 12) : Ev (fun k => shuffle_Values.f k m l) (valV m l, 0) := by
  have main : ∀ (d i : Nat), i + d = m → Ev (fun k => shuffle_Values.l0 k m l ((List.range i).map (fun x : Nat => atV m l x) ++ List.replicate (m - i) 0) m i) (valV m l, 0) := by
    intro d
    induction d with
    | zero =>
      intro i hi
      refine Ev.step ?_
      simp only [shuffle_Values.l0]
      refine Ev.neg (by omega) ?_
      have : i = m := by omega
      subst this
      rw [Nat.sub_self, List.replicate_zero, List.append_nil]
      exact Ev.const _
    | succ d ih =>
      intro i hi
      refine Ev.step ?_
      simp only [shuffle_Values.l0]
      refine Ev.pos (by omega) (Ev.bindc (at_f _ _ _ (by omega)) (Ev.pos (by omega) (Ev.pos (by simp; omega) ?_)))
      have := ih (i + 1) (by omega)
      rw [w64 (by omega), Int.toNat_natCast, List.set_append_right _ _ (by simp)]
      simp only [List.length_map, List.length_range, Nat.sub_self]
      rw [show m - i = (m - (i + 1)) + 1 by omega, List.replicate_succ, List.set_cons_zero]
      rw [range_snoc, List.append_assoc] at this
      exact this
  unfold shuffle_Values.f
  refine Ev.bindc (isPoly m hm hm2 l hl hlen) (Ev.pos rfl (Ev.pos (by omega) (Ev.pos (by omega) ?_)))
  have := main m 0 (by omega)
  rw [Int.toNat_natCast]
  simpa using this

theorem refvalues_ev (m : Nat) (hm : 2 ≤ m) (hm2 : m ≤ 64) (l : List Int) (hl : Rem m l) (hlen : l.length ≤ 12) : Ev (fun k => galloonref06_Values.f k m l) (valV m l) := by
  have inner : ∀ (d i : Nat) (acc : List Int) (r : List Int), d ≤ l.length → acc.length < 100 → Ev (fun k => galloonref06_Values.l0 k m l (acc ++ [atV m l i]) (wrap64 ((i : Int) + 1))) r →
      Ev (fun k => galloonref06_Values.l1 k m l acc i ((l.drop d).foldr (fun c out => atS m i out c) 0) ((d : Int) - 1)) r := by
    intro d
    induction d with
    | zero =>
      intro i acc r hd hacc h
      refine Ev.step ?_
      simp only [galloonref06_Values.l1]
      exact Ev.neg (by omega) (Ev.pos (by omega) h)
    | succ d ih =>
      intro i acc r hd hacc h
      refine Ev.step ?_
      simp only [galloonref06_Values.l1]
      refine Ev.pos (by omega) (Ev.pos (by omega) (Ev.pos (by omega) (Ev.neg (by omega) ?_)))
      have := ih i acc r (by omega) hacc h
      rw [w64 (n := ((d + 1 : Nat) : Int) - 1 - 1) (by omega), show ((d + 1 : Nat) : Int) - 1 - 1 = (d : Int) - 1 by omega, show ((d + 1 : Nat) : Int) - 1 = (d : Int) by omega, rd_nat]
      rw [List.drop_eq_getElem_cons (by omega), List.foldr_cons] at this
      rw [List.getD_eq_getElem?_getD, List.getElem?_eq_getElem (by omega)]
      exact this
  have main : ∀ (d i : Nat), i + d = m → Ev (fun k => galloonref06_Values.l0 k m l ((List.range i).map (fun x : Nat => atV m l x)) i) (valV m l) := by
    intro d
    induction d with
    | zero =>
      intro i hi
      refine Ev.step ?_
      simp only [galloonref06_Values.l0]
      have : i = m := by omega
      subst this
      exact Ev.neg (by omega) (Ev.const _)
    | succ d ih =>
      intro i hi
      refine Ev.step ?_
      simp only [galloonref06_Values.l0]
      refine Ev.pos (by omega) ?_
      have h1 := ih (i + 1) (by omega)
      have h2 := inner l.length i ((List.range i).map (fun x : Nat => atV m l x)) _ (Nat.le_refl _) (by simp; omega) (by
        rw [w64 (by omega)]; rw [range_snoc] at h1; exact h1)
      rw [List.drop_length, List.foldr_nil] at h2
      rw [w64 (by omega)]
      exact h2
  unfold galloonref06_Values.f
  exact main m 0 (by omega)

theorem ints_ev (l : List Int) (hl : l.length ≤ 1000) : Ev (fun k => galloonlaw06_ints.f k l l) true := by
  have main : ∀ (d i : Nat), i + d = l.length → Ev (fun k => galloonlaw06_ints.l0 k l l i) true := by
    intro d
    induction d with
    | zero =>
      intro i hi
      refine Ev.step ?_
      simp only [galloonlaw06_ints.l0]
      exact Ev.neg (by omega) (Ev.const _)
    | succ d ih =>
      intro i hi
      refine Ev.step ?_
      simp only [galloonlaw06_ints.l0]
      refine Ev.pos (by omega) (Ev.pos (by omega) (Ev.pos (by omega) (Ev.pos (by trivial) ?_)))
      rw [w64 (by omega)]
      exact ih (i + 1) (by omega)
  unfold galloonlaw06_ints.f
  exact Ev.pos rfl (main l.length 0 (by omega))

theorem listed_ev (m : Nat) (hm : 2 ≤ m) (l : List Int) (hl : Rem m l) (hlen : l.length ≤ 1000) : Ev (fun k => galloonref06_Listed.f k m l) true := by
  have main : ∀ (d i : Nat), i + d = l.length → Ev (fun k => galloonref06_Listed.l0 k m l i) true := by
    intro d
    induction d with
    | zero =>
      intro i hi
      refine Ev.step ?_
      simp only [galloonref06_Listed.l0]
      exact Ev.neg (by omega) (Ev.const _)
    | succ d ih =>
      intro i hi
      refine Ev.step ?_
      simp only [galloonref06_Listed.l0]
      have := hl _ (rd_mem (l := l) (i := (i : Int)) (by omega) (by omega))
      refine Ev.pos (by omega) (Ev.pos (by omega) (Ev.neg (by omega) (Ev.neg (by omega) ?_)))
      rw [w64 (by omega)]
      exact ih (i + 1) (by omega)
  unfold galloonref06_Listed.f
  exact main l.length 0 (by omega)

theorem after_ev (m : Nat) (hm : 2 ≤ m) (hm2 : m ≤ 64) (f : List Int) (hf : Rem m f) (hlen : f.length = m) : ∃ a, Ev (fun k => shuffle_After.f k m f f) (a, 0) := by
  have main : ∀ (d i : Nat) (acc : List Int), i + d = f.length → acc.length = i → ∃ a, Ev (fun k => shuffle_After.l0 k f acc f (f.length : Int) i) (a, 0) := by
    intro d
    induction d with
    | zero =>
      intro i acc hi hl
      refine ⟨acc, Ev.step ?_⟩
      simp only [shuffle_After.l0]
      exact Ev.neg (by omega) (Ev.const _)
    | succ d ih =>
      intro i acc hi hl
      obtain ⟨a, ha⟩ := ih (i + 1) (acc ++ [rd f (rd f i)]) (by omega) (by simp [hl])
      refine ⟨a, Ev.step ?_⟩
      simp only [shuffle_After.l0]
      have := hf _ (rd_mem (l := f) (i := (i : Int)) (by omega) (by omega))
      refine Ev.pos (by omega) (Ev.pos (by omega) (Ev.pos (by omega) (Ev.pos (by omega) (Ev.pos (by omega) (Ev.pos (by omega) ?_)))))
      rw [w64 (by omega)]
      exact ha
  obtain ⟨a, ha⟩ := main f.length 0 [] (by omega) rfl
  refine ⟨a, ?_⟩
  unfold shuffle_After.f
  refine Ev.bindc (isFunc m hm hm2 f hf hlen) (Ev.pos rfl (Ev.bindc (isFunc m hm hm2 f hf hlen) (Ev.step ?_)))
  simp only [shuffle_After.j0]
  exact Ev.neg (by simp) ha

set_option maxRecDepth 100000 in
theorem awake_ev : Ev (fun k => galloonlaw06_awake.f k) true := Ev.of_mono galloonlaw06_awake.mono (k0 := 100) (by decide +kernel)
end Go.Proofs.Ytohgdegklhlldaa.G
