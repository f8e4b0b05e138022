/- Plain Lean: the search for a packing finds one exactly if there is one; Best. -/
import Derived.Test.YtpckfllalpiliaaP1
import Derived.Test.YtpckfllalpiliaaK4
namespace Go.Proofs.Ytpckfllalpiliaa.G
open Go.RowKit Go.Proofs.YtpckfllalpiliaaW.PrintWords Go.Proofs.YtpckfllalpiliaaW.PrintMore
set_option linter.unusedVariables false

/-- the load of box b, where piece i is in box p i -/
def load : List Nat → List Int → Nat → Int
  | q :: p, s :: ps, b => (if q = b then s else 0) + load p ps b
  | _, _, _ => 0
theorem load_nonneg : ∀ (p : List Nat) (ps : List Int) (b : Nat), (∀ s ∈ ps, 0 ≤ s) → 0 ≤ load p ps b
  | [], _, _, _ => Int.le_refl _
  | _ :: _, [], _, _ => Int.le_refl _
  | q :: p, s :: ps, b, h => by
    have h1 := load_nonneg p ps b (fun x hx => h x (List.mem_cons_of_mem _ hx))
    have h2 := h s List.mem_cons_self
    rw [load]; split <;> omega
theorem load_zero : ∀ (p : List Nat) (ps : List Int) (b : Nat), (∀ q ∈ p, q ≠ b) → load p ps b = 0
  | [], _, _, _ => rfl
  | _ :: _, [], _, _ => rfl
  | q :: p, s :: ps, b, h => by
    rw [load, if_neg (h q List.mem_cons_self), load_zero p ps b (fun x hx => h x (List.mem_cons_of_mem _ hx))]; rfl
theorem load_map (f : Nat → Nat) (g : Nat → Nat) (hf : ∀ a b, f a = b ↔ a = g b) : ∀ (p : List Nat) (ps : List Int) (b : Nat), load (p.map f) ps b = load p ps (g b)
  | [], _, _ => rfl
  | _ :: _, [], _ => rfl
  | q :: p, s :: ps, b => by
    rw [List.map_cons, load, load, load_map f g hf p ps b]
    congr 1
    by_cases h : q = g b
    · rw [if_pos h, if_pos ((hf q b).2 h)]
    · rw [if_neg h, if_neg (fun e => h ((hf q b).1 e))]
theorem load_snoc : ∀ (p : List Nat) (ps : List Int) (b q : Nat) (x : Int), p.length = ps.length → load (p ++ [q]) (ps ++ [x]) b = load p ps b + if q = b then x else 0
  | [], [], b, q, x, _ => by simp [load]
  | [], _ :: _, _, _, _, h => by cases h
  | _ :: _, [], _, _, _, h => by cases h
  | r :: p, s :: ps, b, q, x, h => by
    rw [List.cons_append, List.cons_append, load, load, load_snoc p ps b q x (by simpa using h)]; omega

/-- the pieces rest can be added to the loads X -/
def Fits (room : Int) (most : Nat) (X : Nat → Int) (rest : List Int) : Prop := ∃ p : List Nat, p.length = rest.length ∧ (∀ q ∈ p, q < most) ∧ ∀ b, b < most → X b + load p rest b ≤ room
def Packable (room : Int) (most : Nat) (ps : List Int) : Prop := Fits room most (fun _ => 0) ps

def upd (X : Nat → Int) (c : Nat) (s : Int) (b : Nat) : Int := if b = c then X c + s else X b
theorem fits_cons {room : Int} {most : Nat} {X : Nat → Int} {size : Int} {rest : List Int} (n : Nat) (hX : ∀ b, n ≤ b → X b = 0) (hs : 0 ≤ size) (hr : ∀ s ∈ rest, 0 ≤ s) :
    Fits room most X (size :: rest) ↔ ∃ c, c < n + 1 ∧ c < most ∧ X c + size ≤ room ∧ Fits room most (upd X c size) rest := by
  constructor
  · rintro ⟨p, hl, hq, hb⟩
    obtain ⟨q, p, rfl⟩ : ∃ q p', p = q :: p' := by cases p with | nil => cases hl | cons q p' => exact ⟨q, p', rfl⟩
    have hqm := hq q List.mem_cons_self
    have hl' : p.length = rest.length := by simpa using hl
    by_cases hn : q < n + 1
    · refine ⟨q, hn, hqm, ?_, p, hl', fun x hx => hq x (List.mem_cons_of_mem _ hx), fun b hbm => ?_⟩
      · have h := hb q hqm
        have h0 := load_nonneg p rest q hr
        rw [load, if_pos rfl] at h; omega
      · have h := hb b hbm
        rw [load] at h
        unfold upd
        by_cases e : b = q
        · subst e; rw [if_pos rfl] at h ⊢; omega
        · rw [if_neg e]; rw [if_neg (fun e' => e e'.symm)] at h; omega
    · have hXq := hX q (by omega)
      have hXn := hX n (Nat.le_refl _)
      refine ⟨n, by omega, by omega, ?_, p.map (fun a => if a = n then q else if a = q then n else a), by simpa using hl', ?_, fun b hbm => ?_⟩
      · have h := hb q hqm
        have h0 := load_nonneg p rest q hr
        rw [load, if_pos rfl] at h; omega
      · intro x hx
        obtain ⟨a, ha, rfl⟩ := List.mem_map.1 hx
        have := hq a (List.mem_cons_of_mem _ ha)
        split
        · exact hqm
        · split <;> omega
      · have hsw : ∀ a b : Nat, (if a = n then q else if a = q then n else a) = b ↔ a = (if b = n then q else if b = q then n else b) := by
          intro a b
          by_cases h1 : a = n
          · rw [if_pos h1]
            by_cases h2 : b = n
            · rw [if_pos h2]; omega
            · rw [if_neg h2]; split <;> omega
          · rw [if_neg h1]
            by_cases h2 : a = q
            · rw [if_pos h2]
              by_cases h3 : b = n
              · rw [if_pos h3]; omega
              · rw [if_neg h3]; split <;> omega
            · rw [if_neg h2]
              by_cases h3 : b = n
              · rw [if_pos h3]; omega
              · rw [if_neg h3]; split <;> omega
        rw [load_map _ _ hsw]
        unfold upd
        by_cases e : b = n
        · subst e
          rw [if_pos rfl, if_pos rfl]
          have h := hb q hqm
          rw [load, if_pos rfl] at h; omega
        · rw [if_neg e, if_neg e]
          by_cases e2 : b = q
          · rw [if_pos e2]
            have h := hb n (by omega)
            rw [load, if_neg (by omega)] at h
            rw [e2]; omega
          · rw [if_neg e2]
            have h := hb b hbm
            rw [load, if_neg (fun e' => e2 e'.symm)] at h; omega
  · rintro ⟨c, hc, hcm, hcs, p, hl, hq, hb⟩
    refine ⟨c :: p, by simp [hl], fun x hx => ?_, fun b hbm => ?_⟩
    · rcases List.mem_cons.1 hx with rfl | hx
      · exact hcm
      · exact hq x hx
    · have h := hb b hbm
      unfold upd at h
      rw [load]
      by_cases e : b = c
      · subst e; rw [if_pos rfl] at h ⊢; omega
      · rw [if_neg e] at h; rw [if_neg (fun e' => e e'.symm)]; omega
theorem Fits.congr {room : Int} {most : Nat} {X Y : Nat → Int} {rest : List Int} (h : ∀ b, b < most → X b = Y b) : Fits room most X rest ↔ Fits room most Y rest := by
  constructor
  · rintro ⟨p, hl, hq, hb⟩; exact ⟨p, hl, hq, fun b hbm => by rw [← h b hbm]; exact hb b hbm⟩
  · rintro ⟨p, hl, hq, hb⟩; exact ⟨p, hl, hq, fun b hbm => by rw [h b hbm]; exact hb b hbm⟩

theorem packL_ne (room most size : Int) (rest : List Int) : ∀ (d : Nat) (l X : List Int) (n : Int) (b : Nat), packL room most size rest d l X n b ≠ [] ↔
    ∃ c : Nat, b ≤ c ∧ c < b + d ∧ rd X c + size ≤ room ∧ packX room most rest (l ++ [(c : Int)]) (X.set c (rd X c + size)) (max n ((c : Int) + 1)) ≠ []
  | 0, l, X, n, b => by
    rw [packL]
    constructor
    · intro h; exact absurd rfl h
    · rintro ⟨c, h1, h2, _⟩; omega
  | d + 1, l, X, n, b => by
    rw [packL]
    have ih := packL_ne room most size rest d l X n (b + 1)
    rw [show ((b + 1 : Nat) : Int) = (b : Int) + 1 by omega] at ih
    rw [Int.toNat_natCast]
    constructor
    · intro h
      by_cases hx : (if rd X (b : Int) + size > room then [] else packX room most rest (l ++ [(b : Int)]) (X.set b (rd X b + size)) (max n ((b : Int) + 1))) = []
      · rw [hx, List.nil_append] at h
        obtain ⟨c, h1, h2, h3⟩ := ih.1 h
        exact ⟨c, by omega, by omega, h3⟩
      · by_cases hc : rd X (b : Int) + size > room
        · rw [if_pos hc] at hx; exact absurd rfl hx
        · rw [if_neg hc] at hx
          exact ⟨b, Nat.le_refl _, by omega, by omega, hx⟩
    · rintro ⟨c, h1, h2, h3, h4⟩
      by_cases e : c = b
      · subst e
        rw [if_neg (by omega)]
        intro h
        exact h4 (List.append_eq_nil_iff.1 h).1
      · intro h
        exact (ih.2 ⟨c, by omega, by omega, h3, h4⟩) (List.append_eq_nil_iff.1 h).2

theorem pack_iff (room : Int) (most : Nat) (hm : most ≤ 12) : ∀ (rest l X : List Int) (n : Nat), X.length = 12 → (∀ b : Nat, n ≤ b → rd X b = 0) → (∀ b : Nat, rd X b ≤ room) → (∀ s ∈ rest, 1 ≤ s) →
    (packX room most rest l X n ≠ [] ↔ Fits room most (fun b => rd X b) rest) := by
  intro rest
  induction rest with
  | nil =>
    intro l X n hX h0 h1 _
    rw [packX]
    constructor
    · intro _; exact ⟨[], rfl, (fun q hq => by cases hq), fun b _ => (by have := h1 b; show rd X (b : Int) + 0 ≤ room; omega)⟩
    · intro _ h; cases h
  | cons size rest ih =>
    intro l X n hX h0 h1 hs
    have hs0 := hs size List.mem_cons_self
    have hsr := fun s hsm => hs s (List.mem_cons_of_mem size hsm)
    have hL := packL_ne room most size rest (min ((n : Int) + 1) (most : Int)).toNat l X n 0
    rw [show ((0 : Nat) : Int) = 0 from rfl] at hL
    rw [packX, hL, fits_cons n h0 (by omega) (fun s hsm => by have := hsr s hsm; omega)]
    have key : ∀ c : Nat, c < 12 → rd X c + size ≤ room → (packX room most rest (l ++ [(c : Int)]) (X.set c (rd X c + size)) (max (n : Int) ((c : Int) + 1)) ≠ [] ↔ Fits room most (upd (fun b => rd X b) c size) rest) := by
      intro c hc hcs
      have hset : ∀ b : Nat, rd (X.set c (rd X c + size)) (b : Int) = upd (fun b => rd X b) c size b := by
        intro b
        rw [rd_set X c b _ (by omega)]; rfl
      have h := ih (l ++ [(c : Int)]) (X.set c (rd X c + size)) (max n (c + 1)) (by simpa using hX) (fun b hb => by rw [hset]; unfold upd; rw [if_neg (by omega)]; exact h0 b (by omega))
        (fun b => by rw [hset]; unfold upd; split; (· exact hcs); (· exact h1 b)) hsr
      rw [show ((max n (c + 1) : Nat) : Int) = max (n : Int) ((c : Int) + 1) by omega] at h
      rw [h]
      exact Fits.congr (fun b _ => hset b)
    constructor
    · rintro ⟨c, _, hc, h3, h4⟩
      have hcm : c < n + 1 ∧ c < most := by omega
      exact ⟨c, hcm.1, hcm.2, h3, (key c (by omega) h3).1 h4⟩
    · rintro ⟨c, hc1, hc2, h3, h4⟩
      exact ⟨c, Nat.zero_le _, by omega, h3, (key c (by omega) h3).2 h4⟩
theorem rd_zeros (b : Nat) : rd (List.replicate 12 0) (b : Int) = 0 := by
  rw [rd_nat, List.getD_eq_getElem?_getD, List.getElem?_replicate]; split <;> rfl
theorem pack_iff0 {room : Int} {most n : Nat} {ps : List Int} (hm : most ≤ 12) (h : Pcs room ps n) : packX room most ps [] (List.replicate 12 0) 0 ≠ [] ↔ Packable room most ps := by
  have := pack_iff room most hm ps [] (List.replicate 12 0) 0 (by simp) (fun b _ => rd_zeros b) (fun b => by rw [rd_zeros]; have := h.room0; omega) (fun s hs => (h.mem s hs).1)
  rw [show ((0 : Nat) : Int) = 0 from rfl] at this
  rw [this]
  exact Fits.congr (fun b _ => rd_zeros b)

theorem Packable.mono {room : Int} {m m' : Nat} {ps : List Int} (h : Packable room m ps) (hm : m ≤ m') (hr : 0 ≤ room) : Packable room m' ps := by
  obtain ⟨p, h1, h2, h3⟩ := h
  refine ⟨p, h1, fun q hq => Nat.lt_of_lt_of_le (h2 q hq) hm, fun b hb => ?_⟩
  by_cases hbm : b < m
  · exact h3 b hbm
  · rw [load_zero p ps b (fun q hq => by have := h2 q hq; omega)]; show (0 : Int) + 0 ≤ room; omega
theorem Packable.all {room : Int} : ∀ {ps : List Int}, (∀ s ∈ ps, s ≤ room) → 0 ≤ room → Packable room ps.length ps := by
  have main : ∀ (ps : List Int) (k : Nat), (∀ s ∈ ps, s ≤ room) → 0 ≤ room → ∃ p : List Nat, p.length = ps.length ∧ (∀ q ∈ p, k ≤ q ∧ q < k + ps.length) ∧ ∀ b, load p ps b ≤ room := by
    intro ps
    induction ps with
    | nil => intro k _ h0; exact ⟨[], rfl, (fun q hq => by cases hq), fun b => h0⟩
    | cons s ps ih =>
      intro k hs h0
      obtain ⟨p, h1, h2, h3⟩ := ih (k + 1) (fun x hx => hs x (List.mem_cons_of_mem _ hx)) h0
      refine ⟨k :: p, by simp [h1], fun q hq => ?_, fun b => ?_⟩
      · simp only [List.length_cons]
        rcases List.mem_cons.1 hq with rfl | hq
        · omega
        · have := h2 q hq; omega
      · rw [load]
        by_cases e : k = b
        · rw [if_pos e, load_zero p ps b (fun q hq => by have := h2 q hq; omega)]
          have := hs s List.mem_cons_self; omega
        · rw [if_neg e]; have := h3 b; omega
  intro ps hs h0
  obtain ⟨p, h1, h2, h3⟩ := main ps 0 hs h0
  exact ⟨p, h1, fun q hq => by have := h2 q hq; omega, fun b _ => by have := h3 b; show (0 : Int) + _ ≤ room; omega⟩

def sumTo (f : Nat → Int) : Nat → Int
  | 0 => 0
  | m + 1 => sumTo f m + f m
theorem sumTo_le {f : Nat → Int} {r : Int} : ∀ m, (∀ b, b < m → f b ≤ r) → sumTo f m ≤ m * r
  | 0, _ => by simp [sumTo]
  | m + 1, h => by
    have h1 := sumTo_le m (fun b hb => h b (by omega))
    have h2 := h m (by omega)
    rw [sumTo, show ((m + 1 : Nat) : Int) = (m : Int) + 1 by omega, Int.add_mul, Int.one_mul]; omega
theorem sumTo_add (f g : Nat → Int) : ∀ m, sumTo (fun b => f b + g b) m = sumTo f m + sumTo g m
  | 0 => rfl
  | m + 1 => by simp only [sumTo, sumTo_add f g m]; omega
theorem sumTo_one (q : Nat) (s : Int) : ∀ m, sumTo (fun b => if q = b then s else 0) m = if q < m then s else 0
  | 0 => rfl
  | m + 1 => by
    simp only [sumTo, sumTo_one q s m]
    by_cases h : q < m
    · rw [if_pos h, if_neg (by omega), if_pos (by omega)]; omega
    · rw [if_neg h]
      by_cases e : q = m
      · rw [if_pos e, if_pos (by omega)]; omega
      · rw [if_neg e, if_neg (by omega)]; rfl
theorem sumTo_zero : ∀ m, sumTo (fun _ => 0) m = 0
  | 0 => rfl
  | m + 1 => by simp only [sumTo, sumTo_zero m]; rfl
theorem sumTo_load (m : Nat) : ∀ (p : List Nat) (ps : List Int), p.length = ps.length → (∀ q ∈ p, q < m) → sumTo (load p ps) m = ps.sum
  | [], [], _, _ => by
    have : load [] [] = fun _ => 0 := by funext b; rfl
    rw [this, sumTo_zero]; rfl
  | [], _ :: _, h, _ => by cases h
  | _ :: _, [], h, _ => by cases h
  | q :: p, s :: ps, h, hq => by
    have : load (q :: p) (s :: ps) = fun b => (if q = b then s else 0) + load p ps b := by funext b; rfl
    rw [this, sumTo_add, sumTo_one, if_pos (hq q List.mem_cons_self), sumTo_load m p ps (by simpa using h) (fun x hx => hq x (List.mem_cons_of_mem _ hx)), List.sum_cons]
theorem Packable.sum_le {room : Int} {m : Nat} {ps : List Int} (h : Packable room m ps) : ps.sum ≤ m * room := by
  obtain ⟨p, h1, h2, h3⟩ := h
  rw [← sumTo_load m p ps h1 h2]
  exact sumTo_le m (fun b hb => by have : (0 : Int) + load p ps b ≤ room := h3 b hb; omega)

/-- Best's loop from a number on -/
theorem bestL_spec {room : Int} {ps : List Int} {n : Nat} (h : Pcs room ps n) (hn : n ≤ 12) : ∀ (d m : Nat), m + d = ps.length + 1 → 0 < d → ∃ x : List Int, ∃ m' : Nat, bestL room ps d m = (x, (m' : Int), 0) ∧ m ≤ m' ∧ m' ≤ ps.length ∧ Packable room m' ps ∧ (∀ q, m ≤ q → q < m' → ¬ Packable room q ps) ∧ ∃ r, packX room m' ps [] (List.replicate 12 0) 0 = x :: r := by
  intro d
  have hl := h.len
  induction d with
  | zero => intro m _ h0; omega
  | succ d ih =>
    intro m hm _
    rw [bestL]
    cases hp : packX room m ps [] (List.replicate 12 0) 0 with
    | cons x r =>
      exact ⟨x, m, rfl, Nat.le_refl _, by omega, (pack_iff0 (by omega) h).1 (by rw [hp]; simp), fun q h1 h2 => by omega, r, hp⟩
    | nil =>
      have hno : ¬ Packable room m ps := fun hpk => (pack_iff0 (by omega) h).2 hpk hp
      have hd : 0 < d := by
        rcases Nat.eq_zero_or_pos d with e | e
        · exfalso
          apply hno
          rw [show m = ps.length by omega]
          exact Packable.all (fun s hs => (h.mem s hs).2) (by have := h.room0; omega)
        · exact e
      obtain ⟨x, m', h1, h2, h3, h4, h5, h6⟩ := ih (m + 1) (by omega) hd
      refine ⟨x, m', ?_, by omega, h3, h4, fun q hq1 hq2 => ?_, h6⟩
      · rw [show ((m + 1 : Nat) : Int) = (m : Int) + 1 by omega] at h1; exact h1
      · by_cases e : q = m
        · subst e; exact hno
        · exact h5 q (by omega) hq2

theorem best_ev {room : Int} {l : List Int} {n : Nat} (h : Pcs room l n) (hn : n ≤ 12) : ∃ (w at_ : Int) (p : List Int) (m : Nat), Ev (fun k => remnant_Weight.f k room l) (w, at_, 0) ∧ 0 ≤ at_ ∧ at_ ≤ room / 2 ∧ w = weighV room at_ l ∧ (∀ a : Int, 0 ≤ a → a ≤ room / 2 → weighV room a l ≤ w) ∧
    Ev (fun k => remnant_Best.f k room l) (p, (m : Int), 0) ∧ w ≤ m ∧ m ≤ l.length ∧ Packable room m l ∧ (∀ q : Nat, w ≤ q → q < m → ¬ Packable room q l) ∧ ∃ r, packX room m l [] (List.replicate 12 0) 0 = p :: r := by
  obtain ⟨w, at_, h1, h2, h3, h4, h5⟩ := weight_ev h hn
  have hw1 : w ≤ l.length := by rw [h4]; exact weighV_le h.room0 h.mem
  have hw0 : 0 ≤ w := by rw [h4]; exact wAcc_nonneg h.room0 l 0 0 0 0 (by omega) (by omega)
  have hl := h.len
  obtain ⟨p, m, b1, b2, b3, b4, b5, b6⟩ := bestL_spec h hn (l.length + 1 - w).toNat w.toNat (by omega) (by omega)
  refine ⟨w, at_, p, m, h1, h2, h3, h4, h5, ?_, by omega, b3, b4, fun q hq => b5 q (by omega), b6⟩
  unfold remnant_Best.f
  rw [show ((w.toNat : Nat) : Int) = w by omega] at b1
  refine Ev.pos (h.pieces hn) (Ev.bind h1 ?_)
  simp only
  refine Ev.pos (by omega) ?_
  rw [b1]
  exact Ev.const _
end Go.Proofs.Ytpckfllalpiliaa.G
