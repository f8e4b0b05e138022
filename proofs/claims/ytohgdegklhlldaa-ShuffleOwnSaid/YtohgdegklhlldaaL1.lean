/- The walk of ShuffleOwn: the law's call answers true where the plain functions say so. -/
import Derived.Test.YtohgdegklhlldaaH1
import Derived.Test.YtohgdegklhlldaaG2x
namespace Go.Proofs.Ytohgdegklhlldaa.G
open Go.RowKit Go.Proofs.YtohgdegklhlldaaW.PrintWords Go.Proofs.YtohgdegklhlldaaW.PrintLast Go.Proofs.YtohgdegklhlldaaW.PrintMore
attribute [local go_sem] max2_int min2_int max_two min_two max_three min_three max_four min_four
set_option linter.unusedVariables false

/-- a row of the call's own: what a store into it asks -/
def RowG (W : World) (B e sz : Nat) (v : Value) (n : Nat) : Prop :=
  (n = 0 ∧ ∃ A c, v = .slice A 0 c) ∨ ∃ g cap cur, v = .slice (some ⟨g, 0, none⟩) n cap ∧ B ≤ g ∧ W.heap[g]? = some (.cells cur e (0, 0)) ∧ n * sz ≤ cur.size ∧ n ≤ 9223372036854775807

theorem RowG.of_own {W : World} {B base e sz n : Nat} {v : Value} {xs : List Value} (h : W.ownsRow base e sz v n xs) (hB : B ≤ base) : RowG W B e sz v n := by
  obtain ⟨h1, h2⟩ := h
  rcases h2 with ⟨rfl, rfl⟩ | ⟨g, cap, cur, rfl, hg, hh, hn, hc, hs, ht⟩
  · exact .inl ⟨rfl, _, _, rfl⟩
  · exact .inr ⟨g, cap, cur, rfl, by omega, hh, by rw [hs]; exact Nat.mul_le_mul_right _ hn, Nat.le_trans hn hc⟩
theorem RowG.of_R {α : Type} {d : Kd α} {W : World} {B base e : Nat} {ok : Nat → Prop} {v : Value} {xs : List α} (h : d.R e W base ok v xs) (hB : B ≤ base) : RowG W B e d.sz v xs.length := by
  obtain ⟨inner, ho⟩ := Kd.R_own h
  exact RowG.of_own ho hB
theorem RowG.below {W W' : World} {B e sz n : Nat} {v : Value} (h : RowG W B e sz v n) (hb : Below W.heap.size W W') : RowG W' B e sz v n := by
  rcases h with h | ⟨g, cap, cur, rfl, hg, hh, hn⟩
  · exact .inl h
  · exact .inr ⟨g, cap, cur, rfl, hg, blk_below hh hb, hn⟩

/-- W' is W but for stores into blocks of type T from B on -/
structure Wr (B T : Nat) (W W' : World) : Prop where
  below : Below B W W'
  other : ∀ (q : Nat) (cs : Array Value) (t : Nat), W.heap[q]? = some (Obj.cells cs t (0, 0)) → t ≠ T → W'.heap[q]? = some (Obj.cells cs t (0, 0))
  same : ∀ (q : Nat) (cs : Array Value), W.heap[q]? = some (Obj.cells cs T (0, 0)) → ∃ cs' : Array Value, W'.heap[q]? = some (Obj.cells cs' T (0, 0)) ∧ cs'.size = cs.size

theorem Wr.refl (B T : Nat) (W : World) : Wr B T W W := ⟨Below.refl _ _, fun _ _ _ h _ => h, fun _ cs h => ⟨cs, h, rfl⟩⟩
theorem Wr.set {B T : Nat} {W W' : World} (h : Wr B T W W') {g o : Nat} {cs : Array Value} (hg : W'.heap[g]? = some (.cells cs T (0, 0))) (hB : B ≤ g) (u : Value) : Wr B T W (W'.setCell ⟨g, o, none⟩ u) := by
  refine ⟨h.below.setCell (p := ⟨g, o, none⟩) hB u, fun q cs1 t hq ht => ?_, fun q cs1 hq => ?_⟩
  · have h1 := h.other q cs1 t hq ht
    exact blk_far h1 (fun e => by have e1 : q = g := e; subst e1; rw [h1] at hg; injection hg with hg; injection hg with _ hg; exact ht hg) u
  · obtain ⟨cs2, h2, h3⟩ := h.same q cs1 hq
    by_cases e : q = g
    · subst e
      exact ⟨_, blk_set h2 o u, by simpa using h3⟩
    · exact ⟨cs2, blk_far h2 e u, h3⟩
theorem RowG.wr {W W' : World} {B B' T e sz n : Nat} {v : Value} (h : RowG W B e sz v n) (hw : Wr B' T W W') : RowG W' B e sz v n := by
  rcases h with h | ⟨g, cap, cur, rfl, hg, hh, hn⟩
  · exact .inl h
  · by_cases e1 : e = T
    · subst e1
      obtain ⟨cs, h1, h2⟩ := hw.same g cur hh
      exact .inr ⟨g, cap, cs, rfl, hg, h1, by rw [h2]; exact hn.1, hn.2⟩
    · exact .inr ⟨g, cap, cur, rfl, hg, hw.other g cur e hh e1, hn⟩
theorem RowG.at_ {W : World} {B e sz n : Nat} {A : Option Addr} {c : Nat} (h : RowG W B e sz (.slice A n c) n) {j o : Nat} (hj : j < n) (ho : o < sz) :
    ∃ g cur, A = some ⟨g, 0, none⟩ ∧ B ≤ g ∧ W.heap[g]? = some (.cells cur e (0, 0)) ∧ j * sz + o < cur.size ∧ (∃ v, W.cell? ⟨g, j * sz + o, none⟩ = some v) := by
  rcases h with ⟨rfl, _⟩ | ⟨g, cap, cur, h, hg, hh, hn⟩
  · omega
  · injection h with h1 h2 h3
    have h4 : j * sz + o < cur.size := by
      have hn := hn.1
      have : j * sz + sz ≤ n * sz := by rw [← Nat.succ_mul]; exact Nat.mul_le_mul_right _ hj
      omega
    exact ⟨g, cur, h1, hg, hh, h4, cur[j * sz + o], by rw [blk_cell hh]; exact Array.getElem?_eq_getElem h4⟩

theorem RowG.len {W : World} {B e sz n : Nat} {v : Value} (h : RowG W B e sz v n) : n ≤ 9223372036854775807 ∧ ∃ A c, v = .slice A n c := by
  rcases h with ⟨rfl, A, c, rfl⟩ | ⟨g, cap, cur, rfl, hg, hh, hn, hm⟩
  · exact ⟨by decide, _, _, rfl⟩
  · exact ⟨hm, _, _, rfl⟩
theorem own_wr {W W' : World} {base B T e sz n : Nat} {v : Value} {xs : List Value} (h : W.ownsRow base e sz v n xs) (hw : Wr B T W W') (hne : e ≠ T) : W'.ownsRow base e sz v n xs := by
  obtain ⟨h1, h2⟩ := h
  rcases h2 with h2 | ⟨g, cap, cur, rfl, hg, hh, hr⟩
  · exact ⟨h1, .inl h2⟩
  · exact ⟨h1, .inr ⟨g, cap, cur, rfl, hg, hw.other g cur e hh hne, hr⟩⟩
theorem raw_of_own {W : World} {base e n : Nat} {v : Value} {xs : List Value} (h : W.ownsRow base e 1 v n xs) (hl : xs.length = n) (ho : ∀ u ∈ xs, u.oneCell' = true) : (Kd.raw 1).R e W base (fun _ => True) v (xs.map fun x => [x]) := by
  subst hl
  refine ⟨fun _ _ => trivial, xs, by rw [List.length_map]; exact h, by simp [Kd.raw], fun j p hp => ?_⟩
  rw [List.getElem?_map] at hp
  obtain ⟨x, hx, rfl⟩ := Option.map_eq_some_iff.1 hp
  have hj := (List.getElem?_eq_some_iff.1 hx).1
  have e : List.take 1 (List.drop (j * 1) xs) = [x] := by
    rw [Nat.mul_one, List.drop_eq_getElem_cons hj, (List.getElem?_eq_some_iff.1 hx).2]; rfl
  show (List.take 1 (List.drop (j * 1) xs) = [x] ∧ (List.take 1 (List.drop (j * 1) xs)).length = 1 ∧ ∀ u ∈ List.take 1 (List.drop (j * 1) xs), u.oneCell' = true)
  rw [e]
  exact ⟨rfl, rfl, fun u hu => by rw [List.mem_singleton.1 hu]; exact ho x (List.mem_of_getElem? hx)⟩
theorem own_vals {W : World} {base e : Nat} {ok : Nat → Prop} {v : Value} {vs : List Value} (h : (Kd.raw 1).R e W base ok v (vs.map fun x => [x])) (h0 : 0 < vs.length) :
    ∃ g cap cur, v = .slice (some ⟨g, 0, none⟩) vs.length cap ∧ base ≤ g ∧ W.heap[g]? = some (.cells cur e (0, 0)) ∧ vs.length ≤ 9223372036854775807 ∧ ∀ j x, vs[j]? = some x → W.cell? ⟨g, j, none⟩ = some x := by
  obtain ⟨_, ho⟩ := Kd.R_own h
  obtain ⟨A, c, rfl, hc, hR⟩ := Kd.R_reads h
  rw [List.length_map] at ho hR
  rcases ho.2 with ⟨e1, _⟩ | ⟨g, cap, cur, e1, hg, hh, hn, hcm, _, _⟩
  · simp only [Value.slice.injEq] at e1; omega
  · injection e1 with e2 e3 e4
    subst e2
    refine ⟨g, c, cur, by rw [List.length_map], hg, hh, hR.2.1, fun j x hx => ?_⟩
    obtain ⟨ad, e5, hr⟩ := hR.2.2 h0
    injection e5 with e5; subst e5
    obtain ⟨cs, hcs, hk, hcell⟩ := hr j [x] (by rw [List.getElem?_map, hx]; rfl)
    have := hcell 0 x (by rw [hk.1]; rfl)
    have e6 : (⟨g, 0, none⟩ : Addr).add (j * (Kd.raw 1).sz + 0) = ⟨g, j, none⟩ := by
      rw [show j * (Kd.raw 1).sz + 0 = j from by show j * 1 + 0 = j; omega]
      rcases j with _ | j <;> simp [Addr.add]
    rw [e6] at this; exact this
theorem rows_S {W : World} {B base : Nat} {ok : Nat → Prop} {v : Value} {fs : List (List Int)} (h : Kd.S (Kd.slice 3 (Kd.int .i64)) 22 W base ok v fs) (hB : B ≤ base) :
    ∃ inner : List Value, W.ownsRow base 22 1 v fs.length inner ∧ inner.length = fs.length ∧ ∀ x ∈ inner, x.oneCell' = true ∧ ∃ n, RowG W B 3 1 x n := by
  obtain ⟨_, inner, ho, hr⟩ := Kd.S_R h
  have hl : inner.length = fs.length := by have := hr.1; simpa [Kd.slice] using this
  refine ⟨inner, ho, hl, fun x hx => ?_⟩
  obtain ⟨j, hj, rfl⟩ := List.getElem_of_mem hx
  have hj' : j < fs.length := by omega
  obtain ⟨u, hu, hR⟩ := hr.2 j fs[j] (List.getElem?_eq_getElem hj')
  have hu' : List.take 1 (List.drop (j * 1) inner) = [u] := hu
  rw [Nat.mul_one, List.drop_eq_getElem_cons hj] at hu'
  have : inner[j] = u := by injection hu'
  rw [this]
  have hg := RowG.of_R hR hB
  obtain ⟨_, A, c, e⟩ := hg.len
  exact ⟨by rw [e]; rfl, _, hg⟩

theorem Wr.cell {B T : Nat} {W W' : World} (hw : Wr B T W W') {g e o : Nat} {cs : Array Value} {x : Value} (hh : W.heap[g]? = some (.cells cs e (0, 0))) (hne : e ≠ T) (hc : W.cell? ⟨g, o, none⟩ = some x) : W'.cell? ⟨g, o, none⟩ = some x := by
  rw [blk_cell hh] at hc; rw [blk_cell (hw.other g cs e hh hne)]; exact hc
theorem Wr.trans {B T : Nat} {W W' W'' : World} (h : Wr B T W W') (h' : Wr B T W' W'') : Wr B T W W'' :=
  ⟨h.below.trans h'.below, fun q cs t hq ht => h'.other q cs t (h.other q cs t hq ht) ht, fun q cs hq => by
    obtain ⟨c1, h1, h2⟩ := h.same q cs hq
    obtain ⟨c2, h3, h4⟩ := h'.same q c1 h1
    exact ⟨c2, h3, h4.trans h2⟩⟩

theorem R_C {α : Type} {d : Kd α} {e base : Nat} {ok : Nat → Prop} {w : World} {v : Value} {xs : List α} (h : d.R e w base ok v xs) : ∃ A c, v = .slice A xs.length c ∧ xs.length ≤ c ∧ d.C w A xs.length xs := Kd.R_reads h

set_option maxHeartbeats 8000000 in
set_option maxRecDepth 100000 in
theorem own_head (a0 : Int) (A1 : Option Addr) (c1 : Nat) (l1 : List Int) (w : World) (hr1 : Kd.C (Kd.int .i64) w A1 l1.length l1) (hc1 : l1.length ≤ c1)
    (k : Nat) (t m : Int) (l f c a : List Int) (ea : Int) (ps : List S35) (fs : List (List Int)) (vs : List Int)
    (h0 : galloonlaw06_mod.f a0 63 = some t) (h1 : 0 ≤ t ∧ t ≤ 62) (hm : 2 + t = m)
    (h2 : galloonlaw06_tame.f k m l1 = some l) (h3 : galloonlaw06_list.f l = some l) (h4 : shuffle_Values.f k m l = some (f, 0)) (h5 : galloonlaw06_list.f f = some f)
    (h6 : shuffle_Form.f k m f = some (c, 0)) (h7 : shuffle_After.f k m f f = some (a, ea)) (h8 : shuffle_Split.f k m l = some (ps, fs, 0))
    (h9 : galloonlaw06_ints.f k l l = some true) (h10 : galloonlaw06_ints.f k f f = some true) (h11 : galloonref06_Values.f k m l = some f)
    (h12 : 0 < fs.length) (h13 : galloonref06_Listed.f k m (rd_L1 fs 0) = some true) (h14 : galloonlaw06_awake.f k = some true) (h15 : fs.length ≤ 100) (h16 : ps.length ≤ 100) :
    Calls Try.prog 3 #[.int .i64 a0, .slice A1 l1.length c1] w fun e w' => e = .returned (.bool true) ∧ Below w.heap.size w w' := by
  have HR1 := Aside0.mk hr1
  have HC1 := Aside0.mk hc1
  have HM := Aside0.mk hm
  have H2 := Aside0.mk h2; have H3 := Aside0.mk h3; have H4 := Aside0.mk h4; have H5 := Aside0.mk h5; have H6 := Aside0.mk h6
  have H7 := Aside0.mk h7; have H8 := Aside0.mk h8; have H9 := Aside0.mk h9; have H10 := Aside0.mk h10; have H11 := Aside0.mk h11
  have H12 := Aside0.mk h12; have H13 := Aside0.mk h13; have H14 := Aside0.mk h14; have H15 := Aside0.mk h15; have H16 := Aside0.mk h16
  clear hr1 hc1 h2 h3 h4 h5 h6 h7 h8 h9 h10 h11 h12 h13 h14 h15 h16 hm
  obtain ⟨ht0, ht1⟩ := h1
  go_enter Try.func3, Try.ntmps3
  go_wp2_with fail
  refine (galloonlaw06_mod.calls a0 63 t _ h0).mono ?_
  rintro e w' ⟨rfl, ⟨n0, rfl⟩⟩
  go_wp2_with fail
  rw [HM.out]
  refine (galloonlaw06_tame.calls k m A1 c1 l1 l _ (Kd.C_drewN HR1.out _) HC1.out H2.out).mono ?_
  rintro e w1 ⟨v5, rfl, hl, hb1⟩
  obtain ⟨A5, c5, rfl, hc5, hC5⟩ := R_C hl
  have HC5 := Aside0.mk hC5; have HL5 := Aside0.mk hc5
  have HB1 : Aside0 (Below w.heap.size w w1) := ⟨(pw_below_drewN (Below.refl _ w) n0).trans hb1⟩
  clear hl hC5 hc5 hb1
  go_wp2_with fail
  refine (galloonlaw06_list.calls A5 c5 l l _ HC5.out HL5.out H3.out).mono ?_
  rintro e w2 ⟨v6, rfl, hl, hb⟩
  obtain ⟨A6, c6, rfl, hc6, hC6⟩ := R_C hl
  have HC6 := Aside0.mk hC6; have HL6 := Aside0.mk hc6
  have HB2 := Aside0.mk hb
  clear hl hC6 hc6 hb
  go_wp2_with fail
  refine (shuffle_Values.calls k m A5 c5 l f 0 _ (Kd.C_below HC5.out HB2.out) HL5.out H4.out).mono ?_
  rintro e w3 ⟨v7, rfl, hl, hb⟩
  obtain ⟨A7, c7, rfl, hc7, hC7⟩ := R_C hl
  have HI7 := Aside0.mk (RowG.of_R hl (Nat.le_refl _))
  have HC7 := Aside0.mk hC7; have HL7 := Aside0.mk hc7
  have HB3 := Aside0.mk hb
  clear hl hC7 hc7 hb
  go_wp2_with fail
  refine (galloonlaw06_list.calls A7 c7 f f _ HC7.out HL7.out H5.out).mono ?_
  rintro e w4 ⟨v9, rfl, hl, hb⟩
  obtain ⟨A9, c9, rfl, hc9, hC9⟩ := R_C hl
  have HC9 := Aside0.mk hC9; have HL9 := Aside0.mk hc9
  have HB4 := Aside0.mk hb
  clear hl hC9 hc9 hb
  go_wp2_with fail
  refine (shuffle_Form.calls k m A7 c7 f c 0 _ (Kd.C_below HC7.out HB4.out) HL7.out H6.out).mono ?_
  rintro e w5 ⟨v10, rfl, hl, hb⟩
  have hs2 := HB2.out.size
  have hs3 := HB3.out.size
  have hs4 := HB4.out.size
  have HI10 := Aside0.mk (RowG.of_R hl (show w2.heap.size ≤ w4.heap.size by omega))
  obtain ⟨A10, c10, rfl, hc10, hC10⟩ := R_C hl
  have HB5 := Aside0.mk hb
  clear hl hC10 hc10 hb hs2 hs3 hs4
  go_wp2_with fail
  have HB45 := Aside0.mk (HB4.out.trans (HB5.out.mono HB4.out.size))
  refine (shuffle_After.calls k m A7 c7 f A7 c7 f a ea _ (Kd.C_below HC7.out HB45.out) HL7.out (Kd.C_below HC7.out HB45.out) HL7.out H7.out).mono ?_
  rintro e w6 ⟨v49, rfl, hl, hb⟩
  have HB6 := Aside0.mk hb
  clear hl hb
  go_wp2_with fail
  have HB26 := Aside0.mk (HB2.out.trans ((HB3.out.trans ((HB45.out.trans (HB6.out.mono (Nat.le_trans HB4.out.size HB5.out.size))).mono HB3.out.size)).mono HB2.out.size))
  refine (shuffle_Split.calls k m A5 c5 l ps fs 0 _ (Kd.C_below HC5.out HB26.out) HL5.out H8.out).mono ?_
  rintro e w7 ⟨v12, v13, rfl, hp, hs, hb⟩
  have HB7 := Aside0.mk hb
  obtain ⟨Ap, cp, rfl⟩ := Kd.R_slice hp
  obtain ⟨Af, cf, rfl, hcf, hCf⟩ := Kd.S_reads hs
  have hlp := (Kd.R_reads' hp).2.2.2.1
  have HP := Aside0.mk hp
  have HS := Aside0.mk hs
  have HB27 := Aside0.mk (HB26.out.trans (HB7.out.mono HB26.out.size))
  have HC57 := Aside0.mk (Kd.C_below HC5.out HB27.out)
  have HB37 := Aside0.mk ((HB45.out.trans ((HB6.out.trans (HB7.out.mono HB6.out.size)).mono (Nat.le_trans HB4.out.size HB5.out.size))))
  have HBc7 := Aside0.mk (HB3.out.trans (HB37.out.mono HB3.out.size))
  have HC67 := Aside0.mk (Kd.C_below HC6.out HBc7.out)
  have HC77 := Aside0.mk (Kd.C_below HC7.out HB37.out)
  have HC97 := Aside0.mk (Kd.C_below HC9.out (HB5.out.trans ((HB6.out.trans (HB7.out.mono HB6.out.size)).mono HB5.out.size)))
  clear hp hs hb hcf hCf
  go_wp2_with fail
  refine (galloonlaw06_ints.calls k A5 c5 l A6 c6 l true _ HC57.out HL5.out HC67.out HL6.out H9.out).mono ?_
  rintro e w' ⟨rfl, ⟨n1, rfl⟩⟩
  go_wp2_with fail
  refine (galloonlaw06_ints.calls k A7 c7 f A9 c9 f true _ (Kd.C_drewN HC77.out _) HL7.out (Kd.C_drewN HC97.out _) HL9.out H10.out).mono ?_
  rintro e w' ⟨rfl, ⟨n2, rfl⟩⟩
  go_wp2_with fail
  have hRP : RowG w7 w2.heap.size 35 2 (.slice Ap ps.length cp) ps.length := by
    have hs7 := HB2.out.size
    have hs8 := HBc7.out.size
    have := RowG.of_R (B := w2.heap.size) HP.out (Nat.le_trans HB3.out.size (Nat.le_trans HB45.out.size HB6.out.size))
    exact this
  obtain ⟨W8, hW8⟩ : ∃ W8, w7.drewN (n1 + n2) = W8 := ⟨_, rfl⟩
  rw [hW8]
  have hb78 : Below w7.heap.size w7 W8 := by rw [← hW8]; exact pw_below_drewN (Below.refl _ _) _
  have HRP := Aside0.mk (hRP.below hb78)
  have HB78 := Aside0.mk hb78
  clear hRP hb78 hW8
  go_loopg [15] ps.length (fun kq v15 wr => ∃ j : Nat, v15 = .int .i64 j ∧ Aside0 (kq + j = ps.length) ∧ Aside0 (Wr w2.heap.size 35 W8 wr))
  case atStart => exact ⟨0, rfl, ⟨by omega⟩, ⟨Wr.refl _ _ _⟩⟩
  case round =>
    obtain ⟨j, rfl, HJ, HW⟩ := hrel
    have hj := HJ.out
    have hlps := H16.out
    by_cases hlt : j < ps.length
    · obtain ⟨gp, cur, rfl, hgB, hgc, hlt0, v0, hv0⟩ := (HRP.out.wr HW.out).at_ (j := j) (o := 0) hlt (by omega)
      obtain ⟨gp', cur', e1, hgB', hgc', hlt1, v1, hv1⟩ := (HRP.out.wr HW.out).at_ (j := j) (o := 1) hlt (by omega)
      injection e1 with e1; injection e1 with e1; subst e1
      simp only [Nat.add_zero] at hv0
      have HGC := Aside0.mk hgc
      have HGB := Aside0.mk hgB
      have f0 := blk_frozen hgc (j * 2)
      have f1 := blk_frozen hgc (j * 2 + 1)
      clear hgc hgc' hgB hgB' hlt0 hlt1
      go_wp2_with fail
      go_roundg (ps.length - (j + 1))
      case measure => omega
      case rel => exact ⟨j + 1, by go_num, ⟨by omega⟩, ⟨((HW.out.set HGC.out HGB.out _).set (blk_set HGC.out _ _) HGB.out _)⟩⟩
    · obtain ⟨inn, hinn, hlinn, hginn⟩ := rows_S (B := w2.heap.size) HS.out (Nat.le_trans HB3.out.size (Nat.le_trans HB45.out.size HB6.out.size))
      have HO8 := Aside0.mk (own_wr (pw_own_below hinn HB78.out) HW.out (by decide))
      have HL8 := Aside0.mk hlinn
      have HG8 := Aside0.mk hginn
      have HRI := Aside0.mk (raw_of_own HO8.out HL8.out (fun u hu => (HG8.out u hu).1))
      clear hinn hlinn hginn
      go_wp2_with (at_builtin; refine Kd.R_append_rows (Kd.raw 1) (w0 := wr) wr.heap.size rfl (.tmp 91) (.tmp 92) 31 22 (.slice none 0 0) 24 rfl Try.underlying31 info22 rfl (by decide) (by omega) (.slice (some ⟨wr.heap.size, 0, none⟩) 2 2) [[.slice A7 f.length c7], [.slice A10 c.length c10]] (inn.map fun x => [x]) Af fs.length cf (fun _ => True) (fun _ => False) rfl rfl ?aO ?aR (fun _ _ h => h) (fun _ h => h.elim) (fun _ _ => trivial) ?aB ?aS ?aL ?_)
      case aO => exact raw_of_own (xs := [.slice A7 f.length c7, .slice A10 c.length c10]) (World.ownsRow_lit (base := wr.heap.size) (e := 22) (size := 1) wr #[.slice A7 f.length c7, .slice A10 c.length c10] 2 (Nat.le_refl _) (by decide) rfl) rfl (by simp [Value.oneCell'])
      case aR => have hx := Kd.C_alloc (Kd.R_reads' HRI.out).2.2 (.cells #[.slice A7 f.length c7, .slice A10 c.length c10] 22); rw [List.length_map, HL8.out] at hx; exact hx
      case aB => exact (Below.refl _ _).alloc (Nat.le_refl _) _
      case aS => simp
      case aL => have := H15.out; simp; omega
      intro va wa ho hb hg hat
      obtain ⟨ga, ca, cura, rfl, hga, hha, hla, hva⟩ := own_vals (vs := .slice A7 f.length c7 :: .slice A10 c.length c10 :: inn) ho (by simp)
      have HGA := Aside0.mk hga
      have HHA := Aside0.mk hha
      have HLA := Aside0.mk hla
      have HVA := Aside0.mk hva
      have HB9 := Aside0.mk hb
      have hLn := HL8.out
      clear ho hb hg hat hga hha hla hva hj
      obtain ⟨NV, hNV⟩ : ∃ NV, (Value.slice A7 f.length c7 :: Value.slice A10 c.length c10 :: inn) = NV := ⟨_, rfl⟩
      rw [hNV] at HVA HLA ⊢
      have hRG : ∀ x ∈ NV, ∃ n, RowG wa w2.heap.size 3 1 x n := by
        have hT : ∀ x n, RowG w7 w2.heap.size 3 1 x n → RowG wa w2.heap.size 3 1 x n := fun x n h => ((h.below HB78.out).wr HW.out).below HB9.out
        intro x hx
        rw [← hNV] at hx
        rcases List.mem_cons.1 hx with rfl | hx
        · exact ⟨_, hT _ _ (HI7.out.below HB37.out)⟩
        rcases List.mem_cons.1 hx with rfl | hx
        · exact ⟨_, hT _ _ (HI10.out.below (HB6.out.trans (HB7.out.mono HB6.out.size)))⟩
        · obtain ⟨n, hn⟩ := (HG8.out x hx).2
          exact ⟨n, hT _ _ hn⟩
      have HRG := Aside0.mk hRG
      have hBa : Below w2.heap.size w2 wa := HBc7.out.trans ((HB78.out.mono HBc7.out.size).trans (HW.out.below.trans (HB9.out.mono (Nat.le_trans HBc7.out.size (Nat.le_trans HB78.out.size HW.out.below.size)))))
      have HBA := Aside0.mk hBa
      clear hRG hNV hBa HB9 HW HGA
      go_wp2_with fail
      go_loopg [17, 18] NV.length (fun kq v17 v18 wi => ∃ j : Nat, v17 = .int .i64 j ∧ Aside0 (kq + j = NV.length) ∧ Aside0 (Wr w2.heap.size 3 wa wi))
      case atStart => exact ⟨0, rfl, ⟨by omega⟩, ⟨Wr.refl _ _ _⟩⟩
      case round =>
        rename Value => v18
        obtain ⟨j, rfl, HJ2, HW2⟩ := hrel
        have hj := HJ2.out
        have hla := HLA.out
        by_cases hlt : j < NV.length
        · obtain ⟨n1, hg1⟩ := HRG.out NV[j] (List.getElem_mem hlt)
          obtain ⟨hnn, An, cn, hvn⟩ := hg1.len
          have hcn := HVA.out j NV[j] (List.getElem?_eq_getElem hlt)
          rw [hvn] at hcn hg1
          have hcn' := HW2.out.cell HHA.out (by decide) hcn
          have HG1 := Aside0.mk hg1
          have HCN := Aside0.mk hcn
          clear hcn hg1 hvn
          go_wp2_with fail
          go_loopg [18] n1 (fun kq v18 wi => ∃ i : Nat, v18 = .int .i64 i ∧ Aside0 (kq + i = n1) ∧ Aside0 (Wr w2.heap.size 3 wa wi))
          case atStart => exact ⟨0, rfl, ⟨by omega⟩, HW2⟩
          case round =>
            obtain ⟨i, rfl, HI3, HW3⟩ := hrel
            have hi := HI3.out
            have hcn := HW3.out.cell HHA.out (by decide) HCN.out
            by_cases hlt3 : i < n1
            · obtain ⟨gr, cr, rfl, hgB, hgc, hlt0, v0, hv0⟩ := (HG1.out.wr HW3.out).at_ (j := i) (o := 0) hlt3 (by omega)
              simp only [Nat.add_zero, Nat.mul_one] at hv0
              have HGC := Aside0.mk hgc
              have HGB := Aside0.mk hgB
              have f0 := blk_frozen hgc i
              clear hgc hgB hlt0
              go_wp2_with fail
              go_roundg (n1 - (i + 1))
              case measure => omega
              case rel => exact ⟨i + 1, by go_num, ⟨by omega⟩, ⟨HW3.out.set HGC.out HGB.out _⟩⟩
            · go_wp2_with fail
              go_roundg (NV.length - (j + 1))
              case measure => omega
              case rel => exact ⟨j + 1, by go_num, ⟨by omega⟩, HW3⟩
        · have hbe : Below w2.heap.size w2 wr := HBA.out.trans HW2.out.below
          have HBE := Aside0.mk hbe
          have HC51 := Aside0.mk (Kd.C_below HC5.out (HB2.out.trans (hbe.mono HB2.out.size)))
          have HC61 := Aside0.mk (Kd.C_below HC6.out hbe)
          clear hbe
          go_wp2_with fail
          refine (shuffle_Values.calls k m A5 c5 l f 0 _ HC51.out HL5.out H4.out).mono ?_
          rintro e w10 ⟨v10, rfl, hl, hb⟩
          obtain ⟨A20, c20, rfl, hc20, hC20⟩ := R_C hl
          have HC20 := Aside0.mk hC20; have HL20 := Aside0.mk hc20
          have HB10 := Aside0.mk hb
          clear hl hC20 hc20 hb
          go_wp2_with fail
          refine (shuffle_Split.calls k m A5 c5 l ps fs 0 _ (Kd.C_below HC51.out HB10.out) HL5.out H8.out).mono ?_
          rintro e w11 ⟨v12, v13, rfl, hp, hs, hb⟩
          have HB11 := Aside0.mk hb
          obtain ⟨Ap1, cp1, rfl⟩ := Kd.R_slice hp
          obtain ⟨Ag, cg, rfl, hcg, hCg⟩ := Kd.S_reads hs
          have HCG := Aside0.mk hCg
          have HB1011 := Aside0.mk (HB10.out.trans (HB11.out.mono HB10.out.size))
          have HC52 := Aside0.mk (Kd.C_below HC51.out HB1011.out)
          have HC62 := Aside0.mk (Kd.C_below HC61.out HB1011.out)
          have HC21 := Aside0.mk (Kd.C_below HC20.out HB11.out)
          clear hp hs hb hcg hCg
          go_wp2_with fail
          refine (galloonlaw06_ints.calls k A5 c5 l A6 c6 l true _ HC52.out HL5.out HC62.out HL6.out H9.out).mono ?_
          rintro e w' ⟨rfl, ⟨n3, rfl⟩⟩
          go_wp2_with fail
          refine (galloonref06_Values.calls k m A6 c6 l f _ (Kd.C_drewN HC62.out _) HL6.out H11.out).mono ?_
          rintro e w12 ⟨v30, rfl, hl, hb⟩
          obtain ⟨A30, c30, rfl, hc30, hC30⟩ := R_C hl
          have HC30 := Aside0.mk hC30; have HL30 := Aside0.mk hc30
          have HB12 : Aside0 (Below w11.heap.size w11 w12) := ⟨(pw_below_drewN (Below.refl _ _) n3).trans hb⟩
          clear hl hC30 hc30 hb
          have HC22 := Aside0.mk (Kd.C_below HC21.out HB12.out)
          have HCG2 := Aside0.mk (Kd.C_below HCG.out HB12.out)
          go_wp2_with fail
          refine (galloonlaw06_ints.calls k A20 c20 f A30 c30 f true _ HC22.out HL20.out HC30.out HL30.out H10.out).mono ?_
          rintro e w' ⟨rfl, ⟨n4, rfl⟩⟩
          have h12 := H12.out
          obtain ⟨adg, cg0, eg, hcg0, ⟨Ah, ch, rfl, hch, hCh⟩, hcell⟩ := ReadsRow.get_ HCG2.out ([] : List Int) 0 (by omega) (by omega)
          subst eg
          have hx : w12.cell? adg = some (.slice Ah (fs.getD (Int.toNat 0) []).length ch) := by simpa [Addr.add, Kd.slice] using hcell 0 _ rfl
          have e0 : (fs.getD (Int.toNat 0) []) = rd_L1 fs 0 := rfl
          rw [e0] at hx hCh hch
          have HCH := Aside0.mk hCh
          have HLH := Aside0.mk hch
          clear hcell hCh hch e0 hcg0
          go_wp2_with fail
          refine (galloonref06_Listed.calls k m Ah ch (rd_L1 fs 0) true _ (Kd.C_drewN HCH.out _) HLH.out H13.out).mono ?_
          rintro e w' ⟨rfl, ⟨n5, rfl⟩⟩
          go_wp2_with fail
          refine (galloonlaw06_awake.calls k true _ H14.out).mono ?_
          rintro e w13 ⟨rfl, hb13⟩
          have hbz : Below w.heap.size w w13 := by
            have s1 := HB1.out.size
            have s2 := HB2.out.size
            have s3 := HBE.out.size
            have s4 := HB1011.out.size
            have s5 := HB12.out.size
            have h2 : Below w.heap.size w12 w13 := by
              have hd := (pw_below_drewN (Below.refl w12.heap.size w12) (n4 + n5)).mono (show w.heap.size ≤ w12.heap.size by omega)
              have hd2 := hd.size
              exact hd.trans (hb13.mono (by omega))
            exact HB1.out.trans ((HB2.out.mono (by omega)).trans ((HBE.out.mono (by omega)).trans ((HB1011.out.mono (by omega)).trans ((HB12.out.mono (by omega)).trans h2))))
          clear hb13
          go_wp2_with fail
          go_ret
          exact ⟨rfl, hbz⟩
end Go.Proofs.Ytohgdegklhlldaa.G
