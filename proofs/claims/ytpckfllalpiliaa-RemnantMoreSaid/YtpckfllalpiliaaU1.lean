/- Ways: its inner function, over a map of what is known. -/
import Derived.Maps.OwnSet
import Derived.Maps.OwnOps
import Derived.BigQuiet
import Derived.Deep.QuietTactic
import Derived.Laws.EntriesVeiled
import Derived.Laws.BitsAllLaws
import Derived.Test.YtpckfllalpiliaaK2
import Derived.Test.YtpckfllalpiliaaH3
namespace Go.Proofs.Ytpckfllalpiliaa.G
open Go.RowKit Go.Maps Go.Proofs.YtpckfllalpiliaaW.PrintWords Go.Proofs.YtpckfllalpiliaaW.PrintMore
set_option linter.unusedVariables false
set_option maxRecDepth 10000

def ku (x : Nat) : Lit := .int .u64 (x : Int)
/-- the lowest digit of a set, and what is left -/
def lowb (m : Nat) : Nat := m &&& (18446744073709551616 - m)
def restb (m : Nat) : Nat := m &&& (18446744073709551615 - lowb m)
/-- the sum over all parts s of rest, downward -/
def sumE (room : Int) (sums : List Int) (V : Nat → Int) (rest low : Nat) (s : Nat) (acc : Int) : Int :=
  if h : s = 0 then (if rd sums ((s ||| low : Nat) : Int) ≤ room then wrap64 (acc + V (rest &&& (18446744073709551615 - s))) else acc)
  else sumE room sums V rest low ((s - 1) &&& rest) (if rd sums ((s ||| low : Nat) : Int) ≤ room then wrap64 (acc + V (rest &&& (18446744073709551615 - s))) else acc)
termination_by s
decreasing_by have := Nat.and_le_left (n := s - 1) (m := rest); omega
structure WaysEq (room : Int) (sums : List Int) (V : Nat → Int) (N : Nat) : Prop where
  zero : V 0 = 1
  step : ∀ m, 0 < m → m < N → V m = sumE room sums V (restb m) (lowb m) (restb m) 0
theorem sumE_wf (room : Int) (sums : List Int) (V : Nat → Int) (rest low : Nat) : ∀ (s : Nat) (acc : Int), (Lit.int .i64 acc).wf = true → (Lit.int .i64 (sumE room sums V rest low s acc)).wf = true := by
  intro s
  induction s using Nat.strongRecOn with
  | ind s ih =>
    intro acc h
    have h2 : (Lit.int .i64 (if rd sums ((s ||| low : Nat) : Int) ≤ room then wrap64 (acc + V (rest &&& (18446744073709551615 - s))) else acc)).wf = true := by
      split
      · exact wrap64_wf _
      · exact h
    rw [sumE]
    split
    · exact h2
    · exact ih _ (by have := Nat.and_le_left (n := s - 1) (m := rest); omega) _ h2

/-- what is known is right -/
structure Memo (V : Nat → Int) (N n : Nat) (D : DU) : Prop where
  isMap : IsMap D
  zero : Maps.has D (ku 0) = true
  val : ∀ m, m < N → Maps.has D (ku m) = true → D.atKey (ku m) (lv 0) = lv (V m)
  cnt : n + (List.range N).countP (fun m => !Maps.has D (ku m)) ≤ N
theorem countP_drop (f g : Nat → Bool) (m : Nat) (h : ∀ x, x ≠ m → f x = g x) (hf : f m = true) (hg : g m = false) : ∀ N, (List.range N).countP f = (List.range N).countP g + if m < N then 1 else 0
  | 0 => by simp
  | N + 1 => by
    rw [List.range_succ, List.countP_append, List.countP_append, countP_drop f g m h hf hg N]
    by_cases e : N = m
    · subst e; simp [List.countP_cons, hf, hg]
    · have := h N e
      simp only [List.countP_cons, List.countP_nil, this]
      by_cases h1 : m < N
      · rw [if_pos h1, if_pos (show m < N + 1 by omega)]; omega
      · rw [if_neg h1, if_neg (show ¬ m < N + 1 by omega)]; omega
theorem ku_ne {a b : Nat} (h : a ≠ b) : ku a ≠ ku b := by
  intro e
  unfold ku at e
  injection e with _ e
  exact h (by omega)
theorem Memo.put {V : Nat → Int} {N n : Nat} {D : DU} (h : Memo V N n D) {m : Nat} (hm : m < N) (hno : Maps.has D (ku m) = false) : Memo V N (n + 1) (D.put (ku m) (lv (V m))) := by
  have hm0 : m ≠ 0 := by rintro rfl; rw [h.zero] at hno; cases hno
  refine ⟨?_, ?_, ?_, ?_⟩
  · obtain ⟨es, rfl⟩ := h.isMap; exact ⟨_, rfl⟩
  · rw [has_put_other (ku_ne (fun e => hm0 e.symm))]; exact h.zero
  · intro x hx hhas
    by_cases e : x = m
    · subst e; exact atKey_put_same h.isMap (show WideAt.IsKeyLit (ku x) from trivial) _ _
    · rw [has_put_other (ku_ne e)] at hhas
      rw [atKey_put_other (ku_ne e)]
      exact h.val x hx hhas
  · have h1 := countP_drop (fun x => !Maps.has D (ku x)) (fun x => !Maps.has (D.put (ku m) (lv (V m))) (ku x)) m (fun x hx => by rw [has_put_other (ku_ne hx)]) (by simp [hno]) (by simp [has_put_same h.isMap (show WideAt.IsKeyLit (ku m) from trivial)]) N
    rw [if_pos hm] at h1
    have := h.cnt
    omega

theorem lawS : Keyed Try.prog 57 := int_keyed Try.underlying57

/-- what lies in memory for the inner function -/
structure WaysM (room : Int) (sums : List Int) (M kB sB rB wB : Nat) (A : Addr) (cs : Nat) (W : World) : Prop where
  known : W.heap[kB]? = some (.cells #[.map (some M)] 58 (0, 0))
  sums_ : W.heap[sB]? = some (.cells #[.slice (some A) sums.length cs] 22 (0, 0))
  room_ : W.heap[rB]? = some (.cells #[.int .i64 room] 3 (0, 0))
  self : W.heap[wB]? = some (.cells #[.func (.func 33) #[] #[.pointer (some ⟨kB, 0, none⟩), .pointer (some ⟨sB, 0, none⟩), .pointer (some ⟨rB, 0, none⟩), .pointer (some ⟨wB, 0, none⟩)]] 59 (0, 0))
  row : Kd.C (Kd.int .i64) W (some A) sums.length sums
structure WaysS (V : Nat → Int) (N B M n : Nat) (D : DU) (W0 W : World) : Prop where
  keep : KeepsK (fun q => q ≠ M) W0 W
  below : Below B W0 W
  own : W.ownsMap Try.prog 57 (plainElem Try.prog 3) M n D
  memo : Memo V N n D
theorem WaysM.keeps {room : Int} {sums : List Int} {M kB sB rB wB : Nat} {A : Addr} {cs : Nat} {W W' : World} (h : WaysM room sums M kB sB rB wB A cs W) (hk : KeepsK (fun q => q ≠ M) W W') (h1 : kB ≠ M) (h2 : sB ≠ M) (h3 : rB ≠ M) (h4 : wB ≠ M) (h5 : A.block ≠ M) (h6 : A.block < W.heap.size) : WaysM room sums M kB sB rB wB A cs W' :=
  ⟨hk.at_ h1 h.known, hk.at_ h2 h.sums_, hk.at_ h3 h.room_, hk.at_ h4 h.self, C_same h.row (fun a ha => by cases ha; exact hk.blk _ h5 h6)⟩

theorem ways_grown {M : Nat} {W W' : World} (h : W.grownBy W' (some M)) : KeepsK (fun q => q ≠ M) W W' := ⟨h.size, fun q hq hl => h.block q hl (fun e => hq (Option.some.inj e))⟩
theorem WaysM.drewN {room : Int} {sums : List Int} {M kB sB rB wB : Nat} {A : Addr} {cs : Nat} {W : World} (h : WaysM room sums M kB sB rB wB A cs W) (n : Nat) : WaysM room sums M kB sB rB wB A cs (W.drewN n) := ⟨h.known, h.sums_, h.room_, h.self, Kd.C_drewN h.row n⟩
def WaysPost (V : Nat → Int) (N B M : Nat) (left : Nat) (D0 : DU) (W : World) (r : Int) (e : Ending) (W' : World) : Prop := e = .returned (.int .i64 r) ∧ ∃ n D, WaysS V N B M n D W W' ∧ ∀ x, left < x → Maps.has D (ku x) = Maps.has D0 (ku x)
theorem WaysS.drewN {V : Nat → Int} {N B M n : Nat} {D : DU} {W0 W : World} (h : WaysS V N B M n D W0 W) (k : Nat) : WaysS V N B M n D W0 (W.drewN k) := ⟨h.keep.trans (KeepsK.drewN _ _ _), pw_below_drewN h.below k, h.own, h.memo⟩
theorem sumE_zero {room : Int} {sums : List Int} {V : Nat → Int} {rest low : Nat} {acc : Int} : sumE room sums V rest low 0 acc = (if rd sums ((0 ||| low : Nat) : Int) ≤ room then wrap64 (acc + V (rest &&& (18446744073709551615 - 0))) else acc) := by
  rw [sumE, dif_pos rfl]
theorem sumE_succ {room : Int} {sums : List Int} {V : Nat → Int} {rest low s : Nat} {acc : Int} (h : s ≠ 0) : sumE room sums V rest low s acc = sumE room sums V rest low ((s - 1) &&& rest) (if rd sums ((s ||| low : Nat) : Int) ≤ room then wrap64 (acc + V (rest &&& (18446744073709551615 - s))) else acc) := by
  rw [sumE, dif_neg h]

set_option maxHeartbeats 8000000 in
set_option maxRecDepth 100000 in
theorem ways_in (room : Int) (sums : List Int) (V : Nat → Int) (N B M kB sB rB wB : Nat) (A : Addr) (cs : Nat) (hN : N ≤ 4096) (hV : WaysEq room sums V N) (hlen : sums.length = N) (hM : B ≤ M)
    (h1 : kB ≠ M) (h2 : sB ≠ M) (h3 : rB ≠ M) (h4 : wB ≠ M) (h5 : A.block ≠ M) (hbit : ∀ m s, 0 < m → m < N → s &&& restb m = s → s ||| lowb m < N ∧ restb m &&& (18446744073709551615 - s) < m) :
    ∀ (left n : Nat) (D : DU) (W0 W : World), left < N → B ≤ W0.heap.size → WaysM room sums M kB sB rB wB A cs W0 → WaysS V N B M n D W0 W →
      Calls Try.prog 33 #[.int .u64 left, .pointer (some ⟨kB, 0, none⟩), .pointer (some ⟨sB, 0, none⟩), .pointer (some ⟨rB, 0, none⟩), .pointer (some ⟨wB, 0, none⟩)] W (WaysPost V N B M left D W0 (V left)) := by
  intro left
  induction left using Nat.strongRecOn with
  | ind left ih =>
    intro n D W0 W hl hBW hE hS
    have hS0 : Aside0 (B ≤ W0.heap.size) := ⟨hBW⟩
    have kk := (blk_cell (hS.keep.at_ h1 hE.known) 0).trans (show (#[Value.map (some M)] : Array Value)[0]? = some (Value.map (some M)) from rfl)
    have hkey : keyOf Try.prog 57 (.int .u64 left) = some (ku left) := keyOf_int_mk Try.underlying57 (by simp [Lit.wf, IntKind.min, IntKind.max, IntKind.signed, IntKind.bits]; omega)
    cases hh : Maps.has D (ku left) with
    | true =>
      have hval := hS.memo.val left hl hh
      have HE := Aside0.mk hE
      have HS := Aside0.mk hS
      have HK := Aside0.mk hkey
      have HH := Aside0.mk hh
      have HV := Aside0.mk hval
      clear hE hS hkey hh hval ih hV hbit hBW
      go_enter Try.func33, Try.ntmps33
      go_wp2_with (first | (at_lookup; refine wpList_lookup_own_ok_int _ rfl _ _ 58 rfl 57 3 .i64 lawS Try.underlying58 Try.underlying3 (zero3 _) M n D rfl HS.out.own _ _ rfl HK.out ?_; intro c hat hwc; have HAT := Aside0.mk hat; clear hat hwc; rw [HH.out]) | (at_lookup; refine wpList_lookup_own_int _ rfl _ _ 58 rfl 57 3 .i64 lawS Try.underlying58 Try.underlying3 (zero3 _) M n D rfl HS.out.own _ _ rfl HK.out ?_; intro c2 hat2 hwc2; have HAT2 := Aside0.mk hat2; clear hat2 hwc2))
      go_ret
      have hc : c2 = V left := by
        have h := HAT2.out
        rw [show D.atKey (ku left) (.lit (.int .i64 0)) = lv (V left) from HV.out] at h
        unfold lv at h
        injection h with h
        injection h with _ h
        exact h.symm
      exact ⟨by rw [hc]; rfl, n, D, HS.out, fun _ _ => rfl⟩
    | false =>
      have hl0 : 0 < left := by
        rcases Nat.eq_zero_or_pos left with e | e
        · subst e; rw [hS.memo.zero] at hh; cases hh
        · exact e
      obtain ⟨low, hlow⟩ : ∃ low, lowb left = low := ⟨_, rfl⟩
      obtain ⟨rest, hrest⟩ : ∃ rest, restb left = rest := ⟨_, rfl⟩
      have HBIT : Aside0 (∀ s, s &&& rest = s → s ||| low < N ∧ rest &&& (18446744073709551615 - s) < left) := ⟨by rw [← hlow, ← hrest]; exact fun s => hbit left s hl0 hl⟩
      have HVL : Aside0 (V left = sumE room sums V rest low rest 0) := ⟨by rw [← hlow, ← hrest]; exact hV.step left hl0 hl⟩
      obtain ⟨nl, hnl⟩ : ∃ nl : Nat, 18446744073709551616 - left = nl := ⟨_, rfl⟩
      have hneg : IntKind.u64.wrap (-(left : Int)) = (nl : Int) := by simp [IntKind.wrap, IntKind.signed, IntKind.bits]; omega
      have hand : bits .and .u64 (left : Int) (nl : Int) = (low : Int) := by rw [u64_and_nat _ _ (by omega) (by omega), ← hlow, lowb, hnl]
      have hlo : low ≤ left := by rw [← hlow]; exact Nat.and_le_left
      have hrst : bits .andNot .u64 (left : Int) (low : Int) = (rest : Int) := by rw [u64_andNot_nat _ _ (by omega) (by omega), ← hrest, restb, hlow]
      have hrl : rest ≤ left := by rw [← hrest]; exact Nat.and_le_left
      have HLT : Aside0 (A.block < W0.heap.size) := ⟨by
        obtain ⟨-, -, h3⟩ := Kd.reads_of_C (d := (0 : Int)) hE.row
        obtain ⟨ad, e, hc⟩ := h3 (by omega)
        cases e
        have := cell_lt (hc 0 (by omega))
        rwa [addr_block] at this⟩
      have HE := Aside0.mk hE
      have HS := Aside0.mk hS
      have HK := Aside0.mk hkey
      have HH := Aside0.mk hh
      have HIH := Aside0.mk ih
      clear hE hS hkey hh ih hV hbit hnl hlow hrest hBW
      go_enter Try.func33, Try.ntmps33
      go_wp2_with (first | (at_lookup; refine wpList_lookup_own_ok_int _ rfl _ _ 58 rfl 57 3 .i64 lawS Try.underlying58 Try.underlying3 (zero3 _) M n D rfl HS.out.own _ _ rfl HK.out ?_; intro c hat hwc; clear hat hwc; rw [HH.out]))
      go_loopg [11, 12] rest (fun kq v11 v12 wr => ∃ (s : Nat) (acc : Int) (n2 : Nat) (D2 : DU), v11 = .int .i64 acc ∧ v12 = .int .u64 s ∧ Aside0 (kq = s) ∧ Aside0 (s &&& rest = s) ∧ Aside0 (sumE room sums V rest low s acc = sumE room sums V rest low rest 0) ∧ Aside0 (WaysS V N B M n2 D2 W0 wr) ∧ Aside0 (∀ x, left ≤ x → Maps.has D2 (ku x) = Maps.has D (ku x)))
      case atStart => exact ⟨rest, 0, n, D, rfl, rfl, ⟨rfl⟩, ⟨Nat.and_self _⟩, ⟨rfl⟩, HS, ⟨fun _ _ => rfl⟩⟩
      case round =>
        obtain ⟨s, acc, n2, D2, rfl, rfl, HQ, HSUB, HSUM, HS2, HKN⟩ := hrel
        have hsq := HQ.out
        have hsr : s ≤ rest := by have := HSUB.out; rw [← this]; exact Nat.and_le_right
        obtain ⟨hb1, hb2⟩ := HBIT.out s HSUB.out
        obtain ⟨so, hso⟩ : ∃ so, s ||| low = so := ⟨_, rfl⟩
        obtain ⟨rs, hrs⟩ : ∃ rs, rest &&& (18446744073709551615 - s) = rs := ⟨_, rfl⟩
        have hor : bits .or .u64 (s : Int) (low : Int) = (so : Int) := by rw [u64_or_nat _ _ (by omega) (by omega), hso]
        have han : bits .andNot .u64 (rest : Int) (s : Int) = (rs : Int) := by rw [u64_andNot_nat _ _ (by omega) (by omega), hrs]
        rw [hso] at hb1
        rw [hrs] at hb2
        have HE2 : Aside0 (WaysM room sums M kB sB rB wB A cs wr) := ⟨HE.out.keeps HS2.out.keep h1 h2 h3 h4 h5 HLT.out⟩
        have ks := (blk_cell HE2.out.sums_ 0).trans (show (#[Value.slice (some A) sums.length cs] : Array Value)[0]? = some (Value.slice (some A) sums.length cs) from rfl)
        have kr := (blk_cell HE2.out.room_ 0).trans (show (#[Value.int .i64 room] : Array Value)[0]? = some (Value.int .i64 room) from rfl)
        obtain ⟨ad, ead, hx⟩ := Kd.at_int HE2.out.row (so : Int) (by omega) (by omega)
        obtain rfl := Option.some.inj ead
        rw [Int.toNat_natCast] at hx
        obtain ⟨v, hv⟩ : ∃ v, rd sums (so : Int) = v := ⟨_, rfl⟩
        rw [hv] at hx
        have HV := Aside0.mk hv
        have HSO := Aside0.mk hso
        have HRS := Aside0.mk hrs
        have hso0 : (0 : Int) ≤ so := by omega
        have hso1 : (so : Int) < sums.length := by omega
        clear hv hso hrs ead
        have kw := (blk_cell HE2.out.self 0).trans (show (#[Value.func (.func 33) #[] #[.pointer (some ⟨kB, 0, none⟩), .pointer (some ⟨sB, 0, none⟩), .pointer (some ⟨rB, 0, none⟩), .pointer (some ⟨wB, 0, none⟩)]] : Array Value)[0]? = some _ from rfl)
        by_cases hs0 : s = 0
        · have hd0 : ((s : Int) == 0) = true := by simp [hs0]
          by_cases hfit : v ≤ room
          · have hval : wrap64 (acc + V rs) = V left := by
              have h := HSUM.out
              rw [hs0, sumE_zero] at h
              rw [HVL.out, ← h, ← hs0, HSO.out, HRS.out, HV.out, if_pos hfit]
            have HVAL := Aside0.mk hval
            have HWF : Aside0 ((Lit.int .i64 (wrap64 (acc + V rs))).wf = true) := ⟨wrap64_wf _⟩
            clear hval hs0
            go_wp2_with fail
            go_quiet (fail)
            go_wp2_with fail
            refine (HIH.out rs hb2 n2 D2 W0 _ (by omega) hS0.out HE.out (HS2.out.drewN _)).mono ?_
            rintro e w4 ⟨rfl, n4, D4, hs4, hkn4⟩
            have HS4 := Aside0.mk hs4
            have HKN4 : Aside0 (∀ x, left ≤ x → Maps.has D4 (ku x) = Maps.has D (ku x)) := ⟨fun x hx => (hkn4 x (by omega)).trans (HKN.out x hx)⟩
            clear hs4 hkn4
            have HEX : Aside0 (WaysM room sums M kB sB rB wB A cs w4) := ⟨HE.out.keeps HS4.out.keep h1 h2 h3 h4 h5 HLT.out⟩

            have hn2 : n4 ≤ 4096 := by have := HS4.out.memo.cnt; omega
            have kk2 := (blk_cell HEX.out.known 0).trans (show (#[Value.map (some M)] : Array Value)[0]? = some (Value.map (some M)) from rfl)
            go_wp2_with (first | (at_mapUpdate; refine wpList_mapUpdate_own _ rfl _ _ _ 58 rfl 57 3 lawS Try.underlying58 _ M n4 D4 rfl HS4.out.own (by unfold maxLen; omega) _ _ _ rfl rfl HK.out _ [] (plainElem_int Try.underlying3 HWF.out) ?_; intro w3 hown3 hgr3; have HO3 := Aside0.mk hown3; have HG3 := Aside0.mk hgr3; have kk3 := (HG3.out.block _ (blk_lt HEX.out.known) (fun e => h1 (Option.some.inj e))).trans HEX.out.known; have kk3 := (blk_cell kk3 0).trans (show (#[Value.map (some M)] : Array Value)[0]? = some (Value.map (some M)) from rfl); clear hown3 hgr3) | (at_lookup; refine wpList_lookup_own_int _ rfl _ _ 58 rfl 57 3 .i64 lawS Try.underlying58 Try.underlying3 (zero3 _) M _ _ rfl HO3.out _ _ rfl HK.out ?_; intro c2 hat2 hwc2; have HAT2 := Aside0.mk hat2; clear hat2 hwc2))
            go_ret
            have hno : Maps.has D4 (ku left) = false := (HKN4.out left (Nat.le_refl _)).trans HH.out
            have hmp := HS4.out.memo.put hl hno
            rw [← HVAL.out] at hmp
            have hc : c2 = wrap64 (acc + V rs) := by
              have h := HAT2.out
              have h2 : ((D4.put (ku left) (lv (wrap64 (acc + V rs)))).atKey (ku left) (.lit (.int .i64 0)) : DU) = lv (wrap64 (acc + V rs)) := atKey_put_same HS4.out.memo.isMap (show WideAt.IsKeyLit (ku left) from trivial) _ _
              rw [show (D4.put (ku left) (lv (wrap64 (acc + V rs)))) = D4.put (ku left) (.lit (.int .i64 (wrap64 (acc + V rs)))) from rfl] at h2
              rw [h2] at h
              unfold lv at h
              injection h with h
              injection h with _ h
              exact h.symm
            refine ⟨by rw [hc, HVAL.out]; rfl, n4 + 1, _, ⟨HS4.out.keep.trans (ways_grown HG3.out), HS4.out.below.grown HG3.out (by have := HS4.out.below.size; have := hS0.out; omega) (fun k e => by cases e; exact hM), HO3.out, hmp⟩, fun x hx => ?_⟩
            rw [has_put_other (ku_ne (by omega))]
            exact HKN4.out x (by omega)

          · have hval : acc = V left := by
              have h := HSUM.out
              rw [hs0, sumE_zero] at h
              rw [HVL.out, ← h, ← hs0, HSO.out, HV.out, if_neg hfit]
            have HVAL := Aside0.mk hval
            have HWF : Aside0 ((Lit.int .i64 acc).wf = true) := ⟨by rw [hval, HVL.out]; exact sumE_wf _ _ _ _ _ _ _ (by decide)⟩
            clear hval hs0
            go_wp2_with fail
            go_quiet (fail)
            have HS5 := Aside0.mk (HS2.out.drewN nq)
            have HEX := Aside0.mk (HE2.out.drewN nq)

            have hn2 : n2 ≤ 4096 := by have := HS5.out.memo.cnt; omega
            have kk2 := (blk_cell HEX.out.known 0).trans (show (#[Value.map (some M)] : Array Value)[0]? = some (Value.map (some M)) from rfl)
            go_wp2_with (first | (at_mapUpdate; refine wpList_mapUpdate_own _ rfl _ _ _ 58 rfl 57 3 lawS Try.underlying58 _ M n2 D2 rfl HS5.out.own (by unfold maxLen; omega) _ _ _ rfl rfl HK.out _ [] (plainElem_int Try.underlying3 HWF.out) ?_; intro w3 hown3 hgr3; have HO3 := Aside0.mk hown3; have HG3 := Aside0.mk hgr3; have kk3 := (HG3.out.block _ (blk_lt HEX.out.known) (fun e => h1 (Option.some.inj e))).trans HEX.out.known; have kk3 := (blk_cell kk3 0).trans (show (#[Value.map (some M)] : Array Value)[0]? = some (Value.map (some M)) from rfl); clear hown3 hgr3) | (at_lookup; refine wpList_lookup_own_int _ rfl _ _ 58 rfl 57 3 .i64 lawS Try.underlying58 Try.underlying3 (zero3 _) M _ _ rfl HO3.out _ _ rfl HK.out ?_; intro c2 hat2 hwc2; have HAT2 := Aside0.mk hat2; clear hat2 hwc2))
            go_ret
            have hno : Maps.has D2 (ku left) = false := (HKN.out left (Nat.le_refl _)).trans HH.out
            have hmp := HS5.out.memo.put hl hno
            rw [← HVAL.out] at hmp
            have hc : c2 = acc := by
              have h := HAT2.out
              have h2 : ((D2.put (ku left) (lv (acc))).atKey (ku left) (.lit (.int .i64 0)) : DU) = lv (acc) := atKey_put_same HS5.out.memo.isMap (show WideAt.IsKeyLit (ku left) from trivial) _ _
              rw [show (D2.put (ku left) (lv (acc))) = D2.put (ku left) (.lit (.int .i64 (acc))) from rfl] at h2
              rw [h2] at h
              unfold lv at h
              injection h with h
              injection h with _ h
              exact h.symm
            refine ⟨by rw [hc, HVAL.out]; rfl, n2 + 1, _, ⟨HS5.out.keep.trans (ways_grown HG3.out), HS5.out.below.grown HG3.out (by have := HS5.out.below.size; have := hS0.out; omega) (fun k e => by cases e; exact hM), HO3.out, hmp⟩, fun x hx => ?_⟩
            rw [has_put_other (ku_ne (by omega))]
            exact HKN.out x (by omega)

        · have hd0 : ((s : Int) == 0) = false := by simp [hs0]
          obtain ⟨nx, hnx⟩ : ∃ nx, (s - 1) &&& rest = nx := ⟨_, rfl⟩
          have hnb : bits .and .u64 ((s : Int) - 1) (rest : Int) = (nx : Int) := by rw [show (s : Int) - 1 = ((s - 1 : Nat) : Int) by omega, u64_and_nat _ _ (by omega) (by omega), hnx]
          have hnl : nx < s := by rw [← hnx]; have := Nat.and_le_left (n := s - 1) (m := rest); omega
          have HNS : Aside0 (nx &&& rest = nx) := ⟨by rw [← hnx, Nat.and_assoc, Nat.and_self]⟩
          have hs1 : (1 : Int) ≤ s := by omega
          by_cases hfit : v ≤ room
          · have hsum : sumE room sums V rest low nx (wrap64 (acc + V rs)) = sumE room sums V rest low rest 0 := by
              have h := HSUM.out
              rw [sumE_succ hs0, HSO.out, HRS.out, HV.out, if_pos hfit, hnx] at h
              exact h
            have HSM := Aside0.mk hsum
            clear hsum hs0 hnx
            go_wp2_with fail
            go_quiet (fail)
            go_wp2_with fail
            refine (HIH.out rs hb2 n2 D2 W0 _ (by omega) hS0.out HE.out (HS2.out.drewN _)).mono ?_
            rintro e w4 ⟨rfl, n4, D4, hs4, hkn4⟩
            have HS4 := Aside0.mk hs4
            have HKN4 : Aside0 (∀ x, left ≤ x → Maps.has D4 (ku x) = Maps.has D (ku x)) := ⟨fun x hx => (hkn4 x (by omega)).trans (HKN.out x hx)⟩
            clear hs4 hkn4
            go_wp2_with fail
            go_roundg nx
            case measure => omega
            case rel => exact ⟨nx, _, n4, D4, rfl, rfl, ⟨rfl⟩, HNS, HSM, HS4, HKN4⟩
          · have hsum : sumE room sums V rest low nx acc = sumE room sums V rest low rest 0 := by
              have h := HSUM.out
              rw [sumE_succ hs0, HSO.out, HV.out, if_neg hfit, hnx] at h
              exact h
            have HSM := Aside0.mk hsum
            clear hsum hs0 hnx
            go_wp2_with fail
            go_quiet (fail)
            go_wp2_with fail
            go_roundg nx
            case measure => omega
            case rel => exact ⟨nx, acc, n2, D2, rfl, rfl, ⟨rfl⟩, HNS, HSM, ⟨HS2.out.drewN _⟩, HKN⟩
end Go.Proofs.Ytpckfllalpiliaa.G
