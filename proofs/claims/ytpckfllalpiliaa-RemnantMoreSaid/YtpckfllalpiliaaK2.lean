/- The inner function of packings: it visits the packings behind a beginning, one after the other. -/
import Derived.BigQuiet
import Derived.Deep.QuietTactic
import Derived.Test.YtpckfllalpiliaaS2
import Derived.Test.YtpckfllalpiliaaH4
namespace Go.Proofs.Ytpckfllalpiliaa.G
open Go.RowKit Go.Shelf Go.Proofs.YtpckfllalpiliaaW.PrintWords Go.Proofs.YtpckfllalpiliaaW.PrintMore
attribute [local go_sem] Oper.semAt_some
set_option linter.unusedVariables false

mutual
/-- the packings behind a beginning l (n boxes, loads X), the pieces rest left -/
def packX (room most : Int) : List Int → List Int → List Int → Int → List (List Int)
  | [], l, X, n => [l]
  | size :: rest, l, X, n => packL room most size rest (min (n + 1) most).toNat l X n 0
termination_by rest => (rest.length, 0)
/-- the same, from box b on: d boxes are left -/
def packL (room most : Int) (size : Int) (rest : List Int) : Nat → List Int → List Int → Int → Int → List (List Int)
  | 0, l, X, n, b => []
  | d + 1, l, X, n, b =>
    (if rd X b + size > room then [] else packX room most rest (l ++ [b]) (X.set b.toNat (rd X b + size)) (max n (b + 1))) ++ packL room most size rest d l X n (b + 1)
termination_by d => (rest.length, d + 1)
end

/-- what lies in memory for the inner function: the pieces, yield, most, the array, the room, the function itself -/
structure PackE (ps : List Int) (A : Option Addr) (cp : Nat) (room most : Int) (l0 pB yB mB xB rB eB : Nat) (X : List Int) (W : World) : Prop where
  pieces : W.heap[pB]? = some (.cells #[.slice A ps.length cp] 22 (0, 0))
  yield_ : W.heap[yB]? = some (.cells #[.func (.yield l0) #[] #[]] 68 (0, 0))
  most_ : W.heap[mB]? = some (.cells #[.int .i64 most] 3 (0, 0))
  array : W.heap[xB]? = some (.cells (cells12 X) 63 (0, 0))
  room_ : W.heap[rB]? = some (.cells #[.int .i64 room] 3 (0, 0))
  self : W.heap[eB]? = some (.cells #[.func (.func 42) #[] #[.pointer (some ⟨pB, 0, none⟩), .pointer (some ⟨yB, 0, none⟩), .pointer (some ⟨mB, 0, none⟩), .pointer (some ⟨xB, 0, none⟩), .pointer (some ⟨rB, 0, none⟩), .pointer (some ⟨eB, 0, none⟩)]] 69 (0, 0))
  row : Kd.C (Kd.int .i64) W A ps.length ps
end Go.Proofs.Ytpckfllalpiliaa.G

namespace Go.Proofs.Ytpckfllalpiliaa.G
open Go.RowKit Go.Shelf Go.Proofs.YtpckfllalpiliaaW.PrintWords Go.Proofs.YtpckfllalpiliaaW.PrintMore Go.Proofs.YtpckfllalpiliaaW.PrintLast
attribute [local go_sem] Oper.semAt_some max_two min_two
set_option linter.unusedVariables false

theorem max2_mx (k k' : IntKind) (x y : Int) : Builtin.max2 (.int k x) (.int k' y) = pure (.int k (mx x y)) := max2_int k k' x y
theorem min2_mn (k k' : IntKind) (x y : Int) : Builtin.min2 (.int k x) (.int k' y) = pure (.int k (mn x y)) := min2_int k k' x y
attribute [local go_sem] max2_mx min2_mn

theorem RowF.keepsx {B xB : Nat} {K : Nat → Prop} {W W' : World} {v : Value} {l X : List Int} (h : RowF B W v l) (hs : KeepsK K W W') (hK : ∀ q, B ≤ q → q ≠ xB → K q) (hx : W.heap[xB]? = some (.cells (cells12 X) 63 (0, 0))) : RowF B W' v l := by
  rcases h with h | ⟨g, cap, cs, e, hB, h1, h2, h3, h4⟩
  · exact .inl h
  · refine .inr ⟨g, cap, cs, e, hB, h1, h2, hs.at_ (hK g hB ?_) h3, h4⟩
    rintro rfl
    rw [hx] at h3
    simp at h3
theorem StepI.setx {B xB b : Nat} {W : World} {X : List Int} (hB : B ≤ xB) (hx : W.heap[xB]? = some (.cells (cells12 X) 63 (0, 0))) (v : Value) : StepI B W (W.setCell ⟨xB, b, none⟩ v) := by
  refine ⟨(Below.refl _ _).setCell (p := ⟨xB, b, none⟩) hB v, fun q cs hq => ?_⟩
  refine blk_far hq ?_ v
  rintro rfl
  rw [hx] at hq
  simp at hq
theorem KeepsK.setx {K : Nat → Prop} {W : World} {xB b : Nat} (h : ¬ K xB) (v : Value) : KeepsK K W (W.setCell ⟨xB, b, none⟩ v) :=
  ⟨by simp, fun q hq _ => Below.heap_setCell _ _ _ _ (fun e => h (by have e' : q = xB := e; rwa [e'] at hq))⟩
theorem Soft.drewN (B n : Nat) (W : World) : Soft B W (W.drewN n) := ⟨pw_below_drewN (Below.refl _ _) n, fun _ _ _ _ h => h⟩
theorem StepI.drewN (B n : Nat) (W : World) : StepI B W (W.drewN n) := ⟨pw_below_drewN (Below.refl _ _) n, fun _ _ h => h⟩
theorem KeepsK.drewN (K : Nat → Prop) (n : Nat) (W : World) : KeepsK K W (W.drewN n) := ⟨Nat.le_refl _, fun _ _ _ => rfl⟩

theorem addr_block (a : Addr) (j : Nat) : (a.add j).block = a.block := by rcases j with _ | j <;> simp [Addr.add]
theorem cell_same {W W' : World} {a : Addr} (h : W'.heap[a.block]? = W.heap[a.block]?) : W'.cell? a = W.cell? a := by
  unfold World.cell? ; rw [h]
theorem C_same {W W' : World} {A : Option Addr} {l : List Int} (h : Kd.C (Kd.int .i64) W A l.length l) (hs : ∀ a, A = some a → W'.heap[a.block]? = W.heap[a.block]?) : Kd.C (Kd.int .i64) W' A l.length l := by
  refine Kd.C_of_reads (d := (0 : Int)) (h1 := fun _ => rfl) ⟨rfl, Kd.C_max h, fun hl => ?_⟩
  obtain ⟨-, -, h3⟩ := Kd.reads_of_C (d := (0 : Int)) h
  obtain ⟨ad, e, hc⟩ := h3 hl
  exact ⟨ad, e, fun j hj => (cell_same (by rw [addr_block]; exact hs ad e)).trans (hc j hj)⟩
theorem cell_lt {W : World} {a : Addr} {v : Value} (h : W.cell? a = some v) : a.block < W.heap.size := World.block_lt_of_cell? W a h
theorem PackE.keeps {ps : List Int} {A : Option Addr} {cp : Nat} {room most : Int} {l0 pB yB mB xB rB eB : Nat} {X X' : List Int} {W W' : World} {K : Nat → Prop} (h : PackE ps A cp room most l0 pB yB mB xB rB eB X W) (hk : KeepsK K W W')
    (hKp : K pB) (hKy : K yB) (hKm : K mB) (hKr : K rB) (hKe : K eB) (hKa : ∀ a, A = some a → 0 < ps.length → K a.block) (hx : W'.heap[xB]? = some (.cells (cells12 X') 63 (0, 0))) : PackE ps A cp room most l0 pB yB mB xB rB eB X' W' := by
  refine ⟨hk.at_ hKp h.pieces, hk.at_ hKy h.yield_, hk.at_ hKm h.most_, hx, hk.at_ hKr h.room_, hk.at_ hKe h.self, ?_⟩
  rcases Nat.eq_zero_or_pos ps.length with h0 | h0
  · refine Kd.C_of_reads (d := (0 : Int)) (h1 := fun _ => rfl) ⟨rfl, Kd.C_max h.row, fun hl => by omega⟩
  · obtain ⟨-, -, h3⟩ := Kd.reads_of_C (d := (0 : Int)) h.row
    obtain ⟨ad, e, hc⟩ := h3 h0
    refine C_same h.row (fun a ha => ?_)
    rw [e] at ha; cases ha
    have := cell_lt (hc 0 h0)
    rw [addr_block] at this
    exact hk.blk _ (hKa _ e h0) this
theorem RowF.parts' {B : Nat} {W : World} {ao : Option Addr} {n cap : Nat} {l : List Int} (h : RowF B W (.slice ao n cap) l) : ∀ W', Below W.heap.size W W' → ∀ b, ao = some b → ∀ j u, (l.map (Value.int .i64))[j]? = some u → W'.cell? (b.add j) = some u := by
  obtain ⟨ao', cap', e, -, -, hC⟩ := h.parts
  cases e
  exact hC
theorem KeepsK.mono {K K' : Nat → Prop} {W W' : World} (h : KeepsK K' W W') (hk : ∀ q, K q → K' q) : KeepsK K W W' := ⟨h.size, fun q hq hl => h.blk q (hk q hq) hl⟩
theorem set_back (X : List Int) (b : Nat) (v : Int) (h : b < X.length) : (X.set b v).set b (rd X (b : Int)) = X := by
  rw [List.set_set]
  apply List.ext_getElem?
  intro i
  rw [List.getElem?_set]
  split
  · rename_i e; subst e
    rw [List.getElem?_eq_getElem h, rd, Int.toNat_natCast, List.getD_eq_getElem?_getD, List.getElem?_eq_getElem h]; rfl
  · rfl
theorem mx_max (a b : Int) : mx a b = max a b := by unfold mx; split <;> omega

set_option maxHeartbeats 8000000 in
set_option maxRecDepth 100000 in
theorem pack_ext (ps : List Int) (A : Option Addr) (cp : Nat) (room most : Int) (l0 pB yB mB xB rB eB B : Nat) (K : Nat → Prop) (hK : ∀ q, B ≤ q → q ≠ xB → K q) (hKx : ¬ K xB) (hKp : K pB) (hKm : K mB) (hKr : K rB) (hKa : ∀ a, A = some a → 0 < ps.length → K a.block) (hyB : B ≤ yB ∧ yB ≠ xB) (heB : B ≤ eB ∧ eB ≠ xB) (hxB : B ≤ xB)
    (hroom : 0 ≤ room ∧ room ≤ 100) (hmost : 0 ≤ most ∧ most ≤ 12) (hps : ∀ s ∈ ps, 1 ≤ s ∧ s ≤ room) (hpl : ps.length ≤ 12)
    (J Jx : List (List Int) → World → Prop) (hJ : ∀ s W W', J s W → StepI B W W' → J s W') (hJx : ∀ s W W', Jx s W → StepI B W W' → Jx s W')
    (Sall : List (List Int)) (hY : ∀ m pre x v W1, pre ++ [x] <+: Sall → J pre W1 → RowF B W1 v x → YieldAt Fence.wide m Try.prog l0 #[v] W1 fun e W' => KeepsK (fun q => K q ∨ q = xB) W1 W' ∧ ((e = .returned (.bool true) ∧ J (pre ++ [x]) W') ∨ (e = .returned (.bool false) ∧ Jx (pre ++ [x]) W'))) :
    ∀ (rest : List Int) (m : Nat) (l : List Int) (v : Value) (n : Int) (pre : List (List Int)) (X : List Int) (W : World), rest = ps.drop l.length → l.length ≤ ps.length → X.length = 12 → (∀ b : Nat, 0 ≤ rd X b ∧ rd X b ≤ room) → 0 ≤ n → n ≤ l.length →
      B ≤ W.heap.size → pre ++ packX room most rest l X n <+: Sall → RowF B W v l → J pre W → PackE ps A cp room most l0 pB yB mB xB rB eB X W →
      CallsIn Fence.wide m Try.prog 42 #[v, .int .i64 n, .pointer (some ⟨pB, 0, none⟩), .pointer (some ⟨yB, 0, none⟩), .pointer (some ⟨mB, 0, none⟩), .pointer (some ⟨xB, 0, none⟩), .pointer (some ⟨rB, 0, none⟩), .pointer (some ⟨eB, 0, none⟩)] W fun e W' =>
        ExtPost K J Jx W pre (packX room most rest l X n) e W' ∧ W'.heap[xB]? = some (.cells (cells12 X) 63 (0, 0)) := by
  obtain ⟨i0, hi0, hz0, hz1, hz2⟩ := info_parts info3
  intro rest
  induction rest with
  | nil =>
    intro m l v n pre X W hrest hll hX hXb hn0 hnl hBW hpS hrow hpre hE
    have hlen : l.length = ps.length := by
      have := congrArg List.length hrest
      simp at this; omega
    obtain ⟨fn, tmps, assign, body, hyy, hR⟩ := hY (m - 1) pre l v W (by rw [packX] at hpS; exact hpS) hpre hrow
    have ky := (blk_cell hE.yield_ 0).trans (show (#[Value.func (.yield l0) #[] #[]] : Array Value)[0]? = some (Value.func (.yield l0) #[] #[]) from rfl)
    have kp := (blk_cell hE.pieces 0).trans (show (#[Value.slice A ps.length cp] : Array Value)[0]? = some (Value.slice A ps.length cp) from rfl)
    obtain ⟨ao, cap, rfl, hcap, hao, hC⟩ := hrow.parts
    have kd : ((l.length : Int) == (ps.length : Int)) = true := by simp [hlen]
    have HLN := Aside0.mk hlen
    have HR := Aside0.mk hR
    have HE := Aside0.mk hE
    clear hR hE hC hpre hrow hpS hlen
    refine callsIn_of_wp Try.func42 rfl trivial ?_ rfl
    simp only [Try.ntmps42, List.size_toArray, List.length_cons, List.length_nil, Nat.reduceAdd, Nat.reduceSub, Array.replicate_succ, Array.replicate_zero, List.push_toArray, List.append_toArray, List.nil_append, List.cons_append]
    gi_wp2
    refine ⟨fun h => by simp [Fence.wide] at h, HR.out.mono ?_⟩
    rintro e W1 ⟨hk, (⟨rfl, hj⟩ | ⟨rfl, hjx⟩)⟩
    · have hx := hk.at_ (.inr rfl) HE.out.array
      have HX := Aside0.mk hx
      have HJ := Aside0.mk hj
      have HK : Aside0 (KeepsK K W W1) := ⟨⟨hk.size, fun q hq hl => hk.blk q (.inl hq) hl⟩⟩
      clear hx hj hk
      gi_wp2
      go_ret
      exact ⟨ExtPost.tt HK.out (by rw [packX]; exact HJ.out), HX.out⟩
    · have hx := hk.at_ (.inr rfl) HE.out.array
      have HX := Aside0.mk hx
      have HJ := Aside0.mk hjx
      have HK : Aside0 (KeepsK K W W1) := ⟨⟨hk.size, fun q hq hl => hk.blk q (.inl hq) hl⟩⟩
      clear hx hjx hk
      gi_wp2
      go_ret
      exact ⟨ExtPost.ff HK.out [l] (by simp) (by rw [packX]; exact List.prefix_refl _) HJ.out, HX.out⟩
  | cons size rest ih =>
    intro m l v n pre X W hrest hll hX hXb hn0 hnl hBW hpS hrow hpre hE
    have hlt : l.length < ps.length := by
      have := congrArg List.length hrest
      simp at this; omega
    have hsz : rd ps (l.length : Int) = size ∧ rest = ps.drop (l.length + 1) := by
      rw [List.drop_eq_getElem_cons hlt] at hrest
      injection hrest with h1 h2
      exact ⟨by rw [rd, Int.toNat_natCast, List.getD_eq_getElem?_getD, List.getElem?_eq_getElem hlt, h1]; rfl, h2⟩
    obtain ⟨lim, hlim, hlimn, hlimm, hlime⟩ : ∃ lim : Nat, mn (n + 1) most = lim ∧ (lim : Int) ≤ n + 1 ∧ (lim : Int) ≤ most ∧ (min (n + 1) most).toNat = lim := by
      refine ⟨(min (n + 1) most).toNat, ?_, by omega, by omega, rfl⟩
      unfold mn; split <;> omega
    have hsb : 1 ≤ size ∧ size ≤ room := by
      refine hps size ?_
      rw [← hsz.1, rd, Int.toNat_natCast, List.getD_eq_getElem?_getD, List.getElem?_eq_getElem hlt]
      exact List.getElem_mem hlt
    have kp := (blk_cell hE.pieces 0).trans (show (#[Value.slice A ps.length cp] : Array Value)[0]? = some (Value.slice A ps.length cp) from rfl)
    have km := (blk_cell hE.most_ 0).trans (show (#[Value.int .i64 most] : Array Value)[0]? = some (Value.int .i64 most) from rfl)
    obtain ⟨ad, rfl, hx⟩ := Kd.at_int hE.row (l.length : Int) (by omega) (by omega)
    rw [Int.toNat_natCast, hsz.1] at hx
    have kd : ((l.length : Int) == (ps.length : Int)) = false := by simp; omega
    have kq0 : (l.length : Int) < ps.length := by omega
    obtain ⟨ao, cap, rfl, hcap, hao, -⟩ := hrow.parts
    have HROW := Aside0.mk hrow
    have HE := Aside0.mk hE
    have HIH := Aside0.mk ih
    have HPS := Aside0.mk hpS
    have HPRE := Aside0.mk hpre
    have HSZ := Aside0.mk hsz
    have HXL := Aside0.mk hX
    have HXB := Aside0.mk hXb
    have HLE := Aside0.mk hlime
    have HK := Aside0.mk hK
    have HY := Aside0.mk hY
    have HJ := Aside0.mk (And.intro hJ hJx)
    have HPP := Aside0.mk hps
    clear ih hrow hE hpS hpre hsz hrest hX hXb hlime hY hps hK hJ hJx
    refine callsIn_wide.2 ?_
    go_enter Try.func42, Try.ntmps42
    go_wp2_with fail
    go_loopg [31] lim (fun kq v31 wr => ∃ (b : Nat) (done : List (List Int)), v31 = .int .i64 b ∧ Aside0 (kq + b = lim) ∧ Aside0 (KeepsK K W wr) ∧ Aside0 (J (pre ++ done) wr) ∧ Aside0 (done ++ packL room most size rest kq l X n b = packX room most (size :: rest) l X n) ∧ Aside0 (wr.heap[xB]? = some (.cells (cells12 X) 63 (0, 0))))
    case atStart => exact ⟨0, [], rfl, ⟨by omega⟩, ⟨KeepsK.refl _ _⟩, ⟨by rw [List.append_nil]; exact HPRE.out⟩, ⟨by rw [List.nil_append, packX, HLE.out]; rfl⟩, ⟨HE.out.array⟩⟩
    case round =>
      obtain ⟨b, done, rfl, HI, HKr, HJr, HD, HXr⟩ := hrel
      have hi := HI.out
      have er := HKr.out.at_ hKr HE.out.room_
      have ee := HKr.out.at_ (HK.out _ heB.1 heB.2) HE.out.self
      have cr := (blk_cell er 0).trans (show (#[Value.int .i64 room] : Array Value)[0]? = some _ from rfl)
      have ce := (blk_cell ee 0).trans (show (#[Value.func (.func 42) #[] #[.pointer (some ⟨pB, 0, none⟩), .pointer (some ⟨yB, 0, none⟩), .pointer (some ⟨mB, 0, none⟩), .pointer (some ⟨xB, 0, none⟩), .pointer (some ⟨rB, 0, none⟩), .pointer (some ⟨eB, 0, none⟩)]] : Array Value)[0]? = some _ from rfl)
      by_cases hltb : b < lim
      · have cx := (blk_cell HXr.out b).trans (show (cells12 X)[b]? = some (.int .i64 (rd X b)) from cells12_at (by have := HXL.out; omega))
        have hfn := blk_frozen HXr.out b
        have hq0 : 0 ≤ (b : Int) := by omega
        have hq1 : (b : Int) < 12 := by omega
        obtain ⟨xb, hxb, hxl, hxr⟩ : ∃ xb, rd X b = xb ∧ 0 ≤ xb ∧ xb ≤ room := ⟨_, rfl, (HXB.out b).1, (HXB.out b).2⟩
        rw [hxb] at cx
        have HXV := Aside0.mk hxb
        clear hxb
        by_cases hfit : xb + size > room
        · go_wp2_with fail
          go_quiet (fail)
          go_wp2_with fail
          go_roundg (lim - (b + 1))
          case measure => omega
          case rel =>
            refine ⟨b + 1, done, by go_num, ⟨by omega⟩, ⟨HKr.out.trans (KeepsK.drewN _ _ _)⟩, ⟨HJ.out.1 _ _ _ HJr.out (StepI.drewN _ _ _)⟩, ⟨?_⟩, ⟨blk_drewN HXr.out _⟩⟩
            have h := HD.out
            rw [show gk = (lim - (b + 1)) + 1 by omega, packL, if_pos (by rw [HXV.out]; omega), List.nil_append] at h
            exact h
        · have hX2 : (X.set b (xb + size)).length = 12 := by rw [List.length_set]; exact HXL.out
          have hXB2 : ∀ b' : Nat, 0 ≤ rd (X.set b (xb + size)) b' ∧ rd (X.set b (xb + size)) b' ≤ room := by
            intro b'
            have h := HXB.out b'
            unfold rd at h ⊢
            rw [Int.toNat_natCast] at h ⊢
            rw [List.getD_eq_getElem?_getD, List.getElem?_set]
            by_cases e : b = b'
            · rw [if_pos e, if_pos (by rw [HXL.out]; omega)]; simp; omega
            · rw [if_neg e, ← List.getD_eq_getElem?_getD]; exact h
          have hback : (X.set b (xb + size)).set b xb = X := by
            rw [← HXV.out]; exact set_back X b _ (by have := HXL.out; omega)
          have HX2 := Aside0.mk hX2
          have HXB2 := Aside0.mk hXB2
          have HBACK := Aside0.mk hback
          have hmxn : mx n ((b : Int) + 1) = max n ((b : Int) + 1) := mx_max _ _
          have HMX := Aside0.mk hmxn
          have HN : Aside0 (rest = ps.drop (l ++ [(b : Int)]).length ∧ (l ++ [(b : Int)]).length ≤ ps.length ∧ 0 ≤ mx n ((b : Int) + 1) ∧ mx n ((b : Int) + 1) ≤ ((l ++ [(b : Int)]).length : Int)) := by
            have hlb2 : (l ++ [(b : Int)]).length = l.length + 1 := by simp
            rw [hmxn, hlb2]
            exact ⟨HSZ.out.2, by omega, by omega, by omega⟩
          have hdd : packX room most (size :: rest) l X n = done ++ (packX room most rest (l ++ [(b : Int)]) (X.set b (xb + size)) (mx n ((b : Int) + 1)) ++ packL room most size rest (lim - (b + 1)) l X n ((b : Int) + 1)) := by
            have h := HD.out
            rw [show gk = (lim - (b + 1)) + 1 by omega, packL, if_neg (by rw [HXV.out]; omega), HXV.out, Int.toNat_natCast, ← hmxn] at h
            exact h.symm
          have HDD := Aside0.mk hdd
          have hps2 : (pre ++ done) ++ packX room most rest (l ++ [(b : Int)]) (X.set b (xb + size)) (mx n ((b : Int) + 1)) <+: Sall := by
            refine List.IsPrefix.trans ?_ HPS.out
            rw [hdd, ← List.append_assoc, ← List.append_assoc]
            exact List.prefix_append _ _
          have HPN := Aside0.mk hps2
          have hwi : IntKind.i64.wrap ((b : Int) + 1) = (b : Int) + 1 := by rw [IntWalk.i64_left]; exact IntWalk.wrap64_in _ (by omega)
          have HW := Aside0.mk hwi
          have hxs : xb + size - size = xb := by omega
          clear hX2 hXB2 hback hmxn hdd hps2 hwi
          go_wp2_with fail
          go_quiet (fail)
          go_wp2_with fail
          obtain ⟨W2, hW2⟩ : ∃ W2, ((wr.drewN nq).setCell ⟨xB, b, none⟩ (.int .i64 (xb + size))) = W2 := ⟨_, rfl⟩
          rw [hW2]
          have st2 : StepI B wr W2 := by rw [← hW2]; exact (StepI.drewN B nq wr).trans (StepI.setx hxB (blk_drewN HXr.out nq) _)
          have kp2 : KeepsK K wr W2 := by rw [← hW2]; exact (KeepsK.drewN K nq wr).trans (KeepsK.setx hKx _)
          have x2 : W2.heap[xB]? = some (.cells (cells12 (X.set b (xb + size))) 63 (0, 0)) := by
            rw [← hW2, ← cells12_set]; exact blk_set (blk_drewN HXr.out nq) b _
          have e2 : PackE ps (some ad) cp room most l0 pB yB mB xB rB eB (X.set b (xb + size)) W2 := HE.out.keeps (HKr.out.trans kp2) hKp (HK.out _ hyB.1 hyB.2) hKm hKr (HK.out _ heB.1 heB.2) hKa x2
          have row2 : RowF B W2 (.slice ao l.length cap) l := HROW.out.keepsx (HKr.out.trans kp2) HK.out HE.out.array
          have hC2 := row2.parts'
          have hBW2 : B ≤ W2.heap.size := Nat.le_trans hBW (HKr.out.trans kp2).size
          have ce2 := (blk_cell e2.self 0).trans (show (#[Value.func (.func 42) #[] #[.pointer (some ⟨pB, 0, none⟩), .pointer (some ⟨yB, 0, none⟩), .pointer (some ⟨mB, 0, none⟩), .pointer (some ⟨xB, 0, none⟩), .pointer (some ⟨rB, 0, none⟩), .pointer (some ⟨eB, 0, none⟩)]] : Array Value)[0]? = some (Value.func (.func 42) #[] #[.pointer (some ⟨pB, 0, none⟩), .pointer (some ⟨yB, 0, none⟩), .pointer (some ⟨mB, 0, none⟩), .pointer (some ⟨xB, 0, none⟩), .pointer (some ⟨rB, 0, none⟩), .pointer (some ⟨eB, 0, none⟩)]) from rfl)
          have cea : ∀ o : Obj, (W2.alloc o).cell? ⟨eB, 0, none⟩ = some (Value.func (.func 42) #[] #[.pointer (some ⟨pB, 0, none⟩), .pointer (some ⟨yB, 0, none⟩), .pointer (some ⟨mB, 0, none⟩), .pointer (some ⟨xB, 0, none⟩), .pointer (some ⟨rB, 0, none⟩), .pointer (some ⟨eB, 0, none⟩)]) := fun o => (blk_cell (blk_alloc e2.self o) 0).trans (show (#[Value.func (.func 42) #[] #[.pointer (some ⟨pB, 0, none⟩), .pointer (some ⟨yB, 0, none⟩), .pointer (some ⟨mB, 0, none⟩), .pointer (some ⟨xB, 0, none⟩), .pointer (some ⟨rB, 0, none⟩), .pointer (some ⟨eB, 0, none⟩)]] : Array Value)[0]? = some (Value.func (.func 42) #[] #[.pointer (some ⟨pB, 0, none⟩), .pointer (some ⟨yB, 0, none⟩), .pointer (some ⟨mB, 0, none⟩), .pointer (some ⟨xB, 0, none⟩), .pointer (some ⟨rB, 0, none⟩), .pointer (some ⟨eB, 0, none⟩)]) from rfl)
          have ST2 := Aside0.mk st2
          have KP2 := Aside0.mk kp2
          have E2 := Aside0.mk e2
          have HC := Aside0.mk hC2
          have HBW2 := Aside0.mk hBW2
          have hwi := HW.out
          have kne : K eB := HK.out _ heB.1 heB.2
          have kny : K yB := HK.out _ hyB.1 hyB.2
          clear st2 kp2 x2 e2 row2 hC2 hBW2 hW2 er ee cr ce cx hfn
          go_region_law (first
            | (refine step_append_grows rfl (.tmp 53) (.tmp 55) 22 rfl 3 i0 (.int .i64 0) 1 8 Try.underlying22 hi0 hz0 hz1 hz2 rfl (by decide) ao l.length l.length (l.map (Value.int .i64)) (by simp [Act.eval]) hao (by simp) (HC.out _ (by first | exact below_drew1 (below_alloc (Below.refl _ _) _) | exact below_alloc (Below.refl _ _) _)) _ 1 1 [.int .i64 b] (by simp [Act.eval]) rfl (cell_one_new _ _ _) (by intro u hu; rw [List.mem_singleton.1 hu]; rfl) (by omega) (by unfold maxLen; omega) (by omega) ?_; intro v' w' hown hgrow; obtain ⟨g', cap', rfl, hr', hst', hkp'⟩ := app_facts (K := fun _ => True) HBW2.out (by first | exact below_drew1 (below_alloc (Below.refl _ _) _) | exact below_alloc (Below.refl _ _) _) hown hgrow; have HRW := Aside0.mk hr'; have HST := Aside0.mk hst'; have HKT := Aside0.mk hkp'; have HKP := Aside0.mk (KeepsK.mono (K := K) hkp' (fun _ _ => trivial)); have cew := (blk_cell (HKP.out.at_ kne E2.out.self) 0).trans (show (#[Value.func (.func 42) #[] #[.pointer (some ⟨pB, 0, none⟩), .pointer (some ⟨yB, 0, none⟩), .pointer (some ⟨mB, 0, none⟩), .pointer (some ⟨xB, 0, none⟩), .pointer (some ⟨rB, 0, none⟩), .pointer (some ⟨eB, 0, none⟩)]] : Array Value)[0]? = some (Value.func (.func 42) #[] #[.pointer (some ⟨pB, 0, none⟩), .pointer (some ⟨yB, 0, none⟩), .pointer (some ⟨mB, 0, none⟩), .pointer (some ⟨xB, 0, none⟩), .pointer (some ⟨rB, 0, none⟩), .pointer (some ⟨eB, 0, none⟩)]) from rfl); clear hown hgrow hr' hst' hkp')
            | (go_simp; go_at_call 42; refine (callsIn_wide.1 (HIH.out 0 (l ++ [(b : Int)]) _ (mx n ((b : Int) + 1)) (pre ++ done) (X.set b (xb + size)) _ HN.out.1 HN.out.2.1 HX2.out HXB2.out HN.out.2.2.1 HN.out.2.2.2 (Nat.le_trans HBW2.out HKP.out.size) HPN.out HRW.out (HJ.out.1 _ _ _ (HJ.out.1 _ _ _ HJr.out ST2.out) HST.out) (E2.out.keeps HKP.out hKp kny hKm hKr kne hKa (HKT.out.at_ trivial E2.out.array)))).mono ?_; rintro e W3 ⟨⟨hk2, bb, rfl, hb1, hb2⟩, hx3⟩; have HK2 := Aside0.mk hk2; have HB1 := Aside0.mk hb1; have HB2 := Aside0.mk hb2; have HX3 := Aside0.mk hx3; clear hk2 hb1 hb2 hx3))
          all_goals
            have cx3 := (blk_cell HX3.out b).trans (show (cells12 (X.set b (xb + size)))[b]? = some (.int .i64 (xb + size)) by
              rw [cells12_at (by rw [HX2.out]; omega), rd, Int.toNat_natCast, List.getD_eq_getElem?_getD, List.getElem?_set_self (by rw [HXL.out]; omega)]; rfl)
            have hf3 := blk_frozen HX3.out b
            have hx4 : (W3.setCell ⟨xB, b, none⟩ (.int .i64 xb)).heap[xB]? = some (.cells (cells12 X) 63 (0, 0)) := by
              have h := blk_set HX3.out b (.int .i64 xb)
              rwa [cells12_set, HBACK.out] at h
            have HX4 := Aside0.mk hx4
            have KP4 : Aside0 (KeepsK K W (W3.setCell ⟨xB, b, none⟩ (.int .i64 xb))) := ⟨HKr.out.trans (KP2.out.trans (HKP.out.trans (HK2.out.trans (KeepsK.setx hKx _))))⟩
            have ST4 : Aside0 (StepI B W3 (W3.setCell ⟨xB, b, none⟩ (.int .i64 xb))) := ⟨StepI.setx hxB HX3.out _⟩
            clear hx4
            cases bb with
            | false =>
              obtain ⟨p, hp1, hp2, hp3⟩ := HB2.out rfl
              have HP3 := Aside0.mk hp3
              clear hp3
              go_wp2_with fail
              go_ret
              refine ⟨ExtPost.ff KP4.out (done ++ p) (by simp [hp1]) ?_ ?_, HX4.out⟩
              · rw [HDD.out]
                exact List.prefix_append_right_inj done |>.2 (hp2.trans (List.prefix_append _ _))
              · have h := HJ.out.2 _ _ _ HP3.out ST4.out
                rwa [List.append_assoc] at h
            | true =>
              have hb1 := HJ.out.1 _ _ _ (HB1.out rfl) ST4.out
              rw [List.append_assoc] at hb1
              have HB3 := Aside0.mk hb1
              clear hb1
              go_wp2_with fail
              go_roundg (lim - (b + 1))
              case measure => omega
              case rel => exact ⟨b + 1, done ++ packX room most rest (l ++ [(b : Int)]) (X.set b (xb + size)) (mx n ((b : Int) + 1)), by go_num, ⟨by omega⟩, KP4, HB3, ⟨by rw [List.append_assoc]; exact HDD.out.symm⟩, HX4⟩
      · go_wp2_with fail
        go_ret
        have hb0 : gk = 0 := by omega
        refine ⟨ExtPost.tt HKr.out ?_, HXr.out⟩
        have h := HD.out
        rw [hb0, packL, List.append_nil] at h
        rw [← h]; exact HJr.out
end Go.Proofs.Ytpckfllalpiliaa.G
