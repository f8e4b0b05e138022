/- The iterator that sets gives, and sets. -/
import Derived.Deep.RegionLawGrows
import Derived.RegionTactic
import Derived.Test.YtpckfllalpiliaaI
import Derived.Test.YtpckfllalpiliaaH1
import Derived.Laws.EntriesVeiled
namespace Go.Proofs.Ytpckfllalpiliaa.G
open Go.RowKit Go.Shelf Go.Proofs.YtpckfllalpiliaaW.PrintWords
attribute [local go_sem] Oper.semAt_some
set_option linter.unusedVariables false

/-- the sets of positions from i on, behind the list l, in the order of the iterator: d = n - i -/
def loopX : Nat → List Int → Int → List (List Int)
  | 0, _, _ => []
  | d + 1, l, i => ((l ++ [i]) :: loopX d (l ++ [i]) (i + 1)) ++ loopX d l (i + 1)
def setsX (d : Nat) (l : List Int) (i : Int) : List (List Int) := l :: loopX d l i

/-- how a call of the iterator's inner function ends -/
def ExtPost (K : Nat → Prop) (J Jx : List (List Int) → World → Prop) (W : World) (pre S : List (List Int)) (e : Ending) (W' : World) : Prop :=
  KeepsK K W W' ∧ ∃ b : Bool, e = .returned (.bool b) ∧ (b = true → J (pre ++ S) W') ∧ (b = false → ∃ p, p ≠ [] ∧ p <+: S ∧ Jx (pre ++ p) W')
theorem ExtPost.tt {K : Nat → Prop} {J Jx : List (List Int) → World → Prop} {W W' : World} {pre S : List (List Int)} (h : KeepsK K W W') (hj : J (pre ++ S) W') : ExtPost K J Jx W pre S (.returned (.bool true)) W' :=
  ⟨h, true, rfl, fun _ => hj, fun e => by cases e⟩
theorem ExtPost.ff {K : Nat → Prop} {J Jx : List (List Int) → World → Prop} {W W' : World} {pre S : List (List Int)} (h : KeepsK K W W') (p : List (List Int)) (h1 : p ≠ []) (h2 : p <+: S) (hj : Jx (pre ++ p) W') : ExtPost K J Jx W pre S (.returned (.bool false)) W' :=
  ⟨h, false, rfl, fun e => (by cases e), fun _ => ⟨p, h1, h2, hj⟩⟩

theorem RowF.parts {B : Nat} {W : World} {v : Value} {l : List Int} (h : RowF B W v l) : ∃ ao cap, v = .slice ao l.length cap ∧ l.length ≤ cap ∧ (ao = none → l.length = 0 ∧ l.length = 0) ∧
    ∀ W', Below W.heap.size W W' → ∀ b, ao = some b → ∀ j u, (l.map (Value.int .i64))[j]? = some u → W'.cell? (b.add j) = some u := by
  rcases h with ⟨rfl, rfl⟩ | ⟨g, cap, cs, rfl, hB, h1, h2, h3, h4⟩
  · exact ⟨none, 0, rfl, Nat.le_refl _, fun _ => ⟨rfl, rfl⟩, fun _ _ b hb => by cases hb⟩
  · refine ⟨_, cap, rfl, h1.1, fun h => by (cases h), fun W' hW b hb j u hj => ?_⟩
    injection hb with hb; subst hb
    rw [List.getElem?_map] at hj
    obtain ⟨y, hy, rfl⟩ := Option.map_eq_some_iff.1 hj
    have hj' := (List.getElem?_eq_some_iff.1 hy).1
    have e : (⟨g, 0, none⟩ : Addr).add j = ⟨g, j, none⟩ := by rcases j with _ | j <;> simp [Addr.add]
    rw [e, blk_cell (blk_below h3 hW), h4 j hj', rd, Int.toNat_natCast, List.getD_eq_getElem?_getD, hy]; rfl

theorem StepI.of_below {B : Nat} {W W' : World} (h : Below W.heap.size W W') (hB : B ≤ W.heap.size) : StepI B W W' := ⟨h.mono hB, fun q cs hq => blk_below hq h⟩
theorem KeepsK.of_below {K : Nat → Prop} {W W' : World} (h : Below W.heap.size W W') : KeepsK K W W' := ⟨h.size, fun q _ hl => h.block q hl⟩
theorem app_facts {B : Nat} {K : Nat → Prop} {wr W1 w' : World} {v' : Value} {l : List Int} {i : Int} (hB : B ≤ wr.heap.size) (hb : Below wr.heap.size wr W1)
    (hown : w'.ownsRow W1.heap.size 3 1 v' (l.length + 1) (l.map (Value.int .i64) ++ [.int .i64 i])) (hg : W1.grownBy w' none) :
    ∃ g cap, v' = .slice (some ⟨g, 0, none⟩) (l.length + 1) cap ∧ RowF B w' v' (l ++ [i]) ∧ StepI B wr w' ∧ KeepsK K wr w' := by
  have hb' : Below wr.heap.size wr w' := hb.grown hg (hb.size) (fun k e => by cases e)
  rcases hown.2 with ⟨_, h0⟩ | ⟨g, cap, cur, rfl, hg1, hh, hn, hc, hs, ht⟩
  · omega
  · refine ⟨g, cap, rfl, .inr ⟨g, cap, cur, by simp, ?_, ⟨by simpa using hn, by simpa using hs, by simpa [maxLen] using hc⟩, ?_, hh, fun j hj => ?_⟩, StepI.of_below hb' hB, KeepsK.of_below hb'⟩
    · have := hb.size; omega
    · have := Nat.le_trans hn hc; simpa [maxLen] using this
    · simp only [List.length_append, List.length_singleton] at hj
      have e : (cur.toList.take ((l.length + 1) * 1))[j]? = cur[j]? := by
        rw [List.getElem?_take, if_pos (by omega), Array.getElem?_toList]
      rw [← e, ht, ← List.map_singleton (f := Value.int .i64), ← List.map_append, List.getElem?_map, rd, Int.toNat_natCast, List.getD_eq_getElem?_getD]
      rw [List.getElem?_eq_getElem (by simpa using hj)]; rfl

set_option maxHeartbeats 8000000 in
set_option maxRecDepth 100000 in
theorem sets_ext (yB nB eB B n : Nat) (l0 : Nat) (K : Nat → Prop) (hK : ∀ q, B ≤ q → K q) (hKn : K nB) (hyB : B ≤ yB) (heB : B ≤ eB) (hn : n ≤ 1000)
    (J Jx : List (List Int) → World → Prop) (hJ : ∀ s W W', J s W → StepI B W W' → J s W') (hJx : ∀ s W W', Jx s W → StepI B W W' → Jx s W')
    (Sall : List (List Int)) (hY : ∀ m pre x v W1, pre ++ [x] <+: Sall → J pre W1 → RowF B W1 v x → YieldAt Fence.wide m Try.prog l0 #[v] W1 fun e W' => KeepsK K W1 W' ∧ ((e = .returned (.bool true) ∧ J (pre ++ [x]) W') ∨ (e = .returned (.bool false) ∧ Jx (pre ++ [x]) W'))) :
    ∀ (d m : Nat) (l : List Int) (v : Value) (i : Int) (pre : List (List Int)) (W : World), i + d = n → 0 ≤ i → B ≤ W.heap.size → l.length + d ≤ 1000 → pre ++ setsX d l i <+: Sall → RowF B W v l → J pre W →
      W.heap[yB]? = some (.cells #[.func (.yield l0) #[] #[]] 68 (0, 0)) → W.heap[nB]? = some (.cells #[.int .i64 n] 3 (0, 0)) →
      W.heap[eB]? = some (.cells #[.func (.func 53) #[] #[.pointer (some ⟨yB, 0, none⟩), .pointer (some ⟨nB, 0, none⟩), .pointer (some ⟨eB, 0, none⟩)]] 69 (0, 0)) →
      CallsIn Fence.wide m Try.prog 53 #[v, .int .i64 i, .pointer (some ⟨yB, 0, none⟩), .pointer (some ⟨nB, 0, none⟩), .pointer (some ⟨eB, 0, none⟩)] W fun e W' => ExtPost K J Jx W pre (setsX d l i) e W' := by
  obtain ⟨i0, hi0, hz0, hz1, hz2⟩ := info_parts info3
  intro d
  induction d using Nat.strongRecOn with
  | ind d ih =>
    intro m l v i pre W hi hip hBW hl hpS hrow hpre hy hnn he
    obtain ⟨fn, tmps, assign, body, hyy, hR⟩ := hY (m - 1) pre l v W ((show pre ++ [l] <+: pre ++ setsX d l i from ⟨loopX d l i, by simp [setsX]⟩).trans hpS) hpre hrow
    have HPS := Aside0.mk hpS
    clear hpS
    have cy := (blk_cell hy 0).trans (show (#[Value.func (.yield l0) #[] #[]] : Array Value)[0]? = some _ from rfl)
    have HIH := Aside0.mk ih
    have HR := Aside0.mk hR
    have HENV := Aside0.mk (And.intro hy (And.intro hnn he))
    have HROW := Aside0.mk hrow
    clear ih hR hrow hpre hnn he
    refine callsIn_of_wp Try.func53 rfl trivial ?_ rfl
    simp only [Try.ntmps53, List.size_toArray, List.length_cons, List.length_nil, Nat.reduceAdd, Nat.reduceSub, Array.replicate_succ, Array.replicate_zero, List.push_toArray, List.append_toArray, List.nil_append, List.cons_append]
    gi_wp2
    refine ⟨fun h => by simp [Fence.wide] at h, HR.out.mono ?_⟩
    rintro e W1 ⟨hk, (⟨rfl, hj⟩ | ⟨rfl, hjx⟩)⟩
    · have HK := Aside0.mk hk
      have HJ := Aside0.mk hj
      clear hk hj cy hy hyy
      gi_wp2
      refine wpIn_wide.2 ?_
      go_loopg [8] d (fun kq v8 wr => ∃ (i' : Int) (done : List (List Int)), v8 = .int .i64 i' ∧ Aside0 (kq + i' = n ∧ i ≤ i') ∧ Aside0 (KeepsK K W wr) ∧ Aside0 (J (pre ++ l :: done) wr) ∧ Aside0 (done ++ loopX kq l i' = loopX d l i))
      case atStart => exact ⟨i, [], rfl, ⟨by omega, Int.le_refl _⟩, HK, ⟨HJ.out⟩, ⟨rfl⟩⟩
      case round =>
        obtain ⟨i', done, rfl, HI, HKr, HJr, HD⟩ := hrel
        have hi' := HI.out
        obtain ⟨ey, en, ee⟩ := HENV.out
        replace ey := HKr.out.at_ (hK _ hyB) ey
        replace en := HKr.out.at_ hKn en
        replace ee := HKr.out.at_ (hK _ heB) ee
        have cn := (blk_cell en 0).trans (show (#[Value.int .i64 n] : Array Value)[0]? = some _ from rfl)
        have ce := (blk_cell ee 0).trans (show (#[Value.func (.func 53) #[] #[.pointer (some ⟨yB, 0, none⟩), .pointer (some ⟨nB, 0, none⟩), .pointer (some ⟨eB, 0, none⟩)]] : Array Value)[0]? = some _ from rfl)
        by_cases hlt : i' < n
        · obtain ⟨ao, cap, rfl, hcap, hao, hC⟩ := (HROW.out.keeps HKr.out hK).parts
          have HC := Aside0.mk hC
          have HBW : Aside0 (B ≤ wr.heap.size) := ⟨Nat.le_trans hBW HKr.out.size⟩
          obtain ⟨kq', hkq⟩ : ∃ kq' : Nat, n - i' = kq' + 1 := ⟨(n - i' - 1).toNat, by omega⟩
          have HLT : Aside0 (kq' < d ∧ i' + 1 + kq' = n ∧ 0 ≤ i' + 1 ∧ l.length + 1 + kq' ≤ 1000) := ⟨by omega⟩
          have hwi : IntKind.i64.wrap (i' + 1) = i' + 1 := by rw [IntWalk.i64_left]; exact IntWalk.wrap64_in _ (by omega)
          clear hC
          have cea : ∀ o : Obj, (wr.alloc o).cell? ⟨eB, 0, none⟩ = some (Value.func (.func 53) #[] #[.pointer (some ⟨yB, 0, none⟩), .pointer (some ⟨nB, 0, none⟩), .pointer (some ⟨eB, 0, none⟩)]) := fun o => (blk_cell (blk_alloc ee o) 0).trans (show (#[Value.func (.func 53) #[] #[.pointer (some ⟨yB, 0, none⟩), .pointer (some ⟨nB, 0, none⟩), .pointer (some ⟨eB, 0, none⟩)]] : Array Value)[0]? = some (Value.func (.func 53) #[] #[.pointer (some ⟨yB, 0, none⟩), .pointer (some ⟨nB, 0, none⟩), .pointer (some ⟨eB, 0, none⟩)]) from rfl)
          have hps : (pre ++ l :: done) ++ setsX kq' (l ++ [i']) (i' + 1) <+: Sall := by
            refine List.IsPrefix.trans ?_ HPS.out
            have h := HD.out
            rw [show gk = kq' + 1 by omega] at h
            show (pre ++ l :: done) ++ setsX kq' (l ++ [i']) (i' + 1) <+: pre ++ (l :: loopX d l i)
            rw [← h, loopX]
            exact ⟨loopX kq' l (i' + 1), by simp [setsX]⟩
          have HPN := Aside0.mk hps
          clear hps
          have HE1 := Aside0.mk ey
          have HE2 := Aside0.mk en
          have HE3 := Aside0.mk ee
          go_wp2_with fail
          go_region_law (first
            | (refine step_append_grows rfl (.tmp 25) (.tmp 27) 22 rfl 3 i0 (.int .i64 0) 1 8 Try.underlying22 hi0 hz0 hz1 hz2 rfl (by decide) ao l.length l.length (l.map (Value.int .i64)) (by simp [Act.eval]) hao (by simp) (HC.out _ (by first | exact below_drew1 (below_alloc (Below.refl _ _) _) | exact below_alloc (Below.refl _ _) _)) _ 1 1 [.int .i64 i'] (by simp [Act.eval]) rfl (cell_one_new _ _ _) (by intro u hu; rw [List.mem_singleton.1 hu]; rfl) (by omega) (by unfold maxLen; omega) (by omega) ?_; intro v' w' hown hgrow; obtain ⟨g', cap', rfl, hr', hst', hkp'⟩ := app_facts (K := K) HBW.out (by first | exact below_drew1 (below_alloc (Below.refl _ _) _) | exact below_alloc (Below.refl _ _) _) hown hgrow; have HRW := Aside0.mk hr'; have HST := Aside0.mk hst'; have HKP := Aside0.mk hkp'; have cew := (blk_cell (HKP.out.at_ (hK _ heB) HE3.out) 0).trans (show (#[Value.func (.func 53) #[] #[.pointer (some ⟨yB, 0, none⟩), .pointer (some ⟨nB, 0, none⟩), .pointer (some ⟨eB, 0, none⟩)]] : Array Value)[0]? = some (Value.func (.func 53) #[] #[.pointer (some ⟨yB, 0, none⟩), .pointer (some ⟨nB, 0, none⟩), .pointer (some ⟨eB, 0, none⟩)]) from rfl); clear hown hgrow hr' hst' hkp')
            | (go_simp; go_at_call 53; refine (callsIn_wide.1 (HIH.out kq' HLT.out.1 0 (l ++ [i']) _ (i' + 1) (pre ++ l :: done) _ HLT.out.2.1 HLT.out.2.2.1 (Nat.le_trans HBW.out HKP.out.size) (by simp only [List.length_append, List.length_singleton]; exact HLT.out.2.2.2) HPN.out HRW.out (hJ _ _ _ HJr.out HST.out) (HKP.out.at_ (hK _ hyB) HE1.out) (HKP.out.at_ hKn HE2.out) (HKP.out.at_ (hK _ heB) HE3.out))).mono ?_; rintro e W2 ⟨hk2, b, rfl, hb1, hb2⟩; have HK2 := Aside0.mk hk2; have HB1 := Aside0.mk hb1; have HB2 := Aside0.mk hb2; clear hk2 hb1 hb2))
          all_goals
            have hdd : loopX d l i = done ++ (setsX kq' (l ++ [i']) (i' + 1) ++ loopX kq' l (i' + 1)) := by
              have h := HD.out
              rw [show gk = kq' + 1 by omega] at h
              exact h.symm
            have HDD := Aside0.mk hdd
            clear hdd
            cases b with
            | false =>
              obtain ⟨p, hp1, hp2, hp3⟩ := HB2.out rfl
              have HP3 := Aside0.mk hp3
              clear hp3
              go_wp2_with fail
              go_ret
              refine ExtPost.ff (HKr.out.trans (HKP.out.trans HK2.out)) (l :: (done ++ p)) (by simp) ?_ ?_
              · rw [setsX, HDD.out]
                exact List.cons_prefix_cons.2 ⟨rfl, List.prefix_append_right_inj done |>.2 (hp2.trans (List.prefix_append _ _))⟩
              · have h := HP3.out
                rwa [List.append_assoc, List.cons_append] at h
            | true =>
              have hb1 := HB1.out rfl
              rw [List.append_assoc, List.cons_append] at hb1
              have HB3 := Aside0.mk hb1
              clear hb1
              go_wp2_with fail
              go_roundg kq'
              case measure => omega
              case rel => exact ⟨i' + 1, done ++ setsX kq' (l ++ [i']) (i' + 1), rfl, ⟨by omega⟩, ⟨HKr.out.trans (HKP.out.trans HK2.out)⟩, HB3, ⟨by rw [List.append_assoc]; exact HDD.out.symm⟩⟩
        · go_wp2_with fail
          gi_wp2
          go_ret
          refine ExtPost.tt HKr.out ?_
          have h := HD.out
          rw [show gk = 0 by omega, loopX, List.append_nil] at h
          rw [setsX, ← h]; exact HJr.out
    · gi_wp2
      go_ret
      exact ExtPost.ff hk [l] (by simp) ⟨loopX d l i, rfl⟩ hjx
end Go.Proofs.Ytpckfllalpiliaa.G

namespace Go.Proofs.Ytpckfllalpiliaa.G
open Go.RowKit Go.Shelf Go.Proofs.YtpckfllalpiliaaW.PrintWords
attribute [local go_sem] Oper.semAt_some
set_option linter.unusedVariables false

theorem setsCalls (n : Int) (w : World) :
    Calls Try.prog 48 #[.int .i64 n] w fun e w' => e = .returned (.func (.func 52) #[] #[.pointer (some ⟨w.heap.size, 0, none⟩)]) ∧ w' = w.alloc (.cells #[.int .i64 n] 3) := by
  have hmf : ∀ (fn : Fn) (first cap : Array Value) (w : World), (Instr.makeFunc fn first cap).run Try.prog w = .ok (.func fn first cap) w := fun _ _ _ _ => rfl
  go_enter Try.func48, Try.ntmps48
  go_wp2
  go_ret
  exact ⟨rfl, rfl⟩

set_option maxHeartbeats 4000000 in
set_option maxRecDepth 100000 in
theorem setsIter (n nB B m : Nat) (hn : n ≤ 1000) (hnB : nB < B) :
    IterC Fence.wide m Try.prog 52 #[.pointer (some ⟨nB, 0, none⟩)] (fun q => B ≤ q ∨ q = nB) (setsX n [] 0) B (fun W => W.heap[nB]? = some (.cells #[.int .i64 n] 3 (0, 0))) := by
  intro l J Jx hJ hJx hY W hWB hJ0 hE
  have hmf : ∀ (fn : Fn) (first cap : Array Value) (w : World), (Instr.makeFunc fn first cap).run Try.prog w = .ok (.func fn first cap) w := fun _ _ _ _ => rfl
  have HY := Aside0.mk hY
  have HJ0 := Aside0.mk hJ0
  have HE := Aside0.mk hE
  clear hY hJ0 hE
  subst hWB
  have hb1 : ((W.alloc (.cells #[.func (.yield l) #[] #[]] 68)).alloc (.cells #[Value.nilFunc] 69)).heap[W.heap.size + 1]? = some (.cells #[Value.nilFunc] 69 (0, 0)) := by
    have h := blk_new (W.alloc (.cells #[.func (.yield l) #[] #[]] 68)) (.cells #[Value.nilFunc] 69 (0, 0))
    rwa [World.size_alloc] at h
  have hb0 : ((W.alloc (.cells #[.func (.yield l) #[] #[]] 68)).alloc (.cells #[Value.nilFunc] 69)).heap[W.heap.size]? = some (.cells #[.func (.yield l) #[] #[]] 68 (0, 0)) := blk_alloc (blk_new W _) _
  have c1 := (blk_cell hb1 0).trans (show (#[Value.nilFunc] : Array Value)[0]? = some Value.nilFunc from rfl)
  have f1 := blk_frozen hb1 0
  have HB0 := Aside0.mk hb0
  have HB1 := Aside0.mk hb1
  clear hb0 hb1
  refine callsIn_of_wp Try.func52 rfl trivial ?_ rfl
  simp only [Try.ntmps52, List.size_toArray, List.length_cons, List.length_nil, Nat.reduceAdd, Nat.reduceSub, Array.replicate_succ, Array.replicate_zero, List.push_toArray, List.append_toArray, List.nil_append, List.cons_append]
  gi_wp2
  obtain ⟨W2, hW2⟩ : ∃ W2, ((W.alloc (.cells #[.func (.yield l) #[] #[]] 68)).alloc (.cells #[.func (.func 53) #[] #[.pointer (some ⟨W.heap.size, 0, none⟩), .pointer (some ⟨nB, 0, none⟩), .pointer (some ⟨W.heap.size + 1, 0, none⟩)]] 69)) = W2 := ⟨_, rfl⟩
  rw [hW2]
  have e0 : W2.heap[W.heap.size]? = some (.cells #[.func (.yield l) #[] #[]] 68 (0, 0)) := by rw [← hW2]; exact blk_alloc (blk_new W _) _
  have e1 : W2.heap[W.heap.size + 1]? = some (.cells #[.func (.func 53) #[] #[.pointer (some ⟨W.heap.size, 0, none⟩), .pointer (some ⟨nB, 0, none⟩), .pointer (some ⟨W.heap.size + 1, 0, none⟩)]] 69 (0, 0)) := by
    rw [← hW2]
    have h := blk_new (W.alloc (.cells #[.func (.yield l) #[] #[]] 68)) (.cells #[.func (.func 53) #[] #[.pointer (some ⟨W.heap.size, 0, none⟩), .pointer (some ⟨nB, 0, none⟩), .pointer (some ⟨W.heap.size + 1, 0, none⟩)]] 69 (0, 0))
    rwa [World.size_alloc] at h
  have hbl : Below W.heap.size W W2 := by
    rw [← hW2]; exact ((Below.refl _ W).alloc (Nat.le_refl _) _).alloc (by simp) _
  have e2 := blk_below HE.out hbl
  refine ⟨trivial, fun h => by simp [Fence.wide] at h, (sets_ext W.heap.size nB (W.heap.size + 1) W.heap.size n l (fun q => W.heap.size ≤ q ∨ q = nB) (fun q hq => .inl hq) (.inr rfl) (Nat.le_refl _) (by omega) hn J Jx hJ hJx (setsX n [] 0) HY.out n (m - 1) [] (.slice none 0 0) 0 [] W2 (by omega) (by omega) hbl.size (by simpa using hn) (by rw [List.nil_append]; exact List.prefix_refl _) (.inl ⟨rfl, rfl⟩) (hJ _ _ _ HJ0.out (StepI.of_below hbl (Nat.le_refl _))) e0 e2 e1).mono ?_⟩
  rintro e W3 ⟨hk, b, rfl, hb1, hb2⟩
  cases b with
  | true =>
    have HB := Aside0.mk (hb1 rfl)
    clear hb1 hb2
    gi_wp2
    go_end0
    exact ⟨⟨_, rfl⟩, .inl HB.out⟩
  | false =>
    have HB := Aside0.mk (hb2 rfl)
    clear hb1 hb2
    obtain ⟨p, hp1, hp2, hp3⟩ := HB.out
    have HP := Aside0.mk hp3
    clear hp3
    gi_wp2
    go_end0
    exact ⟨⟨_, rfl⟩, .inr ⟨p, hp1, hp2, HP.out⟩⟩
end Go.Proofs.Ytpckfllalpiliaa.G
