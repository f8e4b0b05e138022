/- The contracts of the small library functions that take a function value, at this seat's numbers. -/
import Derived.Test.YtohgdegklhlldaaG0x0
import Derived.Test.YtohgdegklhlldaaG1x
import Derived.Shelf.Abstract
import Derived.WalkSpells
namespace Go.Proofs.Ytohgdegklhlldaa.G
open Go.RowKit Go.Proofs.YtohgdegklhlldaaW.PrintWords Go.Proofs.YtohgdegklhlldaaW.PrintLast Go.Proofs.YtohgdegklhlldaaW.PrintMore 
set_option linter.unusedVariables false
attribute [local go_sem] max2_int min2_int max_two min_two max_three min_three max_four min_four

/-- where the first number stands of which p holds, from k on; -1 -/
def idxP (p : Int → Bool) : List Int → Int → Int
  | [], _ => -1
  | x :: l, k => if p x then k else idxP p l (k + 1)

theorem idxP_nonneg (p : Int → Bool) : ∀ (l : List Int) (k : Int), 0 ≤ k → (decide (0 ≤ idxP p l k) = l.any p)
  | [], k, _ => by simp [idxP]
  | x :: l, k, hk => by
    unfold idxP
    by_cases h : p x = true
    · simp [h]; exact hk
    · have := idxP_nonneg p l (k + 1) (by omega)
      simp [h, this]

/-- A predicate that a function value pays. -/
def PredC (g : Nat) (lb : Array Value) (p : Int → Bool) (w : World) (l : List Int) : Prop :=
  ∀ (W : World) (x : Int), x ∈ l → Below w.heap.size w W → Calls Try.prog g (#[.int .i64 x] ++ lb) W fun e W' => e = .returned (.bool (p x)) ∧ Drawn0 W W'

set_option maxHeartbeats 1000000 in
theorem indexFunc (p : Int → Bool) (g : Nat) (lb : Array Value) (eg : ∀ args w, (callFunc g args).run Try.prog w = .ok (.enter g args) w)
    (A : Option Addr) (c : Nat) (l : List Int) (w : World) (hr : Kd.C (Kd.int .i64) w A l.length l) (hp : PredC g lb p w l) :
    Calls Try.prog 37 #[.slice A l.length c, .func (.func g) #[] lb] w fun e w' => e = .returned (.int .i64 (idxP p l 0)) ∧ Drawn0 w w' := by
  have HR := Aside0.mk hr
  have hm := Kd.C_max hr
  have HP := Aside0.mk hp
  clear hp hr
  go_enter Try.func37, Try.ntmps37
  go_wp2
  go_loopg [5, 8] (l.length) (fun kq v5 v8 w' => ∃ j : Nat, v8 = .int .i64 j ∧ Aside0 (kq + j = l.length) ∧ Aside0 (idxP p (l.drop j) j = idxP p l 0) ∧ Aside0 (Drawn0 w w'))
  case atStart => exact ⟨0, rfl, ⟨by omega⟩, ⟨rfl⟩, ⟨Drawn0.refl _⟩⟩
  case round =>
    obtain ⟨j, rfl, HJ, HI, HD⟩ := hrel
    have hj := HJ.out
    obtain ⟨⟨n, rfl⟩⟩ := HD
    by_cases hlt : j < l.length
    · obtain ⟨ad, rfl, hx⟩ := Kd.at_int HR.out (j : Int) (by omega) (by omega)
      have hmem : rd l (j : Int) ∈ l := by
        unfold rd; rw [List.getD_eq_getElem?_getD, Int.toNat_natCast, List.getElem?_eq_getElem hlt]; exact List.getElem_mem hlt
      have hdrop : l.drop j = rd l (j : Int) :: l.drop (j + 1) := by
        rw [List.drop_eq_getElem_cons hlt]; unfold rd
        rw [List.getD_eq_getElem?_getD, Int.toNat_natCast, List.getElem?_eq_getElem hlt]; rfl
      have HX := Aside0.mk hdrop
      have HM := Aside0.mk hmem
      clear hdrop hmem
      have hc := HP.out (w.drewN n) (rd l (j : Int)) HM.out (pw_below_drewN (Below.refl _ _) n)
      have HC := Aside0.mk hc
      clear hc
      rw [Int.toNat_natCast] at hx
      go_wp2_with fail
      refine HC.out.mono ?_
      rintro e w' ⟨rfl, ⟨m, rfl⟩⟩
      cases hpx : p (rd l (j : Int)) with
      | false =>
        have HQ := Aside0.mk hpx
        clear hpx
        go_wp2_with fail
        go_roundg (l.length - (j + 1))
        case measure => omega
        case rel => exact ⟨j + 1, by go_num, ⟨by omega⟩, ⟨by rw [← HI.out, HX.out, idxP, if_neg (by simp [HQ.out])]; rfl⟩, ⟨⟨n + m, rfl⟩⟩⟩
      | true =>
        have HQ := Aside0.mk hpx
        clear hpx
        go_wp2_with fail
        go_ret
        exact ⟨by rw [← HI.out, HX.out, idxP, if_pos HQ.out]; rfl, ⟨⟨n + m, rfl⟩⟩⟩
    · go_wp2_with fail
      go_ret
      exact ⟨by rw [← HI.out, List.drop_eq_nil_of_le (by omega)]; rfl, ⟨⟨n, rfl⟩⟩⟩

theorem containsFunc (p : Int → Bool) (g : Nat) (lb : Array Value) (eg : ∀ args w, (callFunc g args).run Try.prog w = .ok (.enter g args) w)
    (A : Option Addr) (c : Nat) (l : List Int) (w : World) (hr : Kd.C (Kd.int .i64) w A l.length l) (hp : PredC g lb p w l) :
    Calls Try.prog 31 #[.slice A l.length c, .func (.func g) #[] lb] w fun e w' => e = .returned (.bool (l.any p)) ∧ Drawn0 w w' := by
  have HR := Aside0.mk hr
  have HP := Aside0.mk hp
  clear hp hr
  go_enter Try.func31, Try.ntmps31
  go_wp2_with fail
  refine (indexFunc p g lb eg A c l w HR.out HP.out).mono ?_
  rintro e w' ⟨rfl, ⟨m, rfl⟩⟩
  go_wp2_with fail
  go_ret
  exact ⟨by rw [idxP_nonneg p l 0 (by omega)]; rfl, ⟨⟨m, rfl⟩⟩⟩

def galloonlaw06_list.f (l0 : List Int) : Option (List Int) := some (l0.take 65)
theorem galloonlaw06_list.calls (A0 : Option Addr) (c0 : Nat) (l0 : List Int) (r : List Int) (w : World) (hr0 : Kd.C (Kd.int .i64) w A0 l0.length l0) (hc0 : l0.length ≤ c0) (h : galloonlaw06_list.f l0 = some r) :
    Calls Try.prog 6 #[.slice A0 l0.length c0] w fun e w' => ∃ v0_ : Value, e = .returned (v0_) ∧ Kd.R (Kd.int .i64) 3 w' w.heap.size (fun _ => True) v0_ r ∧ Below w.heap.size w w' := by
  have HR0 := Aside0.mk hr0
  have HC0 := Aside0.mk hc0
  obtain rfl := Option.some.inj h
  clear hr0 hc0 h
  have HB := Aside0.mk (Below.refl w.heap.size w)
  obtain ⟨j, hj, hj2, hj3⟩ : ∃ j : Int, (if 65 < (l0.length : Int) then 65 else (l0.length : Int)) = j ∧ 0 ≤ j ∧ j ≤ l0.length := by
    by_cases h65 : 65 < (l0.length : Int)
    · exact ⟨65, if_pos h65, by omega, by omega⟩
    · exact ⟨_, if_neg h65, by omega, by omega⟩
  have hj4 : l0.take 65 = l0.take j.toNat := by
    by_cases h65 : 65 < (l0.length : Int)
    · rw [if_pos h65] at hj; subst hj; rfl
    · rw [if_neg h65] at hj; subst hj; rw [List.take_of_length_le (by omega), List.take_of_length_le (by simp)]
  rw [hj4]
  clear hj4
  obtain ⟨i06, hi06, _, hsz6, _⟩ := info_parts info3
  obtain ⟨hcut6, hA6, hC6⟩ := print_take_of (P := Try.prog) (Value.int .i64) 0 22 3 .i64 Try.underlying22 hi06 hsz6 A0 c0 l0 j hj2 hj3 HC0.out
  have hlen : (l0.take j.toNat).length = j.toNat := by rw [List.length_take]; omega
  have hA7 := hA6 _ (Kd.reads_of_C HR0.out)
  rw [hlen] at hA7
  have HR1 := Aside0.mk (Kd.C_of_reads (h1 := fun _ => rfl) hA7)
  have hm := Kd.C_max HR0.out
  clear hA6 hA7 hC6 hi06 hsz6 hlen
  go_enter Try.func6, Try.ntmps6
  go_wp2_with (at_builtin; refine Kd.R_append_rows (Kd.int .i64) (w0 := w) w.heap.size rfl (.tmp 4) (.tmp 9) 22 3 (.int .i64 0) 8 rfl Try.underlying22 info3 rfl (by decide) (by omega) (.slice none 0 0) ([] : List Int) (l0.take j.toNat) _ _ _ (fun _ => True) (fun _ => False) rfl rfl (Kd.R_nil _ _ _ _ _) HR1.out (fun _ _ h => h) (fun _ h => h.elim) (fun _ _ => trivial) (Below.refl _ _) (Nat.le_refl _) ?aL ?_; (case aL => simp; omega); intro v1 w1 ho hb hg hat; have HO := Aside0.mk ho; have HB2 := Aside0.mk hb; clear ho hb hg hat)
  go_ret
  exact ⟨_, rfl, HO.out, HB2.out⟩

theorem nil_of_C {A : Option Addr} {l : List Int} {w : World} (hr : Kd.C (Kd.int .i64) w A l.length l) (hA : A = none) : l = [] := by
  cases l with
  | nil => rfl
  | cons x l =>
    obtain ⟨ad, h, _⟩ := Kd.at_int hr 0 (by omega) (by simp)
    rw [hA] at h; cases h

/-- slices.Clone -/
def slices_Clone_int_int.f (l0 : List Int) : Option (List Int) := if l0.length < 17592186044416 then some l0 else none
theorem slices_Clone_int_int.calls (A0 : Option Addr) (c0 : Nat) (l0 : List Int) (r : List Int) (w : World) (hr0 : Kd.C (Kd.int .i64) w A0 l0.length l0) (hc0 : l0.length ≤ c0) (h : slices_Clone_int_int.f l0 = some r) :
    Calls Try.prog 26 #[.slice A0 l0.length c0] w fun e w' => ∃ v0_ : Value, e = .returned (v0_) ∧ Kd.R (Kd.int .i64) 3 w' w.heap.size (fun _ => True) v0_ r ∧ Below w.heap.size w w' := by
  have hlen : l0.length < 17592186044416 := by
    unfold slices_Clone_int_int.f at h; split at h
    · assumption
    · cases h
  have h2 := h
  unfold slices_Clone_int_int.f at h2; rw [if_pos hlen] at h2
  obtain rfl := Option.some.inj h2
  clear h h2
  have HR0 := Aside0.mk hr0
  clear hr0
  have qT : ∀ (w : World) (a : Option Addr) (n c n' c' : Nat), (binOp .eql 22 (.slice a n c) (.slice none n' c')).run Try.prog w = .ok (.bool a.isNone) w := fun w a n c n' c' => Lib.run_eql_slice_nil w _ _ a n c n' c' Try.underlying22
  cases A0 with
  | none =>
    have hnil := nil_of_C HR0.out rfl
    subst hnil
    go_enter Try.func26, Try.ntmps26
    go_wp2_with fail
    go_ret
    exact ⟨_, rfl, Kd.R_nil _ _ _ _ _, Below.refl _ _⟩
  | some ad =>
    go_enter Try.func26, Try.ntmps26
    go_wp2_with (first | (at_builtin; refine Kd.R_append_rows (Kd.int .i64) (w0 := w) w.heap.size rfl (.tmp 5) (.tmp 6) 22 3 (.int .i64 0) 8 rfl Try.underlying22 info3 rfl (by decide) (by omega) (.slice (some ⟨w.heap.size, 0, none⟩) 0 0) ([] : List Int) l0 _ _ _ (fun _ => True) (fun _ => False) rfl rfl ?aO (Kd.C_alloc HR0.out _) (fun _ _ h => h) (fun _ h => h.elim) (fun _ _ => trivial) ?aB ?aS ?aL ?_; (case aL => (try simp); omega); (case aB => exact (Below.refl _ _).alloc (Nat.le_refl _) _); (case aS => simp); (case aO => exact Kd.R_of_own (own_lit_of w _ _ [] (Nat.le_refl _) (by simp)) (fun _ _ => trivial)); intro v1 w1 ho hb hg hat; have HO := Aside0.mk ho; have HB2 := Aside0.mk hb; clear ho hb hg hat))
    go_ret
    exact ⟨_, rfl, HO.out, HB2.out⟩

/-- the closure of areRemainders: x is no remainder -/
theorem notRem (m : Int) (B : Nat) (x : Int) (W : World) (hB : W.cell? ⟨B, 0, none⟩ = some (.int .i64 m)) :
    Calls Try.prog 34 #[.int .i64 x, .pointer (some ⟨B, 0, none⟩)] W fun e W' => e = .returned (.bool (!(decide (0 ≤ x) && decide (x ≤ wrap64 (m - 1))))) ∧ Drawn0 W W' := by
  have hw : ∃ b, shuffle_within.f x 0 (wrap64 (m - 1)) = some b ∧ b = (decide (0 ≤ x) && decide (x ≤ wrap64 (m - 1))) := by
    unfold shuffle_within.f
    by_cases h : x ≥ 0
    · rw [if_pos h]; exact ⟨_, rfl, by simp [show 0 ≤ x from h]⟩
    · rw [if_neg h]; exact ⟨_, rfl, by simp [show ¬ 0 ≤ x from h]⟩
  obtain ⟨b, hb, hbe⟩ := hw
  rw [← hbe]
  have HW := Aside0.mk hb
  clear hb hbe
  go_enter Try.func34, Try.ntmps34
  go_wp2_with (go_at_call 33; refine (shuffle_within.calls x 0 (wrap64 (m - 1)) b _ HW.out).mono ?_; rintro e w' ⟨rfl, ⟨nd, rfl⟩⟩)
  go_ret
  exact ⟨rfl, ⟨⟨_, rfl⟩⟩⟩

def shuffle_areRemainders.f (a0 : Int) (l1 : List Int) : Option Bool := some (l1.all fun x => decide (0 ≤ x) && decide (x ≤ wrap64 (a0 - 1)))
theorem shuffle_areRemainders.calls (a0 : Int) (A1 : Option Addr) (c1 : Nat) (l1 : List Int) (r : Bool) (w : World) (hr1 : Kd.C (Kd.int .i64) w A1 l1.length l1) (hc1 : l1.length ≤ c1) (h : shuffle_areRemainders.f a0 l1 = some r) :
    Calls Try.prog 24 #[.int .i64 a0, .slice A1 l1.length c1] w fun e w' => e = .returned (.bool r) ∧ Below w.heap.size w w' := by
  obtain rfl := Option.some.inj h
  clear h
  have HR1 := Aside0.mk hr1
  clear hr1 hc1
  have hmf : ∀ (fn : Fn) (first cap : Array Value) (w : World), (Instr.makeFunc fn first cap).run Try.prog w = .ok (.func fn first cap) w := fun _ _ _ _ => rfl
  have hP := fun (hc : (w.alloc (.cells #[.int .i64 a0] 3)).cell? ⟨w.heap.size, 0, none⟩ = some (.int .i64 a0)) => containsFunc (fun x => !(decide (0 ≤ x) && decide (x ≤ wrap64 (a0 - 1)))) 34 #[.pointer (some ⟨w.heap.size, 0, none⟩)] (enters_of Try.func34 (by kernel_rfl) rfl) A1 c1 l1 (w.alloc (.cells #[.int .i64 a0] 3)) (Kd.C_alloc HR1.out _)
    (fun W x _ hb => notRem a0 w.heap.size x W ((hb.cell (p := ⟨w.heap.size, 0, none⟩) (by simp)).trans hc))
  have HP := Aside0.mk (hP ((blk_cell (blk_new w _) 0).trans rfl))
  clear hP
  go_enter Try.func24, Try.ntmps24
  go_wp2_with (go_at_call 31; refine HP.out.mono ?_; rintro e w' ⟨rfl, ⟨nd, rfl⟩⟩)
  go_ret
  refine ⟨?_, pw_below_drewN ((Below.refl _ _).alloc (Nat.le_refl _) _) _⟩
  simp [List.all_eq_not_any_not]

/-- the closure of form: n != 0 -/
theorem notZero (x : Int) (W : World) :
    Calls Try.prog 32 #[.int .i64 x] W fun e W' => e = .returned (.bool (x != 0)) ∧ Drawn0 W W' := by
  go_enter Try.func32, Try.ntmps32
  go_wp2
  go_ret
  exact ⟨rfl, ⟨⟨0, rfl⟩⟩⟩

def slices_ContainsFunc_int_int.f (l0 : List Int) : Option Bool := some (l0.any fun x => x != 0)
theorem slices_ContainsFunc_int_int.calls (A0 : Option Addr) (c0 : Nat) (l0 : List Int) (r : Bool) (w : World) (hr0 : Kd.C (Kd.int .i64) w A0 l0.length l0) (hc0 : l0.length ≤ c0) (h : slices_ContainsFunc_int_int.f l0 = some r) :
    Calls Try.prog 31 #[.slice A0 l0.length c0, .func (.func 32) #[] #[]] w fun e w' => e = .returned (.bool r) ∧ Drawn0 w w' := by
  obtain rfl := Option.some.inj h
  exact containsFunc (fun x => x != 0) 32 #[] (enters_of Try.func32 (by kernel_rfl) rfl) A0 c0 l0 w hr0 (fun W x _ _ => notZero x W)
end Go.Proofs.Ytohgdegklhlldaa.G
