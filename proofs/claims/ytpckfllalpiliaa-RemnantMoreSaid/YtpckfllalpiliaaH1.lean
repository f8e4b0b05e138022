/- The contracts of the small library functions that take a function value, at this seat's numbers. -/
import Derived.Test.YtpckfllalpiliaaG0x0
import Derived.Test.YtpckfllalpiliaaG1x
import Derived.Shelf.Abstract
import Derived.WalkSpells
namespace Go.Proofs.Ytpckfllalpiliaa.G
open Go.RowKit Go.Proofs.YtpckfllalpiliaaW.PrintWords Go.Proofs.YtpckfllalpiliaaW.PrintLast Go.Proofs.YtpckfllalpiliaaW.PrintMore 
set_option linter.unusedVariables false
attribute [local go_sem] max2_int min2_int max_two min_two max_three min_three max_four min_four

/-- where the first number stands of which p holds, from k on; -1 -/
def idxP (p : Int → Bool) : List Int → Int → Int
  | [], _ => -1
  | x :: l, k => if p x then k else idxP p l (k + 1)

theorem idxP_nonneg (p : Int → Bool) : ∀ (l : List Int) (k : Int), 0 ≤ k → (decide (0 ≤ idxP p l k) = l.any p)
  | [], k, _ => by simp [idxP]
  | x :: l, k, hk => by
    unfold idxP
    by_cases h : p x = true
    · simp [h]; exact hk
    · have := idxP_nonneg p l (k + 1) (by omega)
      simp [h, this]

/-- A predicate that a function value pays. -/
def PredC (g : Nat) (lb : Array Value) (p : Int → Bool) (w : World) (l : List Int) : Prop :=
  ∀ (W : World) (x : Int), x ∈ l → Below w.heap.size w W → Calls Try.prog g (#[.int .i64 x] ++ lb) W fun e W' => e = .returned (.bool (p x)) ∧ Drawn0 W W'

set_option maxHeartbeats 1000000 in
theorem indexFunc (p : Int → Bool) (g : Nat) (lb : Array Value) (eg : ∀ args w, (callFunc g args).run Try.prog w = .ok (.enter g args) w)
    (A : Option Addr) (c : Nat) (l : List Int) (w : World) (hr : Kd.C (Kd.int .i64) w A l.length l) (hp : PredC g lb p w l) :
    Calls Try.prog 49 #[.slice A l.length c, .func (.func g) #[] lb] w fun e w' => e = .returned (.int .i64 (idxP p l 0)) ∧ Drawn0 w w' := by
  have HR := Aside0.mk hr
  have hm := Kd.C_max hr
  have HP := Aside0.mk hp
  clear hp hr
  go_enter Try.func49, Try.ntmps49
  go_wp2
  go_loopg [5, 8] (l.length) (fun kq v5 v8 w' => ∃ j : Nat, v8 = .int .i64 j ∧ Aside0 (kq + j = l.length) ∧ Aside0 (idxP p (l.drop j) j = idxP p l 0) ∧ Aside0 (Drawn0 w w'))
  case atStart => exact ⟨0, rfl, ⟨by omega⟩, ⟨rfl⟩, ⟨Drawn0.refl _⟩⟩
  case round =>
    obtain ⟨j, rfl, HJ, HI, HD⟩ := hrel
    have hj := HJ.out
    obtain ⟨⟨n, rfl⟩⟩ := HD
    by_cases hlt : j < l.length
    · obtain ⟨ad, rfl, hx⟩ := Kd.at_int HR.out (j : Int) (by omega) (by omega)
      have hmem : rd l (j : Int) ∈ l := by
        unfold rd; rw [List.getD_eq_getElem?_getD, Int.toNat_natCast, List.getElem?_eq_getElem hlt]; exact List.getElem_mem hlt
      have hdrop : l.drop j = rd l (j : Int) :: l.drop (j + 1) := by
        rw [List.drop_eq_getElem_cons hlt]; unfold rd
        rw [List.getD_eq_getElem?_getD, Int.toNat_natCast, List.getElem?_eq_getElem hlt]; rfl
      have HX := Aside0.mk hdrop
      have HM := Aside0.mk hmem
      clear hdrop hmem
      have hc := HP.out (w.drewN n) (rd l (j : Int)) HM.out (pw_below_drewN (Below.refl _ _) n)
      have HC := Aside0.mk hc
      clear hc
      rw [Int.toNat_natCast] at hx
      go_wp2_with fail
      refine HC.out.mono ?_
      rintro e w' ⟨rfl, ⟨m, rfl⟩⟩
      cases hpx : p (rd l (j : Int)) with
      | false =>
        have HQ := Aside0.mk hpx
        clear hpx
        go_wp2_with fail
        go_roundg (l.length - (j + 1))
        case measure => omega
        case rel => exact ⟨j + 1, by go_num, ⟨by omega⟩, ⟨by rw [← HI.out, HX.out, idxP, if_neg (by simp [HQ.out])]; rfl⟩, ⟨⟨n + m, rfl⟩⟩⟩
      | true =>
        have HQ := Aside0.mk hpx
        clear hpx
        go_wp2_with fail
        go_ret
        exact ⟨by rw [← HI.out, HX.out, idxP, if_pos HQ.out]; rfl, ⟨⟨n + m, rfl⟩⟩⟩
    · go_wp2_with fail
      go_ret
      exact ⟨by rw [← HI.out, List.drop_eq_nil_of_le (by omega)]; rfl, ⟨⟨n, rfl⟩⟩⟩

theorem containsFunc (p : Int → Bool) (g : Nat) (lb : Array Value) (eg : ∀ args w, (callFunc g args).run Try.prog w = .ok (.enter g args) w)
    (A : Option Addr) (c : Nat) (l : List Int) (w : World) (hr : Kd.C (Kd.int .i64) w A l.length l) (hp : PredC g lb p w l) :
    Calls Try.prog 39 #[.slice A l.length c, .func (.func g) #[] lb] w fun e w' => e = .returned (.bool (l.any p)) ∧ Drawn0 w w' := by
  have HR := Aside0.mk hr
  have HP := Aside0.mk hp
  clear hp hr
  go_enter Try.func39, Try.ntmps39
  go_wp2_with fail
  refine (indexFunc p g lb eg A c l w HR.out HP.out).mono ?_
  rintro e w' ⟨rfl, ⟨m, rfl⟩⟩
  go_wp2_with fail
  go_ret
  exact ⟨by rw [idxP_nonneg p l 0 (by omega)]; rfl, ⟨⟨m, rfl⟩⟩⟩

def galloonlaw09_list.f (l0 : List Int) : Option (List Int) := some (l0.take 13)
theorem galloonlaw09_list.calls (A0 : Option Addr) (c0 : Nat) (l0 : List Int) (r : List Int) (w : World) (hr0 : Kd.C (Kd.int .i64) w A0 l0.length l0) (hc0 : l0.length ≤ c0) (h : galloonlaw09_list.f l0 = some r) :
    Calls Try.prog 14 #[.slice A0 l0.length c0] w fun e w' => ∃ v0_ : Value, e = .returned (v0_) ∧ Kd.R (Kd.int .i64) 3 w' w.heap.size (fun _ => True) v0_ r ∧ Below w.heap.size w w' := by
  have HR0 := Aside0.mk hr0
  have HC0 := Aside0.mk hc0
  obtain rfl := Option.some.inj h
  clear hr0 hc0 h
  have HB := Aside0.mk (Below.refl w.heap.size w)
  obtain ⟨j, hj, hj2, hj3⟩ : ∃ j : Int, (if 13 < (l0.length : Int) then 13 else (l0.length : Int)) = j ∧ 0 ≤ j ∧ j ≤ l0.length := by
    by_cases h65 : 13 < (l0.length : Int)
    · exact ⟨13, if_pos h65, by omega, by omega⟩
    · exact ⟨_, if_neg h65, by omega, by omega⟩
  have hj4 : l0.take 13 = l0.take j.toNat := by
    by_cases h65 : 13 < (l0.length : Int)
    · rw [if_pos h65] at hj; subst hj; rfl
    · rw [if_neg h65] at hj; subst hj; rw [List.take_of_length_le (by omega), List.take_of_length_le (by simp)]
  rw [hj4]
  clear hj4
  obtain ⟨i06, hi06, _, hsz6, _⟩ := info_parts info3
  obtain ⟨hcut6, hA6, hC6⟩ := print_take_of (P := Try.prog) (Value.int .i64) 0 22 3 .i64 Try.underlying22 hi06 hsz6 A0 c0 l0 j hj2 hj3 HC0.out
  have hlen : (l0.take j.toNat).length = j.toNat := by rw [List.length_take]; omega
  have hA7 := hA6 _ (Kd.reads_of_C HR0.out)
  rw [hlen] at hA7
  have HR1 := Aside0.mk (Kd.C_of_reads (h1 := fun _ => rfl) hA7)
  have hm := Kd.C_max HR0.out
  clear hA6 hA7 hC6 hi06 hsz6 hlen
  go_enter Try.func14, Try.ntmps14
  go_wp2_with (at_builtin; refine Kd.R_append_rows (Kd.int .i64) (w0 := w) w.heap.size rfl (.tmp 4) (.tmp 9) 22 3 (.int .i64 0) 8 rfl Try.underlying22 info3 rfl (by decide) (by omega) (.slice none 0 0) ([] : List Int) (l0.take j.toNat) _ _ _ (fun _ => True) (fun _ => False) rfl rfl (Kd.R_nil _ _ _ _ _) HR1.out (fun _ _ h => h) (fun _ h => h.elim) (fun _ _ => trivial) (Below.refl _ _) (Nat.le_refl _) ?aL ?_; (case aL => simp; omega); intro v1 w1 ho hb hg hat; have HO := Aside0.mk ho; have HB2 := Aside0.mk hb; clear ho hb hg hat)
  go_ret
  exact ⟨_, rfl, HO.out, HB2.out⟩

/-- the closure of arePieces: x is no piece -/
theorem notPiece (m : Int) (B : Nat) (x : Int) (W : World) (hB : W.cell? ⟨B, 0, none⟩ = some (.int .i64 m)) :
    Calls Try.prog 40 #[.int .i64 x, .pointer (some ⟨B, 0, none⟩)] W fun e W' => e = .returned (.bool (!(decide (1 ≤ x) && decide (x ≤ m)))) ∧ Drawn0 W W' := by
  have hw : ∃ b, remnant_within.f x 1 m = some b ∧ b = (decide (1 ≤ x) && decide (x ≤ m)) := by
    unfold remnant_within.f
    by_cases h : x ≥ 1
    · rw [if_pos h]; exact ⟨_, rfl, by simp [show 1 ≤ x from h]⟩
    · rw [if_neg h]; exact ⟨_, rfl, by simp [show ¬ 1 ≤ x from h]⟩
  obtain ⟨b, hb, hbe⟩ := hw
  rw [← hbe]
  have HW := Aside0.mk hb
  clear hb hbe
  go_enter Try.func40, Try.ntmps40
  go_wp2_with (go_at_call 26; refine (remnant_within.calls x 1 m b _ HW.out).mono ?_; rintro e w' ⟨rfl, ⟨nd, rfl⟩⟩)
  go_ret
  exact ⟨rfl, ⟨⟨_, rfl⟩⟩⟩

def piecesB (room : Int) (l : List Int) : Bool := decide (1 ≤ room) && decide (room ≤ 100) && decide ((l.length : Int) ≤ 12) && (l.all fun x => decide (1 ≤ x) && decide (x ≤ room))
def remnant_arePieces.f (a0 : Int) (l1 : List Int) : Option Bool := some (piecesB a0 l1)
theorem remnant_arePieces.calls (a0 : Int) (A1 : Option Addr) (c1 : Nat) (l1 : List Int) (r : Bool) (w : World) (hr1 : Kd.C (Kd.int .i64) w A1 l1.length l1) (hc1 : l1.length ≤ c1) (h : remnant_arePieces.f a0 l1 = some r) :
    Calls Try.prog 23 #[.int .i64 a0, .slice A1 l1.length c1] w fun e w' => e = .returned (.bool r) ∧ Below w.heap.size w w' := by
  obtain rfl := Option.some.inj h
  clear h
  have HR1 := Aside0.mk hr1
  have hm := Kd.C_max hr1
  clear hr1 hc1
  have hmf : ∀ (fn : Fn) (first cap : Array Value) (w : World), (Instr.makeFunc fn first cap).run Try.prog w = .ok (.func fn first cap) w := fun _ _ _ _ => rfl
  have hw : ∃ b, remnant_within.f a0 1 100 = some b ∧ b = (decide (1 ≤ a0) && decide (a0 ≤ 100)) := by
    unfold remnant_within.f
    by_cases h : a0 ≥ 1
    · rw [if_pos h]; exact ⟨_, rfl, by simp [show 1 ≤ a0 from h]⟩
    · rw [if_neg h]; exact ⟨_, rfl, by simp [show ¬ 1 ≤ a0 from h]⟩
  obtain ⟨b, hb, hbe⟩ := hw
  have HW := Aside0.mk hb
  have HE := Aside0.mk hbe
  clear hbe
  have hP := fun (W : World) (hc : W.cell? ⟨w.heap.size, 0, none⟩ = some (.int .i64 a0)) (hW : Below w.heap.size w W) (hlt : w.heap.size < W.heap.size) => containsFunc (fun x => !(decide (1 ≤ x) && decide (x ≤ a0))) 40 #[.pointer (some ⟨w.heap.size, 0, none⟩)] (enters_of Try.func40 (by kernel_rfl) rfl) A1 c1 l1 W (Kd.C_below HR1.out hW)
    (fun W' x _ hb => notPiece a0 w.heap.size x W' ((hb.cell (p := ⟨w.heap.size, 0, none⟩) hlt).trans hc))
  have HP := Aside0.mk hP
  clear hP hb
  unfold piecesB
  go_enter Try.func23, Try.ntmps23
  go_wp2_with fail
  refine (remnant_within.calls a0 1 100 b _ HW.out).mono ?_
  rintro e w' ⟨rfl, ⟨nd, rfl⟩⟩
  have h1 := (blk_cell (blk_drewN (blk_new w (.cells #[.int .i64 a0] 3 (0, 0))) nd) 0).trans (show (#[Value.int .i64 a0] : Array Value)[0]? = some (.int .i64 a0) from rfl)
  have h2 := pw_below_drewN ((Below.refl w.heap.size w).alloc (Nat.le_refl _) (.cells #[.int .i64 a0] 3 (0, 0))) nd
  cases b with
  | false =>
    go_wp2_with fail
    go_ret
    exact ⟨by rw [← HE.out]; rfl, h2⟩
  | true =>
    by_cases hl : (l1.length : Int) ≤ 12
    · have hd : decide ((l1.length : Int) ≤ 12) = true := decide_eq_true hl
      go_wp2_with fail
      refine (HP.out _ h1 h2 (by simp)).mono ?_
      rintro e w' ⟨rfl, ⟨nd2, rfl⟩⟩
      go_wp2_with fail
      go_ret
      exact ⟨by rw [← HE.out, hd, List.all_eq_not_any_not]; simp only [Bool.not_and, Bool.true_and]; rfl, pw_below_drewN ((Below.refl _ _).alloc (Nat.le_refl _) _) _⟩
    · have hd : decide ((l1.length : Int) ≤ 12) = false := decide_eq_false hl
      go_wp2_with fail
      go_ret
      exact ⟨by rw [← HE.out, hd]; rfl, h2⟩
end Go.Proofs.Ytpckfllalpiliaa.G
