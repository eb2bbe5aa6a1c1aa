/- Part of the proof; printed or typed in this session; unused declarations and remarks struck by a program (wip/prune.py). -/
import Derived.Test.YtplkkmmojanclaaDoorCQ0
import Derived.Test.YtplkkmmojanclaaDoorCQ16
import Derived.Test.YtplkkmmojanclaaDoorCQ17
import Derived.Test.YtplkkmmojanclaaDoorCQ19
set_option linter.all false
namespace Go.Proofs.YtplkkmmojanclaaDoor.Q
open Go.RowKit Go.Proofs.YtplkkmmojanclaaDoor.My Go.Proofs.YtplkkmmojanclaaDoorW.PrintWords Go.Proofs.YtplkkmmojanclaaDoorW.PrintLast Go.Proofs.YtplkkmmojanclaaDoorW.PrintMore
attribute [local go_sem] max2_int min2_int max_two min_two max_three min_three max_four min_four
set_option linter.unusedVariables false
set_option linter.unusedSimpArgs false
mutual
def tapestrierlaw4_TokNumbers.j0 : Nat → Int → Int → Bool → Int → Bool → Bool → Option (Bool)
  | 0, _, _, _, _, _, _ => none
  | k + 1, x0, x1, x2, x3, x9, x33 => if x33 = true then (some x9) else ((tapestrierref1_Digits.f k x0).bind fun t731 => (if x1 > 0 then ((tapestrierref1_Digits.f k (wrap64 (1000 + x1))).bind fun t732 => (if t731.size + 1 ≤ 9223372036854775807 then (if 1 ≤ (t732.size : Int) then (if (t731 ++ (⟨#[46]⟩ : ByteArray)).size + (t732.extract 1 t732.size).size ≤ 9223372036854775807 then (tapestrierlaw4_TokNumbers.j1 k x1 x2 x3 ((t731 ++ (⟨#[46]⟩ : ByteArray)) ++ (t732.extract 1 t732.size)) (wrap64 ((wrap64 (x0 * 1000)) + x1))) else (none)) else (none)) else (none))) else (tapestrierlaw4_TokNumbers.j1 k x1 x2 x3 t731 (wrap64 (x0 * 1000)))))
def tapestrierlaw4_TokNumbers.j1 : Nat → Int → Bool → Int → ByteArray → Int → Option (Bool)
  | 0, _, _, _, _, _ => none
  | k + 1, x1, x2, x3, x10, x11 => if x2 = true then (if 1 + x10.size ≤ 9223372036854775807 then (tapestrierlaw4_TokNumbers.j2 k x1 x3 ((⟨#[45]⟩ : ByteArray) ++ x10) (wrap64 (-x11))) else (none)) else (tapestrierlaw4_TokNumbers.j2 k x1 x3 x10 x11)
def tapestrierlaw4_TokNumbers.j2 : Nat → Int → Int → ByteArray → Int → Option (Bool)
  | 0, _, _, _, _ => none
  | k + 1, x1, x3, x10, x11 => (some (([(⟨#[]⟩ : ByteArray), (⟨#[37]⟩ : ByteArray), (⟨#[112, 120]⟩ : ByteArray), (⟨#[32, 112, 120]⟩ : ByteArray), (⟨#[46]⟩ : ByteArray), (⟨#[45]⟩ : ByteArray), (⟨#[43, 49]⟩ : ByteArray)] : List ByteArray) : List ByteArray)).bind fun y733 => ((some (([(([(⟨6, (⟨#[]⟩ : ByteArray), x11, (x1 == 0), 0⟩ : S31)] : List (S31))), (([(⟨7, (⟨#[]⟩ : ByteArray), x11, false, 0⟩ : S31)] : List (S31))), (([(⟨8, (⟨#[112, 120]⟩ : ByteArray), x11, false, 0⟩ : S31)] : List (S31))), (([(⟨6, (⟨#[]⟩ : ByteArray), x11, (x1 == 0), 0⟩ : S31), (⟨9, (⟨#[]⟩ : ByteArray), 0, false, 0⟩ : S31), (⟨1, (⟨#[112, 120]⟩ : ByteArray), 0, false, 0⟩ : S31)] : List (S31))), (([(⟨6, (⟨#[]⟩ : ByteArray), x11, (x1 == 0), 0⟩ : S31), (⟨10, (⟨#[]⟩ : ByteArray), 0, false, 46⟩ : S31)] : List (S31))), (([(⟨6, (⟨#[]⟩ : ByteArray), x11, (x1 == 0), 0⟩ : S31), (⟨10, (⟨#[]⟩ : ByteArray), 0, false, 45⟩ : S31)] : List (S31))), (([(⟨6, (⟨#[]⟩ : ByteArray), x11, (x1 == 0), 0⟩ : S31), (⟨6, (⟨#[]⟩ : ByteArray), 1000, true, 0⟩ : S31)] : List (S31)))] : List (List (S31))) : List (List (S31)))).bind fun y757 => (if x3 < 0 then (tapestrierlaw4_TokNumbers.j3 k x3 x10 y733 y757 true) else (tapestrierlaw4_TokNumbers.j3 k x3 x10 y733 y757 (decide (x3 ≥ (y733.length : Int))))))
def tapestrierlaw4_TokNumbers.j3 : Nat → Int → ByteArray → List ByteArray → List (List (S31)) → Bool → Option (Bool)
  | 0, _, _, _, _, _ => none
  | k + 1, x3, x10, x13, x14, x102 => if x102 = true then (some true) else (if 0 ≤ x3 then (if x3 < (x13.length : Int) then (if x10.size + (rdOf ByteArray.empty x13 x3).size ≤ 9223372036854775807 then ((bytesConv5.f (x10 ++ (rdOf ByteArray.empty x13 x3))).bind fun t761 => ((tapestrierlaw4_Of.f k t761).bind fun t764 => (if x3 < (x14.length : Int) then ((tapestrierref1_SameTokens.f k t764 (rd_L5 x14 x3)).bind fun t768 => (some t768)) else (none)))) else (none)) else (none)) else (none))
end
def tapestrierlaw4_TokNumbers.f (k : Nat) (a0 : Int) (a1 : Int) (a2 : Bool) (a3 : Int) : Option (Bool) := (tapestrierlaw4_alive.f k).bind fun t730 => (if t730 = true then (if a0 < 0 then (tapestrierlaw4_TokNumbers.j0 k a0 a1 a2 a3 t730 true) else (if a0 > 2000000 then (tapestrierlaw4_TokNumbers.j0 k a0 a1 a2 a3 t730 true) else (if a1 < 0 then (tapestrierlaw4_TokNumbers.j0 k a0 a1 a2 a3 t730 true) else (tapestrierlaw4_TokNumbers.j0 k a0 a1 a2 a3 t730 (decide (a1 > 999)))))) else (tapestrierlaw4_TokNumbers.j0 k a0 a1 a2 a3 t730 true))
theorem tapestrierlaw4_TokNumbers.mono_l : ∀ k, (∀ y0 y1 y2 y3 y4 y5, LeO (tapestrierlaw4_TokNumbers.j0 k y0 y1 y2 y3 y4 y5) (tapestrierlaw4_TokNumbers.j0 (k + 1) y0 y1 y2 y3 y4 y5)) ∧ (∀ y0 y1 y2 y3 y4, LeO (tapestrierlaw4_TokNumbers.j1 k y0 y1 y2 y3 y4) (tapestrierlaw4_TokNumbers.j1 (k + 1) y0 y1 y2 y3 y4)) ∧ (∀ y0 y1 y2 y3, LeO (tapestrierlaw4_TokNumbers.j2 k y0 y1 y2 y3) (tapestrierlaw4_TokNumbers.j2 (k + 1) y0 y1 y2 y3)) ∧ (∀ y0 y1 y2 y3 y4, LeO (tapestrierlaw4_TokNumbers.j3 k y0 y1 y2 y3 y4) (tapestrierlaw4_TokNumbers.j3 (k + 1) y0 y1 y2 y3 y4))
  | 0 => ⟨fun _ _ _ _ _ _ r h => by simp [tapestrierlaw4_TokNumbers.j0] at h, fun _ _ _ _ _ r h => by simp [tapestrierlaw4_TokNumbers.j1] at h, fun _ _ _ _ r h => by simp [tapestrierlaw4_TokNumbers.j2] at h, fun _ _ _ _ _ r h => by simp [tapestrierlaw4_TokNumbers.j3] at h⟩
  | k + 1 => by
    obtain ⟨ih0, ih1, ih2, ih3⟩ := tapestrierlaw4_TokNumbers.mono_l k
    refine ⟨?_, ?_, ?_, ?_⟩
    · intro y0 y1 y2 y3 y4 y5
      unfold tapestrierlaw4_TokNumbers.j0
      repeat' first
      | (with_reducible exact ih0 _ _ _ _ _ _)
      | (with_reducible exact ih1 _ _ _ _ _)
      | (with_reducible exact ih2 _ _ _ _)
      | (with_reducible exact ih3 _ _ _ _ _)
      | (with_reducible exact tapestrierlaw4_Of.mono _ _)
      | (with_reducible exact tapestrierlaw4_alive.mono _)
      | (with_reducible exact tapestrierref1_Digits.mono _ _)
      | (with_reducible exact tapestrierref1_SameTokens.mono _ _ _)
      | (with_reducible exact LeO.refl _)
      | (with_reducible exact LeO.none _)
      | (with_reducible refine LeO.ite ?_ ?_)
      | (with_reducible refine LeO.bind ?_ (fun _ => ?_))
      | exact ih0 _ _ _ _ _ _
      | exact ih1 _ _ _ _ _
      | exact ih2 _ _ _ _
      | exact ih3 _ _ _ _ _
      | exact tapestrierlaw4_Of.mono _ _
      | exact tapestrierlaw4_alive.mono _
      | exact tapestrierref1_Digits.mono _ _
      | exact tapestrierref1_SameTokens.mono _ _ _
      | exact LeO.none _
      | refine LeO.ite ?_ ?_
      | refine LeO.bind ?_ (fun _ => ?_)
    · intro y0 y1 y2 y3 y4
      unfold tapestrierlaw4_TokNumbers.j1
      repeat' first
      | (with_reducible exact ih0 _ _ _ _ _ _)
      | (with_reducible exact ih1 _ _ _ _ _)
      | (with_reducible exact ih2 _ _ _ _)
      | (with_reducible exact ih3 _ _ _ _ _)
      | (with_reducible exact tapestrierlaw4_Of.mono _ _)
      | (with_reducible exact tapestrierlaw4_alive.mono _)
      | (with_reducible exact tapestrierref1_Digits.mono _ _)
      | (with_reducible exact tapestrierref1_SameTokens.mono _ _ _)
      | (with_reducible exact LeO.refl _)
      | (with_reducible exact LeO.none _)
      | (with_reducible refine LeO.ite ?_ ?_)
      | (with_reducible refine LeO.bind ?_ (fun _ => ?_))
      | exact ih0 _ _ _ _ _ _
      | exact ih1 _ _ _ _ _
      | exact ih2 _ _ _ _
      | exact ih3 _ _ _ _ _
      | exact tapestrierlaw4_Of.mono _ _
      | exact tapestrierlaw4_alive.mono _
      | exact tapestrierref1_Digits.mono _ _
      | exact tapestrierref1_SameTokens.mono _ _ _
      | exact LeO.none _
      | refine LeO.ite ?_ ?_
      | refine LeO.bind ?_ (fun _ => ?_)
    · intro y0 y1 y2 y3
      unfold tapestrierlaw4_TokNumbers.j2
      repeat' first
      | (with_reducible exact ih0 _ _ _ _ _ _)
      | (with_reducible exact ih1 _ _ _ _ _)
      | (with_reducible exact ih2 _ _ _ _)
      | (with_reducible exact ih3 _ _ _ _ _)
      | (with_reducible exact tapestrierlaw4_Of.mono _ _)
      | (with_reducible exact tapestrierlaw4_alive.mono _)
      | (with_reducible exact tapestrierref1_Digits.mono _ _)
      | (with_reducible exact tapestrierref1_SameTokens.mono _ _ _)
      | (with_reducible exact LeO.refl _)
      | (with_reducible exact LeO.none _)
      | (with_reducible refine LeO.ite ?_ ?_)
      | (with_reducible refine LeO.bind ?_ (fun _ => ?_))
      | exact ih0 _ _ _ _ _ _
      | exact ih1 _ _ _ _ _
      | exact ih2 _ _ _ _
      | exact ih3 _ _ _ _ _
      | exact tapestrierlaw4_Of.mono _ _
      | exact tapestrierlaw4_alive.mono _
      | exact tapestrierref1_Digits.mono _ _
      | exact tapestrierref1_SameTokens.mono _ _ _
      | exact LeO.none _
      | refine LeO.ite ?_ ?_
      | refine LeO.bind ?_ (fun _ => ?_)
    · intro y0 y1 y2 y3 y4
      unfold tapestrierlaw4_TokNumbers.j3
      repeat' first
      | (with_reducible exact ih0 _ _ _ _ _ _)
      | (with_reducible exact ih1 _ _ _ _ _)
      | (with_reducible exact ih2 _ _ _ _)
      | (with_reducible exact ih3 _ _ _ _ _)
      | (with_reducible exact tapestrierlaw4_Of.mono _ _)
      | (with_reducible exact tapestrierlaw4_alive.mono _)
      | (with_reducible exact tapestrierref1_Digits.mono _ _)
      | (with_reducible exact tapestrierref1_SameTokens.mono _ _ _)
      | (with_reducible exact LeO.refl _)
      | (with_reducible exact LeO.none _)
      | (with_reducible refine LeO.ite ?_ ?_)
      | (with_reducible refine LeO.bind ?_ (fun _ => ?_))
      | exact ih0 _ _ _ _ _ _
      | exact ih1 _ _ _ _ _
      | exact ih2 _ _ _ _
      | exact ih3 _ _ _ _ _
      | exact tapestrierlaw4_Of.mono _ _
      | exact tapestrierlaw4_alive.mono _
      | exact tapestrierref1_Digits.mono _ _
      | exact tapestrierref1_SameTokens.mono _ _ _
      | exact LeO.none _
      | refine LeO.ite ?_ ?_
      | refine LeO.bind ?_ (fun _ => ?_)
theorem tapestrierlaw4_TokNumbers.mono : ∀ a0 a1 a2 a3 k, LeO (tapestrierlaw4_TokNumbers.f k a0 a1 a2 a3) (tapestrierlaw4_TokNumbers.f (k + 1) a0 a1 a2 a3) := by
  intro a0 a1 a2 a3 k
  obtain ⟨ih0, ih1, ih2, ih3⟩ := tapestrierlaw4_TokNumbers.mono_l k
  unfold tapestrierlaw4_TokNumbers.f
  repeat' first
      | (with_reducible exact ih0 _ _ _ _ _ _)
      | (with_reducible exact ih1 _ _ _ _ _)
      | (with_reducible exact ih2 _ _ _ _)
      | (with_reducible exact ih3 _ _ _ _ _)
      | (with_reducible exact tapestrierlaw4_Of.mono _ _)
      | (with_reducible exact tapestrierlaw4_alive.mono _)
      | (with_reducible exact tapestrierref1_Digits.mono _ _)
      | (with_reducible exact tapestrierref1_SameTokens.mono _ _ _)
      | (with_reducible exact LeO.refl _)
      | (with_reducible exact LeO.none _)
      | (with_reducible refine LeO.ite ?_ ?_)
      | (with_reducible refine LeO.bind ?_ (fun _ => ?_))
      | exact ih0 _ _ _ _ _ _
      | exact ih1 _ _ _ _ _
      | exact ih2 _ _ _ _
      | exact ih3 _ _ _ _ _
      | exact tapestrierlaw4_Of.mono _ _
      | exact tapestrierlaw4_alive.mono _
      | exact tapestrierref1_Digits.mono _ _
      | exact tapestrierref1_SameTokens.mono _ _ _
      | exact LeO.none _
      | refine LeO.ite ?_ ?_
      | refine LeO.bind ?_ (fun _ => ?_)
def tapestrierlaw4_TokNumbers.T17 : Bool × List (List Nat × List Nat) := (true, [([], []), ([], []), ([], []), ([1, 2], [1, 2]), ([3], [3]), ([0, 4], [0, 4]), ([5], [5]), ([6], [6]), ([], []), ([], []), ([8, 9], [8, 9]), ([10], [10]), ([7, 11, 7], [7, 11]), ([12, 12, 0, 1, 2, 3, 4, 5, 6, 7, 8, 9, 10, 11, 12], [12])])
def tapestrierlaw4_TokNumbers.B17 : List Nat := [0, 0, 0, 6, 14, 31, 63, 127, 0, 0, 768, 1792, 4095, 8191]
theorem tapestrierlaw4_TokNumbers.tab17 : rtab .any (opsOf Tryd.f6 17) = tapestrierlaw4_TokNumbers.T17 := by kernel_rfl
theorem tapestrierlaw4_TokNumbers.bits17 : waitsOk tapestrierlaw4_TokNumbers.T17.2 tapestrierlaw4_TokNumbers.B17 = true := by kernel_rfl
set_option maxHeartbeats 8000000 in
set_option maxRecDepth 100000 in
theorem tapestrierlaw4_TokNumbers.calls (k : Nat) (a0 : Int) (a1 : Int) (a2 : Bool) (a3 : Int) (r : Bool) (w : World) (hT : TabsIn w) (h : tapestrierlaw4_TokNumbers.f k a0 a1 a2 a3 = some r) :
    Calls Tryd.prog 6 #[.int .i64 a0, .int .i64 a1, .bool a2, .int .i64 a3] w fun e w' => e = .returned (.bool r) ∧ Below w.heap.size w w' := by
  have hu31 := Tryd.underlying31
  have HT := Aside0.mk hT
  clear hT
  have HB := Aside0.mk (Below.refl w.heap.size w)
  have H : ((tapestrierlaw4_alive.f k).bind fun t730 => (if t730 = true then (if a0 < 0 then (tapestrierlaw4_TokNumbers.j0 k a0 a1 a2 a3 t730 true) else (if a0 > 2000000 then (tapestrierlaw4_TokNumbers.j0 k a0 a1 a2 a3 t730 true) else (if a1 < 0 then (tapestrierlaw4_TokNumbers.j0 k a0 a1 a2 a3 t730 true) else (tapestrierlaw4_TokNumbers.j0 k a0 a1 a2 a3 t730 (decide (a1 > 999)))))) else (tapestrierlaw4_TokNumbers.j0 k a0 a1 a2 a3 t730 true))) = some r := h
  clear h
  replace H := Option.bind_eq_some_iff.mp H
  obtain ⟨t730, A50, H⟩ := H
  replace H : (if t730 = true then (if a0 < 0 then (tapestrierlaw4_TokNumbers.j0 k a0 a1 a2 a3 t730 true) else (if a0 > 2000000 then (tapestrierlaw4_TokNumbers.j0 k a0 a1 a2 a3 t730 true) else (if a1 < 0 then (tapestrierlaw4_TokNumbers.j0 k a0 a1 a2 a3 t730 true) else (tapestrierlaw4_TokNumbers.j0 k a0 a1 a2 a3 t730 (decide (a1 > 999)))))) else (tapestrierlaw4_TokNumbers.j0 k a0 a1 a2 a3 t730 true)) = some r := H
  have A5 := Aside0.mk A50
  clear A50
  have HC6 := Aside0.mk H
  clear H
  go_enter Tryd.func6, Tryd.ntmps6
  go_upto_region 2 with (first | ((with_reducible refine gate_callee (f := 17) rfl ?_); refine goesL_ (some 15) rfl rfl Tryd.func17 (by kernel_rfl) rfl #[] rfl (by (try simp only [List.map_toArray, List.map_cons, List.map_nil]); first | done | rfl | (simp only [List.length_drop, List.length_take]; rfl)) ?_; (with_reducible refine (tapestrierlaw4_alive.calls k  t730 _ ?side1 A5.out).mono ?_); (case side1 => exact TabsIn.below HT.out (by repeat (first | (with_reducible first | exact HB.out | apply below_alloc | apply pw_below_drewN | apply below_drew1) | exact HB.out))); rintro e w7 ⟨rfl, hb⟩; refine ⟨_, rfl, ?_⟩; have n0_ := Aside0.mk (below_step (by repeat (first | (with_reducible first | exact HB.out | apply below_alloc | apply pw_below_drewN | apply below_drew1) | exact HB.out)) hb); clear HB; have HB := n0_; clear n0_; (try clear hb); (try clear hb2); (try clear hk); (try clear hi)))
  (try simp only [Act.put, List.setIfInBounds_toArray, List.set_cons_zero, List.set_cons_succ])
  go_cut [33] (fun v33 wc => ∃ (kq : Nat) (x33_5 : Bool), v33 = .bool x33_5 ∧ Aside0 (tapestrierlaw4_TokNumbers.j0 kq a0 a1 a2 a3 t730 x33_5 = some r) ∧ Aside0 (kq ≤ k) ∧ Aside0 (Below w.heap.size w wc))
  case first =>
    have H := HC6.out
    clear HC6
    by_cases c8 : t730 = true
    · subst c8
      have H1 : (if a0 < 0 then (tapestrierlaw4_TokNumbers.j0 k a0 a1 a2 a3 true true) else (if a0 > 2000000 then (tapestrierlaw4_TokNumbers.j0 k a0 a1 a2 a3 true true) else (if a1 < 0 then (tapestrierlaw4_TokNumbers.j0 k a0 a1 a2 a3 true true) else (tapestrierlaw4_TokNumbers.j0 k a0 a1 a2 a3 true (decide (a1 > 999)))))) = some r := by rw [if_pos rfl] at H; exact H
      clear H
      have H := H1
      clear H1
      by_cases c9 : a0 < 0
      · rw [if_pos c9] at H
        have c9b0 : decide (a0 < 0) = true := decide_eq_true c9
        clear c9
        (first | rw [c9b0] | (simp only [i64_w, i32_w]; rw [c9b0]) | skip)
        have H' := Aside0.mk H
        clear H
        go_wp2
        go_meet
        case rel => exact ⟨_, (true), (by first | rfl | (simp; done) | (simp [*]; done) | (simp [wrap64]; done)), H', ⟨by first | omega | exact Nat.le_refl _⟩, ⟨by repeat (first | (with_reducible first | exact HB.out | apply below_alloc | apply pw_below_drewN | apply below_drew1) | exact HB.out)⟩⟩
      · rw [if_neg c9] at H
        have c9b0 : decide (a0 < 0) = false := decide_eq_false c9
        clear c9
        (first | rw [c9b0] | (simp only [i64_w, i32_w]; rw [c9b0]) | skip)
        by_cases c10 : a0 > 2000000
        · rw [if_pos c10] at H
          have c10b0 : decide (2000000 < a0) = true := decide_eq_true c10
          clear c10
          have H' := Aside0.mk H
          clear H
          go_wp2
          go_meet
          case rel => exact ⟨_, (true), (by first | rfl | (simp; done) | (simp [*]; done) | (simp [wrap64]; done)), H', ⟨by first | omega | exact Nat.le_refl _⟩, ⟨by repeat (first | (with_reducible first | exact HB.out | apply below_alloc | apply pw_below_drewN | apply below_drew1) | exact HB.out)⟩⟩
        · rw [if_neg c10] at H
          have c10b0 : decide (2000000 < a0) = false := decide_eq_false c10
          clear c10
          by_cases c11 : a1 < 0
          · rw [if_pos c11] at H
            have c11b0 : decide (a1 < 0) = true := decide_eq_true c11
            clear c11
            have H' := Aside0.mk H
            clear H
            go_wp2
            go_meet
            case rel => exact ⟨_, (true), (by first | rfl | (simp; done) | (simp [*]; done) | (simp [wrap64]; done)), H', ⟨by first | omega | exact Nat.le_refl _⟩, ⟨by repeat (first | (with_reducible first | exact HB.out | apply below_alloc | apply pw_below_drewN | apply below_drew1) | exact HB.out)⟩⟩
          · rw [if_neg c11] at H
            have c11b0 : decide (a1 < 0) = false := decide_eq_false c11
            clear c11
            have H' := Aside0.mk H
            clear H
            go_wp2
            go_meet
            case rel => exact ⟨_, (decide (a1 > 999)), (by first | rfl | (simp; done) | (simp [*]; done) | (simp [wrap64]; done)), H', ⟨by first | omega | exact Nat.le_refl _⟩, ⟨by repeat (first | (with_reducible first | exact HB.out | apply below_alloc | apply pw_below_drewN | apply below_drew1) | exact HB.out)⟩⟩
    · replace c8 := Bool.eq_false_iff.mpr c8
      subst c8
      have H1 : (tapestrierlaw4_TokNumbers.j0 k a0 a1 a2 a3 false true) = some r := by rw [if_neg (show ¬ (false = true) by decide)] at H; exact H
      clear H
      have H := H1
      clear H1
      have H' := Aside0.mk H
      clear H
      go_wp2
      go_meet
      case rel => exact ⟨_, (true), (by first | rfl | (simp; done) | (simp [*]; done) | (simp [wrap64]; done)), H', ⟨by first | omega | exact Nat.le_refl _⟩, ⟨by repeat (first | (with_reducible first | exact HB.out | apply below_alloc | apply pw_below_drewN | apply below_drew1) | exact HB.out)⟩⟩
  case rest =>
    clear HC6
    try clear c1
    try clear p2
    try clear c6
    try clear p6
    try clear c8
    try clear c9
    try clear c9b0
    try clear c10
    try clear c10b0
    try clear c11
    try clear c11b0
    obtain ⟨kq, x33_5, rfl, HA, HJ5, HB⟩ := hcut
    cases kq with
    | zero => exact absurd HA.out (by simp [tapestrierlaw4_TokNumbers.j0])
    | succ kj5 =>
      have H := HA.out
      clear HA
      simp only [tapestrierlaw4_TokNumbers.j0] at H
      by_cases c12 : x33_5 = true
      · subst c12
        have H1 : (some t730) = some r := by rw [if_pos rfl] at H; exact H
        clear H
        have H := H1
        clear H1
        obtain rfl := Option.some.inj H
        go_wp2
        go_ret
        exact ⟨by first | rfl | (simp [errW_none, errW_some] <;> rfl) | (simp [*, errW_none, errW_some] <;> rfl), by repeat (first | (with_reducible first | exact HB.out | apply below_alloc | apply pw_below_drewN | apply below_drew1) | exact HB.out)⟩
      · replace c12 := Bool.eq_false_iff.mpr c12
        subst c12
        have H1 : ((tapestrierref1_Digits.f kj5 a0).bind fun t731 => (if a1 > 0 then ((tapestrierref1_Digits.f kj5 (wrap64 (1000 + a1))).bind fun t732 => (if t731.size + 1 ≤ 9223372036854775807 then (if 1 ≤ (t732.size : Int) then (if (t731 ++ (⟨#[46]⟩ : ByteArray)).size + (t732.extract 1 t732.size).size ≤ 9223372036854775807 then (tapestrierlaw4_TokNumbers.j1 kj5 a1 a2 a3 ((t731 ++ (⟨#[46]⟩ : ByteArray)) ++ (t732.extract 1 t732.size)) (wrap64 ((wrap64 (a0 * 1000)) + a1))) else (none)) else (none)) else (none))) else (tapestrierlaw4_TokNumbers.j1 kj5 a1 a2 a3 t731 (wrap64 (a0 * 1000))))) = some r := by rw [if_neg (show ¬ (false = true) by decide)] at H; exact H
        clear H
        have H := H1
        clear H1
        replace H := Option.bind_eq_some_iff.mp H
        obtain ⟨t731, A130, H⟩ := H
        replace H : (if a1 > 0 then ((tapestrierref1_Digits.f kj5 (wrap64 (1000 + a1))).bind fun t732 => (if t731.size + 1 ≤ 9223372036854775807 then (if 1 ≤ (t732.size : Int) then (if (t731 ++ (⟨#[46]⟩ : ByteArray)).size + (t732.extract 1 t732.size).size ≤ 9223372036854775807 then (tapestrierlaw4_TokNumbers.j1 kj5 a1 a2 a3 ((t731 ++ (⟨#[46]⟩ : ByteArray)) ++ (t732.extract 1 t732.size)) (wrap64 ((wrap64 (a0 * 1000)) + a1))) else (none)) else (none)) else (none))) else (tapestrierlaw4_TokNumbers.j1 kj5 a1 a2 a3 t731 (wrap64 (a0 * 1000)))) = some r := H
        have A13 := Aside0.mk A130
        clear A130
        have HC14 := Aside0.mk H
        clear H
        go_upto_if 40 with (first | ((with_reducible refine gate_callee (f := 21) rfl ?_); refine goesL_ (some 36) rfl rfl Tryd.func21 (by kernel_rfl) rfl #[.int .i64 a0] rfl (by (try simp only [List.map_toArray, List.map_cons, List.map_nil]); first | done | rfl | (simp only [List.length_drop, List.length_take]; rfl)) ?_; (with_reducible refine (tapestrierref1_Digits.calls kj5 a0 t731 _ A13.out).mono ?_); rintro e w' ⟨rfl, ⟨nd, rfl⟩⟩; refine ⟨_, rfl, ?_⟩))
        (try simp only [Act.put, List.setIfInBounds_toArray, List.set_cons_zero, List.set_cons_succ])
        go_cut [10, 11] (fun v10 v11 wc => ∃ (kq : Nat) (x10_13 : ByteArray) (x11_13 : Int), v10 = .string x10_13 ∧ v11 = .int .i64 x11_13 ∧ Aside0 (tapestrierlaw4_TokNumbers.j1 kq a1 a2 a3 x10_13 x11_13 = some r) ∧ Aside0 (kq ≤ kj5) ∧ Aside0 (Below w.heap.size w wc))
        case first =>
          have H := HC14.out
          clear HC14
          by_cases c15 : a1 > 0
          · rw [if_pos c15] at H
            have c15b0 : decide (0 < a1) = true := decide_eq_true c15
            clear c15
            (first | rw [c15b0] | (simp only [i64_w, i32_w]; rw [c15b0]) | skip)
            replace H := Option.bind_eq_some_iff.mp H
            obtain ⟨t732, A160, H⟩ := H
            replace H : (if t731.size + 1 ≤ 9223372036854775807 then (if 1 ≤ (t732.size : Int) then (if (t731 ++ (⟨#[46]⟩ : ByteArray)).size + (t732.extract 1 t732.size).size ≤ 9223372036854775807 then (tapestrierlaw4_TokNumbers.j1 kj5 a1 a2 a3 ((t731 ++ (⟨#[46]⟩ : ByteArray)) ++ (t732.extract 1 t732.size)) (wrap64 ((wrap64 (a0 * 1000)) + a1))) else (none)) else (none)) else (none)) = some r := H
            have A16 := Aside0.mk A160
            clear A160
            by_cases c17 : t731.size + 1 ≤ 9223372036854775807
            · rw [if_pos c17] at H
              have c17b0 := eq_true c17
              have c17b1 : decide (t731.size + 1 ≤ 9223372036854775807) = true := decide_eq_true c17
              try have c17b2 : (9223372036854775807 < t731.size + 1) = False := eq_false (Nat.not_lt.2 c17)
              by_cases c18 : 1 ≤ (t732.size : Int)
              · rw [if_pos c18] at H
                have c18b0 := eq_true c18
                have c18b1 : decide (1 ≤ (t732.size : Int)) = true := decide_eq_true c18
                clear c18
                by_cases c19 : (t731 ++ (⟨#[46]⟩ : ByteArray)).size + (t732.extract 1 t732.size).size ≤ 9223372036854775807
                · rw [if_pos c19] at H
                  have c19b0 := eq_true c19
                  have c19b1 : decide ((t731 ++ (⟨#[46]⟩ : ByteArray)).size + (t732.extract 1 t732.size).size ≤ 9223372036854775807) = true := decide_eq_true c19
                  try have c19b2 : (9223372036854775807 < (t731 ++ (⟨#[46]⟩ : ByteArray)).size + (t732.extract 1 t732.size).size) = False := eq_false (Nat.not_lt.2 c19)
                  try (have c19b4 := c19b2; simp only [ByteArray.size_append] at c19b4)
                  try have c19b5 : (9223372036854775807 < t731.size + 1 + (t732.extract 1 t732.size).size) = False := c19b4
                  have H' := Aside0.mk H
                  clear H
                  go_wp2_with (first | ((with_reducible refine gate_callee (f := 21) rfl ?_); refine goesL_ (some 43) rfl rfl Tryd.func21 (by kernel_rfl) rfl #[.int .i64 (wrap64 (1000 + a1))] rfl (by (try simp only [List.map_toArray, List.map_cons, List.map_nil]); first | done | rfl | (simp only [List.length_drop, List.length_take]; rfl)) ?_; (with_reducible refine (tapestrierref1_Digits.calls kj5 (wrap64 (1000 + a1)) t732 _ A16.out).mono ?_); rintro e w' ⟨rfl, ⟨nd, rfl⟩⟩; refine ⟨_, rfl, ?_⟩))
                  go_meet
                  case rel => exact ⟨_, ((t731 ++ (⟨#[46]⟩ : ByteArray)) ++ (t732.extract 1 t732.size)), (wrap64 ((wrap64 (a0 * 1000)) + a1)), (by first | rfl | (simp; done) | (simp [*]; done) | (simp [wrap64]; done)), (by first | rfl | (simp; done) | (simp [*]; done) | (simp [wrap64]; done)), H', ⟨by have := HJ5.out; first | omega | exact Nat.le_refl _⟩, ⟨by repeat (first | (with_reducible first | exact HB.out | apply below_alloc | apply pw_below_drewN | apply below_drew1) | exact HB.out)⟩⟩
                · rw [if_neg c19] at H
                  exact absurd H (by simp)
              · rw [if_neg c18] at H
                exact absurd H (by simp)
            · rw [if_neg c17] at H
              exact absurd H (by simp)
          · rw [if_neg c15] at H
            have c15b0 : decide (0 < a1) = false := decide_eq_false c15
            clear c15
            (first | rw [c15b0] | (simp only [i64_w, i32_w]; rw [c15b0]) | skip)
            have H' := Aside0.mk H
            clear H
            go_wp2
            go_meet
            case rel => exact ⟨_, (t731), (wrap64 (a0 * 1000)), (by first | rfl | (simp; done) | (simp [*]; done) | (simp [wrap64]; done)), (by first | rfl | (simp; done) | (simp [*]; done) | (simp [wrap64]; done)), H', ⟨by have := HJ5.out; first | omega | exact Nat.le_refl _⟩, ⟨by repeat (first | (with_reducible first | exact HB.out | apply below_alloc | apply pw_below_drewN | apply below_drew1) | exact HB.out)⟩⟩
        case rest =>
          clear HC14
          try clear c1
          try clear c2
          try clear p2
          try clear c6
          try clear p6
          try clear c8
          try clear c9
          try clear c9b0
          try clear c10
          try clear c10b0
          try clear c11
          try clear c11b0
          try clear c12
          try clear c15
          try clear c15b0
          try clear c17
          try clear c17b0
          try clear c17b1
          try clear c17b2
          try clear c18
          try clear c18b0
          try clear c18b1
          try clear c19
          try clear c19b0
          try clear c19b1
          try clear c19b2
          try clear p2
          try clear p6
          obtain ⟨kq, x10_13, x11_13, rfl, rfl, HA, HJ13, HB⟩ := hcut
          cases kq with
          | zero => exact absurd HA.out (by simp [tapestrierlaw4_TokNumbers.j1])
          | succ kj13 =>
            have H := HA.out
            clear HA
            simp only [tapestrierlaw4_TokNumbers.j1] at H
            have HC20 := Aside0.mk H
            clear H
            go_upto_if 52 with (fail)
            go_cut [10, 11] (fun v10 v11 wc => ∃ (kq : Nat) (x10_19 : ByteArray) (x11_19 : Int), v10 = .string x10_19 ∧ v11 = .int .i64 x11_19 ∧ Aside0 (tapestrierlaw4_TokNumbers.j2 kq a1 a3 x10_19 x11_19 = some r) ∧ Aside0 (kq ≤ kj13) ∧ Aside0 (Below w.heap.size w wc))
            case first =>
              have H := HC20.out
              clear HC20
              by_cases c21 : a2 = true
              · subst c21
                have H1 : (if 1 + x10_13.size ≤ 9223372036854775807 then (tapestrierlaw4_TokNumbers.j2 kj13 a1 a3 ((⟨#[45]⟩ : ByteArray) ++ x10_13) (wrap64 (-x11_13))) else (none)) = some r := by rw [if_pos rfl] at H; exact H
                clear H
                have H := H1
                clear H1
                by_cases c22 : 1 + x10_13.size ≤ 9223372036854775807
                · rw [if_pos c22] at H
                  have c22b0 := eq_true c22
                  have c22b1 : decide (1 + x10_13.size ≤ 9223372036854775807) = true := decide_eq_true c22
                  try have c22b2 : (9223372036854775807 < 1 + x10_13.size) = False := eq_false (Nat.not_lt.2 c22)
                  have H' := Aside0.mk H
                  clear H
                  go_wp2
                  go_meet
                  case rel => exact ⟨_, ((⟨#[45]⟩ : ByteArray) ++ x10_13), (wrap64 (-x11_13)), (by first | rfl | (simp; done) | (simp [*]; done) | (simp [wrap64]; done)), (by first | rfl | (simp; done) | (simp [*]; done) | (simp [wrap64]; done)), H', ⟨by have := HJ5.out; have := HJ13.out; first | omega | exact Nat.le_refl _⟩, ⟨by repeat (first | (with_reducible first | exact HB.out | apply below_alloc | apply pw_below_drewN | apply below_drew1) | exact HB.out)⟩⟩
                · rw [if_neg c22] at H
                  exact absurd H (by simp)
              · replace c21 := Bool.eq_false_iff.mpr c21
                subst c21
                have H1 : (tapestrierlaw4_TokNumbers.j2 kj13 a1 a3 x10_13 x11_13) = some r := by rw [if_neg (show ¬ (false = true) by decide)] at H; exact H
                clear H
                have H := H1
                clear H1
                have H' := Aside0.mk H
                clear H
                go_wp2
                go_meet
                case rel => exact ⟨_, (x10_13), (x11_13), (by first | rfl | (simp; done) | (simp [*]; done) | (simp [wrap64]; done)), (by first | rfl | (simp; done) | (simp [*]; done) | (simp [wrap64]; done)), H', ⟨by have := HJ5.out; have := HJ13.out; first | omega | exact Nat.le_refl _⟩, ⟨by repeat (first | (with_reducible first | exact HB.out | apply below_alloc | apply pw_below_drewN | apply below_drew1) | exact HB.out)⟩⟩
            case rest =>
              clear HC20
              try clear c1
              try clear c2
              try clear p2
              try clear c6
              try clear p6
              try clear c8
              try clear c9
              try clear c9b0
              try clear c10
              try clear c10b0
              try clear c11
              try clear c11b0
              try clear c12
              try clear c15
              try clear c15b0
              try clear c17
              try clear c17b0
              try clear c17b1
              try clear c17b2
              try clear c18
              try clear c18b0
              try clear c18b1
              try clear c19
              try clear c19b0
              try clear c19b1
              try clear c19b2
              try clear c21
              try clear c22
              try clear c22b0
              try clear c22b1
              try clear c22b2
              try clear p2
              try clear p6
              obtain ⟨kq, x10_19, x11_19, rfl, rfl, HA, HJ19, HB⟩ := hcut
              cases kq with
              | zero => exact absurd HA.out (by simp [tapestrierlaw4_TokNumbers.j2])
              | succ kj19 =>
                have H := HA.out
                clear HA
                simp only [tapestrierlaw4_TokNumbers.j2] at H
                obtain ⟨y733, hy733⟩ : ∃ y_ : List ByteArray, y_ = (([(⟨#[]⟩ : ByteArray), (⟨#[37]⟩ : ByteArray), (⟨#[112, 120]⟩ : ByteArray), (⟨#[32, 112, 120]⟩ : ByteArray), (⟨#[46]⟩ : ByteArray), (⟨#[45]⟩ : ByteArray), (⟨#[43, 49]⟩ : ByteArray)] : List ByteArray)) := ⟨_, rfl⟩
                replace H : ((some (([(([(⟨6, (⟨#[]⟩ : ByteArray), x11_19, (a1 == 0), 0⟩ : S31)] : List (S31))), (([(⟨7, (⟨#[]⟩ : ByteArray), x11_19, false, 0⟩ : S31)] : List (S31))), (([(⟨8, (⟨#[112, 120]⟩ : ByteArray), x11_19, false, 0⟩ : S31)] : List (S31))), (([(⟨6, (⟨#[]⟩ : ByteArray), x11_19, (a1 == 0), 0⟩ : S31), (⟨9, (⟨#[]⟩ : ByteArray), 0, false, 0⟩ : S31), (⟨1, (⟨#[112, 120]⟩ : ByteArray), 0, false, 0⟩ : S31)] : List (S31))), (([(⟨6, (⟨#[]⟩ : ByteArray), x11_19, (a1 == 0), 0⟩ : S31), (⟨10, (⟨#[]⟩ : ByteArray), 0, false, 46⟩ : S31)] : List (S31))), (([(⟨6, (⟨#[]⟩ : ByteArray), x11_19, (a1 == 0), 0⟩ : S31), (⟨10, (⟨#[]⟩ : ByteArray), 0, false, 45⟩ : S31)] : List (S31))), (([(⟨6, (⟨#[]⟩ : ByteArray), x11_19, (a1 == 0), 0⟩ : S31), (⟨6, (⟨#[]⟩ : ByteArray), 1000, true, 0⟩ : S31)] : List (S31)))] : List (List (S31))) : List (List (S31)))).bind fun y757 => (if a3 < 0 then (tapestrierlaw4_TokNumbers.j3 kj19 a3 x10_19 y733 y757 true) else (tapestrierlaw4_TokNumbers.j3 kj19 a3 x10_19 y733 y757 (decide (a3 ≥ (y733.length : Int)))))) = some r := by first | (rw [hy733]; with_reducible exact H) | (have H2_ := (Option.bind_some _ _).symm.trans H; rw [hy733]; with_reducible exact H2_) | (have H2_ := (Option.bind_some _ _).symm.trans H; with_reducible exact H2_) | with_reducible exact H | (rw [hy733]; exact H) | exact H
                have Ny733 := Aside0.mk hy733
                clear hy733
                obtain ⟨y736, hy736⟩ : ∃ y_ : List (S31), y_ = (([(⟨6, (⟨#[]⟩ : ByteArray), x11_19, (a1 == 0), 0⟩ : S31)] : List (S31))) := ⟨_, rfl⟩
                replace H : ((some (([y736, (([(⟨7, (⟨#[]⟩ : ByteArray), x11_19, false, 0⟩ : S31)] : List (S31))), (([(⟨8, (⟨#[112, 120]⟩ : ByteArray), x11_19, false, 0⟩ : S31)] : List (S31))), (([(⟨6, (⟨#[]⟩ : ByteArray), x11_19, (a1 == 0), 0⟩ : S31), (⟨9, (⟨#[]⟩ : ByteArray), 0, false, 0⟩ : S31), (⟨1, (⟨#[112, 120]⟩ : ByteArray), 0, false, 0⟩ : S31)] : List (S31))), (([(⟨6, (⟨#[]⟩ : ByteArray), x11_19, (a1 == 0), 0⟩ : S31), (⟨10, (⟨#[]⟩ : ByteArray), 0, false, 46⟩ : S31)] : List (S31))), (([(⟨6, (⟨#[]⟩ : ByteArray), x11_19, (a1 == 0), 0⟩ : S31), (⟨10, (⟨#[]⟩ : ByteArray), 0, false, 45⟩ : S31)] : List (S31))), (([(⟨6, (⟨#[]⟩ : ByteArray), x11_19, (a1 == 0), 0⟩ : S31), (⟨6, (⟨#[]⟩ : ByteArray), 1000, true, 0⟩ : S31)] : List (S31)))] : List (List (S31))) : List (List (S31)))).bind fun y757 => (if a3 < 0 then (tapestrierlaw4_TokNumbers.j3 kj19 a3 x10_19 y733 y757 true) else (tapestrierlaw4_TokNumbers.j3 kj19 a3 x10_19 y733 y757 (decide (a3 ≥ (y733.length : Int)))))) = some r := by first | (rw [hy736]; with_reducible exact H) | (have H2_ := (Option.bind_some _ _).symm.trans H; rw [hy736]; with_reducible exact H2_) | (have H2_ := (Option.bind_some _ _).symm.trans H; with_reducible exact H2_) | with_reducible exact H | (rw [hy736]; exact H) | exact H
                have Ny736 := Aside0.mk hy736
                clear hy736
                obtain ⟨y739, hy739⟩ : ∃ y_ : List (S31), y_ = (([(⟨7, (⟨#[]⟩ : ByteArray), x11_19, false, 0⟩ : S31)] : List (S31))) := ⟨_, rfl⟩
                replace H : ((some (([y736, y739, (([(⟨8, (⟨#[112, 120]⟩ : ByteArray), x11_19, false, 0⟩ : S31)] : List (S31))), (([(⟨6, (⟨#[]⟩ : ByteArray), x11_19, (a1 == 0), 0⟩ : S31), (⟨9, (⟨#[]⟩ : ByteArray), 0, false, 0⟩ : S31), (⟨1, (⟨#[112, 120]⟩ : ByteArray), 0, false, 0⟩ : S31)] : List (S31))), (([(⟨6, (⟨#[]⟩ : ByteArray), x11_19, (a1 == 0), 0⟩ : S31), (⟨10, (⟨#[]⟩ : ByteArray), 0, false, 46⟩ : S31)] : List (S31))), (([(⟨6, (⟨#[]⟩ : ByteArray), x11_19, (a1 == 0), 0⟩ : S31), (⟨10, (⟨#[]⟩ : ByteArray), 0, false, 45⟩ : S31)] : List (S31))), (([(⟨6, (⟨#[]⟩ : ByteArray), x11_19, (a1 == 0), 0⟩ : S31), (⟨6, (⟨#[]⟩ : ByteArray), 1000, true, 0⟩ : S31)] : List (S31)))] : List (List (S31))) : List (List (S31)))).bind fun y757 => (if a3 < 0 then (tapestrierlaw4_TokNumbers.j3 kj19 a3 x10_19 y733 y757 true) else (tapestrierlaw4_TokNumbers.j3 kj19 a3 x10_19 y733 y757 (decide (a3 ≥ (y733.length : Int)))))) = some r := by first | (rw [hy739]; with_reducible exact H) | (have H2_ := (Option.bind_some _ _).symm.trans H; rw [hy739]; with_reducible exact H2_) | (have H2_ := (Option.bind_some _ _).symm.trans H; with_reducible exact H2_) | with_reducible exact H | (rw [hy739]; exact H) | exact H
                have Ny739 := Aside0.mk hy739
                clear hy739
                obtain ⟨y742, hy742⟩ : ∃ y_ : List (S31), y_ = (([(⟨8, (⟨#[112, 120]⟩ : ByteArray), x11_19, false, 0⟩ : S31)] : List (S31))) := ⟨_, rfl⟩
                replace H : ((some (([y736, y739, y742, (([(⟨6, (⟨#[]⟩ : ByteArray), x11_19, (a1 == 0), 0⟩ : S31), (⟨9, (⟨#[]⟩ : ByteArray), 0, false, 0⟩ : S31), (⟨1, (⟨#[112, 120]⟩ : ByteArray), 0, false, 0⟩ : S31)] : List (S31))), (([(⟨6, (⟨#[]⟩ : ByteArray), x11_19, (a1 == 0), 0⟩ : S31), (⟨10, (⟨#[]⟩ : ByteArray), 0, false, 46⟩ : S31)] : List (S31))), (([(⟨6, (⟨#[]⟩ : ByteArray), x11_19, (a1 == 0), 0⟩ : S31), (⟨10, (⟨#[]⟩ : ByteArray), 0, false, 45⟩ : S31)] : List (S31))), (([(⟨6, (⟨#[]⟩ : ByteArray), x11_19, (a1 == 0), 0⟩ : S31), (⟨6, (⟨#[]⟩ : ByteArray), 1000, true, 0⟩ : S31)] : List (S31)))] : List (List (S31))) : List (List (S31)))).bind fun y757 => (if a3 < 0 then (tapestrierlaw4_TokNumbers.j3 kj19 a3 x10_19 y733 y757 true) else (tapestrierlaw4_TokNumbers.j3 kj19 a3 x10_19 y733 y757 (decide (a3 ≥ (y733.length : Int)))))) = some r := by first | (rw [hy742]; with_reducible exact H) | (have H2_ := (Option.bind_some _ _).symm.trans H; rw [hy742]; with_reducible exact H2_) | (have H2_ := (Option.bind_some _ _).symm.trans H; with_reducible exact H2_) | with_reducible exact H | (rw [hy742]; exact H) | exact H
                have Ny742 := Aside0.mk hy742
                clear hy742
                obtain ⟨y745, hy745⟩ : ∃ y_ : List (S31), y_ = (([(⟨6, (⟨#[]⟩ : ByteArray), x11_19, (a1 == 0), 0⟩ : S31), (⟨9, (⟨#[]⟩ : ByteArray), 0, false, 0⟩ : S31), (⟨1, (⟨#[112, 120]⟩ : ByteArray), 0, false, 0⟩ : S31)] : List (S31))) := ⟨_, rfl⟩
                replace H : ((some (([y736, y739, y742, y745, (([(⟨6, (⟨#[]⟩ : ByteArray), x11_19, (a1 == 0), 0⟩ : S31), (⟨10, (⟨#[]⟩ : ByteArray), 0, false, 46⟩ : S31)] : List (S31))), (([(⟨6, (⟨#[]⟩ : ByteArray), x11_19, (a1 == 0), 0⟩ : S31), (⟨10, (⟨#[]⟩ : ByteArray), 0, false, 45⟩ : S31)] : List (S31))), (([(⟨6, (⟨#[]⟩ : ByteArray), x11_19, (a1 == 0), 0⟩ : S31), (⟨6, (⟨#[]⟩ : ByteArray), 1000, true, 0⟩ : S31)] : List (S31)))] : List (List (S31))) : List (List (S31)))).bind fun y757 => (if a3 < 0 then (tapestrierlaw4_TokNumbers.j3 kj19 a3 x10_19 y733 y757 true) else (tapestrierlaw4_TokNumbers.j3 kj19 a3 x10_19 y733 y757 (decide (a3 ≥ (y733.length : Int)))))) = some r := by first | (rw [hy745]; with_reducible exact H) | (have H2_ := (Option.bind_some _ _).symm.trans H; rw [hy745]; with_reducible exact H2_) | (have H2_ := (Option.bind_some _ _).symm.trans H; with_reducible exact H2_) | with_reducible exact H | (rw [hy745]; exact H) | exact H
                have Ny745 := Aside0.mk hy745
                clear hy745
                obtain ⟨y748, hy748⟩ : ∃ y_ : List (S31), y_ = (([(⟨6, (⟨#[]⟩ : ByteArray), x11_19, (a1 == 0), 0⟩ : S31), (⟨10, (⟨#[]⟩ : ByteArray), 0, false, 46⟩ : S31)] : List (S31))) := ⟨_, rfl⟩
                replace H : ((some (([y736, y739, y742, y745, y748, (([(⟨6, (⟨#[]⟩ : ByteArray), x11_19, (a1 == 0), 0⟩ : S31), (⟨10, (⟨#[]⟩ : ByteArray), 0, false, 45⟩ : S31)] : List (S31))), (([(⟨6, (⟨#[]⟩ : ByteArray), x11_19, (a1 == 0), 0⟩ : S31), (⟨6, (⟨#[]⟩ : ByteArray), 1000, true, 0⟩ : S31)] : List (S31)))] : List (List (S31))) : List (List (S31)))).bind fun y757 => (if a3 < 0 then (tapestrierlaw4_TokNumbers.j3 kj19 a3 x10_19 y733 y757 true) else (tapestrierlaw4_TokNumbers.j3 kj19 a3 x10_19 y733 y757 (decide (a3 ≥ (y733.length : Int)))))) = some r := by first | (rw [hy748]; with_reducible exact H) | (have H2_ := (Option.bind_some _ _).symm.trans H; rw [hy748]; with_reducible exact H2_) | (have H2_ := (Option.bind_some _ _).symm.trans H; with_reducible exact H2_) | with_reducible exact H | (rw [hy748]; exact H) | exact H
                have Ny748 := Aside0.mk hy748
                clear hy748
                obtain ⟨y751, hy751⟩ : ∃ y_ : List (S31), y_ = (([(⟨6, (⟨#[]⟩ : ByteArray), x11_19, (a1 == 0), 0⟩ : S31), (⟨10, (⟨#[]⟩ : ByteArray), 0, false, 45⟩ : S31)] : List (S31))) := ⟨_, rfl⟩
                replace H : ((some (([y736, y739, y742, y745, y748, y751, (([(⟨6, (⟨#[]⟩ : ByteArray), x11_19, (a1 == 0), 0⟩ : S31), (⟨6, (⟨#[]⟩ : ByteArray), 1000, true, 0⟩ : S31)] : List (S31)))] : List (List (S31))) : List (List (S31)))).bind fun y757 => (if a3 < 0 then (tapestrierlaw4_TokNumbers.j3 kj19 a3 x10_19 y733 y757 true) else (tapestrierlaw4_TokNumbers.j3 kj19 a3 x10_19 y733 y757 (decide (a3 ≥ (y733.length : Int)))))) = some r := by first | (rw [hy751]; with_reducible exact H) | (have H2_ := (Option.bind_some _ _).symm.trans H; rw [hy751]; with_reducible exact H2_) | (have H2_ := (Option.bind_some _ _).symm.trans H; with_reducible exact H2_) | with_reducible exact H | (rw [hy751]; exact H) | exact H
                have Ny751 := Aside0.mk hy751
                clear hy751
                obtain ⟨y754, hy754⟩ : ∃ y_ : List (S31), y_ = (([(⟨6, (⟨#[]⟩ : ByteArray), x11_19, (a1 == 0), 0⟩ : S31), (⟨6, (⟨#[]⟩ : ByteArray), 1000, true, 0⟩ : S31)] : List (S31))) := ⟨_, rfl⟩
                replace H : ((some (([y736, y739, y742, y745, y748, y751, y754] : List (List (S31))) : List (List (S31)))).bind fun y757 => (if a3 < 0 then (tapestrierlaw4_TokNumbers.j3 kj19 a3 x10_19 y733 y757 true) else (tapestrierlaw4_TokNumbers.j3 kj19 a3 x10_19 y733 y757 (decide (a3 ≥ (y733.length : Int)))))) = some r := by first | (rw [hy754]; with_reducible exact H) | (have H2_ := (Option.bind_some _ _).symm.trans H; rw [hy754]; with_reducible exact H2_) | (have H2_ := (Option.bind_some _ _).symm.trans H; with_reducible exact H2_) | with_reducible exact H | (rw [hy754]; exact H) | exact H
                have Ny754 := Aside0.mk hy754
                clear hy754
                obtain ⟨y757, hy757⟩ : ∃ y_ : List (List (S31)), y_ = (([y736, y739, y742, y745, y748, y751, y754] : List (List (S31)))) := ⟨_, rfl⟩
                replace H : (if a3 < 0 then (tapestrierlaw4_TokNumbers.j3 kj19 a3 x10_19 y733 y757 true) else (tapestrierlaw4_TokNumbers.j3 kj19 a3 x10_19 y733 y757 (decide (a3 ≥ (y733.length : Int))))) = some r := by first | (rw [hy757]; with_reducible exact H) | (have H2_ := (Option.bind_some _ _).symm.trans H; rw [hy757]; with_reducible exact H2_) | (have H2_ := (Option.bind_some _ _).symm.trans H; with_reducible exact H2_) | with_reducible exact H | (rw [hy757]; exact H) | exact H
                have Ny757 := Aside0.mk hy757
                clear hy757
                have HC23 := Aside0.mk H
                clear H
                go_upto_region 15 with (first | ((with_reducible refine gate_dst (N := 57) rfl ?_); (try (refine gate_guard (by rfl) ?_; dsimp only)); refine Kd.R_lit Kd.string _ 9 ?hg (N := 57) ?hd (xs := ([(⟨#[]⟩ : ByteArray), (⟨#[37]⟩ : ByteArray), (⟨#[112, 120]⟩ : ByteArray), (⟨#[32, 112, 120]⟩ : ByteArray), (⟨#[46]⟩ : ByteArray), (⟨#[45]⟩ : ByteArray), (⟨#[43, 49]⟩ : ByteArray)] : List ByteArray)) (inner := [.string (⟨#[]⟩ : ByteArray), .string (⟨#[37]⟩ : ByteArray), .string (⟨#[112, 120]⟩ : ByteArray), .string (⟨#[32, 112, 120]⟩ : ByteArray), .string (⟨#[46]⟩ : ByteArray), .string (⟨#[45]⟩ : ByteArray), .string (⟨#[43, 49]⟩ : ByteArray)]) (ok := fun _ => True) (okp := fun _ => True) ?hr ?hp (fun _ hk => hk) trivial (Below.refl _ _) (Nat.le_refl _) (by simp) ?_; (case hd => rfl); (case hg => rfl); (case hr => first | (go_simp; done) | (go_simp; rfl)); (case hp => exact (Reps.one (show Kd.M Kd.string _ _ _ (⟨#[]⟩ : ByteArray) [.string (⟨#[]⟩ : ByteArray)] from rfl) (Reps.one (show Kd.M Kd.string _ _ _ (⟨#[37]⟩ : ByteArray) [.string (⟨#[37]⟩ : ByteArray)] from rfl) (Reps.one (show Kd.M Kd.string _ _ _ (⟨#[112, 120]⟩ : ByteArray) [.string (⟨#[112, 120]⟩ : ByteArray)] from rfl) (Reps.one (show Kd.M Kd.string _ _ _ (⟨#[32, 112, 120]⟩ : ByteArray) [.string (⟨#[32, 112, 120]⟩ : ByteArray)] from rfl) (Reps.one (show Kd.M Kd.string _ _ _ (⟨#[46]⟩ : ByteArray) [.string (⟨#[46]⟩ : ByteArray)] from rfl) (Reps.one (show Kd.M Kd.string _ _ _ (⟨#[45]⟩ : ByteArray) [.string (⟨#[45]⟩ : ByteArray)] from rfl) (Reps.one (show Kd.M Kd.string _ _ _ (⟨#[43, 49]⟩ : ByteArray) [.string (⟨#[43, 49]⟩ : ByteArray)] from rfl) (Reps.none _ _))))))))); intro v734 w24 ho25 hb hg_ hnew_; clear hg_ hnew_; (first | rw [← Ny733.out] at ho25 | (simp only [Int.reduceToNat] at ho25; rw [← Ny733.out] at ho25)); have n0_ := Aside0.mk (Kd.R_lower ho25 (below_size (by repeat (first | (with_reducible first | exact HB.out | apply below_alloc | apply pw_below_drewN | apply below_drew1) | exact HB.out)))); have n1_ := Aside0.mk (below_step (by repeat (first | (with_reducible first | exact HB.out | apply below_alloc | apply pw_below_drewN | apply below_drew1) | exact HB.out)) hb); clear HB; have HO735 := n0_; have HB := n1_; clear n0_ n1_; clear hb ho25) | ((with_reducible refine gate_dst (N := 62) rfl ?_); (try (refine gate_guard (by rfl) ?_; dsimp only)); refine Kd.R_lit k31 _ 31 ?hg (N := 62) ?hd (xs := ([(⟨6, (⟨#[]⟩ : ByteArray), x11_19, (a1 == 0), 0⟩ : S31)] : List (S31))) (inner := [.int .i64 6, .string (⟨#[]⟩ : ByteArray), .int .i64 x11_19, .bool (a1 == 0), .int .i64 0]) (ok := fun _ => True) (okp := fun _ => True) ?hr ?hp (fun _ hk => hk) trivial (Below.refl _ _) (Nat.le_refl _) (by simp) ?_; (case hd => rfl); (case hg => rfl); (case hr => first | (go_simp; done) | (go_simp; rfl)); (case hp => exact (Reps.c5 (show Kd.M k31 _ _ _ (⟨6, (⟨#[]⟩ : ByteArray), x11_19, (a1 == 0), 0⟩ : S31) [.int .i64 6, .string (⟨#[]⟩ : ByteArray), .int .i64 x11_19, .bool (a1 == 0), .int .i64 0] from (k31_mkM _ _ _ (⟨6, (⟨#[]⟩ : ByteArray), x11_19, (a1 == 0), 0⟩ : S31) )) (Reps.none _ _))); intro v737 w26 ho27 hb hg_ hnew_; clear hg_ hnew_; (first | rw [← Ny736.out] at ho27 | (simp only [Int.reduceToNat] at ho27; rw [← Ny736.out] at ho27)); have n0_ := Aside0.mk (Kd.R_below (by (with_reducible repeat (first | apply Kd.R_alloc | apply Kd.R_drewN | apply Kd.R_drew)); exact HO735.out) hb); have n1_ := Aside0.mk (Kd.R_lower ho27 (below_size (by repeat (first | (with_reducible first | exact HB.out | apply below_alloc | apply pw_below_drewN | apply below_drew1) | exact HB.out)))); have n2_ := Aside0.mk (below_step (by repeat (first | (with_reducible first | exact HB.out | apply below_alloc | apply pw_below_drewN | apply below_drew1) | exact HB.out)) hb); clear HO735; clear HB; have HO735 := n0_; have HO738 := n1_; have HB := n2_; clear n0_ n1_ n2_; clear hb ho27) | ((with_reducible refine gate_dst (N := 65) rfl ?_); (try (refine gate_guard (by rfl) ?_; dsimp only)); refine Kd.R_lit k31 _ 31 ?hg (N := 65) ?hd (xs := ([(⟨7, (⟨#[]⟩ : ByteArray), x11_19, false, 0⟩ : S31)] : List (S31))) (inner := [.int .i64 7, .string (⟨#[]⟩ : ByteArray), .int .i64 x11_19, .bool false, .int .i64 0]) (ok := fun _ => True) (okp := fun _ => True) ?hr ?hp (fun _ hk => hk) trivial (Below.refl _ _) (Nat.le_refl _) (by simp) ?_; (case hd => rfl); (case hg => rfl); (case hr => first | (go_simp; done) | (go_simp; rfl)); (case hp => exact (Reps.c5 (show Kd.M k31 _ _ _ (⟨7, (⟨#[]⟩ : ByteArray), x11_19, false, 0⟩ : S31) [.int .i64 7, .string (⟨#[]⟩ : ByteArray), .int .i64 x11_19, .bool false, .int .i64 0] from (k31_mkM _ _ _ (⟨7, (⟨#[]⟩ : ByteArray), x11_19, false, 0⟩ : S31) )) (Reps.none _ _))); intro v740 w28 ho29 hb hg_ hnew_; clear hg_ hnew_; (first | rw [← Ny739.out] at ho29 | (simp only [Int.reduceToNat] at ho29; rw [← Ny739.out] at ho29)); have n0_ := Aside0.mk (Kd.R_below (by (with_reducible repeat (first | apply Kd.R_alloc | apply Kd.R_drewN | apply Kd.R_drew)); exact HO735.out) hb); have n1_ := Aside0.mk (Kd.R_elder' (by (with_reducible repeat (first | apply Kd.R_alloc | apply Kd.R_drewN | apply Kd.R_drew)); exact HO738.out) (Kd.R_base ho29) hb); have n2_ := Aside0.mk (Kd.R_lower (Kd.R_new' ho29 (Kd.R_lt (by (with_reducible repeat (first | apply Kd.R_alloc | apply Kd.R_drewN | apply Kd.R_drew)); exact HO738.out))) (below_size (by repeat (first | (with_reducible first | exact HB.out | apply below_alloc | apply pw_below_drewN | apply below_drew1) | exact HB.out)))); have n3_ := Aside0.mk (below_step (by repeat (first | (with_reducible first | exact HB.out | apply below_alloc | apply pw_below_drewN | apply below_drew1) | exact HB.out)) hb); clear HO735; clear HO738; clear HB; have HO735 := n0_; have HO738 := n1_; have HO741 := n2_; have HB := n3_; clear n0_ n1_ n2_ n3_; clear hb ho29) | ((with_reducible refine gate_dst (N := 68) rfl ?_); (try (refine gate_guard (by rfl) ?_; dsimp only)); refine Kd.R_lit k31 _ 31 ?hg (N := 68) ?hd (xs := ([(⟨8, (⟨#[112, 120]⟩ : ByteArray), x11_19, false, 0⟩ : S31)] : List (S31))) (inner := [.int .i64 8, .string (⟨#[112, 120]⟩ : ByteArray), .int .i64 x11_19, .bool false, .int .i64 0]) (ok := fun _ => True) (okp := fun _ => True) ?hr ?hp (fun _ hk => hk) trivial (Below.refl _ _) (Nat.le_refl _) (by simp) ?_; (case hd => rfl); (case hg => rfl); (case hr => first | (go_simp; done) | (go_simp; rfl)); (case hp => exact (Reps.c5 (show Kd.M k31 _ _ _ (⟨8, (⟨#[112, 120]⟩ : ByteArray), x11_19, false, 0⟩ : S31) [.int .i64 8, .string (⟨#[112, 120]⟩ : ByteArray), .int .i64 x11_19, .bool false, .int .i64 0] from (k31_mkM _ _ _ (⟨8, (⟨#[112, 120]⟩ : ByteArray), x11_19, false, 0⟩ : S31) )) (Reps.none _ _))); intro v743 w30 ho31 hb hg_ hnew_; clear hg_ hnew_; (first | rw [← Ny742.out] at ho31 | (simp only [Int.reduceToNat] at ho31; rw [← Ny742.out] at ho31)); have n0_ := Aside0.mk (Kd.R_below (by (with_reducible repeat (first | apply Kd.R_alloc | apply Kd.R_drewN | apply Kd.R_drew)); exact HO735.out) hb); have n1_ := Aside0.mk (Kd.R_elder' (by (with_reducible repeat (first | apply Kd.R_alloc | apply Kd.R_drewN | apply Kd.R_drew)); exact HO738.out) (Kd.R_base ho31) hb); have n2_ := Aside0.mk (Kd.R_elder' (by (with_reducible repeat (first | apply Kd.R_alloc | apply Kd.R_drewN | apply Kd.R_drew)); exact HO741.out) (Kd.R_base ho31) hb); have n3_ := Aside0.mk (Kd.R_lower (Kd.R_new' (Kd.R_new' ho31 (Kd.R_lt (by (with_reducible repeat (first | apply Kd.R_alloc | apply Kd.R_drewN | apply Kd.R_drew)); exact HO738.out))) (Kd.R_lt (by (with_reducible repeat (first | apply Kd.R_alloc | apply Kd.R_drewN | apply Kd.R_drew)); exact HO741.out))) (below_size (by repeat (first | (with_reducible first | exact HB.out | apply below_alloc | apply pw_below_drewN | apply below_drew1) | exact HB.out)))); have n4_ := Aside0.mk (below_step (by repeat (first | (with_reducible first | exact HB.out | apply below_alloc | apply pw_below_drewN | apply below_drew1) | exact HB.out)) hb); clear HO735; clear HO738; clear HO741; clear HB; have HO735 := n0_; have HO738 := n1_; have HO741 := n2_; have HO744 := n3_; have HB := n4_; clear n0_ n1_ n2_ n3_ n4_; clear hb ho31) | ((with_reducible refine gate_dst (N := 75) rfl ?_); (try (refine gate_guard (by rfl) ?_; dsimp only)); refine Kd.R_lit k31 _ 31 ?hg (N := 75) ?hd (xs := ([(⟨6, (⟨#[]⟩ : ByteArray), x11_19, (a1 == 0), 0⟩ : S31), (⟨9, (⟨#[]⟩ : ByteArray), 0, false, 0⟩ : S31), (⟨1, (⟨#[112, 120]⟩ : ByteArray), 0, false, 0⟩ : S31)] : List (S31))) (inner := [.int .i64 6, .string (⟨#[]⟩ : ByteArray), .int .i64 x11_19, .bool (a1 == 0), .int .i64 0, .int .i64 9, .string (⟨#[]⟩ : ByteArray), .int .i64 0, .bool false, .int .i64 0, .int .i64 1, .string (⟨#[112, 120]⟩ : ByteArray), .int .i64 0, .bool false, .int .i64 0]) (ok := fun _ => True) (okp := fun _ => True) ?hr ?hp (fun _ hk => hk) trivial (Below.refl _ _) (Nat.le_refl _) (by simp) ?_; (case hd => rfl); (case hg => rfl); (case hr => first | (go_simp; done) | (go_simp; rfl)); (case hp => exact (Reps.c5 (show Kd.M k31 _ _ _ (⟨6, (⟨#[]⟩ : ByteArray), x11_19, (a1 == 0), 0⟩ : S31) [.int .i64 6, .string (⟨#[]⟩ : ByteArray), .int .i64 x11_19, .bool (a1 == 0), .int .i64 0] from (k31_mkM _ _ _ (⟨6, (⟨#[]⟩ : ByteArray), x11_19, (a1 == 0), 0⟩ : S31) )) (Reps.c5 (show Kd.M k31 _ _ _ (⟨9, (⟨#[]⟩ : ByteArray), 0, false, 0⟩ : S31) [.int .i64 9, .string (⟨#[]⟩ : ByteArray), .int .i64 0, .bool false, .int .i64 0] from (k31_mkM _ _ _ (⟨9, (⟨#[]⟩ : ByteArray), 0, false, 0⟩ : S31) )) (Reps.c5 (show Kd.M k31 _ _ _ (⟨1, (⟨#[112, 120]⟩ : ByteArray), 0, false, 0⟩ : S31) [.int .i64 1, .string (⟨#[112, 120]⟩ : ByteArray), .int .i64 0, .bool false, .int .i64 0] from (k31_mkM _ _ _ (⟨1, (⟨#[112, 120]⟩ : ByteArray), 0, false, 0⟩ : S31) )) (Reps.none _ _))))); intro v746 w32 ho33 hb hg_ hnew_; clear hg_ hnew_; (first | rw [← Ny745.out] at ho33 | (simp only [Int.reduceToNat] at ho33; rw [← Ny745.out] at ho33)); have n0_ := Aside0.mk (Kd.R_below (by (with_reducible repeat (first | apply Kd.R_alloc | apply Kd.R_drewN | apply Kd.R_drew)); exact HO735.out) hb); have n1_ := Aside0.mk (Kd.R_elder' (by (with_reducible repeat (first | apply Kd.R_alloc | apply Kd.R_drewN | apply Kd.R_drew)); exact HO738.out) (Kd.R_base ho33) hb); have n2_ := Aside0.mk (Kd.R_elder' (by (with_reducible repeat (first | apply Kd.R_alloc | apply Kd.R_drewN | apply Kd.R_drew)); exact HO741.out) (Kd.R_base ho33) hb); have n3_ := Aside0.mk (Kd.R_elder' (by (with_reducible repeat (first | apply Kd.R_alloc | apply Kd.R_drewN | apply Kd.R_drew)); exact HO744.out) (Kd.R_base ho33) hb); have n4_ := Aside0.mk (Kd.R_lower (Kd.R_new' (Kd.R_new' (Kd.R_new' ho33 (Kd.R_lt (by (with_reducible repeat (first | apply Kd.R_alloc | apply Kd.R_drewN | apply Kd.R_drew)); exact HO738.out))) (Kd.R_lt (by (with_reducible repeat (first | apply Kd.R_alloc | apply Kd.R_drewN | apply Kd.R_drew)); exact HO741.out))) (Kd.R_lt (by (with_reducible repeat (first | apply Kd.R_alloc | apply Kd.R_drewN | apply Kd.R_drew)); exact HO744.out))) (below_size (by repeat (first | (with_reducible first | exact HB.out | apply below_alloc | apply pw_below_drewN | apply below_drew1) | exact HB.out)))); have n5_ := Aside0.mk (below_step (by repeat (first | (with_reducible first | exact HB.out | apply below_alloc | apply pw_below_drewN | apply below_drew1) | exact HB.out)) hb); clear HO735; clear HO738; clear HO741; clear HO744; clear HB; have HO735 := n0_; have HO738 := n1_; have HO741 := n2_; have HO744 := n3_; have HO747 := n4_; have HB := n5_; clear n0_ n1_ n2_ n3_ n4_ n5_; clear hb ho33) | ((with_reducible refine gate_dst (N := 81) rfl ?_); (try (refine gate_guard (by rfl) ?_; dsimp only)); refine Kd.R_lit k31 _ 31 ?hg (N := 81) ?hd (xs := ([(⟨6, (⟨#[]⟩ : ByteArray), x11_19, (a1 == 0), 0⟩ : S31), (⟨10, (⟨#[]⟩ : ByteArray), 0, false, 46⟩ : S31)] : List (S31))) (inner := [.int .i64 6, .string (⟨#[]⟩ : ByteArray), .int .i64 x11_19, .bool (a1 == 0), .int .i64 0, .int .i64 10, .string (⟨#[]⟩ : ByteArray), .int .i64 0, .bool false, .int .i64 46]) (ok := fun _ => True) (okp := fun _ => True) ?hr ?hp (fun _ hk => hk) trivial (Below.refl _ _) (Nat.le_refl _) (by simp) ?_; (case hd => rfl); (case hg => rfl); (case hr => first | (go_simp; done) | (go_simp; rfl)); (case hp => exact (Reps.c5 (show Kd.M k31 _ _ _ (⟨6, (⟨#[]⟩ : ByteArray), x11_19, (a1 == 0), 0⟩ : S31) [.int .i64 6, .string (⟨#[]⟩ : ByteArray), .int .i64 x11_19, .bool (a1 == 0), .int .i64 0] from (k31_mkM _ _ _ (⟨6, (⟨#[]⟩ : ByteArray), x11_19, (a1 == 0), 0⟩ : S31) )) (Reps.c5 (show Kd.M k31 _ _ _ (⟨10, (⟨#[]⟩ : ByteArray), 0, false, 46⟩ : S31) [.int .i64 10, .string (⟨#[]⟩ : ByteArray), .int .i64 0, .bool false, .int .i64 46] from (k31_mkM _ _ _ (⟨10, (⟨#[]⟩ : ByteArray), 0, false, 46⟩ : S31) )) (Reps.none _ _)))); intro v749 w34 ho35 hb hg_ hnew_; clear hg_ hnew_; (first | rw [← Ny748.out] at ho35 | (simp only [Int.reduceToNat] at ho35; rw [← Ny748.out] at ho35)); have n0_ := Aside0.mk (Kd.R_below (by (with_reducible repeat (first | apply Kd.R_alloc | apply Kd.R_drewN | apply Kd.R_drew)); exact HO735.out) hb); have n1_ := Aside0.mk (Kd.R_elder' (by (with_reducible repeat (first | apply Kd.R_alloc | apply Kd.R_drewN | apply Kd.R_drew)); exact HO738.out) (Kd.R_base ho35) hb); have n2_ := Aside0.mk (Kd.R_elder' (by (with_reducible repeat (first | apply Kd.R_alloc | apply Kd.R_drewN | apply Kd.R_drew)); exact HO741.out) (Kd.R_base ho35) hb); have n3_ := Aside0.mk (Kd.R_elder' (by (with_reducible repeat (first | apply Kd.R_alloc | apply Kd.R_drewN | apply Kd.R_drew)); exact HO744.out) (Kd.R_base ho35) hb); have n4_ := Aside0.mk (Kd.R_elder' (by (with_reducible repeat (first | apply Kd.R_alloc | apply Kd.R_drewN | apply Kd.R_drew)); exact HO747.out) (Kd.R_base ho35) hb); have n5_ := Aside0.mk (Kd.R_lower (Kd.R_new' (Kd.R_new' (Kd.R_new' (Kd.R_new' ho35 (Kd.R_lt (by (with_reducible repeat (first | apply Kd.R_alloc | apply Kd.R_drewN | apply Kd.R_drew)); exact HO738.out))) (Kd.R_lt (by (with_reducible repeat (first | apply Kd.R_alloc | apply Kd.R_drewN | apply Kd.R_drew)); exact HO741.out))) (Kd.R_lt (by (with_reducible repeat (first | apply Kd.R_alloc | apply Kd.R_drewN | apply Kd.R_drew)); exact HO744.out))) (Kd.R_lt (by (with_reducible repeat (first | apply Kd.R_alloc | apply Kd.R_drewN | apply Kd.R_drew)); exact HO747.out))) (below_size (by repeat (first | (with_reducible first | exact HB.out | apply below_alloc | apply pw_below_drewN | apply below_drew1) | exact HB.out)))); have n6_ := Aside0.mk (below_step (by repeat (first | (with_reducible first | exact HB.out | apply below_alloc | apply pw_below_drewN | apply below_drew1) | exact HB.out)) hb); clear HO735; clear HO738; clear HO741; clear HO744; clear HO747; clear HB; have HO735 := n0_; have HO738 := n1_; have HO741 := n2_; have HO744 := n3_; have HO747 := n4_; have HO750 := n5_; have HB := n6_; clear n0_ n1_ n2_ n3_ n4_ n5_ n6_; clear hb ho35) | ((with_reducible refine gate_dst (N := 87) rfl ?_); (try (refine gate_guard (by rfl) ?_; dsimp only)); refine Kd.R_lit k31 _ 31 ?hg (N := 87) ?hd (xs := ([(⟨6, (⟨#[]⟩ : ByteArray), x11_19, (a1 == 0), 0⟩ : S31), (⟨10, (⟨#[]⟩ : ByteArray), 0, false, 45⟩ : S31)] : List (S31))) (inner := [.int .i64 6, .string (⟨#[]⟩ : ByteArray), .int .i64 x11_19, .bool (a1 == 0), .int .i64 0, .int .i64 10, .string (⟨#[]⟩ : ByteArray), .int .i64 0, .bool false, .int .i64 45]) (ok := fun _ => True) (okp := fun _ => True) ?hr ?hp (fun _ hk => hk) trivial (Below.refl _ _) (Nat.le_refl _) (by simp) ?_; (case hd => rfl); (case hg => rfl); (case hr => first | (go_simp; done) | (go_simp; rfl)); (case hp => exact (Reps.c5 (show Kd.M k31 _ _ _ (⟨6, (⟨#[]⟩ : ByteArray), x11_19, (a1 == 0), 0⟩ : S31) [.int .i64 6, .string (⟨#[]⟩ : ByteArray), .int .i64 x11_19, .bool (a1 == 0), .int .i64 0] from (k31_mkM _ _ _ (⟨6, (⟨#[]⟩ : ByteArray), x11_19, (a1 == 0), 0⟩ : S31) )) (Reps.c5 (show Kd.M k31 _ _ _ (⟨10, (⟨#[]⟩ : ByteArray), 0, false, 45⟩ : S31) [.int .i64 10, .string (⟨#[]⟩ : ByteArray), .int .i64 0, .bool false, .int .i64 45] from (k31_mkM _ _ _ (⟨10, (⟨#[]⟩ : ByteArray), 0, false, 45⟩ : S31) )) (Reps.none _ _)))); intro v752 w36 ho37 hb hg_ hnew_; clear hg_ hnew_; (first | rw [← Ny751.out] at ho37 | (simp only [Int.reduceToNat] at ho37; rw [← Ny751.out] at ho37)); have n0_ := Aside0.mk (Kd.R_below (by (with_reducible repeat (first | apply Kd.R_alloc | apply Kd.R_drewN | apply Kd.R_drew)); exact HO735.out) hb); have n1_ := Aside0.mk (Kd.R_elder' (by (with_reducible repeat (first | apply Kd.R_alloc | apply Kd.R_drewN | apply Kd.R_drew)); exact HO738.out) (Kd.R_base ho37) hb); have n2_ := Aside0.mk (Kd.R_elder' (by (with_reducible repeat (first | apply Kd.R_alloc | apply Kd.R_drewN | apply Kd.R_drew)); exact HO741.out) (Kd.R_base ho37) hb); have n3_ := Aside0.mk (Kd.R_elder' (by (with_reducible repeat (first | apply Kd.R_alloc | apply Kd.R_drewN | apply Kd.R_drew)); exact HO744.out) (Kd.R_base ho37) hb); have n4_ := Aside0.mk (Kd.R_elder' (by (with_reducible repeat (first | apply Kd.R_alloc | apply Kd.R_drewN | apply Kd.R_drew)); exact HO747.out) (Kd.R_base ho37) hb); have n5_ := Aside0.mk (Kd.R_elder' (by (with_reducible repeat (first | apply Kd.R_alloc | apply Kd.R_drewN | apply Kd.R_drew)); exact HO750.out) (Kd.R_base ho37) hb); have n6_ := Aside0.mk (Kd.R_lower (Kd.R_new' (Kd.R_new' (Kd.R_new' (Kd.R_new' (Kd.R_new' ho37 (Kd.R_lt (by (with_reducible repeat (first | apply Kd.R_alloc | apply Kd.R_drewN | apply Kd.R_drew)); exact HO738.out))) (Kd.R_lt (by (with_reducible repeat (first | apply Kd.R_alloc | apply Kd.R_drewN | apply Kd.R_drew)); exact HO741.out))) (Kd.R_lt (by (with_reducible repeat (first | apply Kd.R_alloc | apply Kd.R_drewN | apply Kd.R_drew)); exact HO744.out))) (Kd.R_lt (by (with_reducible repeat (first | apply Kd.R_alloc | apply Kd.R_drewN | apply Kd.R_drew)); exact HO747.out))) (Kd.R_lt (by (with_reducible repeat (first | apply Kd.R_alloc | apply Kd.R_drewN | apply Kd.R_drew)); exact HO750.out))) (below_size (by repeat (first | (with_reducible first | exact HB.out | apply below_alloc | apply pw_below_drewN | apply below_drew1) | exact HB.out)))); have n7_ := Aside0.mk (below_step (by repeat (first | (with_reducible first | exact HB.out | apply below_alloc | apply pw_below_drewN | apply below_drew1) | exact HB.out)) hb); clear HO735; clear HO738; clear HO741; clear HO744; clear HO747; clear HO750; clear HB; have HO735 := n0_; have HO738 := n1_; have HO741 := n2_; have HO744 := n3_; have HO747 := n4_; have HO750 := n5_; have HO753 := n6_; have HB := n7_; clear n0_ n1_ n2_ n3_ n4_ n5_ n6_ n7_; clear hb ho37) | ((with_reducible refine gate_dst (N := 93) rfl ?_); (try (refine gate_guard (by rfl) ?_; dsimp only)); refine Kd.R_lit k31 _ 31 ?hg (N := 93) ?hd (xs := ([(⟨6, (⟨#[]⟩ : ByteArray), x11_19, (a1 == 0), 0⟩ : S31), (⟨6, (⟨#[]⟩ : ByteArray), 1000, true, 0⟩ : S31)] : List (S31))) (inner := [.int .i64 6, .string (⟨#[]⟩ : ByteArray), .int .i64 x11_19, .bool (a1 == 0), .int .i64 0, .int .i64 6, .string (⟨#[]⟩ : ByteArray), .int .i64 1000, .bool true, .int .i64 0]) (ok := fun _ => True) (okp := fun _ => True) ?hr ?hp (fun _ hk => hk) trivial (Below.refl _ _) (Nat.le_refl _) (by simp) ?_; (case hd => rfl); (case hg => rfl); (case hr => first | (go_simp; done) | (go_simp; rfl)); (case hp => exact (Reps.c5 (show Kd.M k31 _ _ _ (⟨6, (⟨#[]⟩ : ByteArray), x11_19, (a1 == 0), 0⟩ : S31) [.int .i64 6, .string (⟨#[]⟩ : ByteArray), .int .i64 x11_19, .bool (a1 == 0), .int .i64 0] from (k31_mkM _ _ _ (⟨6, (⟨#[]⟩ : ByteArray), x11_19, (a1 == 0), 0⟩ : S31) )) (Reps.c5 (show Kd.M k31 _ _ _ (⟨6, (⟨#[]⟩ : ByteArray), 1000, true, 0⟩ : S31) [.int .i64 6, .string (⟨#[]⟩ : ByteArray), .int .i64 1000, .bool true, .int .i64 0] from (k31_mkM _ _ _ (⟨6, (⟨#[]⟩ : ByteArray), 1000, true, 0⟩ : S31) )) (Reps.none _ _)))); intro v755 w38 ho39 hb hg_ hnew_; clear hg_ hnew_; (first | rw [← Ny754.out] at ho39 | (simp only [Int.reduceToNat] at ho39; rw [← Ny754.out] at ho39)); have n0_ := Aside0.mk (Kd.R_below (by (with_reducible repeat (first | apply Kd.R_alloc | apply Kd.R_drewN | apply Kd.R_drew)); exact HO735.out) hb); have n1_ := Aside0.mk (Kd.R_elder' (by (with_reducible repeat (first | apply Kd.R_alloc | apply Kd.R_drewN | apply Kd.R_drew)); exact HO738.out) (Kd.R_base ho39) hb); have n2_ := Aside0.mk (Kd.R_elder' (by (with_reducible repeat (first | apply Kd.R_alloc | apply Kd.R_drewN | apply Kd.R_drew)); exact HO741.out) (Kd.R_base ho39) hb); have n3_ := Aside0.mk (Kd.R_elder' (by (with_reducible repeat (first | apply Kd.R_alloc | apply Kd.R_drewN | apply Kd.R_drew)); exact HO744.out) (Kd.R_base ho39) hb); have n4_ := Aside0.mk (Kd.R_elder' (by (with_reducible repeat (first | apply Kd.R_alloc | apply Kd.R_drewN | apply Kd.R_drew)); exact HO747.out) (Kd.R_base ho39) hb); have n5_ := Aside0.mk (Kd.R_elder' (by (with_reducible repeat (first | apply Kd.R_alloc | apply Kd.R_drewN | apply Kd.R_drew)); exact HO750.out) (Kd.R_base ho39) hb); have n6_ := Aside0.mk (Kd.R_elder' (by (with_reducible repeat (first | apply Kd.R_alloc | apply Kd.R_drewN | apply Kd.R_drew)); exact HO753.out) (Kd.R_base ho39) hb); have n7_ := Aside0.mk (Kd.R_lower (Kd.R_new' (Kd.R_new' (Kd.R_new' (Kd.R_new' (Kd.R_new' (Kd.R_new' ho39 (Kd.R_lt (by (with_reducible repeat (first | apply Kd.R_alloc | apply Kd.R_drewN | apply Kd.R_drew)); exact HO738.out))) (Kd.R_lt (by (with_reducible repeat (first | apply Kd.R_alloc | apply Kd.R_drewN | apply Kd.R_drew)); exact HO741.out))) (Kd.R_lt (by (with_reducible repeat (first | apply Kd.R_alloc | apply Kd.R_drewN | apply Kd.R_drew)); exact HO744.out))) (Kd.R_lt (by (with_reducible repeat (first | apply Kd.R_alloc | apply Kd.R_drewN | apply Kd.R_drew)); exact HO747.out))) (Kd.R_lt (by (with_reducible repeat (first | apply Kd.R_alloc | apply Kd.R_drewN | apply Kd.R_drew)); exact HO750.out))) (Kd.R_lt (by (with_reducible repeat (first | apply Kd.R_alloc | apply Kd.R_drewN | apply Kd.R_drew)); exact HO753.out))) (below_size (by repeat (first | (with_reducible first | exact HB.out | apply below_alloc | apply pw_below_drewN | apply below_drew1) | exact HB.out)))); have n8_ := Aside0.mk (below_step (by repeat (first | (with_reducible first | exact HB.out | apply below_alloc | apply pw_below_drewN | apply below_drew1) | exact HB.out)) hb); clear HO735; clear HO738; clear HO741; clear HO744; clear HO747; clear HO750; clear HO753; clear HB; have HO735 := n0_; have HO738 := n1_; have HO741 := n2_; have HO744 := n3_; have HO747 := n4_; have HO750 := n5_; have HO753 := n6_; have HO756 := n7_; have HB := n8_; clear n0_ n1_ n2_ n3_ n4_ n5_ n6_ n7_ n8_; clear hb ho39; obtain ⟨Ao40, co40, eo40⟩ := Kd.R_slice HO738.out; subst eo40; obtain ⟨Ao41, co41, eo41⟩ := Kd.R_slice HO741.out; subst eo41; obtain ⟨Ao42, co42, eo42⟩ := Kd.R_slice HO744.out; subst eo42; obtain ⟨Ao43, co43, eo43⟩ := Kd.R_slice HO747.out; subst eo43; obtain ⟨Ao44, co44, eo44⟩ := Kd.R_slice HO750.out; subst eo44; obtain ⟨Ao45, co45, eo45⟩ := Kd.R_slice HO753.out; subst eo45; obtain ⟨Ao46, co46, eo46⟩ := Kd.R_slice HO756.out; subst eo46) | ((with_reducible refine gate_dst (N := 94) rfl ?_); (try (refine gate_guard (by rfl) ?_; dsimp only)); refine Kd.N_lit (Kd.slice 31 k31) _ 32 ?hg (N' := 94) ?hd (xs := ([y736, y739, y742, y745, y748, y751, y754] : List (List (S31)))) (inner := [.slice Ao40 y736.length co40, .slice Ao41 y739.length co41, .slice Ao42 y742.length co42, .slice Ao43 y745.length co43, .slice Ao44 y748.length co44, .slice Ao45 y751.length co45, .slice Ao46 y754.length co46]) (ok := (fun k_ => some k_ ≠ (v734 : Value).ownBlock)) (okp := (fun k_ => some k_ ≠ (v734 : Value).ownBlock)) ?hr ?hp (fun _ hk => hk) ((show ∀ k_, w38.heap.size ≤ k_ → (fun k_ => some k_ ≠ (v734 : Value).ownBlock) k_ from fun k_ hk => Kd.fresh' (Kd.R_lt (by (with_reducible repeat (first | apply Kd.R_alloc | apply Kd.R_drewN | apply Kd.R_drew)); exact HO735.out)) k_ hk) _ (Nat.le_refl _)) (Below.refl _ _) (Nat.le_refl _) (by simp) ?_; (case hd => rfl); (case hg => rfl); (case hr => first | (go_simp; done) | (go_simp; rfl)); (case hp => exact (Reps.one (show Kd.FK (Kd.slice 31 k31) _ _ y736 [.slice Ao40 y736.length co40] from (Kd.FK_slice_mk (Kd.R_reads' (Kd.R_mono (ok' := (fun k_ => some k_ ≠ (v734 : Value).ownBlock)) (Kd.R_apart' (HO738.out) (Kd.R_typed HO735.out) (by decide)) (fun k_ hk => hk.2))).2.1 (Kd.R_F (Kd.R_mono (ok' := (fun k_ => some k_ ≠ (v734 : Value).ownBlock)) (Kd.R_apart' (HO738.out) (Kd.R_typed HO735.out) (by decide)) (fun k_ hk => hk.2))))) (Reps.one (show Kd.FK (Kd.slice 31 k31) _ _ y739 [.slice Ao41 y739.length co41] from (Kd.FK_slice_mk (Kd.R_reads' (Kd.R_mono (ok' := (fun k_ => some k_ ≠ (v734 : Value).ownBlock)) (Kd.R_apart' (HO741.out) (Kd.R_typed HO735.out) (by decide)) (fun k_ hk => hk.2))).2.1 (Kd.R_F (Kd.R_mono (ok' := (fun k_ => some k_ ≠ (v734 : Value).ownBlock)) (Kd.R_apart' (HO741.out) (Kd.R_typed HO735.out) (by decide)) (fun k_ hk => hk.2))))) (Reps.one (show Kd.FK (Kd.slice 31 k31) _ _ y742 [.slice Ao42 y742.length co42] from (Kd.FK_slice_mk (Kd.R_reads' (Kd.R_mono (ok' := (fun k_ => some k_ ≠ (v734 : Value).ownBlock)) (Kd.R_apart' (HO744.out) (Kd.R_typed HO735.out) (by decide)) (fun k_ hk => hk.2))).2.1 (Kd.R_F (Kd.R_mono (ok' := (fun k_ => some k_ ≠ (v734 : Value).ownBlock)) (Kd.R_apart' (HO744.out) (Kd.R_typed HO735.out) (by decide)) (fun k_ hk => hk.2))))) (Reps.one (show Kd.FK (Kd.slice 31 k31) _ _ y745 [.slice Ao43 y745.length co43] from (Kd.FK_slice_mk (Kd.R_reads' (Kd.R_mono (ok' := (fun k_ => some k_ ≠ (v734 : Value).ownBlock)) (Kd.R_apart' (HO747.out) (Kd.R_typed HO735.out) (by decide)) (fun k_ hk => hk.2))).2.1 (Kd.R_F (Kd.R_mono (ok' := (fun k_ => some k_ ≠ (v734 : Value).ownBlock)) (Kd.R_apart' (HO747.out) (Kd.R_typed HO735.out) (by decide)) (fun k_ hk => hk.2))))) (Reps.one (show Kd.FK (Kd.slice 31 k31) _ _ y748 [.slice Ao44 y748.length co44] from (Kd.FK_slice_mk (Kd.R_reads' (Kd.R_mono (ok' := (fun k_ => some k_ ≠ (v734 : Value).ownBlock)) (Kd.R_apart' (HO750.out) (Kd.R_typed HO735.out) (by decide)) (fun k_ hk => hk.2))).2.1 (Kd.R_F (Kd.R_mono (ok' := (fun k_ => some k_ ≠ (v734 : Value).ownBlock)) (Kd.R_apart' (HO750.out) (Kd.R_typed HO735.out) (by decide)) (fun k_ hk => hk.2))))) (Reps.one (show Kd.FK (Kd.slice 31 k31) _ _ y751 [.slice Ao45 y751.length co45] from (Kd.FK_slice_mk (Kd.R_reads' (Kd.R_mono (ok' := (fun k_ => some k_ ≠ (v734 : Value).ownBlock)) (Kd.R_apart' (HO753.out) (Kd.R_typed HO735.out) (by decide)) (fun k_ hk => hk.2))).2.1 (Kd.R_F (Kd.R_mono (ok' := (fun k_ => some k_ ≠ (v734 : Value).ownBlock)) (Kd.R_apart' (HO753.out) (Kd.R_typed HO735.out) (by decide)) (fun k_ hk => hk.2))))) (Reps.one (show Kd.FK (Kd.slice 31 k31) _ _ y754 [.slice Ao46 y754.length co46] from (Kd.FK_slice_mk (Kd.R_reads' (Kd.R_mono (ok' := (fun k_ => some k_ ≠ (v734 : Value).ownBlock)) (Kd.R_apart' (HO756.out) (Kd.R_typed HO735.out) (by decide)) (fun k_ hk => hk.2))).2.1 (Kd.R_F (Kd.R_mono (ok' := (fun k_ => some k_ ≠ (v734 : Value).ownBlock)) (Kd.R_apart' (HO756.out) (Kd.R_typed HO735.out) (by decide)) (fun k_ hk => hk.2))))) (Reps.none _ _))))))))); intro v758 w47 ho48 hb hg_ hnew_; clear hg_ hnew_; (first | rw [← Ny757.out] at ho48 | (simp only [Int.reduceToNat] at ho48; rw [← Ny757.out] at ho48)); have n0_ := Aside0.mk (Kd.R_below (by (with_reducible repeat (first | apply Kd.R_alloc | apply Kd.R_drewN | apply Kd.R_drew)); exact HO735.out) hb); have n1_ := Aside0.mk (Kd.N_lower ho48 (below_size (by repeat (first | (with_reducible first | exact HB.out | apply below_alloc | apply pw_below_drewN | apply below_drew1) | exact HB.out)))); have n2_ := Aside0.mk (below_step (by repeat (first | (with_reducible first | exact HB.out | apply below_alloc | apply pw_below_drewN | apply below_drew1) | exact HB.out)) hb); clear HO735; clear HB; clear HO738; clear HO741; clear HO744; clear HO747; clear HO750; clear HO753; clear HO756; have HO735 := n0_; have HO759 := n1_; have HB := n2_; clear n0_ n1_ n2_; clear hb ho48))
                (try simp only [Act.put, List.setIfInBounds_toArray, List.set_cons_zero, List.set_cons_succ])
                go_cut [102] (fun v102 wc => ∃ (kq : Nat) (x102_22 : Bool), v102 = .bool x102_22 ∧ Aside0 (tapestrierlaw4_TokNumbers.j3 kq a3 x10_19 y733 y757 x102_22 = some r) ∧ Aside0 (kq ≤ kj19) ∧ Aside0 (Kd.R Kd.string 9 wc w.heap.size (fun _ => True) v734 y733) ∧ Aside0 (Kd.N (Kd.slice 31 k31) 32 wc w.heap.size (fun k_ => some k_ ≠ (v734 : Value).ownBlock) v758 y757) ∧ Aside0 (Below w.heap.size w wc))
                case first =>
                  have H := HC23.out
                  clear HC23
                  by_cases c49 : a3 < 0
                  · rw [if_pos c49] at H
                    have c49b0 : decide (a3 < 0) = true := decide_eq_true c49
                    clear c49
                    (first | rw [c49b0] | (simp only [i64_w, i32_w]; rw [c49b0]) | skip)
                    have H' := Aside0.mk H
                    clear H
                    go_wp2
                    go_meet
                    case rel => exact ⟨_, (true), (by first | rfl | (simp; done) | (simp [*]; done) | (simp [wrap64]; done)), H', ⟨by have := HJ5.out; have := HJ13.out; have := HJ19.out; first | omega | exact Nat.le_refl _⟩, ⟨by (with_reducible repeat (first | apply Kd.R_alloc | apply Kd.R_drewN | apply Kd.R_drew)); exact HO735.out⟩, ⟨by (with_reducible repeat (first | apply Kd.N_alloc | apply Kd.N_drewN | apply Kd.N_drew)); exact HO759.out⟩, ⟨by repeat (first | (with_reducible first | exact HB.out | apply below_alloc | apply pw_below_drewN | apply below_drew1) | exact HB.out)⟩⟩
                  · rw [if_neg c49] at H
                    have c49b0 : decide (a3 < 0) = false := decide_eq_false c49
                    clear c49
                    (first | rw [c49b0] | (simp only [i64_w, i32_w]; rw [c49b0]) | skip)
                    have H' := Aside0.mk H
                    clear H
                    obtain ⟨Ao50, co50, eo50⟩ := Kd.R_slice HO735.out
                    subst eo50
                    go_wp2
                    go_meet
                    case rel => exact ⟨_, (decide (a3 ≥ (y733.length : Int))), (by first | rfl | (simp; done) | (simp [*]; done) | (simp [wrap64]; done)), H', ⟨by have := HJ5.out; have := HJ13.out; have := HJ19.out; first | omega | exact Nat.le_refl _⟩, ⟨by (with_reducible repeat (first | apply Kd.R_alloc | apply Kd.R_drewN | apply Kd.R_drew)); exact HO735.out⟩, ⟨by (with_reducible repeat (first | apply Kd.N_alloc | apply Kd.N_drewN | apply Kd.N_drew)); exact HO759.out⟩, ⟨by repeat (first | (with_reducible first | exact HB.out | apply below_alloc | apply pw_below_drewN | apply below_drew1) | exact HB.out)⟩⟩
                case rest =>
                  clear HC23
                  try clear c1
                  try clear c2
                  try clear p2
                  try clear c4
                  try clear c5
                  try clear c6
                  try clear p6
                  try clear c8
                  try clear c9
                  try clear c9b0
                  try clear c10
                  try clear c10b0
                  try clear c11
                  try clear c11b0
                  try clear c12
                  try clear c15
                  try clear c15b0
                  try clear c17
                  try clear c17b0
                  try clear c17b1
                  try clear c17b2
                  try clear c18
                  try clear c18b0
                  try clear c18b1
                  try clear c19
                  try clear c19b0
                  try clear c19b1
                  try clear c19b2
                  try clear c21
                  try clear c22
                  try clear c22b0
                  try clear c22b1
                  try clear c22b2
                  try clear c49
                  try clear c49b0
                  try clear p2
                  try clear p6
                  obtain ⟨kq, x102_22, rfl, HA, HJ22, HO_13, HO_14, HB⟩ := hcut
                  cases kq with
                  | zero => exact absurd HA.out (by simp [tapestrierlaw4_TokNumbers.j3])
                  | succ kj22 =>
                    have H := HA.out
                    clear HA
                    simp only [tapestrierlaw4_TokNumbers.j3] at H
                    by_cases c51 : x102_22 = true
                    · subst c51
                      have H1 : (some true) = some r := by rw [if_pos rfl] at H; exact H
                      clear H
                      have H := H1
                      clear H1
                      obtain rfl := Option.some.inj H
                      go_wp2
                      go_ret
                      exact ⟨by first | rfl | (simp [errW_none, errW_some] <;> rfl) | (simp [*, errW_none, errW_some] <;> rfl), by repeat (first | (with_reducible first | exact HB.out | apply below_alloc | apply pw_below_drewN | apply below_drew1) | exact HB.out)⟩
                    · replace c51 := Bool.eq_false_iff.mpr c51
                      subst c51
                      have H1 : (if 0 ≤ a3 then (if a3 < (y733.length : Int) then (if x10_19.size + (rdOf ByteArray.empty y733 a3).size ≤ 9223372036854775807 then ((bytesConv5.f (x10_19 ++ (rdOf ByteArray.empty y733 a3))).bind fun t761 => ((tapestrierlaw4_Of.f kj22 t761).bind fun t764 => (if a3 < (y757.length : Int) then ((tapestrierref1_SameTokens.f kj22 t764 (rd_L5 y757 a3)).bind fun t768 => (some t768)) else (none)))) else (none)) else (none)) else (none)) = some r := by rw [if_neg (show ¬ (false = true) by decide)] at H; exact H
                      clear H
                      have H := H1
                      clear H1
                      by_cases c52 : 0 ≤ a3
                      · rw [if_pos c52] at H
                        have c52b0 : decide (0 ≤ a3) = true := decide_eq_true c52
                        clear c52
                        by_cases c53 : a3 < (y733.length : Int)
                        · rw [if_pos c53] at H
                          have c53b0 : decide (a3 < (y733.length : Int)) = true := decide_eq_true c53
                          clear c53
                          by_cases c54 : x10_19.size + (rdOf ByteArray.empty y733 a3).size ≤ 9223372036854775807
                          · rw [if_pos c54] at H
                            have c54b0 := eq_true c54
                            have c54b1 : decide (x10_19.size + (rdOf ByteArray.empty y733 a3).size ≤ 9223372036854775807) = true := decide_eq_true c54
                            try have c54b2 : (9223372036854775807 < x10_19.size + (rdOf ByteArray.empty y733 a3).size) = False := eq_false (Nat.not_lt.2 c54)
                            replace H := Option.bind_eq_some_iff.mp H
                            obtain ⟨t761, A550, H⟩ := H
                            replace H : ((tapestrierlaw4_Of.f kj22 t761).bind fun t764 => (if a3 < (y757.length : Int) then ((tapestrierref1_SameTokens.f kj22 t764 (rd_L5 y757 a3)).bind fun t768 => (some t768)) else (none))) = some r := H
                            have A55 := Aside0.mk A550
                            clear A550
                            replace H := Option.bind_eq_some_iff.mp H
                            obtain ⟨t764, A560, H⟩ := H
                            replace H : (if a3 < (y757.length : Int) then ((tapestrierref1_SameTokens.f kj22 t764 (rd_L5 y757 a3)).bind fun t768 => (some t768)) else (none)) = some r := H
                            have A56 := Aside0.mk A560
                            clear A560
                            by_cases c57 : a3 < (y757.length : Int)
                            · rw [if_pos c57] at H
                              have c57b0 : decide (a3 < (y757.length : Int)) = true := decide_eq_true c57
                              clear c57
                              replace H := Option.bind_eq_some_iff.mp H
                              obtain ⟨t768, A580, H⟩ := H
                              replace H : (some t768) = some r := H
                              have A58 := Aside0.mk A580
                              clear A580
                              obtain rfl := Option.some.inj H
                              try go_wp2
                              have n0_ := Aside0.mk (Kd.R_drew HO_13.out)
                              have n1_ := Aside0.mk (Kd.N_drew HO_14.out)
                              have n2_ := Aside0.mk (below_drew1 HB.out)
                              clear HO_13
                              clear HO_14
                              clear HB
                              have HO_13 := n0_
                              have HO_14 := n1_
                              have HB := n2_
                              clear n0_ n1_ n2_
                              obtain ⟨Ao60, co60, eo60⟩ := Kd.R_slice HO_13.out
                              (first | subst eo60 | (injection eo60 with f1_ f2_ f3_; have f4_ := f1_.symm; have f5_ := f3_.symm; clear f1_ f2_ f3_; subst f4_; subst f5_))
                              have p760 : 0 ≤ (a3 : Int) := of_decide_eq_true (by first | (with_reducible assumption) | assumption)
                              have q760 : a3 < (y733.length : Int) := of_decide_eq_true (by first | (with_reducible assumption) | assumption)
                              obtain ⟨ad760, e760, hx760_0⟩ := Kd.at_string (Kd.R_reads' HO_13.out).2.2 a3 p760 q760
                              cases e760
                              replace p760 := eq_true p760
                              replace q760 := eq_true q760
                              obtain ⟨Ao61, co61, eo61⟩ := Kd.N_slice HO_14.out
                              (first | subst eo61 | (injection eo61 with f1_ f2_ f3_; have f4_ := f1_.symm; have f5_ := f3_.symm; clear f1_ f2_ f3_; subst f4_; subst f5_))
                              have p767 : 0 ≤ (a3 : Int) := of_decide_eq_true (by first | (with_reducible assumption) | assumption)
                              have q767 : a3 < (y757.length : Int) := of_decide_eq_true (by first | (with_reducible assumption) | assumption)
                              obtain ⟨ad767, A767_0, c767_0, e767, hx767_0, hl767_0, hi767_0⟩ := at_L5 (Kd.N_reads' HO_14.out).2.2 a3 p767 q767
                              cases e767
                              obtain ⟨ce767, hce767, hMe767, hcc767⟩ := Kd.N_get HO_14.out [] a3 p767 (by first | exact q767 | exact of_decide_eq_true (by first | (with_reducible assumption) | assumption) | (have e_ := (Kd.N_reads' HO_14.out).1; omega))
                              obtain ⟨ua767_0, uc767_0, rfl, ul767_0, ge767_0⟩ := Kd.FK_slice_open hMe767
                              have hv767_0 := hcc767 0 _ rfl
                              rw [Nat.add_zero, show ((Kd.slice 31 k31)).sz = 1 from rfl, Nat.mul_one] at hv767_0
                              replace hv767_0 := Option.some.inj (hv767_0.symm.trans hx767_0)
                              injection hv767_0 with hva_ hvn_ hvc_
                              rw [hva_] at ge767_0
                              rw [hvc_] at ul767_0
                              have HL767_0 := Aside0.mk (show Kd.V k31 31 _ w.heap.size _ _ (rd_L5 y757 a3) from Kd.V_mk ul767_0 ge767_0)
                              clear hva_ hvn_ hvc_ ge767_0 ul767_0
                              clear hcc767 hce767
                              have HR767_0 := Aside0.mk hi767_0
                              have HC767_0 := Aside0.mk hl767_0
                              clear hi767_0 hl767_0
                              replace p767 := eq_true p767
                              replace q767 := eq_true q767
                              refine start_ (n := 14) (S := fun w' => w'.cell? (ad760.add (a3).toNat) = some (.string (rdOf ByteArray.empty y733 a3)) ∧ w'.cell? (ad767.add (a3).toNat) = some (.slice A767_0 (rd_L5 y757 a3).length c767_0)) (ds := []) #[false, false, false, false, false, false, false, false, false, false, false, false, false, false] (by kernel_rfl) rfl rfl ⟨hx760_0, hx767_0⟩ (fun hHeld => ?_); refine with_tabW tapestrierlaw4_TokNumbers.tab17 tapestrierlaw4_TokNumbers.bits17 (fun HT_ HW_ => ?_)
                              generalize wc.drew = w59 at HO_13 HO_14 HB HL767_0 HR767_0 hx760_0 hx767_0 hHeld ⊢
                              refine pure_ (i := 0) (N := some 103) (v := ?_) (a' := ?_) #[true, false, false, false, false, false, false, false, false, false, false, false, false, false] rfl rfl (any_of HT_.out (by kernel_rfl)) (fun _ _ _ h => h) (Or.inl ⟨by rfl, ?_⟩) ?_ ?_
                              rotate_left
                              · intro w'
                                go_simp
                                with_reducible rfl
                              rotate_left
                              · simp only [Act.put, List.setIfInBounds_toArray, List.set_cons_zero, List.set_cons_succ, i64_w, i32_w]
                                rfl
                              refine pure_ (i := 1) (N := some 104) (v := ?_) (a' := ?_) #[true, true, false, false, false, false, false, false, false, false, false, false, false, false] rfl rfl (any_of HT_.out (by kernel_rfl)) (fun _ _ _ h => h) (Or.inl ⟨by rfl, ?_⟩) ?_ ?_
                              rotate_left
                              · intro w'
                                go_simp
                                with_reducible rfl
                              rotate_left
                              · simp only [Act.put, List.setIfInBounds_toArray, List.set_cons_zero, List.set_cons_succ, i64_w, i32_w]
                                rfl
                              refine pure_ (i := 2) (N := some 105) (v := ?_) (a' := ?_) #[true, true, true, false, false, false, false, false, false, false, false, false, false, false] rfl rfl (any_of HT_.out (by kernel_rfl)) (fun _ _ _ h => h) (Or.inl ⟨by rfl, ?_⟩) ?_ ?_
                              rotate_left
                              · intro w'
                                go_simp
                                with_reducible rfl
                              rotate_left
                              · simp only [Act.put, List.setIfInBounds_toArray, List.set_cons_zero, List.set_cons_succ, i64_w, i32_w]
                                rfl
                              refine pure_ (i := 3) (N := some 106) (v := ?_) (a' := ?_) #[true, true, true, true, false, false, false, false, false, false, false, false, false, false] rfl rfl (any_of HT_.out (by kernel_rfl)) (fun _ _ _ h => h) (Or.inl ⟨by rfl, ?_⟩) ?_ ?_
                              rotate_left
                              · intro w'
                                go_simp
                                with_reducible rfl
                              rotate_left
                              · simp only [Act.put, List.setIfInBounds_toArray, List.set_cons_zero, List.set_cons_succ, i64_w, i32_w]
                                rfl
                              refine pure_ (i := 8) (N := some 111) (v := ?_) (a' := ?_) #[true, true, true, true, false, false, false, false, true, false, false, false, false, false] rfl rfl (any_of HT_.out (by kernel_rfl)) (fun _ _ _ h => h) (Or.inl ⟨by rfl, ?_⟩) ?_ ?_
                              rotate_left
                              · intro w'
                                go_simp
                                with_reducible rfl
                              rotate_left
                              · simp only [Act.put, List.setIfInBounds_toArray, List.set_cons_zero, List.set_cons_succ, i64_w, i32_w]
                                rfl
                              refine pure_ (i := 9) (N := some 112) (v := ?_) (a' := ?_) #[true, true, true, true, false, false, false, false, true, true, false, false, false, false] rfl rfl (any_of HT_.out (by kernel_rfl)) (fun _ _ _ h => h) (Or.inl ⟨by rfl, ?_⟩) ?_ ?_
                              rotate_left
                              · intro w'
                                go_simp
                                with_reducible rfl
                              rotate_left
                              · simp only [Act.put, List.setIfInBounds_toArray, List.set_cons_zero, List.set_cons_succ, i64_w, i32_w]
                                rfl
                              refine pure_ (i := 10) (N := some 113) (v := ?_) (a' := ?_) #[true, true, true, true, false, false, false, false, true, true, true, false, false, false] rfl rfl (any_of HT_.out (by kernel_rfl)) (fun _ _ _ h => h) (Or.inl ⟨by rfl, ?_⟩) ?_ ?_
                              rotate_left
                              · intro w'
                                go_simp
                                with_reducible rfl
                              rotate_left
                              · simp only [Act.put, List.setIfInBounds_toArray, List.set_cons_zero, List.set_cons_succ, i64_w, i32_w]
                                rfl
                              refine take_ (i := 4) (N := some 107) (v := ?_) (a' := ?_) #[true, true, true, true, true, false, false, false, true, true, true, false, false, false] rfl rfl (take_ofW HT_.out HW_.out (by kernel_rfl)) (fun _ _ _ h => h) (Or.inl ⟨by rfl, ?_⟩) hHeld ?_ ?_
                              rotate_left
                              · rintro w' ⟨s0, s1⟩
                                go_simp
                                with_reducible rfl
                              rotate_left
                              · simp only [Act.put, List.setIfInBounds_toArray, List.set_cons_zero, List.set_cons_succ, i64_w, i32_w]
                                rfl
                              refine pure_ (i := 5) (N := some 108) (v := ?_) (a' := ?_) #[true, true, true, true, true, true, false, false, true, true, true, false, false, false] rfl rfl (any_of HT_.out (by kernel_rfl)) (fun _ _ _ h => h) (Or.inl ⟨by rfl, ?_⟩) ?_ ?_
                              rotate_left
                              · intro w'
                                go_simp
                                with_reducible rfl
                              rotate_left
                              · simp only [Act.put, List.setIfInBounds_toArray, List.set_cons_zero, List.set_cons_succ, i64_w, i32_w]
                                rfl
                              refine take_ (i := 11) (N := some 114) (v := ?_) (a' := ?_) #[true, true, true, true, true, true, false, false, true, true, true, true, false, false] rfl rfl (take_ofW HT_.out HW_.out (by kernel_rfl)) (fun _ _ _ h => h) (Or.inl ⟨by rfl, ?_⟩) hHeld ?_ ?_
                              rotate_left
                              · rintro w' ⟨s0, s1⟩
                                go_simp
                                with_reducible rfl
                              rotate_left
                              · simp only [Act.put, List.setIfInBounds_toArray, List.set_cons_zero, List.set_cons_succ, i64_w, i32_w]
                                rfl
                              refine one_ (i := 6) (N := some 109) #[true, true, true, true, true, true, true, false, true, true, true, true, false, false] rfl rfl (one_of HT_.out (by kernel_rfl)) (by decide) (fun K hK => ?_)
                              refine conv_step (N := 109) (src := 9) (dst := 25) (e := 5) (s := (x10_19 ++ (rdOf ByteArray.empty y733 a3))) (by rfl) rfl rfl Tryd.underlying9 Tryd.underlying25 Tryd.underlying5 (by first | rfl | (go_simp; done) | (go_simp; rfl)) ?_
                              with_reducible refine (bytesConv5.calls (x10_19 ++ (rdOf ByteArray.empty y733 a3)) t761 _ A55.out).mono ?_
                              rintro e w62 ⟨v762, rfl, ho0, hb⟩
                              have HS0_ := (hb.cell (World.block_lt_of_cell? _ _ (hHeld.1))).trans (hHeld.1)
                              have HS1_ := (hb.cell (World.block_lt_of_cell? _ _ (hHeld.2))).trans (hHeld.2)
                              refine ⟨_, rfl, ?_⟩
                              have n0_ := Aside0.mk (Kd.R_below (by (with_reducible repeat (first | apply Kd.R_alloc | apply Kd.R_drewN | apply Kd.R_drew)); exact HO_13.out) hb)
                              have n1_ := Aside0.mk (Kd.N_below (by (with_reducible repeat (first | apply Kd.N_alloc | apply Kd.N_drewN | apply Kd.N_drew)); exact HO_14.out) hb)
                              have n2_ := Aside0.mk (Kd.V_below (by (with_reducible repeat (first | apply Kd.V_alloc | apply Kd.V_drewN | apply Kd.V_drew)); exact HL767_0.out) hb)
                              have n3_ := Aside0.mk (Kd.V_lower (Kd.V_mono (ok' := fun k_ => some k_ ≠ (.slice (some ad760) y733.length co60 : Value).ownBlock ∧ some k_ ≠ (.slice (some ad767) y757.length co61 : Value).ownBlock) ho0 (fun k_ hk_ => ⟨(Kd.fresh' (Kd.R_lt (by (with_reducible repeat (first | apply Kd.R_alloc | apply Kd.R_drewN | apply Kd.R_drew)); exact HO_13.out)) k_ hk_), (Kd.fresh' (Kd.N_lt (by (with_reducible repeat (first | apply Kd.N_alloc | apply Kd.N_drewN | apply Kd.N_drew)); exact HO_14.out)) k_ hk_)⟩)) (below_size (by repeat (first | (with_reducible first | exact HB.out | apply below_alloc | apply pw_below_drewN | apply below_drew1) | exact HB.out))))
                              have n4_ := Aside0.mk (Kd.C_below (by repeat (first | (with_reducible exact HR767_0.out) | (with_reducible refine Kd.C_alloc ?_ _) | (with_reducible refine Kd.C_drewN ?_ _) | (with_reducible refine Kd.C_drew ?_) | exact HR767_0.out)) hb)
                              have n5_ := Aside0.mk (below_step (by repeat (first | (with_reducible first | exact HB.out | apply below_alloc | apply pw_below_drewN | apply below_drew1) | exact HB.out)) hb)
                              clear HO_13
                              clear HO_14
                              clear HL767_0
                              clear HR767_0
                              clear HB
                              have HO_13 := n0_
                              have HO_14 := n1_
                              have HL767_0 := n2_
                              have HO763 := n3_
                              have HR767_0 := n4_
                              have HB := n5_
                              clear n0_ n1_ n2_ n3_ n4_ n5_
                              (try clear hb)
                              (try clear hb2)
                              (try clear hk)
                              (try clear hi)
                              (try clear ho0)
                              obtain ⟨Ao63, co63, eo63⟩ := Kd.V_slice HO763.out
                              (first | subst eo63 | (injection eo63 with f1_ f2_ f3_; have f4_ := f1_.symm; have f5_ := f3_.symm; clear f1_ f2_ f3_; subst f4_; subst f5_))
                              refine hK.out _ _ ⟨HS0_, HS1_⟩ (fun hHeld => ?_)
                              clear hK K
                              refine norm_ (a' := ?_) ?_ ?_
                              rotate_left
                              · show Act.put _ (some 109) _ = _
                                simp only [Act.put, List.setIfInBounds_toArray, List.set_cons_zero, List.set_cons_succ, i64_w, i32_w]
                                rfl
                              refine one_ (i := 7) (N := some 110) #[true, true, true, true, true, true, true, true, true, true, true, true, false, false] rfl rfl (one_of HT_.out (by kernel_rfl)) (by decide) (fun K hK => ?_)
                              refine goes_ Tryd.func20 (by kernel_rfl) rfl #[.slice Ao63 t761.length co63] (by rfl) rfl rfl (by (try simp only [List.map_toArray, List.map_cons, List.map_nil]); first | done | rfl | (simp only [List.length_drop, List.length_take]; rfl)) ?_
                              with_reducible refine (tapestrierlaw4_Of.calls kj22 _ _ t761 t764 _ ?side1 ?side2 ?side3 A56.out).mono ?_
                              (case side1 => repeat (first | exact (Kd.V_reads' HO763.out).2.2 | (with_reducible refine Kd.C_alloc ?_ _) | (with_reducible refine Kd.C_drewN ?_ _) | (with_reducible refine Kd.C_drew ?_)))
                              (case side2 => exact (Kd.V_reads' HO763.out).2.1)
                              (case side3 => exact TabsIn.below HT.out (by repeat (first | (with_reducible first | exact HB.out | apply below_alloc | apply pw_below_drewN | apply below_drew1) | exact HB.out)))
                              rintro e w64 ⟨v765, rfl, ho0, hb⟩
                              have HS0_ := (hb.cell (World.block_lt_of_cell? _ _ (hHeld.1))).trans (hHeld.1)
                              have HS1_ := (hb.cell (World.block_lt_of_cell? _ _ (hHeld.2))).trans (hHeld.2)
                              refine ⟨_, rfl, ?_⟩
                              have n0_ := Aside0.mk (Kd.R_below (by (with_reducible repeat (first | apply Kd.R_alloc | apply Kd.R_drewN | apply Kd.R_drew)); exact HO_13.out) hb)
                              have n1_ := Aside0.mk (Kd.N_elder' (by (with_reducible repeat (first | apply Kd.N_alloc | apply Kd.N_drewN | apply Kd.N_drew)); exact HO_14.out) (Kd.R_base ho0) hb)
                              have n2_ := Aside0.mk (Kd.V_elder' (by (with_reducible repeat (first | apply Kd.V_alloc | apply Kd.V_drewN | apply Kd.V_drew)); exact HL767_0.out) (Kd.R_base ho0) hb)
                              have n3_ := Aside0.mk (Kd.V_elder' (by (with_reducible repeat (first | apply Kd.V_alloc | apply Kd.V_drewN | apply Kd.V_drew)); exact HO763.out) (Kd.R_base ho0) hb)
                              have n4_ := Aside0.mk (Kd.R_lower ho0 (below_size (by repeat (first | (with_reducible first | exact HB.out | apply below_alloc | apply pw_below_drewN | apply below_drew1) | exact HB.out))))
                              have n5_ := Aside0.mk (Kd.C_below (by repeat (first | (with_reducible exact HR767_0.out) | (with_reducible refine Kd.C_alloc ?_ _) | (with_reducible refine Kd.C_drewN ?_ _) | (with_reducible refine Kd.C_drew ?_) | exact HR767_0.out)) hb)
                              have n6_ := Aside0.mk (below_step (by repeat (first | (with_reducible first | exact HB.out | apply below_alloc | apply pw_below_drewN | apply below_drew1) | exact HB.out)) hb)
                              clear HO_13
                              clear HO_14
                              clear HL767_0
                              clear HO763
                              clear HR767_0
                              clear HB
                              have HO_13 := n0_
                              have HO_14 := n1_
                              have HL767_0 := n2_
                              have HO763 := n3_
                              have HO766 := n4_
                              have HR767_0 := n5_
                              have HB := n6_
                              clear n0_ n1_ n2_ n3_ n4_ n5_ n6_
                              (try clear hb)
                              (try clear hb2)
                              (try clear hk)
                              (try clear hi)
                              (try clear ho0)
                              obtain ⟨Ao65, co65, eo65⟩ := Kd.R_slice HO766.out
                              (first | subst eo65 | (injection eo65 with f1_ f2_ f3_; have f4_ := f1_.symm; have f5_ := f3_.symm; clear f1_ f2_ f3_; subst f4_; subst f5_))
                              refine hK.out _ _ ⟨HS0_, HS1_⟩ (fun hHeld => ?_)
                              clear hK K
                              refine norm_ (a' := ?_) ?_ ?_
                              rotate_left
                              · show Act.put _ (some 110) _ = _
                                simp only [Act.put, List.setIfInBounds_toArray, List.set_cons_zero, List.set_cons_succ, i64_w, i32_w]
                                rfl
                              refine one_ (i := 12) (N := some 115) #[true, true, true, true, true, true, true, true, true, true, true, true, true, false] rfl rfl (one_of HT_.out (by kernel_rfl)) (by decide) (fun K hK => ?_)
                              refine goes_ Tryd.func19 (by kernel_rfl) rfl #[.slice Ao65 t764.length co65, .slice A767_0 (rd_L5 y757 a3).length c767_0] (by rfl) rfl rfl (by (try simp only [List.map_toArray, List.map_cons, List.map_nil]); first | done | rfl | (simp only [List.length_drop, List.length_take]; rfl)) ?_
                              with_reducible refine (tapestrierref1_SameTokens.calls kj22 _ _ t764 _ _ (rd_L5 y757 a3) t768 _ ?side1 ?side2 ?side3 ?side4 A58.out).mono ?_
                              (case side1 => repeat (first | exact (Kd.R_reads' HO766.out).2.2 | (with_reducible refine Kd.C_alloc ?_ _) | (with_reducible refine Kd.C_drewN ?_ _) | (with_reducible refine Kd.C_drew ?_)))
                              (case side2 => exact (Kd.R_reads' HO766.out).2.1)
                              (case side3 => repeat (first | exact (by repeat (first | (with_reducible exact HR767_0.out) | (with_reducible refine Kd.C_alloc ?_ _) | (with_reducible refine Kd.C_drewN ?_ _) | (with_reducible refine Kd.C_drew ?_) | exact HR767_0.out)) | (with_reducible refine Kd.C_alloc ?_ _) | (with_reducible refine Kd.C_drewN ?_ _) | (with_reducible refine Kd.C_drew ?_)))
                              (case side4 => exact HC767_0.out)
                              rintro e w' ⟨rfl, ⟨nd, rfl⟩⟩
                              refine ⟨_, rfl, ?_⟩
                              refine hK.out _ _ ⟨hHeld.1, hHeld.2⟩ (fun hHeld => ?_)
                              clear hK K
                              refine norm_ (a' := ?_) ?_ ?_
                              rotate_left
                              · show Act.put _ (some 115) _ = _
                                simp only [Act.put, List.setIfInBounds_toArray, List.set_cons_zero, List.set_cons_succ, i64_w, i32_w]
                                rfl
                              refine pure_ (i := 13) (N := some 8) (v := ?_) (a' := ?_) #[true, true, true, true, true, true, true, true, true, true, true, true, true, true] rfl rfl (any_of HT_.out (by kernel_rfl)) (fun _ _ _ h => h) (Or.inl ⟨by rfl, ?_⟩) ?_ ?_
                              rotate_left
                              · intro w'
                                go_simp
                                with_reducible rfl
                              rotate_left
                              · simp only [Act.put, List.setIfInBounds_toArray, List.set_cons_zero, List.set_cons_succ, i64_w, i32_w]
                                rfl
                              refine done_ (done_of HT_.out (by kernel_rfl)) ?_
                              try go_wp2
                              go_ret
                              exact ⟨by first | rfl | (simp [errW_none, errW_some] <;> rfl) | (simp [*, errW_none, errW_some] <;> rfl), by repeat (first | (with_reducible first | exact HB.out | apply below_alloc | apply pw_below_drewN | apply below_drew1) | exact HB.out)⟩
                            · rw [if_neg c57] at H
                              exact absurd H (by simp)
                          · rw [if_neg c54] at H
                            exact absurd H (by simp)
                        · rw [if_neg c53] at H
                          exact absurd H (by simp)
                      · rw [if_neg c52] at H
                        exact absurd H (by simp)
def tapestrierlaw4_TokNumbers.Pure : Prop := ∀ (a0 : Int) (a1 : Int) (a2 : Bool) (a3 : Int), (Lit.int .i64 a0).wf = true → (Lit.int .i64 a1).wf = true → (Lit.int .i64 a3).wf = true → ∃ k, tapestrierlaw4_TokNumbers.f k a0 a1 a2 a3 = some true
theorem tapestrierlaw4_TokNumbers.walk (P : tapestrierlaw4_TokNumbers.Pure) (a0 : Int) (a1 : Int) (a2 : Bool) (a3 : Int) (w : World) (w0 : (Lit.int .i64 a0).wf = true) (w1 : (Lit.int .i64 a1).wf = true) (w3 : (Lit.int .i64 a3).wf = true) (hT : TabsIn w) :
    Calls Tryd.prog 6 #[.int .i64 a0, .int .i64 a1, .bool a2, .int .i64 a3] w fun e w' => e = .returned (.bool true) ∧ Below w.heap.size w w' := by
  obtain ⟨k, h⟩ := P a0 a1 a2 a3 w0 w1 w3
  refine (tapestrierlaw4_TokNumbers.calls k a0 a1 a2 a3 true w hT h).mono ?_
  rintro e w' ⟨rfl, hd⟩
  exact ⟨rfl, hd⟩
end Go.Proofs.YtplkkmmojanclaaDoor.Q
