/- Part of the proof; printed or typed in this session; unused declarations and remarks struck by a program (wip/prune.py). -/
import Derived.Test.YtplkkmmojanclaaDoorCQ0
import Derived.Test.YtplkkmmojanclaaDoorCQ1
import Derived.Test.YtplkkmmojanclaaDoorCQ8
import Derived.Test.YtplkkmmojanclaaDoorCExtTok
import Derived.Test.YtplkkmmojanclaaDoorCConst
set_option linter.all false
namespace Go.Proofs.YtplkkmmojanclaaDoor.Q
open Go.RowKit Go.Proofs.YtplkkmmojanclaaDoor.My Go.Proofs.YtplkkmmojanclaaDoorW.PrintWords Go.Proofs.YtplkkmmojanclaaDoorW.PrintLast Go.Proofs.YtplkkmmojanclaaDoorW.PrintMore
attribute [local go_sem] max2_int min2_int max_two min_two max_three min_three max_four min_four
set_option linter.unusedVariables false
set_option linter.unusedSimpArgs false
attribute [local go_sem high] eqA31
def tapestrierref1_SameTokens.l0 : Nat → List (S31) → List (S31) → Int → Option (Bool)
  | 0, _, _, _ => none
  | k + 1, x0, x1, x5 => if x5 < (x0.length : Int) then (if 0 ≤ x5 then (if x5 < (x1.length : Int) then (if (!(((rd_T31 x0 x5).f0) == ((rd_T31 x1 x5).f0)) || (!((((rd_T31 x0 x5).f1).toList) == (((rd_T31 x1 x5).f1).toList)) || (!(((rd_T31 x0 x5).f2) == ((rd_T31 x1 x5).f2)) || (!(((rd_T31 x0 x5).f3) == ((rd_T31 x1 x5).f3)) || (!(((rd_T31 x0 x5).f4) == ((rd_T31 x1 x5).f4))))))) = true then (some false) else (tapestrierref1_SameTokens.l0 k x0 x1 (wrap64 (x5 + 1)))) else (none)) else (none)) else (some true)
def tapestrierref1_SameTokens.f (k : Nat) (l0 : List (S31)) (l1 : List (S31)) : Option (Bool) := if (l0.length : Int) = (l1.length : Int) then (tapestrierref1_SameTokens.l0 k l0 l1 0) else (some false)
theorem tapestrierref1_SameTokens.mono_l : ∀ k, (∀ y0 y1 y2, LeO (tapestrierref1_SameTokens.l0 k y0 y1 y2) (tapestrierref1_SameTokens.l0 (k + 1) y0 y1 y2))
  | 0 => fun _ _ _ r h => by simp [tapestrierref1_SameTokens.l0] at h
  | k + 1 => by
    have ih0 := tapestrierref1_SameTokens.mono_l k
    · intro y0 y1 y2
      unfold tapestrierref1_SameTokens.l0
      repeat' first
      | (with_reducible exact ih0 _ _ _)
      | (with_reducible exact LeO.refl _)
      | (with_reducible exact LeO.none _)
      | (with_reducible refine LeO.ite ?_ ?_)
      | (with_reducible refine LeO.bind ?_ (fun _ => ?_))
      | exact ih0 _ _ _
      | exact LeO.none _
      | refine LeO.ite ?_ ?_
      | refine LeO.bind ?_ (fun _ => ?_)
theorem tapestrierref1_SameTokens.mono : ∀ a0 a1 k, LeO (tapestrierref1_SameTokens.f k a0 a1) (tapestrierref1_SameTokens.f (k + 1) a0 a1) := by
  intro a0 a1 k
  have ih0 := tapestrierref1_SameTokens.mono_l k
  unfold tapestrierref1_SameTokens.f
  repeat' first
      | (with_reducible exact ih0 _ _ _)
      | (with_reducible exact LeO.refl _)
      | (with_reducible exact LeO.none _)
      | (with_reducible refine LeO.ite ?_ ?_)
      | (with_reducible refine LeO.bind ?_ (fun _ => ?_))
      | exact ih0 _ _ _
      | exact LeO.none _
      | refine LeO.ite ?_ ?_
      | refine LeO.bind ?_ (fun _ => ?_)
set_option maxHeartbeats 8000000 in
set_option maxRecDepth 100000 in
theorem tapestrierref1_SameTokens.calls (k : Nat) (A0 : Option Addr) (c0 : Nat) (l0 : List (S31)) (A1 : Option Addr) (c1 : Nat) (l1 : List (S31)) (r : Bool) (w : World) (hr0 : Kd.C k31 w A0 l0.length l0) (hc0 : l0.length ≤ c0) (hr1 : Kd.C k31 w A1 l1.length l1) (hc1 : l1.length ≤ c1) (h : tapestrierref1_SameTokens.f k l0 l1 = some r) :
    Calls Tryd.prog 19 #[.slice A0 l0.length c0, .slice A1 l1.length c1] w fun e w' => e = .returned (.bool r) ∧ Drawn0 w w' := by
  have hu31 := Tryd.underlying31
  have HR0 := Aside0.mk hr0
  have HC0 := Aside0.mk hc0
  clear hr0 hc0
  have HR1 := Aside0.mk hr1
  have HC1 := Aside0.mk hc1
  clear hr1 hc1
  have H : (if (l0.length : Int) = (l1.length : Int) then (tapestrierref1_SameTokens.l0 k l0 l1 0) else (some false)) = some r := h
  clear h
  by_cases c3 : (l0.length : Int) = (l1.length : Int)
  · rw [if_pos c3] at H
    have c3b0 : ((l0.length : Int) == (l1.length : Int)) = true := beq_iff_eq.mpr c3
    have c3b1 : ((l0.length : Int) != (l1.length : Int)) = false := bne_eq_false_iff_eq.mpr c3
    have c3b2 : (l0.length == l1.length) = true := by first | simpa using c3 | (simp at c3 ⊢; omega)
    clear c3
    have H' := Aside0.mk H
    clear H
    go_enter Tryd.func19, Tryd.ntmps19
    go_wp2
    repeat (go_quiet (fail); try go_wp2)
    go_loopg [5] k (fun kq v5 w' => ∃ (x5_1 : Int), v5 = .int .i64 x5_1 ∧ Aside0 (tapestrierref1_SameTokens.l0 kq l0 l1 x5_1 = some r) ∧ Aside0 (kq ≤ k) ∧ Drawn0 w w')
    case atStart => exact ⟨(0), (by first | rfl | (simp; done) | (simp [*]; done) | (simp [wrap64]; done)), H', ⟨Nat.le_refl _⟩, by repeat (first | exact Drawn0.refl _ | apply Drawn0.step)⟩
    case round =>
      clear H'
      try clear c1
      try clear p2
      try clear c3
      try clear c3b0
      try clear c3b1
      try clear c3b2
      obtain ⟨x5_1, rfl, HA, HK1, ⟨m1, rfl⟩⟩ := hrel
      cases gk with
      | zero => exact absurd HA.out (by simp [tapestrierref1_SameTokens.l0])
      | succ k1 =>
        have H := HA.out
        clear HA
        simp only [tapestrierref1_SameTokens.l0] at H
        by_cases c4 : x5_1 < (l0.length : Int)
        · rw [if_pos c4] at H
          have c4b0 : decide (x5_1 < (l0.length : Int)) = true := decide_eq_true c4
          clear c4
          by_cases c5 : 0 ≤ x5_1
          · rw [if_pos c5] at H
            have c5b0 : decide (0 ≤ x5_1) = true := decide_eq_true c5
            clear c5
            by_cases c6 : x5_1 < (l1.length : Int)
            · rw [if_pos c6] at H
              have c6b0 : decide (x5_1 < (l1.length : Int)) = true := decide_eq_true c6
              clear c6
              by_cases c7 : (!(((rd_T31 l0 x5_1).f0) == ((rd_T31 l1 x5_1).f0)) || (!((((rd_T31 l0 x5_1).f1).toList) == (((rd_T31 l1 x5_1).f1).toList)) || (!(((rd_T31 l0 x5_1).f2) == ((rd_T31 l1 x5_1).f2)) || (!(((rd_T31 l0 x5_1).f3) == ((rd_T31 l1 x5_1).f3)) || (!(((rd_T31 l0 x5_1).f4) == ((rd_T31 l1 x5_1).f4))))))) = true
              · rw [if_pos c7] at H
                have c7b0 : (!(((rd_T31 l0 x5_1).f0) == ((rd_T31 l1 x5_1).f0)) || (!((((rd_T31 l0 x5_1).f1).toList) == (((rd_T31 l1 x5_1).f1).toList)) || (!(((rd_T31 l0 x5_1).f2) == ((rd_T31 l1 x5_1).f2)) || (!(((rd_T31 l0 x5_1).f3) == ((rd_T31 l1 x5_1).f3)) || (!(((rd_T31 l0 x5_1).f4) == ((rd_T31 l1 x5_1).f4))))))) = true := c7
                clear c7
                obtain rfl := Option.some.inj H
                have p633 : 0 ≤ (x5_1 : Int) := of_decide_eq_true (by first | (with_reducible assumption) | assumption)
                have q633 : x5_1 < (l0.length : Int) := of_decide_eq_true (by first | (with_reducible assumption) | assumption)
                obtain ⟨ad633, e633, hx633_0, hx633_1, hx633_2, hx633_3, hx633_4⟩ := at_T31 HR0.out x5_1 p633 q633
                cases e633
                replace p633 := eq_true p633
                replace q633 := eq_true q633
                have p634 : 0 ≤ (x5_1 : Int) := of_decide_eq_true (by first | (with_reducible assumption) | assumption)
                have q634 : x5_1 < (l1.length : Int) := of_decide_eq_true (by first | (with_reducible assumption) | assumption)
                obtain ⟨ad634, e634, hx634_0, hx634_1, hx634_2, hx634_3, hx634_4⟩ := at_T31 HR1.out x5_1 p634 q634
                cases e634
                replace p634 := eq_true p634
                replace q634 := eq_true q634
                go_wp2
                repeat (go_quiet (fail); try go_wp2)
                go_ret
                exact ⟨by first | rfl | (simp; done) | (simp [*]; done) | (simp [wrap64]; done), by repeat (first | exact Drawn0.refl _ | apply Drawn0.step)⟩
              · rw [if_neg c7] at H
                have c7b0 : (!(((rd_T31 l0 x5_1).f0) == ((rd_T31 l1 x5_1).f0)) || (!((((rd_T31 l0 x5_1).f1).toList) == (((rd_T31 l1 x5_1).f1).toList)) || (!(((rd_T31 l0 x5_1).f2) == ((rd_T31 l1 x5_1).f2)) || (!(((rd_T31 l0 x5_1).f3) == ((rd_T31 l1 x5_1).f3)) || (!(((rd_T31 l0 x5_1).f4) == ((rd_T31 l1 x5_1).f4))))))) = false := by simpa using c7
                clear c7
                have H' := Aside0.mk H
                clear H
                have p633 : 0 ≤ (x5_1 : Int) := of_decide_eq_true (by first | (with_reducible assumption) | assumption)
                have q633 : x5_1 < (l0.length : Int) := of_decide_eq_true (by first | (with_reducible assumption) | assumption)
                obtain ⟨ad633, e633, hx633_0, hx633_1, hx633_2, hx633_3, hx633_4⟩ := at_T31 HR0.out x5_1 p633 q633
                cases e633
                replace p633 := eq_true p633
                replace q633 := eq_true q633
                have p634 : 0 ≤ (x5_1 : Int) := of_decide_eq_true (by first | (with_reducible assumption) | assumption)
                have q634 : x5_1 < (l1.length : Int) := of_decide_eq_true (by first | (with_reducible assumption) | assumption)
                obtain ⟨ad634, e634, hx634_0, hx634_1, hx634_2, hx634_3, hx634_4⟩ := at_T31 HR1.out x5_1 p634 q634
                cases e634
                replace p634 := eq_true p634
                replace q634 := eq_true q634
                go_wp2
                repeat (go_quiet (fail); try go_wp2)
                go_roundg k1
                case measure => have := HK1.out; omega
                case rel => exact ⟨(wrap64 (x5_1 + 1)), (by first | rfl | (simp; done) | (simp [*]; done) | (simp [wrap64]; done)), H', ⟨by have := HK1.out; omega⟩, by repeat (first | exact Drawn0.refl _ | apply Drawn0.step)⟩
            · rw [if_neg c6] at H
              exact absurd H (by simp)
          · rw [if_neg c5] at H
            exact absurd H (by simp)
        · rw [if_neg c4] at H
          have c4b0 : decide (x5_1 < (l0.length : Int)) = false := decide_eq_false c4
          clear c4
          obtain rfl := Option.some.inj H
          go_wp2
          repeat (go_quiet (fail); try go_wp2)
          go_ret
          exact ⟨by first | rfl | (simp; done) | (simp [*]; done) | (simp [wrap64]; done), by repeat (first | exact Drawn0.refl _ | apply Drawn0.step)⟩
  · rw [if_neg c3] at H
    have c3b0 : ((l0.length : Int) == (l1.length : Int)) = false := beq_eq_false_iff_ne.mpr c3
    have c3b1 : ((l0.length : Int) != (l1.length : Int)) = true := bne_iff_ne.mpr c3
    have c3b2 : (l0.length == l1.length) = false := by first | simpa using c3 | (simp at c3 ⊢; omega)
    obtain rfl := Option.some.inj H
    go_enter Tryd.func19, Tryd.ntmps19
    go_wp2
    repeat (go_quiet (fail); try go_wp2)
    go_ret
    exact ⟨by first | rfl | (simp; done) | (simp [*]; done) | (simp [wrap64]; done), by repeat (first | exact Drawn0.refl _ | apply Drawn0.step)⟩
def tapestrierlaw4_alive.f (k : Nat)  : Option (Bool) := (constConv5.f (strOfNums [97, 58, 49, 46, 53, 101, 109])).bind fun t635 => ((text_Prepare.f t635).bind fun t638 => ((tok_Tokens.f k t638).bind fun t641 => (if (t641.length : Int) = 3 then (if 0 < (t641.length : Int) then (if (((rd_T31 t641 0).f0) == 1 && ((((rd_T31 t641 0).f1).toList) == ([97] : List UInt8) && (((rd_T31 t641 0).f2) == 0 && (!((rd_T31 t641 0).f3) && (((rd_T31 t641 0).f4) == 0))))) = true then (if 1 < (t641.length : Int) then (if ((rd_T31 t641 1).f0) = 11 then (if 2 < (t641.length : Int) then (some (((rd_T31 t641 2).f0) == 8 && ((((rd_T31 t641 2).f1).toList) == ([101, 109] : List UInt8) && (((rd_T31 t641 2).f2) == 1500 && (!((rd_T31 t641 2).f3) && (((rd_T31 t641 2).f4) == 0)))))) else (none)) else (some false)) else (none)) else (some false)) else (none)) else (some false))))
theorem tapestrierlaw4_alive.mono : ∀ k, LeO (tapestrierlaw4_alive.f k ) (tapestrierlaw4_alive.f (k + 1) ) := by
  intro  k
  unfold tapestrierlaw4_alive.f
  repeat' first
      | (with_reducible exact tok_Tokens.mono _ _)
      | (with_reducible exact LeO.refl _)
      | (with_reducible exact LeO.none _)
      | (with_reducible refine LeO.ite ?_ ?_)
      | (with_reducible refine LeO.bind ?_ (fun _ => ?_))
      | exact tok_Tokens.mono _ _
      | exact LeO.none _
      | refine LeO.ite ?_ ?_
      | refine LeO.bind ?_ (fun _ => ?_)
set_option maxHeartbeats 8000000 in
set_option maxRecDepth 100000 in
theorem tapestrierlaw4_alive.calls (k : Nat)  (r : Bool) (w : World) (hT : TabsIn w) (h : tapestrierlaw4_alive.f k  = some r) :
    Calls Tryd.prog 17 #[] w fun e w' => e = .returned (.bool r) ∧ Below w.heap.size w w' := by
  have hu31 := Tryd.underlying31
  have HT := Aside0.mk hT
  clear hT
  have HB := Aside0.mk (Below.refl w.heap.size w)
  have H : ((constConv5.f (strOfNums [97, 58, 49, 46, 53, 101, 109])).bind fun t635 => ((text_Prepare.f t635).bind fun t638 => ((tok_Tokens.f k t638).bind fun t641 => (if (t641.length : Int) = 3 then (if 0 < (t641.length : Int) then (if (((rd_T31 t641 0).f0) == 1 && ((((rd_T31 t641 0).f1).toList) == ([97] : List UInt8) && (((rd_T31 t641 0).f2) == 0 && (!((rd_T31 t641 0).f3) && (((rd_T31 t641 0).f4) == 0))))) = true then (if 1 < (t641.length : Int) then (if ((rd_T31 t641 1).f0) = 11 then (if 2 < (t641.length : Int) then (some (((rd_T31 t641 2).f0) == 8 && ((((rd_T31 t641 2).f1).toList) == ([101, 109] : List UInt8) && (((rd_T31 t641 2).f2) == 1500 && (!((rd_T31 t641 2).f3) && (((rd_T31 t641 2).f4) == 0)))))) else (none)) else (some false)) else (none)) else (some false)) else (none)) else (some false))))) = some r := h
  clear h
  replace H := Option.bind_eq_some_iff.mp H
  obtain ⟨t635, A10, H⟩ := H
  replace H : ((text_Prepare.f t635).bind fun t638 => ((tok_Tokens.f k t638).bind fun t641 => (if (t641.length : Int) = 3 then (if 0 < (t641.length : Int) then (if (((rd_T31 t641 0).f0) == 1 && ((((rd_T31 t641 0).f1).toList) == ([97] : List UInt8) && (((rd_T31 t641 0).f2) == 0 && (!((rd_T31 t641 0).f3) && (((rd_T31 t641 0).f4) == 0))))) = true then (if 1 < (t641.length : Int) then (if ((rd_T31 t641 1).f0) = 11 then (if 2 < (t641.length : Int) then (some (((rd_T31 t641 2).f0) == 8 && ((((rd_T31 t641 2).f1).toList) == ([101, 109] : List UInt8) && (((rd_T31 t641 2).f2) == 1500 && (!((rd_T31 t641 2).f3) && (((rd_T31 t641 2).f4) == 0)))))) else (none)) else (some false)) else (none)) else (some false)) else (none)) else (some false)))) = some r := H
  have A1 := Aside0.mk A10
  clear A10
  replace H := Option.bind_eq_some_iff.mp H
  obtain ⟨t638, A20, H⟩ := H
  replace H : ((tok_Tokens.f k t638).bind fun t641 => (if (t641.length : Int) = 3 then (if 0 < (t641.length : Int) then (if (((rd_T31 t641 0).f0) == 1 && ((((rd_T31 t641 0).f1).toList) == ([97] : List UInt8) && (((rd_T31 t641 0).f2) == 0 && (!((rd_T31 t641 0).f3) && (((rd_T31 t641 0).f4) == 0))))) = true then (if 1 < (t641.length : Int) then (if ((rd_T31 t641 1).f0) = 11 then (if 2 < (t641.length : Int) then (some (((rd_T31 t641 2).f0) == 8 && ((((rd_T31 t641 2).f1).toList) == ([101, 109] : List UInt8) && (((rd_T31 t641 2).f2) == 1500 && (!((rd_T31 t641 2).f3) && (((rd_T31 t641 2).f4) == 0)))))) else (none)) else (some false)) else (none)) else (some false)) else (none)) else (some false))) = some r := H
  have A2 := Aside0.mk A20
  clear A20
  replace H := Option.bind_eq_some_iff.mp H
  obtain ⟨t641, A30, H⟩ := H
  replace H : (if (t641.length : Int) = 3 then (if 0 < (t641.length : Int) then (if (((rd_T31 t641 0).f0) == 1 && ((((rd_T31 t641 0).f1).toList) == ([97] : List UInt8) && (((rd_T31 t641 0).f2) == 0 && (!((rd_T31 t641 0).f3) && (((rd_T31 t641 0).f4) == 0))))) = true then (if 1 < (t641.length : Int) then (if ((rd_T31 t641 1).f0) = 11 then (if 2 < (t641.length : Int) then (some (((rd_T31 t641 2).f0) == 8 && ((((rd_T31 t641 2).f1).toList) == ([101, 109] : List UInt8) && (((rd_T31 t641 2).f2) == 1500 && (!((rd_T31 t641 2).f3) && (((rd_T31 t641 2).f4) == 0)))))) else (none)) else (some false)) else (none)) else (some false)) else (none)) else (some false)) = some r := H
  have A3 := Aside0.mk A30
  clear A30
  by_cases c4 : (t641.length : Int) = 3
  · rw [if_pos c4] at H
    have c4b0 : ((t641.length : Int) == 3) = true := beq_iff_eq.mpr c4
    have c4b1 : ((t641.length : Int) != 3) = false := bne_eq_false_iff_eq.mpr c4
    clear c4
    by_cases c5 : 0 < (t641.length : Int)
    · rw [if_pos c5] at H
      have c5b0 : decide (0 < (t641.length : Int)) = true := decide_eq_true c5
      have c5b1 : decide (0 < t641.length) = true := decide_eq_true (by omega)
      clear c5
      by_cases c6 : (((rd_T31 t641 0).f0) == 1 && ((((rd_T31 t641 0).f1).toList) == ([97] : List UInt8) && (((rd_T31 t641 0).f2) == 0 && (!((rd_T31 t641 0).f3) && (((rd_T31 t641 0).f4) == 0))))) = true
      · rw [if_pos c6] at H
        have c6b0 : (((rd_T31 t641 0).f0) == 1 && ((((rd_T31 t641 0).f1).toList) == ([97] : List UInt8) && (((rd_T31 t641 0).f2) == 0 && (!((rd_T31 t641 0).f3) && (((rd_T31 t641 0).f4) == 0))))) = true := c6
        (try (have c6b1 : decide (((rd_T31 t641 0).f0) = 1 && ((((rd_T31 t641 0).f1).toList) == ([97] : List UInt8) && (((rd_T31 t641 0).f2) == 0 && (!((rd_T31 t641 0).f3) && (((rd_T31 t641 0).f4) == 0))))) = true := by simpa using c6))
        (try (have c6b2 : (((rd_T31 t641 0).f0) == 1 && ((((rd_T31 t641 0).f1).toList) == ([97] : List UInt8) && (((rd_T31 t641 0).f2) == 0 && (!((rd_T31 t641 0).f3) && (((rd_T31 t641 0).f4) == 0))))) = true := by simpa using c6))
        clear c6
        by_cases c7 : 1 < (t641.length : Int)
        · rw [if_pos c7] at H
          have c7b0 : decide (1 < (t641.length : Int)) = true := decide_eq_true c7
          have c7b1 : decide (1 < t641.length) = true := decide_eq_true (by omega)
          clear c7
          by_cases c8 : ((rd_T31 t641 1).f0) = 11
          · rw [if_pos c8] at H
            have c8b0 : (((rd_T31 t641 1).f0) == 11) = true := beq_iff_eq.mpr c8
            have c8b1 : (((rd_T31 t641 1).f0) != 11) = false := bne_eq_false_iff_eq.mpr c8
            clear c8
            by_cases c9 : 2 < (t641.length : Int)
            · rw [if_pos c9] at H
              have c9b0 : decide (2 < (t641.length : Int)) = true := decide_eq_true c9
              have c9b1 : decide (2 < t641.length) = true := decide_eq_true (by omega)
              clear c9
              obtain rfl := Option.some.inj H
              go_enter Tryd.func17, Tryd.ntmps17
              go_wp2_with (first | ((with_reducible refine gate_dst (N := 3) rfl ?_); (try (refine gate_guard (by rfl) ?_; dsimp only)); refine const_goes ?hg (N := 3) ?hd (t := 25) (e := 5) (s := (strOfNums [97, 58, 49, 46, 53, 101, 109])) (x := ?xo4) (C := ?cc4) (n := ?nn4) (c := ?kk4) (W := ?ww4) ?ho Tryd.underlying25 Tryd.underlying5 ?hC ?hn ?hc ?hx ?hW ?_; (case hd => rfl); (case hg => rfl); (case ho => rfl); (case hW => rfl); (case hx => first | rfl | (go_simp; done) | (go_simp; rfl)); (case hn => rfl); (case hc => rfl); (case hC => rfl); (with_reducible refine (constConv5.calls (strOfNums [97, 58, 49, 46, 53, 101, 109]) t635 _ A1.out).mono ?_); rintro e w10 ⟨v636, rfl, ho0, hb⟩; refine ⟨_, rfl, ?_⟩; have n0_ := Aside0.mk (Kd.V_lower (Kd.V_mono (ok' := fun k_ => True) ho0 (fun k_ hk_ => trivial)) (below_size (by repeat (first | (with_reducible first | exact HB.out | apply below_alloc | apply pw_below_drewN | apply below_drew1) | exact HB.out)))); have n1_ := Aside0.mk (below_step (by repeat (first | (with_reducible first | exact HB.out | apply below_alloc | apply pw_below_drewN | apply below_drew1) | exact HB.out)) hb); clear HB; have HO637 := n0_; have HB := n1_; clear n0_ n1_; (try clear hb); (try clear hb2); (try clear hk); (try clear hi); (try clear ho0); obtain ⟨Ao11, co11, eo11⟩ := Kd.V_slice HO637.out; subst eo11) | ((with_reducible refine gate_callee (f := 33) rfl ?_); refine goesL_ (some 4) rfl rfl Tryd.func33 (by kernel_rfl) rfl #[.slice Ao11 t635.length co11] rfl (by (try simp only [List.map_toArray, List.map_cons, List.map_nil]); first | done | rfl | (simp only [List.length_drop, List.length_take]; rfl)) ?_; (with_reducible refine (text_Prepare.calls _ _ t635 t638 _ ?side1 ?side2 ?side3 A2.out).mono ?_); (case side1 => repeat (first | exact (Kd.V_reads' HO637.out).2.2 | (with_reducible refine Kd.C_alloc ?_ _) | (with_reducible refine Kd.C_drewN ?_ _) | (with_reducible refine Kd.C_drew ?_))); (case side2 => exact (Kd.V_reads' HO637.out).2.1); (case side3 => exact TabsIn.below HT.out (by repeat (first | (with_reducible first | exact HB.out | apply below_alloc | apply pw_below_drewN | apply below_drew1) | exact HB.out))); rintro e w12 ⟨v639, rfl, ho0, hb⟩; refine ⟨_, rfl, ?_⟩; have n0_ := Aside0.mk (Kd.V_elder' (by (with_reducible repeat (first | apply Kd.V_alloc | apply Kd.V_drewN | apply Kd.V_drew)); exact HO637.out) (Kd.R_base ho0) hb); have n1_ := Aside0.mk (Kd.R_lower ho0 (below_size (by repeat (first | (with_reducible first | exact HB.out | apply below_alloc | apply pw_below_drewN | apply below_drew1) | exact HB.out)))); have n2_ := Aside0.mk (below_step (by repeat (first | (with_reducible first | exact HB.out | apply below_alloc | apply pw_below_drewN | apply below_drew1) | exact HB.out)) hb); clear HO637; clear HB; have HO637 := n0_; have HO640 := n1_; have HB := n2_; clear n0_ n1_ n2_; (try clear hb); (try clear hb2); (try clear hk); (try clear hi); (try clear ho0); obtain ⟨Ao13, co13, eo13⟩ := Kd.R_slice HO640.out; subst eo13) | ((with_reducible refine gate_callee (f := 26) rfl ?_); refine goesL_ (some 5) rfl rfl Tryd.func26 (by kernel_rfl) rfl #[.slice Ao13 t638.length co13] rfl (by (try simp only [List.map_toArray, List.map_cons, List.map_nil]); first | done | rfl | (simp only [List.length_drop, List.length_take]; rfl)) ?_; (with_reducible refine (tok_Tokens.calls k _ _ t638 t641 _ ?side1 ?side2 A3.out).mono ?_); (case side1 => repeat (first | exact (Kd.R_reads' HO640.out).2.2 | (with_reducible refine Kd.C_alloc ?_ _) | (with_reducible refine Kd.C_drewN ?_ _) | (with_reducible refine Kd.C_drew ?_))); (case side2 => exact (Kd.R_reads' HO640.out).2.1); rintro e w14 ⟨v642, rfl, ho0, hb⟩; refine ⟨_, rfl, ?_⟩; have n0_ := Aside0.mk (Kd.V_elder' (by (with_reducible repeat (first | apply Kd.V_alloc | apply Kd.V_drewN | apply Kd.V_drew)); exact HO637.out) (Kd.R_base ho0) hb); have n1_ := Aside0.mk (Kd.R_below (by (with_reducible repeat (first | apply Kd.R_alloc | apply Kd.R_drewN | apply Kd.R_drew)); exact HO640.out) hb); have n2_ := Aside0.mk (Kd.R_lower ho0 (below_size (by repeat (first | (with_reducible first | exact HB.out | apply below_alloc | apply pw_below_drewN | apply below_drew1) | exact HB.out)))); have n3_ := Aside0.mk (below_step (by repeat (first | (with_reducible first | exact HB.out | apply below_alloc | apply pw_below_drewN | apply below_drew1) | exact HB.out)) hb); clear HO637; clear HO640; clear HB; have HO637 := n0_; have HO640 := n1_; have HO643 := n2_; have HB := n3_; clear n0_ n1_ n2_ n3_; (try clear hb); (try clear hb2); (try clear hk); (try clear hi); (try clear ho0); obtain ⟨Ao15, co15, eo15⟩ := Kd.R_slice HO643.out; subst eo15; have p644 : 0 ≤ (0 : Int) := (by omega); have q644 : 0 < (t641.length : Int) := of_decide_eq_true (by first | (with_reducible assumption) | assumption); obtain ⟨ad644, e644, hx644_0, hx644_1, hx644_2, hx644_3, hx644_4⟩ := at_T31 (Kd.R_reads' HO643.out).2.2 0 p644 q644; cases e644; have qi644 : (0 < t641.length) = True := eq_true (by omega); (try rw [show ((0 : Int)).toNat = 0 from rfl] at hx644_0); (try rw [show 0 * 5 = 0 from rfl] at hx644_0); (try rw [Addr.add_zero'] at hx644_0); (try rw [show ((0 : Int)).toNat = 0 from rfl] at hx644_1); (try rw [show 0 * 5 = 0 from rfl] at hx644_1); (try rw [Addr.add_zero'] at hx644_1); (try rw [show ((0 : Int)).toNat = 0 from rfl] at hx644_2); (try rw [show 0 * 5 = 0 from rfl] at hx644_2); (try rw [Addr.add_zero'] at hx644_2); (try rw [show ((0 : Int)).toNat = 0 from rfl] at hx644_3); (try rw [show 0 * 5 = 0 from rfl] at hx644_3); (try rw [Addr.add_zero'] at hx644_3); (try rw [show ((0 : Int)).toNat = 0 from rfl] at hx644_4); (try rw [show 0 * 5 = 0 from rfl] at hx644_4); (try rw [Addr.add_zero'] at hx644_4); replace p644 := eq_true p644; replace q644 := eq_true q644; have p645 : 0 ≤ (1 : Int) := (by omega); have q645 : 1 < (t641.length : Int) := of_decide_eq_true (by first | (with_reducible assumption) | assumption); obtain ⟨ad645, e645, hx645_0, hx645_1, hx645_2, hx645_3, hx645_4⟩ := at_T31 (Kd.R_reads' HO643.out).2.2 1 p645 q645; obtain rfl : ad644 = ad645 := (by injection e645); (try simp only [show (1 : Int).toNat = 1 from rfl, Nat.reduceMul, Nat.reduceEqDiff, Go.Addr.add, ↓reduceIte] at hx645_0); (try simp only [show (1 : Int).toNat = 1 from rfl, Nat.reduceMul, Nat.reduceEqDiff, Go.Addr.add, ↓reduceIte] at hx645_1); (try simp only [show (1 : Int).toNat = 1 from rfl, Nat.reduceMul, Nat.reduceEqDiff, Go.Addr.add, ↓reduceIte] at hx645_2); (try simp only [show (1 : Int).toNat = 1 from rfl, Nat.reduceMul, Nat.reduceEqDiff, Go.Addr.add, ↓reduceIte] at hx645_3); (try simp only [show (1 : Int).toNat = 1 from rfl, Nat.reduceMul, Nat.reduceEqDiff, Go.Addr.add, ↓reduceIte] at hx645_4); have qi645 : (1 < t641.length) = True := eq_true (by omega); (try rw [show ((1 : Int)).toNat = 1 from rfl] at hx645_0); (try rw [show 1 * 5 = 5 from rfl] at hx645_0); (try rw [show ((1 : Int)).toNat = 1 from rfl] at hx645_1); (try rw [show 1 * 5 = 5 from rfl] at hx645_1); (try rw [show ((1 : Int)).toNat = 1 from rfl] at hx645_2); (try rw [show 1 * 5 = 5 from rfl] at hx645_2); (try rw [show ((1 : Int)).toNat = 1 from rfl] at hx645_3); (try rw [show 1 * 5 = 5 from rfl] at hx645_3); (try rw [show ((1 : Int)).toNat = 1 from rfl] at hx645_4); (try rw [show 1 * 5 = 5 from rfl] at hx645_4); replace p645 := eq_true p645; replace q645 := eq_true q645; have p646 : 0 ≤ (2 : Int) := (by omega); have q646 : 2 < (t641.length : Int) := of_decide_eq_true (by first | (with_reducible assumption) | assumption); obtain ⟨ad646, e646, hx646_0, hx646_1, hx646_2, hx646_3, hx646_4⟩ := at_T31 (Kd.R_reads' HO643.out).2.2 2 p646 q646; obtain rfl : ad644 = ad646 := (by injection e646); (try simp only [show (2 : Int).toNat = 2 from rfl, Nat.reduceMul, Nat.reduceEqDiff, Go.Addr.add, ↓reduceIte] at hx646_0); (try simp only [show (2 : Int).toNat = 2 from rfl, Nat.reduceMul, Nat.reduceEqDiff, Go.Addr.add, ↓reduceIte] at hx646_1); (try simp only [show (2 : Int).toNat = 2 from rfl, Nat.reduceMul, Nat.reduceEqDiff, Go.Addr.add, ↓reduceIte] at hx646_2); (try simp only [show (2 : Int).toNat = 2 from rfl, Nat.reduceMul, Nat.reduceEqDiff, Go.Addr.add, ↓reduceIte] at hx646_3); (try simp only [show (2 : Int).toNat = 2 from rfl, Nat.reduceMul, Nat.reduceEqDiff, Go.Addr.add, ↓reduceIte] at hx646_4); have qi646 : (2 < t641.length) = True := eq_true (by omega); (try rw [show ((2 : Int)).toNat = 2 from rfl] at hx646_0); (try rw [show 2 * 5 = 10 from rfl] at hx646_0); (try rw [show ((2 : Int)).toNat = 2 from rfl] at hx646_1); (try rw [show 2 * 5 = 10 from rfl] at hx646_1); (try rw [show ((2 : Int)).toNat = 2 from rfl] at hx646_2); (try rw [show 2 * 5 = 10 from rfl] at hx646_2); (try rw [show ((2 : Int)).toNat = 2 from rfl] at hx646_3); (try rw [show 2 * 5 = 10 from rfl] at hx646_3); (try rw [show ((2 : Int)).toNat = 2 from rfl] at hx646_4); (try rw [show 2 * 5 = 10 from rfl] at hx646_4); replace p646 := eq_true p646; replace q646 := eq_true q646))
              go_ret
              exact ⟨by first | rfl | (simp [errW_none, errW_some] <;> rfl) | (simp [*, errW_none, errW_some] <;> rfl), by repeat (first | (with_reducible first | exact HB.out | apply below_alloc | apply pw_below_drewN | apply below_drew1) | exact HB.out)⟩
            · rw [if_neg c9] at H
              exact absurd H (by simp)
          · rw [if_neg c8] at H
            have c8b0 : (((rd_T31 t641 1).f0) == 11) = false := beq_eq_false_iff_ne.mpr c8
            have c8b1 : (((rd_T31 t641 1).f0) != 11) = true := bne_iff_ne.mpr c8
            obtain rfl := Option.some.inj H
            go_enter Tryd.func17, Tryd.ntmps17
            go_wp2_with (first | ((with_reducible refine gate_dst (N := 3) rfl ?_); (try (refine gate_guard (by rfl) ?_; dsimp only)); refine const_goes ?hg (N := 3) ?hd (t := 25) (e := 5) (s := (strOfNums [97, 58, 49, 46, 53, 101, 109])) (x := ?xo5) (C := ?cc5) (n := ?nn5) (c := ?kk5) (W := ?ww5) ?ho Tryd.underlying25 Tryd.underlying5 ?hC ?hn ?hc ?hx ?hW ?_; (case hd => rfl); (case hg => rfl); (case ho => rfl); (case hW => rfl); (case hx => first | rfl | (go_simp; done) | (go_simp; rfl)); (case hn => rfl); (case hc => rfl); (case hC => rfl); (with_reducible refine (constConv5.calls (strOfNums [97, 58, 49, 46, 53, 101, 109]) t635 _ A1.out).mono ?_); rintro e w16 ⟨v636, rfl, ho0, hb⟩; refine ⟨_, rfl, ?_⟩; have n0_ := Aside0.mk (Kd.V_lower (Kd.V_mono (ok' := fun k_ => True) ho0 (fun k_ hk_ => trivial)) (below_size (by repeat (first | (with_reducible first | exact HB.out | apply below_alloc | apply pw_below_drewN | apply below_drew1) | exact HB.out)))); have n1_ := Aside0.mk (below_step (by repeat (first | (with_reducible first | exact HB.out | apply below_alloc | apply pw_below_drewN | apply below_drew1) | exact HB.out)) hb); clear HB; have HO637 := n0_; have HB := n1_; clear n0_ n1_; (try clear hb); (try clear hb2); (try clear hk); (try clear hi); (try clear ho0); obtain ⟨Ao17, co17, eo17⟩ := Kd.V_slice HO637.out; subst eo17) | ((with_reducible refine gate_callee (f := 33) rfl ?_); refine goesL_ (some 4) rfl rfl Tryd.func33 (by kernel_rfl) rfl #[.slice Ao17 t635.length co17] rfl (by (try simp only [List.map_toArray, List.map_cons, List.map_nil]); first | done | rfl | (simp only [List.length_drop, List.length_take]; rfl)) ?_; (with_reducible refine (text_Prepare.calls _ _ t635 t638 _ ?side1 ?side2 ?side3 A2.out).mono ?_); (case side1 => repeat (first | exact (Kd.V_reads' HO637.out).2.2 | (with_reducible refine Kd.C_alloc ?_ _) | (with_reducible refine Kd.C_drewN ?_ _) | (with_reducible refine Kd.C_drew ?_))); (case side2 => exact (Kd.V_reads' HO637.out).2.1); (case side3 => exact TabsIn.below HT.out (by repeat (first | (with_reducible first | exact HB.out | apply below_alloc | apply pw_below_drewN | apply below_drew1) | exact HB.out))); rintro e w18 ⟨v639, rfl, ho0, hb⟩; refine ⟨_, rfl, ?_⟩; have n0_ := Aside0.mk (Kd.V_elder' (by (with_reducible repeat (first | apply Kd.V_alloc | apply Kd.V_drewN | apply Kd.V_drew)); exact HO637.out) (Kd.R_base ho0) hb); have n1_ := Aside0.mk (Kd.R_lower ho0 (below_size (by repeat (first | (with_reducible first | exact HB.out | apply below_alloc | apply pw_below_drewN | apply below_drew1) | exact HB.out)))); have n2_ := Aside0.mk (below_step (by repeat (first | (with_reducible first | exact HB.out | apply below_alloc | apply pw_below_drewN | apply below_drew1) | exact HB.out)) hb); clear HO637; clear HB; have HO637 := n0_; have HO640 := n1_; have HB := n2_; clear n0_ n1_ n2_; (try clear hb); (try clear hb2); (try clear hk); (try clear hi); (try clear ho0); obtain ⟨Ao19, co19, eo19⟩ := Kd.R_slice HO640.out; subst eo19) | ((with_reducible refine gate_callee (f := 26) rfl ?_); refine goesL_ (some 5) rfl rfl Tryd.func26 (by kernel_rfl) rfl #[.slice Ao19 t638.length co19] rfl (by (try simp only [List.map_toArray, List.map_cons, List.map_nil]); first | done | rfl | (simp only [List.length_drop, List.length_take]; rfl)) ?_; (with_reducible refine (tok_Tokens.calls k _ _ t638 t641 _ ?side1 ?side2 A3.out).mono ?_); (case side1 => repeat (first | exact (Kd.R_reads' HO640.out).2.2 | (with_reducible refine Kd.C_alloc ?_ _) | (with_reducible refine Kd.C_drewN ?_ _) | (with_reducible refine Kd.C_drew ?_))); (case side2 => exact (Kd.R_reads' HO640.out).2.1); rintro e w20 ⟨v642, rfl, ho0, hb⟩; refine ⟨_, rfl, ?_⟩; have n0_ := Aside0.mk (Kd.V_elder' (by (with_reducible repeat (first | apply Kd.V_alloc | apply Kd.V_drewN | apply Kd.V_drew)); exact HO637.out) (Kd.R_base ho0) hb); have n1_ := Aside0.mk (Kd.R_below (by (with_reducible repeat (first | apply Kd.R_alloc | apply Kd.R_drewN | apply Kd.R_drew)); exact HO640.out) hb); have n2_ := Aside0.mk (Kd.R_lower ho0 (below_size (by repeat (first | (with_reducible first | exact HB.out | apply below_alloc | apply pw_below_drewN | apply below_drew1) | exact HB.out)))); have n3_ := Aside0.mk (below_step (by repeat (first | (with_reducible first | exact HB.out | apply below_alloc | apply pw_below_drewN | apply below_drew1) | exact HB.out)) hb); clear HO637; clear HO640; clear HB; have HO637 := n0_; have HO640 := n1_; have HO643 := n2_; have HB := n3_; clear n0_ n1_ n2_ n3_; (try clear hb); (try clear hb2); (try clear hk); (try clear hi); (try clear ho0); obtain ⟨Ao21, co21, eo21⟩ := Kd.R_slice HO643.out; subst eo21; have p644 : 0 ≤ (0 : Int) := (by omega); have q644 : 0 < (t641.length : Int) := of_decide_eq_true (by first | (with_reducible assumption) | assumption); obtain ⟨ad644, e644, hx644_0, hx644_1, hx644_2, hx644_3, hx644_4⟩ := at_T31 (Kd.R_reads' HO643.out).2.2 0 p644 q644; cases e644; have qi644 : (0 < t641.length) = True := eq_true (by omega); (try rw [show ((0 : Int)).toNat = 0 from rfl] at hx644_0); (try rw [show 0 * 5 = 0 from rfl] at hx644_0); (try rw [Addr.add_zero'] at hx644_0); (try rw [show ((0 : Int)).toNat = 0 from rfl] at hx644_1); (try rw [show 0 * 5 = 0 from rfl] at hx644_1); (try rw [Addr.add_zero'] at hx644_1); (try rw [show ((0 : Int)).toNat = 0 from rfl] at hx644_2); (try rw [show 0 * 5 = 0 from rfl] at hx644_2); (try rw [Addr.add_zero'] at hx644_2); (try rw [show ((0 : Int)).toNat = 0 from rfl] at hx644_3); (try rw [show 0 * 5 = 0 from rfl] at hx644_3); (try rw [Addr.add_zero'] at hx644_3); (try rw [show ((0 : Int)).toNat = 0 from rfl] at hx644_4); (try rw [show 0 * 5 = 0 from rfl] at hx644_4); (try rw [Addr.add_zero'] at hx644_4); replace p644 := eq_true p644; replace q644 := eq_true q644; have p645 : 0 ≤ (1 : Int) := (by omega); have q645 : 1 < (t641.length : Int) := of_decide_eq_true (by first | (with_reducible assumption) | assumption); obtain ⟨ad645, e645, hx645_0, hx645_1, hx645_2, hx645_3, hx645_4⟩ := at_T31 (Kd.R_reads' HO643.out).2.2 1 p645 q645; obtain rfl : ad644 = ad645 := (by injection e645); (try simp only [show (1 : Int).toNat = 1 from rfl, Nat.reduceMul, Nat.reduceEqDiff, Go.Addr.add, ↓reduceIte] at hx645_0); (try simp only [show (1 : Int).toNat = 1 from rfl, Nat.reduceMul, Nat.reduceEqDiff, Go.Addr.add, ↓reduceIte] at hx645_1); (try simp only [show (1 : Int).toNat = 1 from rfl, Nat.reduceMul, Nat.reduceEqDiff, Go.Addr.add, ↓reduceIte] at hx645_2); (try simp only [show (1 : Int).toNat = 1 from rfl, Nat.reduceMul, Nat.reduceEqDiff, Go.Addr.add, ↓reduceIte] at hx645_3); (try simp only [show (1 : Int).toNat = 1 from rfl, Nat.reduceMul, Nat.reduceEqDiff, Go.Addr.add, ↓reduceIte] at hx645_4); have qi645 : (1 < t641.length) = True := eq_true (by omega); (try rw [show ((1 : Int)).toNat = 1 from rfl] at hx645_0); (try rw [show 1 * 5 = 5 from rfl] at hx645_0); (try rw [show ((1 : Int)).toNat = 1 from rfl] at hx645_1); (try rw [show 1 * 5 = 5 from rfl] at hx645_1); (try rw [show ((1 : Int)).toNat = 1 from rfl] at hx645_2); (try rw [show 1 * 5 = 5 from rfl] at hx645_2); (try rw [show ((1 : Int)).toNat = 1 from rfl] at hx645_3); (try rw [show 1 * 5 = 5 from rfl] at hx645_3); (try rw [show ((1 : Int)).toNat = 1 from rfl] at hx645_4); (try rw [show 1 * 5 = 5 from rfl] at hx645_4); replace p645 := eq_true p645; replace q645 := eq_true q645))
            go_ret
            exact ⟨by first | rfl | (simp [errW_none, errW_some] <;> rfl) | (simp [*, errW_none, errW_some] <;> rfl), by repeat (first | (with_reducible first | exact HB.out | apply below_alloc | apply pw_below_drewN | apply below_drew1) | exact HB.out)⟩
        · rw [if_neg c7] at H
          exact absurd H (by simp)
      · rw [if_neg c6] at H
        have c6b0 : (((rd_T31 t641 0).f0) == 1 && ((((rd_T31 t641 0).f1).toList) == ([97] : List UInt8) && (((rd_T31 t641 0).f2) == 0 && (!((rd_T31 t641 0).f3) && (((rd_T31 t641 0).f4) == 0))))) = false := by simpa using c6
        (try (have c6b1 : decide (((rd_T31 t641 0).f0) = 1 && ((((rd_T31 t641 0).f1).toList) == ([97] : List UInt8) && (((rd_T31 t641 0).f2) == 0 && (!((rd_T31 t641 0).f3) && (((rd_T31 t641 0).f4) == 0))))) = false := by simpa using c6))
        (try (have c6b2 : (((rd_T31 t641 0).f0) == 1 && ((((rd_T31 t641 0).f1).toList) == ([97] : List UInt8) && (((rd_T31 t641 0).f2) == 0 && (!((rd_T31 t641 0).f3) && (((rd_T31 t641 0).f4) == 0))))) = false := by simpa using c6))
        (try (have c6b3 : ¬ (((rd_T31 t641 0).f0) = 1 && ((((rd_T31 t641 0).f1).toList) == ([97] : List UInt8) && (((rd_T31 t641 0).f2) == 0 && (!((rd_T31 t641 0).f3) && (((rd_T31 t641 0).f4) == 0))))) := by simpa using c6))
        clear c6
        obtain rfl := Option.some.inj H
        go_enter Tryd.func17, Tryd.ntmps17
        go_wp2_with (first | ((with_reducible refine gate_dst (N := 3) rfl ?_); (try (refine gate_guard (by rfl) ?_; dsimp only)); refine const_goes ?hg (N := 3) ?hd (t := 25) (e := 5) (s := (strOfNums [97, 58, 49, 46, 53, 101, 109])) (x := ?xo6) (C := ?cc6) (n := ?nn6) (c := ?kk6) (W := ?ww6) ?ho Tryd.underlying25 Tryd.underlying5 ?hC ?hn ?hc ?hx ?hW ?_; (case hd => rfl); (case hg => rfl); (case ho => rfl); (case hW => rfl); (case hx => first | rfl | (go_simp; done) | (go_simp; rfl)); (case hn => rfl); (case hc => rfl); (case hC => rfl); (with_reducible refine (constConv5.calls (strOfNums [97, 58, 49, 46, 53, 101, 109]) t635 _ A1.out).mono ?_); rintro e w22 ⟨v636, rfl, ho0, hb⟩; refine ⟨_, rfl, ?_⟩; have n0_ := Aside0.mk (Kd.V_lower (Kd.V_mono (ok' := fun k_ => True) ho0 (fun k_ hk_ => trivial)) (below_size (by repeat (first | (with_reducible first | exact HB.out | apply below_alloc | apply pw_below_drewN | apply below_drew1) | exact HB.out)))); have n1_ := Aside0.mk (below_step (by repeat (first | (with_reducible first | exact HB.out | apply below_alloc | apply pw_below_drewN | apply below_drew1) | exact HB.out)) hb); clear HB; have HO637 := n0_; have HB := n1_; clear n0_ n1_; (try clear hb); (try clear hb2); (try clear hk); (try clear hi); (try clear ho0); obtain ⟨Ao23, co23, eo23⟩ := Kd.V_slice HO637.out; subst eo23) | ((with_reducible refine gate_callee (f := 33) rfl ?_); refine goesL_ (some 4) rfl rfl Tryd.func33 (by kernel_rfl) rfl #[.slice Ao23 t635.length co23] rfl (by (try simp only [List.map_toArray, List.map_cons, List.map_nil]); first | done | rfl | (simp only [List.length_drop, List.length_take]; rfl)) ?_; (with_reducible refine (text_Prepare.calls _ _ t635 t638 _ ?side1 ?side2 ?side3 A2.out).mono ?_); (case side1 => repeat (first | exact (Kd.V_reads' HO637.out).2.2 | (with_reducible refine Kd.C_alloc ?_ _) | (with_reducible refine Kd.C_drewN ?_ _) | (with_reducible refine Kd.C_drew ?_))); (case side2 => exact (Kd.V_reads' HO637.out).2.1); (case side3 => exact TabsIn.below HT.out (by repeat (first | (with_reducible first | exact HB.out | apply below_alloc | apply pw_below_drewN | apply below_drew1) | exact HB.out))); rintro e w24 ⟨v639, rfl, ho0, hb⟩; refine ⟨_, rfl, ?_⟩; have n0_ := Aside0.mk (Kd.V_elder' (by (with_reducible repeat (first | apply Kd.V_alloc | apply Kd.V_drewN | apply Kd.V_drew)); exact HO637.out) (Kd.R_base ho0) hb); have n1_ := Aside0.mk (Kd.R_lower ho0 (below_size (by repeat (first | (with_reducible first | exact HB.out | apply below_alloc | apply pw_below_drewN | apply below_drew1) | exact HB.out)))); have n2_ := Aside0.mk (below_step (by repeat (first | (with_reducible first | exact HB.out | apply below_alloc | apply pw_below_drewN | apply below_drew1) | exact HB.out)) hb); clear HO637; clear HB; have HO637 := n0_; have HO640 := n1_; have HB := n2_; clear n0_ n1_ n2_; (try clear hb); (try clear hb2); (try clear hk); (try clear hi); (try clear ho0); obtain ⟨Ao25, co25, eo25⟩ := Kd.R_slice HO640.out; subst eo25) | ((with_reducible refine gate_callee (f := 26) rfl ?_); refine goesL_ (some 5) rfl rfl Tryd.func26 (by kernel_rfl) rfl #[.slice Ao25 t638.length co25] rfl (by (try simp only [List.map_toArray, List.map_cons, List.map_nil]); first | done | rfl | (simp only [List.length_drop, List.length_take]; rfl)) ?_; (with_reducible refine (tok_Tokens.calls k _ _ t638 t641 _ ?side1 ?side2 A3.out).mono ?_); (case side1 => repeat (first | exact (Kd.R_reads' HO640.out).2.2 | (with_reducible refine Kd.C_alloc ?_ _) | (with_reducible refine Kd.C_drewN ?_ _) | (with_reducible refine Kd.C_drew ?_))); (case side2 => exact (Kd.R_reads' HO640.out).2.1); rintro e w26 ⟨v642, rfl, ho0, hb⟩; refine ⟨_, rfl, ?_⟩; have n0_ := Aside0.mk (Kd.V_elder' (by (with_reducible repeat (first | apply Kd.V_alloc | apply Kd.V_drewN | apply Kd.V_drew)); exact HO637.out) (Kd.R_base ho0) hb); have n1_ := Aside0.mk (Kd.R_below (by (with_reducible repeat (first | apply Kd.R_alloc | apply Kd.R_drewN | apply Kd.R_drew)); exact HO640.out) hb); have n2_ := Aside0.mk (Kd.R_lower ho0 (below_size (by repeat (first | (with_reducible first | exact HB.out | apply below_alloc | apply pw_below_drewN | apply below_drew1) | exact HB.out)))); have n3_ := Aside0.mk (below_step (by repeat (first | (with_reducible first | exact HB.out | apply below_alloc | apply pw_below_drewN | apply below_drew1) | exact HB.out)) hb); clear HO637; clear HO640; clear HB; have HO637 := n0_; have HO640 := n1_; have HO643 := n2_; have HB := n3_; clear n0_ n1_ n2_ n3_; (try clear hb); (try clear hb2); (try clear hk); (try clear hi); (try clear ho0); obtain ⟨Ao27, co27, eo27⟩ := Kd.R_slice HO643.out; subst eo27; have p644 : 0 ≤ (0 : Int) := (by omega); have q644 : 0 < (t641.length : Int) := of_decide_eq_true (by first | (with_reducible assumption) | assumption); obtain ⟨ad644, e644, hx644_0, hx644_1, hx644_2, hx644_3, hx644_4⟩ := at_T31 (Kd.R_reads' HO643.out).2.2 0 p644 q644; cases e644; have qi644 : (0 < t641.length) = True := eq_true (by omega); (try rw [show ((0 : Int)).toNat = 0 from rfl] at hx644_0); (try rw [show 0 * 5 = 0 from rfl] at hx644_0); (try rw [Addr.add_zero'] at hx644_0); (try rw [show ((0 : Int)).toNat = 0 from rfl] at hx644_1); (try rw [show 0 * 5 = 0 from rfl] at hx644_1); (try rw [Addr.add_zero'] at hx644_1); (try rw [show ((0 : Int)).toNat = 0 from rfl] at hx644_2); (try rw [show 0 * 5 = 0 from rfl] at hx644_2); (try rw [Addr.add_zero'] at hx644_2); (try rw [show ((0 : Int)).toNat = 0 from rfl] at hx644_3); (try rw [show 0 * 5 = 0 from rfl] at hx644_3); (try rw [Addr.add_zero'] at hx644_3); (try rw [show ((0 : Int)).toNat = 0 from rfl] at hx644_4); (try rw [show 0 * 5 = 0 from rfl] at hx644_4); (try rw [Addr.add_zero'] at hx644_4); replace p644 := eq_true p644; replace q644 := eq_true q644))
        go_ret
        exact ⟨by first | rfl | (simp [errW_none, errW_some] <;> rfl) | (simp [*, errW_none, errW_some] <;> rfl), by repeat (first | (with_reducible first | exact HB.out | apply below_alloc | apply pw_below_drewN | apply below_drew1) | exact HB.out)⟩
    · rw [if_neg c5] at H
      exact absurd H (by simp)
  · rw [if_neg c4] at H
    have c4b0 : ((t641.length : Int) == 3) = false := beq_eq_false_iff_ne.mpr c4
    have c4b1 : ((t641.length : Int) != 3) = true := bne_iff_ne.mpr c4
    obtain rfl := Option.some.inj H
    go_enter Tryd.func17, Tryd.ntmps17
    go_wp2_with (first | ((with_reducible refine gate_dst (N := 3) rfl ?_); (try (refine gate_guard (by rfl) ?_; dsimp only)); refine const_goes ?hg (N := 3) ?hd (t := 25) (e := 5) (s := (strOfNums [97, 58, 49, 46, 53, 101, 109])) (x := ?xo7) (C := ?cc7) (n := ?nn7) (c := ?kk7) (W := ?ww7) ?ho Tryd.underlying25 Tryd.underlying5 ?hC ?hn ?hc ?hx ?hW ?_; (case hd => rfl); (case hg => rfl); (case ho => rfl); (case hW => rfl); (case hx => first | rfl | (go_simp; done) | (go_simp; rfl)); (case hn => rfl); (case hc => rfl); (case hC => rfl); (with_reducible refine (constConv5.calls (strOfNums [97, 58, 49, 46, 53, 101, 109]) t635 _ A1.out).mono ?_); rintro e w28 ⟨v636, rfl, ho0, hb⟩; refine ⟨_, rfl, ?_⟩; have n0_ := Aside0.mk (Kd.V_lower (Kd.V_mono (ok' := fun k_ => True) ho0 (fun k_ hk_ => trivial)) (below_size (by repeat (first | (with_reducible first | exact HB.out | apply below_alloc | apply pw_below_drewN | apply below_drew1) | exact HB.out)))); have n1_ := Aside0.mk (below_step (by repeat (first | (with_reducible first | exact HB.out | apply below_alloc | apply pw_below_drewN | apply below_drew1) | exact HB.out)) hb); clear HB; have HO637 := n0_; have HB := n1_; clear n0_ n1_; (try clear hb); (try clear hb2); (try clear hk); (try clear hi); (try clear ho0); obtain ⟨Ao29, co29, eo29⟩ := Kd.V_slice HO637.out; subst eo29) | ((with_reducible refine gate_callee (f := 33) rfl ?_); refine goesL_ (some 4) rfl rfl Tryd.func33 (by kernel_rfl) rfl #[.slice Ao29 t635.length co29] rfl (by (try simp only [List.map_toArray, List.map_cons, List.map_nil]); first | done | rfl | (simp only [List.length_drop, List.length_take]; rfl)) ?_; (with_reducible refine (text_Prepare.calls _ _ t635 t638 _ ?side1 ?side2 ?side3 A2.out).mono ?_); (case side1 => repeat (first | exact (Kd.V_reads' HO637.out).2.2 | (with_reducible refine Kd.C_alloc ?_ _) | (with_reducible refine Kd.C_drewN ?_ _) | (with_reducible refine Kd.C_drew ?_))); (case side2 => exact (Kd.V_reads' HO637.out).2.1); (case side3 => exact TabsIn.below HT.out (by repeat (first | (with_reducible first | exact HB.out | apply below_alloc | apply pw_below_drewN | apply below_drew1) | exact HB.out))); rintro e w30 ⟨v639, rfl, ho0, hb⟩; refine ⟨_, rfl, ?_⟩; have n0_ := Aside0.mk (Kd.V_elder' (by (with_reducible repeat (first | apply Kd.V_alloc | apply Kd.V_drewN | apply Kd.V_drew)); exact HO637.out) (Kd.R_base ho0) hb); have n1_ := Aside0.mk (Kd.R_lower ho0 (below_size (by repeat (first | (with_reducible first | exact HB.out | apply below_alloc | apply pw_below_drewN | apply below_drew1) | exact HB.out)))); have n2_ := Aside0.mk (below_step (by repeat (first | (with_reducible first | exact HB.out | apply below_alloc | apply pw_below_drewN | apply below_drew1) | exact HB.out)) hb); clear HO637; clear HB; have HO637 := n0_; have HO640 := n1_; have HB := n2_; clear n0_ n1_ n2_; (try clear hb); (try clear hb2); (try clear hk); (try clear hi); (try clear ho0); obtain ⟨Ao31, co31, eo31⟩ := Kd.R_slice HO640.out; subst eo31) | ((with_reducible refine gate_callee (f := 26) rfl ?_); refine goesL_ (some 5) rfl rfl Tryd.func26 (by kernel_rfl) rfl #[.slice Ao31 t638.length co31] rfl (by (try simp only [List.map_toArray, List.map_cons, List.map_nil]); first | done | rfl | (simp only [List.length_drop, List.length_take]; rfl)) ?_; (with_reducible refine (tok_Tokens.calls k _ _ t638 t641 _ ?side1 ?side2 A3.out).mono ?_); (case side1 => repeat (first | exact (Kd.R_reads' HO640.out).2.2 | (with_reducible refine Kd.C_alloc ?_ _) | (with_reducible refine Kd.C_drewN ?_ _) | (with_reducible refine Kd.C_drew ?_))); (case side2 => exact (Kd.R_reads' HO640.out).2.1); rintro e w32 ⟨v642, rfl, ho0, hb⟩; refine ⟨_, rfl, ?_⟩; have n0_ := Aside0.mk (Kd.V_elder' (by (with_reducible repeat (first | apply Kd.V_alloc | apply Kd.V_drewN | apply Kd.V_drew)); exact HO637.out) (Kd.R_base ho0) hb); have n1_ := Aside0.mk (Kd.R_below (by (with_reducible repeat (first | apply Kd.R_alloc | apply Kd.R_drewN | apply Kd.R_drew)); exact HO640.out) hb); have n2_ := Aside0.mk (Kd.R_lower ho0 (below_size (by repeat (first | (with_reducible first | exact HB.out | apply below_alloc | apply pw_below_drewN | apply below_drew1) | exact HB.out)))); have n3_ := Aside0.mk (below_step (by repeat (first | (with_reducible first | exact HB.out | apply below_alloc | apply pw_below_drewN | apply below_drew1) | exact HB.out)) hb); clear HO637; clear HO640; clear HB; have HO637 := n0_; have HO640 := n1_; have HO643 := n2_; have HB := n3_; clear n0_ n1_ n2_ n3_; (try clear hb); (try clear hb2); (try clear hk); (try clear hi); (try clear ho0); obtain ⟨Ao33, co33, eo33⟩ := Kd.R_slice HO643.out; subst eo33))
    go_ret
    exact ⟨by first | rfl | (simp [errW_none, errW_some] <;> rfl) | (simp [*, errW_none, errW_some] <;> rfl), by repeat (first | (with_reducible first | exact HB.out | apply below_alloc | apply pw_below_drewN | apply below_drew1) | exact HB.out)⟩
end Go.Proofs.YtplkkmmojanclaaDoor.Q
