/- Part of the proof; printed or typed in this session; unused declarations and remarks struck by a program (wip/prune.py). -/
import Derived.Test.YtplkkmmojanclaaDoorCQ0
import Derived.Test.YtplkkmmojanclaaDoorCQ16
import Derived.Test.YtplkkmmojanclaaDoorCQ17
set_option linter.all false
namespace Go.Proofs.YtplkkmmojanclaaDoor.Q
open Go.RowKit Go.Proofs.YtplkkmmojanclaaDoor.My Go.Proofs.YtplkkmmojanclaaDoorW.PrintWords Go.Proofs.YtplkkmmojanclaaDoorW.PrintLast Go.Proofs.YtplkkmmojanclaaDoorW.PrintMore
attribute [local go_sem] max2_int min2_int max_two min_two max_three min_three max_four min_four
set_option linter.unusedVariables false
set_option linter.unusedSimpArgs false
mutual
def tapestrierlaw4_TokParts.j0 : Nat → List Int → List Int → Bool → Bool → Option (Bool)
  | 0, _, _, _, _ => none
  | k + 1, x0, x1, x5, x23 => if x23 = true then (some x5) else (tapestrierlaw4_TokParts.l0 k x0 x1 0)
def tapestrierlaw4_TokParts.l0 : Nat → List Int → List Int → Int → Option (Bool)
  | 0, _, _, _ => none
  | k + 1, x0, x1, x6 => if x6 < (x0.length : Int) then (if 0 ≤ x6 then (if (rd x0 x6) = 34 then (some true) else (if (rd x0 x6) = 39 then (some true) else (if (rd x0 x6) = 92 then (some true) else (if (rd x0 x6) = 47 then (some true) else (tapestrierlaw4_TokParts.l0 k x0 x1 (wrap64 (x6 + 1))))))) else (none)) else (tapestrierlaw4_TokParts.l1 k x0 x1 0)
def tapestrierlaw4_TokParts.j3 : Nat → List Int → List Int → Option (Bool)
  | 0, _, _ => none
  | k + 1, x0, x1 => if ([] : List Int).length + x0.length < 140737488355328 then ((some (([] : List Int) ++ x0 : List Int)).bind fun y888 => (if y888.length < 140737488355328 then ((tapestrierlaw4_Of.f k (y888 ++ [59])).bind fun t894 => ((tapestrierlaw4_Of.f k x1).bind fun t897 => ((some (([] : List Int) ++ x0 : List Int)).bind fun y900 => (if y900.length + 2 < 140737488355328 then ((some (y900 ++ bytesOf (⟨#[59, 32]⟩ : ByteArray) : List Int)).bind fun y903 => (if y903.length + x1.length < 140737488355328 then ((tapestrierlaw4_Of.f k (y903 ++ x1)).bind fun t909 => (if ([] : List (S31)).length + t894.length < 2932031007402 then ((some (([] : List (S31)) ++ t894 : List (S31))).bind fun y912 => (if y912.length < 2932031007402 then ((some (y912 ++ [(⟨9, (⟨#[]⟩ : ByteArray), 0, false, 0⟩ : S31)] : List (S31))).bind fun y915 => (if y915.length + t897.length < 2932031007402 then ((tapestrierref1_SameTokens.f k t909 (y915 ++ t897)).bind fun t921 => (some t921)) else (none))) else (none))) else (none))) else (none))) else (none))))) else (none))) else (none)
def tapestrierlaw4_TokParts.l1 : Nat → List Int → List Int → Int → Option (Bool)
  | 0, _, _, _ => none
  | k + 1, x0, x1, x7 => if x7 < (x1.length : Int) then (if 0 ≤ x7 then (if (rd x1 x7) = 10 then (some true) else (if (rd x1 x7) = 13 then (some true) else (if (rd x1 x7) = 12 then (some true) else (if (rd x1 x7) = 9 then (some true) else (if (rd x1 x7) = 32 then (some true) else (tapestrierlaw4_TokParts.j3 k x0 x1)))))) else (none)) else (tapestrierlaw4_TokParts.j3 k x0 x1)
end
def tapestrierlaw4_TokParts.f (k : Nat) (l0 : List Int) (l1 : List Int) : Option (Bool) := (tapestrierlaw4_alive.f k).bind fun t878 => (if t878 = true then (if (l0.length : Int) > 500 then (tapestrierlaw4_TokParts.j0 k l0 l1 t878 true) else (tapestrierlaw4_TokParts.j0 k l0 l1 t878 (decide ((l1.length : Int) > 500)))) else (tapestrierlaw4_TokParts.j0 k l0 l1 t878 true))
theorem tapestrierlaw4_TokParts.mono_l : ∀ k, (∀ y0 y1 y2 y3, LeO (tapestrierlaw4_TokParts.j0 k y0 y1 y2 y3) (tapestrierlaw4_TokParts.j0 (k + 1) y0 y1 y2 y3)) ∧ (∀ y0 y1 y2, LeO (tapestrierlaw4_TokParts.l0 k y0 y1 y2) (tapestrierlaw4_TokParts.l0 (k + 1) y0 y1 y2)) ∧ (∀ y0 y1, LeO (tapestrierlaw4_TokParts.j3 k y0 y1) (tapestrierlaw4_TokParts.j3 (k + 1) y0 y1)) ∧ (∀ y0 y1 y2, LeO (tapestrierlaw4_TokParts.l1 k y0 y1 y2) (tapestrierlaw4_TokParts.l1 (k + 1) y0 y1 y2))
  | 0 => ⟨fun _ _ _ _ r h => by simp [tapestrierlaw4_TokParts.j0] at h, fun _ _ _ r h => by simp [tapestrierlaw4_TokParts.l0] at h, fun _ _ r h => by simp [tapestrierlaw4_TokParts.j3] at h, fun _ _ _ r h => by simp [tapestrierlaw4_TokParts.l1] at h⟩
  | k + 1 => by
    obtain ⟨ih0, ih1, ih2, ih3⟩ := tapestrierlaw4_TokParts.mono_l k
    refine ⟨?_, ?_, ?_, ?_⟩
    · intro y0 y1 y2 y3
      unfold tapestrierlaw4_TokParts.j0
      repeat' first
      | (with_reducible exact ih0 _ _ _ _)
      | (with_reducible exact ih1 _ _ _)
      | (with_reducible exact ih2 _ _)
      | (with_reducible exact ih3 _ _ _)
      | (with_reducible exact tapestrierlaw4_Of.mono _ _)
      | (with_reducible exact tapestrierlaw4_alive.mono _)
      | (with_reducible exact tapestrierref1_SameTokens.mono _ _ _)
      | (with_reducible exact LeO.refl _)
      | (with_reducible exact LeO.none _)
      | (with_reducible refine LeO.ite ?_ ?_)
      | (with_reducible refine LeO.bind ?_ (fun _ => ?_))
      | exact ih0 _ _ _ _
      | exact ih1 _ _ _
      | exact ih2 _ _
      | exact ih3 _ _ _
      | exact tapestrierlaw4_Of.mono _ _
      | exact tapestrierlaw4_alive.mono _
      | exact tapestrierref1_SameTokens.mono _ _ _
      | exact LeO.none _
      | refine LeO.ite ?_ ?_
      | refine LeO.bind ?_ (fun _ => ?_)
    · intro y0 y1 y2
      unfold tapestrierlaw4_TokParts.l0
      repeat' first
      | (with_reducible exact ih0 _ _ _ _)
      | (with_reducible exact ih1 _ _ _)
      | (with_reducible exact ih2 _ _)
      | (with_reducible exact ih3 _ _ _)
      | (with_reducible exact tapestrierlaw4_Of.mono _ _)
      | (with_reducible exact tapestrierlaw4_alive.mono _)
      | (with_reducible exact tapestrierref1_SameTokens.mono _ _ _)
      | (with_reducible exact LeO.refl _)
      | (with_reducible exact LeO.none _)
      | (with_reducible refine LeO.ite ?_ ?_)
      | (with_reducible refine LeO.bind ?_ (fun _ => ?_))
      | exact ih0 _ _ _ _
      | exact ih1 _ _ _
      | exact ih2 _ _
      | exact ih3 _ _ _
      | exact tapestrierlaw4_Of.mono _ _
      | exact tapestrierlaw4_alive.mono _
      | exact tapestrierref1_SameTokens.mono _ _ _
      | exact LeO.none _
      | refine LeO.ite ?_ ?_
      | refine LeO.bind ?_ (fun _ => ?_)
    · intro y0 y1
      unfold tapestrierlaw4_TokParts.j3
      repeat' first
      | (with_reducible exact ih0 _ _ _ _)
      | (with_reducible exact ih1 _ _ _)
      | (with_reducible exact ih2 _ _)
      | (with_reducible exact ih3 _ _ _)
      | (with_reducible exact tapestrierlaw4_Of.mono _ _)
      | (with_reducible exact tapestrierlaw4_alive.mono _)
      | (with_reducible exact tapestrierref1_SameTokens.mono _ _ _)
      | (with_reducible exact LeO.refl _)
      | (with_reducible exact LeO.none _)
      | (with_reducible refine LeO.ite ?_ ?_)
      | (with_reducible refine LeO.bind ?_ (fun _ => ?_))
      | exact ih0 _ _ _ _
      | exact ih1 _ _ _
      | exact ih2 _ _
      | exact ih3 _ _ _
      | exact tapestrierlaw4_Of.mono _ _
      | exact tapestrierlaw4_alive.mono _
      | exact tapestrierref1_SameTokens.mono _ _ _
      | exact LeO.none _
      | refine LeO.ite ?_ ?_
      | refine LeO.bind ?_ (fun _ => ?_)
    · intro y0 y1 y2
      unfold tapestrierlaw4_TokParts.l1
      repeat' first
      | (with_reducible exact ih0 _ _ _ _)
      | (with_reducible exact ih1 _ _ _)
      | (with_reducible exact ih2 _ _)
      | (with_reducible exact ih3 _ _ _)
      | (with_reducible exact tapestrierlaw4_Of.mono _ _)
      | (with_reducible exact tapestrierlaw4_alive.mono _)
      | (with_reducible exact tapestrierref1_SameTokens.mono _ _ _)
      | (with_reducible exact LeO.refl _)
      | (with_reducible exact LeO.none _)
      | (with_reducible refine LeO.ite ?_ ?_)
      | (with_reducible refine LeO.bind ?_ (fun _ => ?_))
      | exact ih0 _ _ _ _
      | exact ih1 _ _ _
      | exact ih2 _ _
      | exact ih3 _ _ _
      | exact tapestrierlaw4_Of.mono _ _
      | exact tapestrierlaw4_alive.mono _
      | exact tapestrierref1_SameTokens.mono _ _ _
      | exact LeO.none _
      | refine LeO.ite ?_ ?_
      | refine LeO.bind ?_ (fun _ => ?_)
theorem tapestrierlaw4_TokParts.mono : ∀ a0 a1 k, LeO (tapestrierlaw4_TokParts.f k a0 a1) (tapestrierlaw4_TokParts.f (k + 1) a0 a1) := by
  intro a0 a1 k
  obtain ⟨ih0, ih1, ih2, ih3⟩ := tapestrierlaw4_TokParts.mono_l k
  unfold tapestrierlaw4_TokParts.f
  repeat' first
      | (with_reducible exact ih0 _ _ _ _)
      | (with_reducible exact ih1 _ _ _)
      | (with_reducible exact ih2 _ _)
      | (with_reducible exact ih3 _ _ _)
      | (with_reducible exact tapestrierlaw4_Of.mono _ _)
      | (with_reducible exact tapestrierlaw4_alive.mono _)
      | (with_reducible exact tapestrierref1_SameTokens.mono _ _ _)
      | (with_reducible exact LeO.refl _)
      | (with_reducible exact LeO.none _)
      | (with_reducible refine LeO.ite ?_ ?_)
      | (with_reducible refine LeO.bind ?_ (fun _ => ?_))
      | exact ih0 _ _ _ _
      | exact ih1 _ _ _
      | exact ih2 _ _
      | exact ih3 _ _ _
      | exact tapestrierlaw4_Of.mono _ _
      | exact tapestrierlaw4_alive.mono _
      | exact tapestrierref1_SameTokens.mono _ _ _
      | exact LeO.none _
      | refine LeO.ite ?_ ?_
      | refine LeO.bind ?_ (fun _ => ?_)
set_option maxHeartbeats 8000000 in
set_option maxRecDepth 100000 in
theorem tapestrierlaw4_TokParts.calls (k : Nat) (A0 : Option Addr) (c0 : Nat) (l0 : List Int) (A1 : Option Addr) (c1 : Nat) (l1 : List Int) (r : Bool) (w : World) (hr0 : Kd.C (Kd.int .u8) w A0 l0.length l0) (hc0 : l0.length ≤ c0) (hr1 : Kd.C (Kd.int .u8) w A1 l1.length l1) (hc1 : l1.length ≤ c1) (hT : TabsIn w) (h : tapestrierlaw4_TokParts.f k l0 l1 = some r) :
    Calls Tryd.prog 10 #[.slice A0 l0.length c0, .slice A1 l1.length c1] w fun e w' => e = .returned (.bool r) ∧ Below w.heap.size w w' := by
  have hu31 := Tryd.underlying31
  have HR0 := Aside0.mk hr0
  have HC0 := Aside0.mk hc0
  clear hr0 hc0
  have HR1 := Aside0.mk hr1
  have HC1 := Aside0.mk hc1
  clear hr1 hc1
  have HT := Aside0.mk hT
  clear hT
  have HB := Aside0.mk (Below.refl w.heap.size w)
  have H : ((tapestrierlaw4_alive.f k).bind fun t878 => (if t878 = true then (if (l0.length : Int) > 500 then (tapestrierlaw4_TokParts.j0 k l0 l1 t878 true) else (tapestrierlaw4_TokParts.j0 k l0 l1 t878 (decide ((l1.length : Int) > 500)))) else (tapestrierlaw4_TokParts.j0 k l0 l1 t878 true))) = some r := h
  clear h
  replace H := Option.bind_eq_some_iff.mp H
  obtain ⟨t878, A30, H⟩ := H
  replace H : (if t878 = true then (if (l0.length : Int) > 500 then (tapestrierlaw4_TokParts.j0 k l0 l1 t878 true) else (tapestrierlaw4_TokParts.j0 k l0 l1 t878 (decide ((l1.length : Int) > 500)))) else (tapestrierlaw4_TokParts.j0 k l0 l1 t878 true)) = some r := H
  have A3 := Aside0.mk A30
  clear A30
  have HC4 := Aside0.mk H
  clear H
  go_enter Tryd.func10, Tryd.ntmps10
  go_upto_region 2 with (first | ((with_reducible refine gate_callee (f := 17) rfl ?_); refine goesL_ (some 11) rfl rfl Tryd.func17 (by kernel_rfl) rfl #[] rfl (by (try simp only [List.map_toArray, List.map_cons, List.map_nil]); first | done | rfl | (simp only [List.length_drop, List.length_take]; rfl)) ?_; (with_reducible refine (tapestrierlaw4_alive.calls k  t878 _ ?side1 A3.out).mono ?_); (case side1 => exact TabsIn.below HT.out (by repeat (first | (with_reducible first | exact HB.out | apply below_alloc | apply pw_below_drewN | apply below_drew1) | exact HB.out))); rintro e w5 ⟨rfl, hb⟩; refine ⟨_, rfl, ?_⟩; have n0_ := Aside0.mk (below_step (by repeat (first | (with_reducible first | exact HB.out | apply below_alloc | apply pw_below_drewN | apply below_drew1) | exact HB.out)) hb); clear HB; have HB := n0_; clear n0_; (try clear hb); (try clear hb2); (try clear hk); (try clear hi)))
  (try simp only [Act.put, List.setIfInBounds_toArray, List.set_cons_zero, List.set_cons_succ])
  go_cut [23] (fun v23 wc => ∃ (kq : Nat) (x23_3 : Bool), v23 = .bool x23_3 ∧ Aside0 (tapestrierlaw4_TokParts.j0 kq l0 l1 t878 x23_3 = some r) ∧ Aside0 (kq ≤ k) ∧ Aside0 (Below w.heap.size w wc))
  case first =>
    have H := HC4.out
    clear HC4
    by_cases c6 : t878 = true
    · subst c6
      have H1 : (if (l0.length : Int) > 500 then (tapestrierlaw4_TokParts.j0 k l0 l1 true true) else (tapestrierlaw4_TokParts.j0 k l0 l1 true (decide ((l1.length : Int) > 500)))) = some r := by rw [if_pos rfl] at H; exact H
      clear H
      have H := H1
      clear H1
      by_cases c7 : (l0.length : Int) > 500
      · rw [if_pos c7] at H
        have c7b0 : decide (500 < (l0.length : Int)) = true := decide_eq_true c7
        have c7b1 : decide (500 < l0.length) = true := decide_eq_true (by omega)
        clear c7
        (first | rw [c7b0] | (simp only [i64_w, i32_w]; rw [c7b0]) | skip)
        have H' := Aside0.mk H
        clear H
        go_wp2
        go_meet
        case rel => exact ⟨_, (true), (by first | rfl | (simp; done) | (simp [*]; done) | (simp [wrap64]; done)), H', ⟨by first | omega | exact Nat.le_refl _⟩, ⟨by repeat (first | (with_reducible first | exact HB.out | apply below_alloc | apply pw_below_drewN | apply below_drew1) | exact HB.out)⟩⟩
      · rw [if_neg c7] at H
        have c7b0 : decide (500 < (l0.length : Int)) = false := decide_eq_false c7
        have c7b1 : decide (500 < l0.length) = false := decide_eq_false (by omega)
        clear c7
        (first | rw [c7b0] | (simp only [i64_w, i32_w]; rw [c7b0]) | skip)
        have H' := Aside0.mk H
        clear H
        go_wp2
        go_meet
        case rel => exact ⟨_, (decide ((l1.length : Int) > 500)), (by first | rfl | (simp; done) | (simp [*]; done) | (simp [wrap64]; done)), H', ⟨by first | omega | exact Nat.le_refl _⟩, ⟨by repeat (first | (with_reducible first | exact HB.out | apply below_alloc | apply pw_below_drewN | apply below_drew1) | exact HB.out)⟩⟩
    · replace c6 := Bool.eq_false_iff.mpr c6
      subst c6
      have H1 : (tapestrierlaw4_TokParts.j0 k l0 l1 false true) = some r := by rw [if_neg (show ¬ (false = true) by decide)] at H; exact H
      clear H
      have H := H1
      clear H1
      have H' := Aside0.mk H
      clear H
      go_wp2
      go_meet
      case rel => exact ⟨_, (true), (by first | rfl | (simp; done) | (simp [*]; done) | (simp [wrap64]; done)), H', ⟨by first | omega | exact Nat.le_refl _⟩, ⟨by repeat (first | (with_reducible first | exact HB.out | apply below_alloc | apply pw_below_drewN | apply below_drew1) | exact HB.out)⟩⟩
  case rest =>
    clear HC4
    try clear c1
    try clear p2
    try clear c6
    try clear p6
    try clear c7
    try clear c7b0
    try clear c7b1
    obtain ⟨kq, x23_3, rfl, HA, HJ3, HB⟩ := hcut
    cases kq with
    | zero => exact absurd HA.out (by simp [tapestrierlaw4_TokParts.j0])
    | succ kj3 =>
      have H := HA.out
      clear HA
      simp only [tapestrierlaw4_TokParts.j0] at H
      by_cases c8 : x23_3 = true
      · subst c8
        have H1 : (some t878) = some r := by rw [if_pos rfl] at H; exact H
        clear H
        have H := H1
        clear H1
        obtain rfl := Option.some.inj H
        go_wp2
        go_ret
        exact ⟨by first | rfl | (simp [errW_none, errW_some] <;> rfl) | (simp [*, errW_none, errW_some] <;> rfl), by repeat (first | (with_reducible first | exact HB.out | apply below_alloc | apply pw_below_drewN | apply below_drew1) | exact HB.out)⟩
      · replace c8 := Bool.eq_false_iff.mpr c8
        subst c8
        have H1 : (tapestrierlaw4_TokParts.l0 kj3 l0 l1 0) = some r := by rw [if_neg (show ¬ (false = true) by decide)] at H; exact H
        clear H
        have H := H1
        clear H1
        have H' := Aside0.mk H
        clear H
        go_wp2
        go_loopg [6] kj3 (fun kq v6 w' => ∃ (x6_2 : Int), v6 = .int .i64 x6_2 ∧ Aside0 (tapestrierlaw4_TokParts.l0 kq l0 l1 x6_2 = some r) ∧ Aside0 (kq ≤ kj3) ∧ Aside0 (Below w.heap.size w w'))
        case atStart => exact ⟨(0), (by first | rfl | (simp; done) | (simp [*]; done) | (simp [wrap64]; done)), H', ⟨Nat.le_refl _⟩, ⟨by repeat (first | (with_reducible first | exact HB.out | apply below_alloc | apply pw_below_drewN | apply below_drew1) | exact HB.out)⟩⟩
        case round =>
          clear H'
          try clear c1
          try clear p2
          try clear c6
          try clear p6
          try clear c7
          try clear c7b0
          try clear c7b1
          try clear c8
          try clear p2
          try clear p6
          obtain ⟨x6_2, rfl, HA, HK2, HB⟩ := hrel
          cases gk with
          | zero => exact absurd HA.out (by simp [tapestrierlaw4_TokParts.l0])
          | succ k2 =>
            have H := HA.out
            clear HA
            simp only [tapestrierlaw4_TokParts.l0] at H
            by_cases c9 : x6_2 < (l0.length : Int)
            · rw [if_pos c9] at H
              have c9b0 : decide (x6_2 < (l0.length : Int)) = true := decide_eq_true c9
              clear c9
              by_cases c10 : 0 ≤ x6_2
              · rw [if_pos c10] at H
                have c10b0 : decide (0 ≤ x6_2) = true := decide_eq_true c10
                clear c10
                by_cases c11 : (rd l0 x6_2) = 34
                · rw [if_pos c11] at H
                  have c11b0 : ((rd l0 x6_2) == 34) = true := beq_iff_eq.mpr c11
                  have c11b1 : ((rd l0 x6_2) != 34) = false := bne_eq_false_iff_eq.mpr c11
                  clear c11
                  obtain rfl := Option.some.inj H
                  have p879 : 0 ≤ (x6_2 : Int) := of_decide_eq_true (by first | (with_reducible assumption) | assumption)
                  have q879 : x6_2 < (l0.length : Int) := of_decide_eq_true (by first | (with_reducible assumption) | assumption)
                  obtain ⟨ad879, e879, hx879_0⟩ := Kd.at_int HR0.out x6_2 p879 q879
                  cases e879
                  replace hx879_0 := (HB.out.cell (World.block_lt_of_cell? w _ hx879_0)).trans hx879_0
                  replace p879 := eq_true p879
                  replace q879 := eq_true q879
                  go_wp2
                  go_ret
                  exact ⟨by first | rfl | (simp [errW_none, errW_some] <;> rfl) | (simp [*, errW_none, errW_some] <;> rfl), by repeat (first | (with_reducible first | exact HB.out | apply below_alloc | apply pw_below_drewN | apply below_drew1) | exact HB.out)⟩
                · rw [if_neg c11] at H
                  have c11b0 : ((rd l0 x6_2) == 34) = false := beq_eq_false_iff_ne.mpr c11
                  have c11b1 : ((rd l0 x6_2) != 34) = true := bne_iff_ne.mpr c11
                  by_cases c12 : (rd l0 x6_2) = 39
                  · rw [if_pos c12] at H
                    have c12b0 : ((rd l0 x6_2) == 39) = true := beq_iff_eq.mpr c12
                    have c12b1 : ((rd l0 x6_2) != 39) = false := bne_eq_false_iff_eq.mpr c12
                    clear c12
                    obtain rfl := Option.some.inj H
                    have p879 : 0 ≤ (x6_2 : Int) := of_decide_eq_true (by first | (with_reducible assumption) | assumption)
                    have q879 : x6_2 < (l0.length : Int) := of_decide_eq_true (by first | (with_reducible assumption) | assumption)
                    obtain ⟨ad879, e879, hx879_0⟩ := Kd.at_int HR0.out x6_2 p879 q879
                    cases e879
                    replace hx879_0 := (HB.out.cell (World.block_lt_of_cell? w _ hx879_0)).trans hx879_0
                    replace p879 := eq_true p879
                    replace q879 := eq_true q879
                    have p880 : 0 ≤ (x6_2 : Int) := of_decide_eq_true (by first | (with_reducible assumption) | assumption)
                    have q880 : x6_2 < (l0.length : Int) := of_decide_eq_true (by first | (with_reducible assumption) | assumption)
                    obtain ⟨ad880, e880, hx880_0⟩ := Kd.at_int HR0.out x6_2 p880 q880
                    obtain rfl : ad879 = ad880 := (by injection e880)
                    replace hx880_0 := (HB.out.cell (World.block_lt_of_cell? w _ hx880_0)).trans hx880_0
                    replace p880 := eq_true p880
                    replace q880 := eq_true q880
                    go_wp2
                    go_ret
                    exact ⟨by first | rfl | (simp [errW_none, errW_some] <;> rfl) | (simp [*, errW_none, errW_some] <;> rfl), by repeat (first | (with_reducible first | exact HB.out | apply below_alloc | apply pw_below_drewN | apply below_drew1) | exact HB.out)⟩
                  · rw [if_neg c12] at H
                    have c12b0 : ((rd l0 x6_2) == 39) = false := beq_eq_false_iff_ne.mpr c12
                    have c12b1 : ((rd l0 x6_2) != 39) = true := bne_iff_ne.mpr c12
                    by_cases c13 : (rd l0 x6_2) = 92
                    · rw [if_pos c13] at H
                      have c13b0 : ((rd l0 x6_2) == 92) = true := beq_iff_eq.mpr c13
                      have c13b1 : ((rd l0 x6_2) != 92) = false := bne_eq_false_iff_eq.mpr c13
                      clear c13
                      obtain rfl := Option.some.inj H
                      have p879 : 0 ≤ (x6_2 : Int) := of_decide_eq_true (by first | (with_reducible assumption) | assumption)
                      have q879 : x6_2 < (l0.length : Int) := of_decide_eq_true (by first | (with_reducible assumption) | assumption)
                      obtain ⟨ad879, e879, hx879_0⟩ := Kd.at_int HR0.out x6_2 p879 q879
                      cases e879
                      replace hx879_0 := (HB.out.cell (World.block_lt_of_cell? w _ hx879_0)).trans hx879_0
                      replace p879 := eq_true p879
                      replace q879 := eq_true q879
                      have p880 : 0 ≤ (x6_2 : Int) := of_decide_eq_true (by first | (with_reducible assumption) | assumption)
                      have q880 : x6_2 < (l0.length : Int) := of_decide_eq_true (by first | (with_reducible assumption) | assumption)
                      obtain ⟨ad880, e880, hx880_0⟩ := Kd.at_int HR0.out x6_2 p880 q880
                      obtain rfl : ad879 = ad880 := (by injection e880)
                      replace hx880_0 := (HB.out.cell (World.block_lt_of_cell? w _ hx880_0)).trans hx880_0
                      replace p880 := eq_true p880
                      replace q880 := eq_true q880
                      have p881 : 0 ≤ (x6_2 : Int) := of_decide_eq_true (by first | (with_reducible assumption) | assumption)
                      have q881 : x6_2 < (l0.length : Int) := of_decide_eq_true (by first | (with_reducible assumption) | assumption)
                      obtain ⟨ad881, e881, hx881_0⟩ := Kd.at_int HR0.out x6_2 p881 q881
                      obtain rfl : ad879 = ad881 := (by injection e881)
                      replace hx881_0 := (HB.out.cell (World.block_lt_of_cell? w _ hx881_0)).trans hx881_0
                      replace p881 := eq_true p881
                      replace q881 := eq_true q881
                      go_wp2
                      go_ret
                      exact ⟨by first | rfl | (simp [errW_none, errW_some] <;> rfl) | (simp [*, errW_none, errW_some] <;> rfl), by repeat (first | (with_reducible first | exact HB.out | apply below_alloc | apply pw_below_drewN | apply below_drew1) | exact HB.out)⟩
                    · rw [if_neg c13] at H
                      have c13b0 : ((rd l0 x6_2) == 92) = false := beq_eq_false_iff_ne.mpr c13
                      have c13b1 : ((rd l0 x6_2) != 92) = true := bne_iff_ne.mpr c13
                      by_cases c14 : (rd l0 x6_2) = 47
                      · rw [if_pos c14] at H
                        have c14b0 : ((rd l0 x6_2) == 47) = true := beq_iff_eq.mpr c14
                        have c14b1 : ((rd l0 x6_2) != 47) = false := bne_eq_false_iff_eq.mpr c14
                        clear c14
                        obtain rfl := Option.some.inj H
                        have p879 : 0 ≤ (x6_2 : Int) := of_decide_eq_true (by first | (with_reducible assumption) | assumption)
                        have q879 : x6_2 < (l0.length : Int) := of_decide_eq_true (by first | (with_reducible assumption) | assumption)
                        obtain ⟨ad879, e879, hx879_0⟩ := Kd.at_int HR0.out x6_2 p879 q879
                        cases e879
                        replace hx879_0 := (HB.out.cell (World.block_lt_of_cell? w _ hx879_0)).trans hx879_0
                        replace p879 := eq_true p879
                        replace q879 := eq_true q879
                        have p880 : 0 ≤ (x6_2 : Int) := of_decide_eq_true (by first | (with_reducible assumption) | assumption)
                        have q880 : x6_2 < (l0.length : Int) := of_decide_eq_true (by first | (with_reducible assumption) | assumption)
                        obtain ⟨ad880, e880, hx880_0⟩ := Kd.at_int HR0.out x6_2 p880 q880
                        obtain rfl : ad879 = ad880 := (by injection e880)
                        replace hx880_0 := (HB.out.cell (World.block_lt_of_cell? w _ hx880_0)).trans hx880_0
                        replace p880 := eq_true p880
                        replace q880 := eq_true q880
                        have p881 : 0 ≤ (x6_2 : Int) := of_decide_eq_true (by first | (with_reducible assumption) | assumption)
                        have q881 : x6_2 < (l0.length : Int) := of_decide_eq_true (by first | (with_reducible assumption) | assumption)
                        obtain ⟨ad881, e881, hx881_0⟩ := Kd.at_int HR0.out x6_2 p881 q881
                        obtain rfl : ad879 = ad881 := (by injection e881)
                        replace hx881_0 := (HB.out.cell (World.block_lt_of_cell? w _ hx881_0)).trans hx881_0
                        replace p881 := eq_true p881
                        replace q881 := eq_true q881
                        have p882 : 0 ≤ (x6_2 : Int) := of_decide_eq_true (by first | (with_reducible assumption) | assumption)
                        have q882 : x6_2 < (l0.length : Int) := of_decide_eq_true (by first | (with_reducible assumption) | assumption)
                        obtain ⟨ad882, e882, hx882_0⟩ := Kd.at_int HR0.out x6_2 p882 q882
                        obtain rfl : ad879 = ad882 := (by injection e882)
                        replace hx882_0 := (HB.out.cell (World.block_lt_of_cell? w _ hx882_0)).trans hx882_0
                        replace p882 := eq_true p882
                        replace q882 := eq_true q882
                        go_wp2
                        go_ret
                        exact ⟨by first | rfl | (simp [errW_none, errW_some] <;> rfl) | (simp [*, errW_none, errW_some] <;> rfl), by repeat (first | (with_reducible first | exact HB.out | apply below_alloc | apply pw_below_drewN | apply below_drew1) | exact HB.out)⟩
                      · rw [if_neg c14] at H
                        have c14b0 : ((rd l0 x6_2) == 47) = false := beq_eq_false_iff_ne.mpr c14
                        have c14b1 : ((rd l0 x6_2) != 47) = true := bne_iff_ne.mpr c14
                        have H' := Aside0.mk H
                        clear H
                        have p879 : 0 ≤ (x6_2 : Int) := of_decide_eq_true (by first | (with_reducible assumption) | assumption)
                        have q879 : x6_2 < (l0.length : Int) := of_decide_eq_true (by first | (with_reducible assumption) | assumption)
                        obtain ⟨ad879, e879, hx879_0⟩ := Kd.at_int HR0.out x6_2 p879 q879
                        cases e879
                        replace hx879_0 := (HB.out.cell (World.block_lt_of_cell? w _ hx879_0)).trans hx879_0
                        replace p879 := eq_true p879
                        replace q879 := eq_true q879
                        have p880 : 0 ≤ (x6_2 : Int) := of_decide_eq_true (by first | (with_reducible assumption) | assumption)
                        have q880 : x6_2 < (l0.length : Int) := of_decide_eq_true (by first | (with_reducible assumption) | assumption)
                        obtain ⟨ad880, e880, hx880_0⟩ := Kd.at_int HR0.out x6_2 p880 q880
                        obtain rfl : ad879 = ad880 := (by injection e880)
                        replace hx880_0 := (HB.out.cell (World.block_lt_of_cell? w _ hx880_0)).trans hx880_0
                        replace p880 := eq_true p880
                        replace q880 := eq_true q880
                        have p881 : 0 ≤ (x6_2 : Int) := of_decide_eq_true (by first | (with_reducible assumption) | assumption)
                        have q881 : x6_2 < (l0.length : Int) := of_decide_eq_true (by first | (with_reducible assumption) | assumption)
                        obtain ⟨ad881, e881, hx881_0⟩ := Kd.at_int HR0.out x6_2 p881 q881
                        obtain rfl : ad879 = ad881 := (by injection e881)
                        replace hx881_0 := (HB.out.cell (World.block_lt_of_cell? w _ hx881_0)).trans hx881_0
                        replace p881 := eq_true p881
                        replace q881 := eq_true q881
                        have p882 : 0 ≤ (x6_2 : Int) := of_decide_eq_true (by first | (with_reducible assumption) | assumption)
                        have q882 : x6_2 < (l0.length : Int) := of_decide_eq_true (by first | (with_reducible assumption) | assumption)
                        obtain ⟨ad882, e882, hx882_0⟩ := Kd.at_int HR0.out x6_2 p882 q882
                        obtain rfl : ad879 = ad882 := (by injection e882)
                        replace hx882_0 := (HB.out.cell (World.block_lt_of_cell? w _ hx882_0)).trans hx882_0
                        replace p882 := eq_true p882
                        replace q882 := eq_true q882
                        go_wp2
                        go_roundg k2
                        case measure => have := HJ3.out; have := HK2.out; omega
                        case rel => exact ⟨(wrap64 (x6_2 + 1)), (by first | rfl | (simp; done) | (simp [*]; done) | (simp [wrap64]; done)), H', ⟨by have := HJ3.out; have := HK2.out; omega⟩, ⟨by repeat (first | (with_reducible first | exact HB.out | apply below_alloc | apply pw_below_drewN | apply below_drew1) | exact HB.out)⟩⟩
              · rw [if_neg c10] at H
                exact absurd H (by simp)
            · rw [if_neg c9] at H
              have c9b0 : decide (x6_2 < (l0.length : Int)) = false := decide_eq_false c9
              clear c9
              have HC15 := Aside0.mk H
              clear H
              go_upto_block 2 with (fail)
              go_cut [] (fun wc => ∃ (kq : Nat), Aside0 (tapestrierlaw4_TokParts.j3 kq l0 l1 = some r) ∧ Aside0 (kq ≤ k2) ∧ Aside0 (Below w.heap.size w wc))
              case first =>
                have H := HC15.out
                clear HC15
                have H' := Aside0.mk H
                clear H
                go_wp2
                go_loopg [7] k2 (fun kq v7 w' => ∃ (x7_3 : Int), v7 = .int .i64 x7_3 ∧ Aside0 (tapestrierlaw4_TokParts.l1 kq l0 l1 x7_3 = some r) ∧ Aside0 (kq ≤ k2) ∧ Aside0 (Below w.heap.size w w'))
                case atStart => exact ⟨(0), (by first | rfl | (simp; done) | (simp [*]; done) | (simp [wrap64]; done)), H', ⟨Nat.le_refl _⟩, ⟨by repeat (first | (with_reducible first | exact HB.out | apply below_alloc | apply pw_below_drewN | apply below_drew1) | exact HB.out)⟩⟩
                case round =>
                  clear H'
                  try clear c1
                  try clear p2
                  try clear c6
                  try clear p6
                  try clear c7
                  try clear c7b0
                  try clear c7b1
                  try clear c8
                  try clear p8
                  try clear q8
                  try clear hx8
                  try clear c9
                  try clear c9b0
                  try clear c10
                  try clear c10b0
                  try clear c11
                  try clear c11b0
                  try clear c11b1
                  try clear c12
                  try clear c12b0
                  try clear c12b1
                  try clear c13
                  try clear c13b0
                  try clear c13b1
                  try clear c14
                  try clear c14b0
                  try clear c14b1
                  try clear hx879_0
                  try clear hx880_0
                  try clear hx881_0
                  try clear hx882_0
                  try clear p2
                  try clear p6
                  try clear p879
                  try clear p880
                  try clear p881
                  try clear p882
                  try clear q879
                  try clear q880
                  try clear q881
                  try clear q882
                  obtain ⟨x7_3, rfl, HA, HK3, HB⟩ := hrel
                  cases gk with
                  | zero => exact absurd HA.out (by simp [tapestrierlaw4_TokParts.l1])
                  | succ k3 =>
                    have H := HA.out
                    clear HA
                    simp only [tapestrierlaw4_TokParts.l1] at H
                    by_cases c16 : x7_3 < (l1.length : Int)
                    · rw [if_pos c16] at H
                      have c16b0 : decide (x7_3 < (l1.length : Int)) = true := decide_eq_true c16
                      clear c16
                      (first | rw [c16b0] | (simp only [i64_w, i32_w]; rw [c16b0]) | skip)
                      by_cases c17 : 0 ≤ x7_3
                      · rw [if_pos c17] at H
                        have c17b0 : decide (0 ≤ x7_3) = true := decide_eq_true c17
                        clear c17
                        by_cases c18 : (rd l1 x7_3) = 10
                        · rw [if_pos c18] at H
                          have c18b0 : ((rd l1 x7_3) == 10) = true := beq_iff_eq.mpr c18
                          have c18b1 : ((rd l1 x7_3) != 10) = false := bne_eq_false_iff_eq.mpr c18
                          clear c18
                          obtain rfl := Option.some.inj H
                          have p883 : 0 ≤ (x7_3 : Int) := of_decide_eq_true (by first | (with_reducible assumption) | assumption)
                          have q883 : x7_3 < (l1.length : Int) := of_decide_eq_true (by first | (with_reducible assumption) | assumption)
                          obtain ⟨ad883, e883, hx883_0⟩ := Kd.at_int HR1.out x7_3 p883 q883
                          cases e883
                          replace hx883_0 := (HB.out.cell (World.block_lt_of_cell? w _ hx883_0)).trans hx883_0
                          replace p883 := eq_true p883
                          replace q883 := eq_true q883
                          go_wp2
                          go_ret
                          exact ⟨by first | rfl | (simp [errW_none, errW_some] <;> rfl) | (simp [*, errW_none, errW_some] <;> rfl), by repeat (first | (with_reducible first | exact HB.out | apply below_alloc | apply pw_below_drewN | apply below_drew1) | exact HB.out)⟩
                        · rw [if_neg c18] at H
                          have c18b0 : ((rd l1 x7_3) == 10) = false := beq_eq_false_iff_ne.mpr c18
                          have c18b1 : ((rd l1 x7_3) != 10) = true := bne_iff_ne.mpr c18
                          by_cases c19 : (rd l1 x7_3) = 13
                          · rw [if_pos c19] at H
                            have c19b0 : ((rd l1 x7_3) == 13) = true := beq_iff_eq.mpr c19
                            have c19b1 : ((rd l1 x7_3) != 13) = false := bne_eq_false_iff_eq.mpr c19
                            clear c19
                            obtain rfl := Option.some.inj H
                            have p883 : 0 ≤ (x7_3 : Int) := of_decide_eq_true (by first | (with_reducible assumption) | assumption)
                            have q883 : x7_3 < (l1.length : Int) := of_decide_eq_true (by first | (with_reducible assumption) | assumption)
                            obtain ⟨ad883, e883, hx883_0⟩ := Kd.at_int HR1.out x7_3 p883 q883
                            cases e883
                            replace hx883_0 := (HB.out.cell (World.block_lt_of_cell? w _ hx883_0)).trans hx883_0
                            replace p883 := eq_true p883
                            replace q883 := eq_true q883
                            have p884 : 0 ≤ (x7_3 : Int) := of_decide_eq_true (by first | (with_reducible assumption) | assumption)
                            have q884 : x7_3 < (l1.length : Int) := of_decide_eq_true (by first | (with_reducible assumption) | assumption)
                            obtain ⟨ad884, e884, hx884_0⟩ := Kd.at_int HR1.out x7_3 p884 q884
                            obtain rfl : ad883 = ad884 := (by injection e884)
                            replace hx884_0 := (HB.out.cell (World.block_lt_of_cell? w _ hx884_0)).trans hx884_0
                            replace p884 := eq_true p884
                            replace q884 := eq_true q884
                            go_wp2
                            go_ret
                            exact ⟨by first | rfl | (simp [errW_none, errW_some] <;> rfl) | (simp [*, errW_none, errW_some] <;> rfl), by repeat (first | (with_reducible first | exact HB.out | apply below_alloc | apply pw_below_drewN | apply below_drew1) | exact HB.out)⟩
                          · rw [if_neg c19] at H
                            have c19b0 : ((rd l1 x7_3) == 13) = false := beq_eq_false_iff_ne.mpr c19
                            have c19b1 : ((rd l1 x7_3) != 13) = true := bne_iff_ne.mpr c19
                            by_cases c20 : (rd l1 x7_3) = 12
                            · rw [if_pos c20] at H
                              have c20b0 : ((rd l1 x7_3) == 12) = true := beq_iff_eq.mpr c20
                              have c20b1 : ((rd l1 x7_3) != 12) = false := bne_eq_false_iff_eq.mpr c20
                              clear c20
                              obtain rfl := Option.some.inj H
                              have p883 : 0 ≤ (x7_3 : Int) := of_decide_eq_true (by first | (with_reducible assumption) | assumption)
                              have q883 : x7_3 < (l1.length : Int) := of_decide_eq_true (by first | (with_reducible assumption) | assumption)
                              obtain ⟨ad883, e883, hx883_0⟩ := Kd.at_int HR1.out x7_3 p883 q883
                              cases e883
                              replace hx883_0 := (HB.out.cell (World.block_lt_of_cell? w _ hx883_0)).trans hx883_0
                              replace p883 := eq_true p883
                              replace q883 := eq_true q883
                              have p884 : 0 ≤ (x7_3 : Int) := of_decide_eq_true (by first | (with_reducible assumption) | assumption)
                              have q884 : x7_3 < (l1.length : Int) := of_decide_eq_true (by first | (with_reducible assumption) | assumption)
                              obtain ⟨ad884, e884, hx884_0⟩ := Kd.at_int HR1.out x7_3 p884 q884
                              obtain rfl : ad883 = ad884 := (by injection e884)
                              replace hx884_0 := (HB.out.cell (World.block_lt_of_cell? w _ hx884_0)).trans hx884_0
                              replace p884 := eq_true p884
                              replace q884 := eq_true q884
                              have p885 : 0 ≤ (x7_3 : Int) := of_decide_eq_true (by first | (with_reducible assumption) | assumption)
                              have q885 : x7_3 < (l1.length : Int) := of_decide_eq_true (by first | (with_reducible assumption) | assumption)
                              obtain ⟨ad885, e885, hx885_0⟩ := Kd.at_int HR1.out x7_3 p885 q885
                              obtain rfl : ad883 = ad885 := (by injection e885)
                              replace hx885_0 := (HB.out.cell (World.block_lt_of_cell? w _ hx885_0)).trans hx885_0
                              replace p885 := eq_true p885
                              replace q885 := eq_true q885
                              go_wp2
                              go_ret
                              exact ⟨by first | rfl | (simp [errW_none, errW_some] <;> rfl) | (simp [*, errW_none, errW_some] <;> rfl), by repeat (first | (with_reducible first | exact HB.out | apply below_alloc | apply pw_below_drewN | apply below_drew1) | exact HB.out)⟩
                            · rw [if_neg c20] at H
                              have c20b0 : ((rd l1 x7_3) == 12) = false := beq_eq_false_iff_ne.mpr c20
                              have c20b1 : ((rd l1 x7_3) != 12) = true := bne_iff_ne.mpr c20
                              by_cases c21 : (rd l1 x7_3) = 9
                              · rw [if_pos c21] at H
                                have c21b0 : ((rd l1 x7_3) == 9) = true := beq_iff_eq.mpr c21
                                have c21b1 : ((rd l1 x7_3) != 9) = false := bne_eq_false_iff_eq.mpr c21
                                clear c21
                                obtain rfl := Option.some.inj H
                                have p883 : 0 ≤ (x7_3 : Int) := of_decide_eq_true (by first | (with_reducible assumption) | assumption)
                                have q883 : x7_3 < (l1.length : Int) := of_decide_eq_true (by first | (with_reducible assumption) | assumption)
                                obtain ⟨ad883, e883, hx883_0⟩ := Kd.at_int HR1.out x7_3 p883 q883
                                cases e883
                                replace hx883_0 := (HB.out.cell (World.block_lt_of_cell? w _ hx883_0)).trans hx883_0
                                replace p883 := eq_true p883
                                replace q883 := eq_true q883
                                have p884 : 0 ≤ (x7_3 : Int) := of_decide_eq_true (by first | (with_reducible assumption) | assumption)
                                have q884 : x7_3 < (l1.length : Int) := of_decide_eq_true (by first | (with_reducible assumption) | assumption)
                                obtain ⟨ad884, e884, hx884_0⟩ := Kd.at_int HR1.out x7_3 p884 q884
                                obtain rfl : ad883 = ad884 := (by injection e884)
                                replace hx884_0 := (HB.out.cell (World.block_lt_of_cell? w _ hx884_0)).trans hx884_0
                                replace p884 := eq_true p884
                                replace q884 := eq_true q884
                                have p885 : 0 ≤ (x7_3 : Int) := of_decide_eq_true (by first | (with_reducible assumption) | assumption)
                                have q885 : x7_3 < (l1.length : Int) := of_decide_eq_true (by first | (with_reducible assumption) | assumption)
                                obtain ⟨ad885, e885, hx885_0⟩ := Kd.at_int HR1.out x7_3 p885 q885
                                obtain rfl : ad883 = ad885 := (by injection e885)
                                replace hx885_0 := (HB.out.cell (World.block_lt_of_cell? w _ hx885_0)).trans hx885_0
                                replace p885 := eq_true p885
                                replace q885 := eq_true q885
                                have p886 : 0 ≤ (x7_3 : Int) := of_decide_eq_true (by first | (with_reducible assumption) | assumption)
                                have q886 : x7_3 < (l1.length : Int) := of_decide_eq_true (by first | (with_reducible assumption) | assumption)
                                obtain ⟨ad886, e886, hx886_0⟩ := Kd.at_int HR1.out x7_3 p886 q886
                                obtain rfl : ad883 = ad886 := (by injection e886)
                                replace hx886_0 := (HB.out.cell (World.block_lt_of_cell? w _ hx886_0)).trans hx886_0
                                replace p886 := eq_true p886
                                replace q886 := eq_true q886
                                go_wp2
                                go_ret
                                exact ⟨by first | rfl | (simp [errW_none, errW_some] <;> rfl) | (simp [*, errW_none, errW_some] <;> rfl), by repeat (first | (with_reducible first | exact HB.out | apply below_alloc | apply pw_below_drewN | apply below_drew1) | exact HB.out)⟩
                              · rw [if_neg c21] at H
                                have c21b0 : ((rd l1 x7_3) == 9) = false := beq_eq_false_iff_ne.mpr c21
                                have c21b1 : ((rd l1 x7_3) != 9) = true := bne_iff_ne.mpr c21
                                by_cases c22 : (rd l1 x7_3) = 32
                                · rw [if_pos c22] at H
                                  have c22b0 : ((rd l1 x7_3) == 32) = true := beq_iff_eq.mpr c22
                                  have c22b1 : ((rd l1 x7_3) != 32) = false := bne_eq_false_iff_eq.mpr c22
                                  clear c22
                                  obtain rfl := Option.some.inj H
                                  have p883 : 0 ≤ (x7_3 : Int) := of_decide_eq_true (by first | (with_reducible assumption) | assumption)
                                  have q883 : x7_3 < (l1.length : Int) := of_decide_eq_true (by first | (with_reducible assumption) | assumption)
                                  obtain ⟨ad883, e883, hx883_0⟩ := Kd.at_int HR1.out x7_3 p883 q883
                                  cases e883
                                  replace hx883_0 := (HB.out.cell (World.block_lt_of_cell? w _ hx883_0)).trans hx883_0
                                  replace p883 := eq_true p883
                                  replace q883 := eq_true q883
                                  have p884 : 0 ≤ (x7_3 : Int) := of_decide_eq_true (by first | (with_reducible assumption) | assumption)
                                  have q884 : x7_3 < (l1.length : Int) := of_decide_eq_true (by first | (with_reducible assumption) | assumption)
                                  obtain ⟨ad884, e884, hx884_0⟩ := Kd.at_int HR1.out x7_3 p884 q884
                                  obtain rfl : ad883 = ad884 := (by injection e884)
                                  replace hx884_0 := (HB.out.cell (World.block_lt_of_cell? w _ hx884_0)).trans hx884_0
                                  replace p884 := eq_true p884
                                  replace q884 := eq_true q884
                                  have p885 : 0 ≤ (x7_3 : Int) := of_decide_eq_true (by first | (with_reducible assumption) | assumption)
                                  have q885 : x7_3 < (l1.length : Int) := of_decide_eq_true (by first | (with_reducible assumption) | assumption)
                                  obtain ⟨ad885, e885, hx885_0⟩ := Kd.at_int HR1.out x7_3 p885 q885
                                  obtain rfl : ad883 = ad885 := (by injection e885)
                                  replace hx885_0 := (HB.out.cell (World.block_lt_of_cell? w _ hx885_0)).trans hx885_0
                                  replace p885 := eq_true p885
                                  replace q885 := eq_true q885
                                  have p886 : 0 ≤ (x7_3 : Int) := of_decide_eq_true (by first | (with_reducible assumption) | assumption)
                                  have q886 : x7_3 < (l1.length : Int) := of_decide_eq_true (by first | (with_reducible assumption) | assumption)
                                  obtain ⟨ad886, e886, hx886_0⟩ := Kd.at_int HR1.out x7_3 p886 q886
                                  obtain rfl : ad883 = ad886 := (by injection e886)
                                  replace hx886_0 := (HB.out.cell (World.block_lt_of_cell? w _ hx886_0)).trans hx886_0
                                  replace p886 := eq_true p886
                                  replace q886 := eq_true q886
                                  have p887 : 0 ≤ (x7_3 : Int) := of_decide_eq_true (by first | (with_reducible assumption) | assumption)
                                  have q887 : x7_3 < (l1.length : Int) := of_decide_eq_true (by first | (with_reducible assumption) | assumption)
                                  obtain ⟨ad887, e887, hx887_0⟩ := Kd.at_int HR1.out x7_3 p887 q887
                                  obtain rfl : ad883 = ad887 := (by injection e887)
                                  replace hx887_0 := (HB.out.cell (World.block_lt_of_cell? w _ hx887_0)).trans hx887_0
                                  replace p887 := eq_true p887
                                  replace q887 := eq_true q887
                                  go_wp2
                                  go_ret
                                  exact ⟨by first | rfl | (simp [errW_none, errW_some] <;> rfl) | (simp [*, errW_none, errW_some] <;> rfl), by repeat (first | (with_reducible first | exact HB.out | apply below_alloc | apply pw_below_drewN | apply below_drew1) | exact HB.out)⟩
                                · rw [if_neg c22] at H
                                  have c22b0 : ((rd l1 x7_3) == 32) = false := beq_eq_false_iff_ne.mpr c22
                                  have c22b1 : ((rd l1 x7_3) != 32) = true := bne_iff_ne.mpr c22
                                  have H' := Aside0.mk H
                                  clear H
                                  have p883 : 0 ≤ (x7_3 : Int) := of_decide_eq_true (by first | (with_reducible assumption) | assumption)
                                  have q883 : x7_3 < (l1.length : Int) := of_decide_eq_true (by first | (with_reducible assumption) | assumption)
                                  obtain ⟨ad883, e883, hx883_0⟩ := Kd.at_int HR1.out x7_3 p883 q883
                                  cases e883
                                  replace hx883_0 := (HB.out.cell (World.block_lt_of_cell? w _ hx883_0)).trans hx883_0
                                  replace p883 := eq_true p883
                                  replace q883 := eq_true q883
                                  have p884 : 0 ≤ (x7_3 : Int) := of_decide_eq_true (by first | (with_reducible assumption) | assumption)
                                  have q884 : x7_3 < (l1.length : Int) := of_decide_eq_true (by first | (with_reducible assumption) | assumption)
                                  obtain ⟨ad884, e884, hx884_0⟩ := Kd.at_int HR1.out x7_3 p884 q884
                                  obtain rfl : ad883 = ad884 := (by injection e884)
                                  replace hx884_0 := (HB.out.cell (World.block_lt_of_cell? w _ hx884_0)).trans hx884_0
                                  replace p884 := eq_true p884
                                  replace q884 := eq_true q884
                                  have p885 : 0 ≤ (x7_3 : Int) := of_decide_eq_true (by first | (with_reducible assumption) | assumption)
                                  have q885 : x7_3 < (l1.length : Int) := of_decide_eq_true (by first | (with_reducible assumption) | assumption)
                                  obtain ⟨ad885, e885, hx885_0⟩ := Kd.at_int HR1.out x7_3 p885 q885
                                  obtain rfl : ad883 = ad885 := (by injection e885)
                                  replace hx885_0 := (HB.out.cell (World.block_lt_of_cell? w _ hx885_0)).trans hx885_0
                                  replace p885 := eq_true p885
                                  replace q885 := eq_true q885
                                  have p886 : 0 ≤ (x7_3 : Int) := of_decide_eq_true (by first | (with_reducible assumption) | assumption)
                                  have q886 : x7_3 < (l1.length : Int) := of_decide_eq_true (by first | (with_reducible assumption) | assumption)
                                  obtain ⟨ad886, e886, hx886_0⟩ := Kd.at_int HR1.out x7_3 p886 q886
                                  obtain rfl : ad883 = ad886 := (by injection e886)
                                  replace hx886_0 := (HB.out.cell (World.block_lt_of_cell? w _ hx886_0)).trans hx886_0
                                  replace p886 := eq_true p886
                                  replace q886 := eq_true q886
                                  have p887 : 0 ≤ (x7_3 : Int) := of_decide_eq_true (by first | (with_reducible assumption) | assumption)
                                  have q887 : x7_3 < (l1.length : Int) := of_decide_eq_true (by first | (with_reducible assumption) | assumption)
                                  obtain ⟨ad887, e887, hx887_0⟩ := Kd.at_int HR1.out x7_3 p887 q887
                                  obtain rfl : ad883 = ad887 := (by injection e887)
                                  replace hx887_0 := (HB.out.cell (World.block_lt_of_cell? w _ hx887_0)).trans hx887_0
                                  replace p887 := eq_true p887
                                  replace q887 := eq_true q887
                                  go_wp2
                                  go_meet
                                  case rel => exact ⟨_, H', ⟨by have := HJ3.out; have := HK2.out; have := HK3.out; first | omega | exact Nat.le_refl _⟩, ⟨by repeat (first | (with_reducible first | exact HB.out | apply below_alloc | apply pw_below_drewN | apply below_drew1) | exact HB.out)⟩⟩
                      · rw [if_neg c17] at H
                        exact absurd H (by simp)
                    · rw [if_neg c16] at H
                      have c16b0 : decide (x7_3 < (l1.length : Int)) = false := decide_eq_false c16
                      clear c16
                      (first | rw [c16b0] | (simp only [i64_w, i32_w]; rw [c16b0]) | skip)
                      have H' := Aside0.mk H
                      clear H
                      go_wp2
                      go_meet
                      case rel => exact ⟨_, H', ⟨by have := HJ3.out; have := HK2.out; have := HK3.out; first | omega | exact Nat.le_refl _⟩, ⟨by repeat (first | (with_reducible first | exact HB.out | apply below_alloc | apply pw_below_drewN | apply below_drew1) | exact HB.out)⟩⟩
              case rest =>
                clear HC15
                try clear c1
                try clear c2
                try clear p2
                try clear c6
                try clear p6
                try clear c7
                try clear c7b0
                try clear c7b1
                try clear c8
                try clear p8
                try clear q8
                try clear hx8
                try clear c9
                try clear c9b0
                try clear c10
                try clear c10b0
                try clear c11
                try clear c11b0
                try clear c11b1
                try clear c12
                try clear c12b0
                try clear c12b1
                try clear c13
                try clear c13b0
                try clear c13b1
                try clear c14
                try clear c14b0
                try clear c14b1
                try clear c16
                try clear c16b0
                try clear c17
                try clear c17b0
                try clear c18
                try clear c18b0
                try clear c18b1
                try clear c19
                try clear c19b0
                try clear c19b1
                try clear c20
                try clear c20b0
                try clear c20b1
                try clear c21
                try clear c21b0
                try clear c21b1
                try clear c22
                try clear c22b0
                try clear c22b1
                try clear hx879_0
                try clear hx880_0
                try clear hx881_0
                try clear hx882_0
                try clear hx883_0
                try clear hx884_0
                try clear hx885_0
                try clear hx886_0
                try clear hx887_0
                try clear p2
                try clear p6
                try clear p8
                try clear p879
                try clear p880
                try clear p881
                try clear p882
                try clear p883
                try clear p884
                try clear p885
                try clear p886
                try clear p887
                try clear q8
                try clear q879
                try clear q880
                try clear q881
                try clear q882
                try clear q883
                try clear q884
                try clear q885
                try clear q886
                try clear q887
                obtain ⟨kq, HA, HJ14, HB⟩ := hcut
                cases kq with
                | zero => exact absurd HA.out (by simp [tapestrierlaw4_TokParts.j3])
                | succ kj14 =>
                  have H := HA.out
                  clear HA
                  simp only [tapestrierlaw4_TokParts.j3] at H
                  by_cases c23 : ([] : List Int).length + l0.length < 140737488355328
                  · rw [if_pos c23] at H
                    have LMc23 := Aside0.mk c23
                    clear c23
                    obtain ⟨y888, hy888⟩ : ∃ y_ : List Int, y_ = (([] : List Int) ++ l0) := ⟨_, rfl⟩
                    replace H : (if y888.length < 140737488355328 then ((tapestrierlaw4_Of.f kj14 (y888 ++ [59])).bind fun t894 => ((tapestrierlaw4_Of.f kj14 l1).bind fun t897 => ((some (([] : List Int) ++ l0 : List Int)).bind fun y900 => (if y900.length + 2 < 140737488355328 then ((some (y900 ++ bytesOf (⟨#[59, 32]⟩ : ByteArray) : List Int)).bind fun y903 => (if y903.length + l1.length < 140737488355328 then ((tapestrierlaw4_Of.f kj14 (y903 ++ l1)).bind fun t909 => (if ([] : List (S31)).length + t894.length < 2932031007402 then ((some (([] : List (S31)) ++ t894 : List (S31))).bind fun y912 => (if y912.length < 2932031007402 then ((some (y912 ++ [(⟨9, (⟨#[]⟩ : ByteArray), 0, false, 0⟩ : S31)] : List (S31))).bind fun y915 => (if y915.length + t897.length < 2932031007402 then ((tapestrierref1_SameTokens.f kj14 t909 (y915 ++ t897)).bind fun t921 => (some t921)) else (none))) else (none))) else (none))) else (none))) else (none))))) else (none)) = some r := by first | (rw [hy888]; with_reducible exact H) | (have H2_ := (Option.bind_some _ _).symm.trans H; rw [hy888]; with_reducible exact H2_) | (have H2_ := (Option.bind_some _ _).symm.trans H; with_reducible exact H2_) | with_reducible exact H | (rw [hy888]; exact H) | exact H
                    have Ny888 := Aside0.mk hy888
                    clear hy888
                    by_cases c24 : y888.length < 140737488355328
                    · rw [if_pos c24] at H
                      have LMc24 := Aside0.mk c24
                      clear c24
                      obtain ⟨y891, hy891⟩ : ∃ y_ : List Int, y_ = (y888 ++ [59]) := ⟨_, rfl⟩
                      replace H : ((tapestrierlaw4_Of.f kj14 y891).bind fun t894 => ((tapestrierlaw4_Of.f kj14 l1).bind fun t897 => ((some (([] : List Int) ++ l0 : List Int)).bind fun y900 => (if y900.length + 2 < 140737488355328 then ((some (y900 ++ bytesOf (⟨#[59, 32]⟩ : ByteArray) : List Int)).bind fun y903 => (if y903.length + l1.length < 140737488355328 then ((tapestrierlaw4_Of.f kj14 (y903 ++ l1)).bind fun t909 => (if ([] : List (S31)).length + t894.length < 2932031007402 then ((some (([] : List (S31)) ++ t894 : List (S31))).bind fun y912 => (if y912.length < 2932031007402 then ((some (y912 ++ [(⟨9, (⟨#[]⟩ : ByteArray), 0, false, 0⟩ : S31)] : List (S31))).bind fun y915 => (if y915.length + t897.length < 2932031007402 then ((tapestrierref1_SameTokens.f kj14 t909 (y915 ++ t897)).bind fun t921 => (some t921)) else (none))) else (none))) else (none))) else (none))) else (none))))) = some r := by first | (rw [hy891]; with_reducible exact H) | (have H2_ := (Option.bind_some _ _).symm.trans H; rw [hy891]; with_reducible exact H2_) | (have H2_ := (Option.bind_some _ _).symm.trans H; with_reducible exact H2_) | with_reducible exact H | (rw [hy891]; exact H) | exact H
                      have Ny891 := Aside0.mk hy891
                      clear hy891
                      replace H := Option.bind_eq_some_iff.mp H
                      obtain ⟨t894, A250, H⟩ := H
                      replace H : ((tapestrierlaw4_Of.f kj14 l1).bind fun t897 => ((some (([] : List Int) ++ l0 : List Int)).bind fun y900 => (if y900.length + 2 < 140737488355328 then ((some (y900 ++ bytesOf (⟨#[59, 32]⟩ : ByteArray) : List Int)).bind fun y903 => (if y903.length + l1.length < 140737488355328 then ((tapestrierlaw4_Of.f kj14 (y903 ++ l1)).bind fun t909 => (if ([] : List (S31)).length + t894.length < 2932031007402 then ((some (([] : List (S31)) ++ t894 : List (S31))).bind fun y912 => (if y912.length < 2932031007402 then ((some (y912 ++ [(⟨9, (⟨#[]⟩ : ByteArray), 0, false, 0⟩ : S31)] : List (S31))).bind fun y915 => (if y915.length + t897.length < 2932031007402 then ((tapestrierref1_SameTokens.f kj14 t909 (y915 ++ t897)).bind fun t921 => (some t921)) else (none))) else (none))) else (none))) else (none))) else (none)))) = some r := H
                      have A25 := Aside0.mk A250
                      clear A250
                      replace H := Option.bind_eq_some_iff.mp H
                      obtain ⟨t897, A260, H⟩ := H
                      replace H : ((some (([] : List Int) ++ l0 : List Int)).bind fun y900 => (if y900.length + 2 < 140737488355328 then ((some (y900 ++ bytesOf (⟨#[59, 32]⟩ : ByteArray) : List Int)).bind fun y903 => (if y903.length + l1.length < 140737488355328 then ((tapestrierlaw4_Of.f kj14 (y903 ++ l1)).bind fun t909 => (if ([] : List (S31)).length + t894.length < 2932031007402 then ((some (([] : List (S31)) ++ t894 : List (S31))).bind fun y912 => (if y912.length < 2932031007402 then ((some (y912 ++ [(⟨9, (⟨#[]⟩ : ByteArray), 0, false, 0⟩ : S31)] : List (S31))).bind fun y915 => (if y915.length + t897.length < 2932031007402 then ((tapestrierref1_SameTokens.f kj14 t909 (y915 ++ t897)).bind fun t921 => (some t921)) else (none))) else (none))) else (none))) else (none))) else (none))) = some r := H
                      have A26 := Aside0.mk A260
                      clear A260
                      obtain ⟨y900, hy900⟩ : ∃ y_ : List Int, y_ = (([] : List Int) ++ l0) := ⟨_, rfl⟩
                      replace H : (if y900.length + 2 < 140737488355328 then ((some (y900 ++ bytesOf (⟨#[59, 32]⟩ : ByteArray) : List Int)).bind fun y903 => (if y903.length + l1.length < 140737488355328 then ((tapestrierlaw4_Of.f kj14 (y903 ++ l1)).bind fun t909 => (if ([] : List (S31)).length + t894.length < 2932031007402 then ((some (([] : List (S31)) ++ t894 : List (S31))).bind fun y912 => (if y912.length < 2932031007402 then ((some (y912 ++ [(⟨9, (⟨#[]⟩ : ByteArray), 0, false, 0⟩ : S31)] : List (S31))).bind fun y915 => (if y915.length + t897.length < 2932031007402 then ((tapestrierref1_SameTokens.f kj14 t909 (y915 ++ t897)).bind fun t921 => (some t921)) else (none))) else (none))) else (none))) else (none))) else (none)) = some r := by first | (rw [hy900]; with_reducible exact H) | (have H2_ := (Option.bind_some _ _).symm.trans H; rw [hy900]; with_reducible exact H2_) | (have H2_ := (Option.bind_some _ _).symm.trans H; with_reducible exact H2_) | with_reducible exact H | (rw [hy900]; exact H) | exact H
                      have Ny900 := Aside0.mk hy900
                      clear hy900
                      by_cases c27 : y900.length + 2 < 140737488355328
                      · rw [if_pos c27] at H
                        have LMc27 := Aside0.mk c27
                        clear c27
                        obtain ⟨y903, hy903⟩ : ∃ y_ : List Int, y_ = (y900 ++ bytesOf (⟨#[59, 32]⟩ : ByteArray)) := ⟨_, rfl⟩
                        replace H : (if y903.length + l1.length < 140737488355328 then ((tapestrierlaw4_Of.f kj14 (y903 ++ l1)).bind fun t909 => (if ([] : List (S31)).length + t894.length < 2932031007402 then ((some (([] : List (S31)) ++ t894 : List (S31))).bind fun y912 => (if y912.length < 2932031007402 then ((some (y912 ++ [(⟨9, (⟨#[]⟩ : ByteArray), 0, false, 0⟩ : S31)] : List (S31))).bind fun y915 => (if y915.length + t897.length < 2932031007402 then ((tapestrierref1_SameTokens.f kj14 t909 (y915 ++ t897)).bind fun t921 => (some t921)) else (none))) else (none))) else (none))) else (none)) = some r := by first | (rw [hy903]; with_reducible exact H) | (have H2_ := (Option.bind_some _ _).symm.trans H; rw [hy903]; with_reducible exact H2_) | (have H2_ := (Option.bind_some _ _).symm.trans H; with_reducible exact H2_) | with_reducible exact H | (rw [hy903]; exact H) | exact H
                        have Ny903 := Aside0.mk hy903
                        clear hy903
                        by_cases c28 : y903.length + l1.length < 140737488355328
                        · rw [if_pos c28] at H
                          have LMc28 := Aside0.mk c28
                          clear c28
                          obtain ⟨y906, hy906⟩ : ∃ y_ : List Int, y_ = (y903 ++ l1) := ⟨_, rfl⟩
                          replace H : ((tapestrierlaw4_Of.f kj14 y906).bind fun t909 => (if ([] : List (S31)).length + t894.length < 2932031007402 then ((some (([] : List (S31)) ++ t894 : List (S31))).bind fun y912 => (if y912.length < 2932031007402 then ((some (y912 ++ [(⟨9, (⟨#[]⟩ : ByteArray), 0, false, 0⟩ : S31)] : List (S31))).bind fun y915 => (if y915.length + t897.length < 2932031007402 then ((tapestrierref1_SameTokens.f kj14 t909 (y915 ++ t897)).bind fun t921 => (some t921)) else (none))) else (none))) else (none))) = some r := by first | (rw [hy906]; with_reducible exact H) | (have H2_ := (Option.bind_some _ _).symm.trans H; rw [hy906]; with_reducible exact H2_) | (have H2_ := (Option.bind_some _ _).symm.trans H; with_reducible exact H2_) | with_reducible exact H | (rw [hy906]; exact H) | exact H
                          have Ny906 := Aside0.mk hy906
                          clear hy906
                          replace H := Option.bind_eq_some_iff.mp H
                          obtain ⟨t909, A290, H⟩ := H
                          replace H : (if ([] : List (S31)).length + t894.length < 2932031007402 then ((some (([] : List (S31)) ++ t894 : List (S31))).bind fun y912 => (if y912.length < 2932031007402 then ((some (y912 ++ [(⟨9, (⟨#[]⟩ : ByteArray), 0, false, 0⟩ : S31)] : List (S31))).bind fun y915 => (if y915.length + t897.length < 2932031007402 then ((tapestrierref1_SameTokens.f kj14 t909 (y915 ++ t897)).bind fun t921 => (some t921)) else (none))) else (none))) else (none)) = some r := H
                          have A29 := Aside0.mk A290
                          clear A290
                          by_cases c30 : ([] : List (S31)).length + t894.length < 2932031007402
                          · rw [if_pos c30] at H
                            have LMc30 := Aside0.mk c30
                            clear c30
                            obtain ⟨y912, hy912⟩ : ∃ y_ : List (S31), y_ = (([] : List (S31)) ++ t894) := ⟨_, rfl⟩
                            replace H : (if y912.length < 2932031007402 then ((some (y912 ++ [(⟨9, (⟨#[]⟩ : ByteArray), 0, false, 0⟩ : S31)] : List (S31))).bind fun y915 => (if y915.length + t897.length < 2932031007402 then ((tapestrierref1_SameTokens.f kj14 t909 (y915 ++ t897)).bind fun t921 => (some t921)) else (none))) else (none)) = some r := by first | (rw [hy912]; with_reducible exact H) | (have H2_ := (Option.bind_some _ _).symm.trans H; rw [hy912]; with_reducible exact H2_) | (have H2_ := (Option.bind_some _ _).symm.trans H; with_reducible exact H2_) | with_reducible exact H | (rw [hy912]; exact H) | exact H
                            have Ny912 := Aside0.mk hy912
                            clear hy912
                            by_cases c31 : y912.length < 2932031007402
                            · rw [if_pos c31] at H
                              have LMc31 := Aside0.mk c31
                              clear c31
                              obtain ⟨y915, hy915⟩ : ∃ y_ : List (S31), y_ = (y912 ++ [(⟨9, (⟨#[]⟩ : ByteArray), 0, false, 0⟩ : S31)]) := ⟨_, rfl⟩
                              replace H : (if y915.length + t897.length < 2932031007402 then ((tapestrierref1_SameTokens.f kj14 t909 (y915 ++ t897)).bind fun t921 => (some t921)) else (none)) = some r := by first | (rw [hy915]; with_reducible exact H) | (have H2_ := (Option.bind_some _ _).symm.trans H; rw [hy915]; with_reducible exact H2_) | (have H2_ := (Option.bind_some _ _).symm.trans H; with_reducible exact H2_) | with_reducible exact H | (rw [hy915]; exact H) | exact H
                              have Ny915 := Aside0.mk hy915
                              clear hy915
                              by_cases c32 : y915.length + t897.length < 2932031007402
                              · rw [if_pos c32] at H
                                have LMc32 := Aside0.mk c32
                                clear c32
                                obtain ⟨y918, hy918⟩ : ∃ y_ : List (S31), y_ = (y915 ++ t897) := ⟨_, rfl⟩
                                replace H : ((tapestrierref1_SameTokens.f kj14 t909 y918).bind fun t921 => (some t921)) = some r := by first | (rw [hy918]; with_reducible exact H) | (have H2_ := (Option.bind_some _ _).symm.trans H; rw [hy918]; with_reducible exact H2_) | (have H2_ := (Option.bind_some _ _).symm.trans H; with_reducible exact H2_) | with_reducible exact H | (rw [hy918]; exact H) | exact H
                                have Ny918 := Aside0.mk hy918
                                clear hy918
                                replace H := Option.bind_eq_some_iff.mp H
                                obtain ⟨t921, A330, H⟩ := H
                                replace H : (some t921) = some r := H
                                have A33 := Aside0.mk A330
                                clear A330
                                obtain rfl := Option.some.inj H
                                go_wp2_with (first | ((with_reducible refine gate_builtin (b := .append) (xs := #[.const (.slice none 0 0), .tmp 96]) rfl ?_); (try (refine gate_guard (by rfl) ?_; dsimp only)); at_builtin; refine Kd.R_append_rows (Kd.int .u8) (w0 := w) w.heap.size rfl (.const (.slice none 0 0)) (.tmp 96) 25 5 (.int .u8 0) 1 rfl Tryd.underlying25 info5 rfl (by decide) (by omega) (.slice none 0 0) ([] : List Int) l0 _ _ _ (fun _ => True) (fun _ => False) rfl rfl ?aO ?aR (fun _ _ h => h) (fun _ h => h.elim) ?aF ?aB ?aS ?aL ?_; (case aR => repeat (first | exact (Kd.C_below HR0.out HB.out) | (with_reducible refine Kd.C_alloc ?_ _) | (with_reducible refine Kd.C_drewN ?_ _) | (with_reducible refine Kd.C_drew ?_))); (case aB => exact (by repeat (first | (with_reducible first | exact HB.out | apply below_alloc | apply pw_below_drewN | apply below_drew1) | exact HB.out))); (case aF => exact (fun _ _ => trivial)); (case aO => exact ((Kd.R_nil _ _ _ _ (fun _ => True)))); (case aS => exact (below_size (by repeat (first | (with_reducible first | exact HB.out | apply below_alloc | apply pw_below_drewN | apply below_drew1) | exact HB.out)))); (case aL => have := LMc23.out; first | omega | exact Nat.le_of_lt this); intro v889 w34 ho hb hg hat; rw [← Ny888.out] at ho; have n0_ := Aside0.mk (hb); have n1_ := Aside0.mk (ho); clear HB; have HB := n0_; have HO890 := n1_; clear n0_ n1_; clear ho hb hg hat) | ((with_reducible refine gate_builtin (b := .append) (xs := #[.tmp 97, .tmp 98]) rfl ?_); (try (refine gate_guard (by rfl) ?_; dsimp only)); at_builtin; refine Kd.R_append (Kd.int .u8) (w0 := w) w.heap.size rfl (.tmp 97) (.tmp 98) 25 5 (.int .u8 0) 1 rfl Tryd.underlying25 info5 rfl (by decide) (by omega) v889 y888 59 [.int .u8 59] (fun _ => True) (fun _ => False) rfl rfl ?aP (fun _ hk => hk.elim) ?aF ?aO ?aB ?aS ?aL ?_; (case aP => exact rfl); (case aB => exact (by repeat (first | (with_reducible first | exact HB.out | apply below_alloc | apply pw_below_drewN | apply below_drew1) | exact HB.out))); (case aF => exact (fun _ _ => trivial)); (case aO => exact (by (with_reducible repeat (first | apply Kd.R_alloc | apply Kd.R_drewN | apply Kd.R_drew)); exact HO890.out)); (case aS => exact (below_size (by repeat (first | (with_reducible first | exact HB.out | apply below_alloc | apply pw_below_drewN | apply below_drew1) | exact HB.out)))); (case aL => have := LMc24.out; first | omega | exact Nat.le_of_lt this); intro v892 w35 ho hb hg hat; rw [← Ny891.out] at ho; have n0_ := Aside0.mk (hb); have n1_ := Aside0.mk (ho); clear HB; clear HO890; have HB := n0_; have HO893 := n1_; clear n0_ n1_; clear ho hb hg hat; obtain ⟨Ao36, co36, eo36⟩ := Kd.R_slice HO893.out; subst eo36) | ((with_reducible refine gate_callee (f := 20) rfl ?_); refine goesL_ (some 100) rfl rfl Tryd.func20 (by kernel_rfl) rfl #[.slice Ao36 y891.length co36] rfl (by (try simp only [List.map_toArray, List.map_cons, List.map_nil]); first | done | rfl | (simp only [List.length_drop, List.length_take]; rfl)) ?_; (with_reducible refine (tapestrierlaw4_Of.calls kj14 _ _ y891 t894 _ ?side1 ?side2 ?side3 A25.out).mono ?_); (case side1 => repeat (first | exact (Kd.R_reads' HO893.out).2.2 | (with_reducible refine Kd.C_alloc ?_ _) | (with_reducible refine Kd.C_drewN ?_ _) | (with_reducible refine Kd.C_drew ?_))); (case side2 => exact (Kd.R_reads' HO893.out).2.1); (case side3 => exact TabsIn.below HT.out (by repeat (first | (with_reducible first | exact HB.out | apply below_alloc | apply pw_below_drewN | apply below_drew1) | exact HB.out))); rintro e w37 ⟨v895, rfl, ho0, hb⟩; refine ⟨_, rfl, ?_⟩; have n0_ := Aside0.mk (Kd.R_below (by (with_reducible repeat (first | apply Kd.R_alloc | apply Kd.R_drewN | apply Kd.R_drew)); exact HO893.out) hb); have n1_ := Aside0.mk (Kd.R_lower ho0 (below_size (by repeat (first | (with_reducible first | exact HB.out | apply below_alloc | apply pw_below_drewN | apply below_drew1) | exact HB.out)))); have n2_ := Aside0.mk (below_step (by repeat (first | (with_reducible first | exact HB.out | apply below_alloc | apply pw_below_drewN | apply below_drew1) | exact HB.out)) hb); clear HO893; clear HB; have HO893 := n0_; have HO896 := n1_; have HB := n2_; clear n0_ n1_ n2_; (try clear hb); (try clear hb2); (try clear hk); (try clear hi); (try clear ho0)) | ((with_reducible refine gate_callee (f := 20) rfl ?_); refine goesL_ (some 102) rfl rfl Tryd.func20 (by kernel_rfl) rfl #[.slice A1 l1.length c1] rfl (by (try simp only [List.map_toArray, List.map_cons, List.map_nil]); first | done | rfl | (simp only [List.length_drop, List.length_take]; rfl)) ?_; (with_reducible refine (tapestrierlaw4_Of.calls kj14 _ _ l1 t897 _ ?side1 ?side2 ?side3 A26.out).mono ?_); (case side1 => repeat (first | exact (Kd.C_below HR1.out HB.out) | (with_reducible refine Kd.C_alloc ?_ _) | (with_reducible refine Kd.C_drewN ?_ _) | (with_reducible refine Kd.C_drew ?_))); (case side2 => exact HC1.out); (case side3 => exact TabsIn.below HT.out (by repeat (first | (with_reducible first | exact HB.out | apply below_alloc | apply pw_below_drewN | apply below_drew1) | exact HB.out))); rintro e w38 ⟨v898, rfl, ho0, hb⟩; refine ⟨_, rfl, ?_⟩; have n0_ := Aside0.mk (Kd.R_below (by (with_reducible repeat (first | apply Kd.R_alloc | apply Kd.R_drewN | apply Kd.R_drew)); exact HO893.out) hb); have n1_ := Aside0.mk (Kd.R_elder' (by (with_reducible repeat (first | apply Kd.R_alloc | apply Kd.R_drewN | apply Kd.R_drew)); exact HO896.out) (Kd.R_base ho0) hb); have n2_ := Aside0.mk (Kd.R_lower (Kd.R_new' ho0 (Kd.R_lt (by (with_reducible repeat (first | apply Kd.R_alloc | apply Kd.R_drewN | apply Kd.R_drew)); exact HO896.out))) (below_size (by repeat (first | (with_reducible first | exact HB.out | apply below_alloc | apply pw_below_drewN | apply below_drew1) | exact HB.out)))); have n3_ := Aside0.mk (below_step (by repeat (first | (with_reducible first | exact HB.out | apply below_alloc | apply pw_below_drewN | apply below_drew1) | exact HB.out)) hb); clear HO893; clear HO896; clear HB; have HO893 := n0_; have HO896 := n1_; have HO899 := n2_; have HB := n3_; clear n0_ n1_ n2_ n3_; (try clear hb); (try clear hb2); (try clear hk); (try clear hi); (try clear ho0)) | ((with_reducible refine gate_builtin (b := .append) (xs := #[.const (.slice none 0 0), .tmp 103]) rfl ?_); (try (refine gate_guard (by rfl) ?_; dsimp only)); at_builtin; refine Kd.R_append_rows (Kd.int .u8) (w0 := w) w.heap.size rfl (.const (.slice none 0 0)) (.tmp 103) 25 5 (.int .u8 0) 1 rfl Tryd.underlying25 info5 rfl (by decide) (by omega) (.slice none 0 0) ([] : List Int) l0 _ _ _ (fun k_ => some k_ ≠ (.slice Ao36 y891.length co36 : Value).ownBlock) (fun _ => False) rfl rfl ?aO ?aR (fun _ _ h => h) (fun _ h => h.elim) ?aF ?aB ?aS ?aL ?_; (case aR => repeat (first | exact (Kd.C_below HR0.out HB.out) | (with_reducible refine Kd.C_alloc ?_ _) | (with_reducible refine Kd.C_drewN ?_ _) | (with_reducible refine Kd.C_drew ?_))); (case aB => exact (by repeat (first | (with_reducible first | exact HB.out | apply below_alloc | apply pw_below_drewN | apply below_drew1) | exact HB.out))); (case aF => exact (fun k_ hk => Kd.fresh' (Kd.R_lt (by (with_reducible repeat (first | apply Kd.R_alloc | apply Kd.R_drewN | apply Kd.R_drew)); exact HO893.out)) k_ hk)); (case aO => exact ((Kd.R_nil _ _ _ _ (fun k_ => some k_ ≠ (.slice Ao36 y891.length co36 : Value).ownBlock)))); (case aS => exact (below_size (by repeat (first | (with_reducible first | exact HB.out | apply below_alloc | apply pw_below_drewN | apply below_drew1) | exact HB.out)))); (case aL => have := LMc23.out; first | omega | exact Nat.le_of_lt this); intro v901 w39 ho hb hg hat; rw [← Ny900.out] at ho; have n0_ := Aside0.mk (Kd.R_after (Kd.R_apart_nil (by (with_reducible repeat (first | apply Kd.R_alloc | apply Kd.R_drewN | apply Kd.R_drew)); exact HO893.out)) hg hat); have n1_ := Aside0.mk (Kd.R_grown (by (with_reducible repeat (first | apply Kd.R_alloc | apply Kd.R_drewN | apply Kd.R_drew)); exact HO896.out) hg (fun _ _ => by simp [Value.ownBlock])); have n2_ := Aside0.mk (Kd.R_grown (by (with_reducible repeat (first | apply Kd.R_alloc | apply Kd.R_drewN | apply Kd.R_drew)); exact HO899.out) hg (fun _ _ => by simp [Value.ownBlock])); have n3_ := Aside0.mk (hb); have n4_ := Aside0.mk (ho); clear HO893; clear HO896; clear HO899; clear HB; have HO893 := n0_; have HO896 := n1_; have HO899 := n2_; have HB := n3_; have HO902 := n4_; clear n0_ n1_ n2_ n3_ n4_; clear ho hb hg hat) | (at_builtin; refine R_append_str (w0 := w) w.heap.size rfl (.tmp 104) _ 25 9 5 rfl Tryd.underlying25 Tryd.underlying9 info5 v901 y900 (⟨#[59, 32]⟩ : ByteArray) (fun k_ => some k_ ≠ (.slice Ao36 y891.length co36 : Value).ownBlock) rfl rfl ?aF ?aO ?aB ?aS ?aL ?_; (case aB => exact (by repeat (first | (with_reducible first | exact HB.out | apply below_alloc | apply pw_below_drewN | apply below_drew1) | exact HB.out))); (case aF => exact (fun k_ hk => Kd.fresh' (Kd.R_lt (by (with_reducible repeat (first | apply Kd.R_alloc | apply Kd.R_drewN | apply Kd.R_drew)); exact HO893.out)) k_ hk)); (case aO => exact (by (with_reducible repeat (first | apply Kd.R_alloc | apply Kd.R_drewN | apply Kd.R_drew)); exact HO902.out)); (case aS => exact (below_size (by repeat (first | (with_reducible first | exact HB.out | apply below_alloc | apply pw_below_drewN | apply below_drew1) | exact HB.out)))); (case aL => have := LMc27.out; first | omega | exact Nat.le_of_lt this); intro v904 w40 ho hb hg hat; rw [← Ny903.out] at ho; change Kd.R (Kd.int .u8) 5 w40 w.heap.size (fun k_ => some k_ ≠ (.slice Ao36 y891.length co36 : Value).ownBlock) v904 y903 at ho; have n0_ := Aside0.mk (Kd.R_after (ok := (fun _ => True)) (by (with_reducible repeat (first | apply Kd.R_alloc | apply Kd.R_drewN | apply Kd.R_drew)); exact HO893.out) hg hat); have n1_ := Aside0.mk (Kd.R_over' (by (with_reducible repeat (first | apply Kd.R_alloc | apply Kd.R_drewN | apply Kd.R_drew)); exact HO896.out) (Kd.R_typed (by (with_reducible repeat (first | apply Kd.R_alloc | apply Kd.R_drewN | apply Kd.R_drew)); exact HO902.out)) (by decide) hg); have n2_ := Aside0.mk (Kd.R_over' (by (with_reducible repeat (first | apply Kd.R_alloc | apply Kd.R_drewN | apply Kd.R_drew)); exact HO899.out) (Kd.R_typed (by (with_reducible repeat (first | apply Kd.R_alloc | apply Kd.R_drewN | apply Kd.R_drew)); exact HO902.out)) (by decide) hg); have n3_ := Aside0.mk (hb); have n4_ := Aside0.mk (ho); clear HO893; clear HO896; clear HO899; clear HB; clear HO902; have HO893 := n0_; have HO896 := n1_; have HO899 := n2_; have HB := n3_; have HO905 := n4_; clear n0_ n1_ n2_ n3_ n4_; clear ho hb hg hat) | ((with_reducible refine gate_builtin (b := .append) (xs := #[.tmp 105, .tmp 106]) rfl ?_); (try (refine gate_guard (by rfl) ?_; dsimp only)); at_builtin; refine Kd.R_append_rows (Kd.int .u8) (w0 := w) w.heap.size rfl (.tmp 105) (.tmp 106) 25 5 (.int .u8 0) 1 rfl Tryd.underlying25 info5 rfl (by decide) (by omega) v904 y903 l1 _ _ _ (fun k_ => some k_ ≠ (.slice Ao36 y891.length co36 : Value).ownBlock) (fun _ => False) rfl rfl ?aO ?aR (fun _ _ h => h) (fun _ h => h.elim) ?aF ?aB ?aS ?aL ?_; (case aR => repeat (first | exact (Kd.C_below HR1.out HB.out) | (with_reducible refine Kd.C_alloc ?_ _) | (with_reducible refine Kd.C_drewN ?_ _) | (with_reducible refine Kd.C_drew ?_))); (case aB => exact (by repeat (first | (with_reducible first | exact HB.out | apply below_alloc | apply pw_below_drewN | apply below_drew1) | exact HB.out))); (case aF => exact (fun k_ hk => Kd.fresh' (Kd.R_lt (by (with_reducible repeat (first | apply Kd.R_alloc | apply Kd.R_drewN | apply Kd.R_drew)); exact HO893.out)) k_ hk)); (case aO => exact (by (with_reducible repeat (first | apply Kd.R_alloc | apply Kd.R_drewN | apply Kd.R_drew)); exact HO905.out)); (case aS => exact (below_size (by repeat (first | (with_reducible first | exact HB.out | apply below_alloc | apply pw_below_drewN | apply below_drew1) | exact HB.out)))); (case aL => have := LMc28.out; first | omega | exact Nat.le_of_lt this); intro v907 w41 ho hb hg hat; rw [← Ny906.out] at ho; have n0_ := Aside0.mk (Kd.R_after (ok := (fun _ => True)) (by (with_reducible repeat (first | apply Kd.R_alloc | apply Kd.R_drewN | apply Kd.R_drew)); exact HO893.out) hg hat); have n1_ := Aside0.mk (Kd.R_over' (by (with_reducible repeat (first | apply Kd.R_alloc | apply Kd.R_drewN | apply Kd.R_drew)); exact HO896.out) (Kd.R_typed (by (with_reducible repeat (first | apply Kd.R_alloc | apply Kd.R_drewN | apply Kd.R_drew)); exact HO905.out)) (by decide) hg); have n2_ := Aside0.mk (Kd.R_over' (by (with_reducible repeat (first | apply Kd.R_alloc | apply Kd.R_drewN | apply Kd.R_drew)); exact HO899.out) (Kd.R_typed (by (with_reducible repeat (first | apply Kd.R_alloc | apply Kd.R_drewN | apply Kd.R_drew)); exact HO905.out)) (by decide) hg); have n3_ := Aside0.mk (hb); have n4_ := Aside0.mk (ho); clear HO893; clear HO896; clear HO899; clear HB; clear HO905; have HO893 := n0_; have HO896 := n1_; have HO899 := n2_; have HB := n3_; have HO908 := n4_; clear n0_ n1_ n2_ n3_ n4_; clear ho hb hg hat; obtain ⟨Ao42, co42, eo42⟩ := Kd.R_slice HO908.out; subst eo42) | ((with_reducible refine gate_callee (f := 20) rfl ?_); refine goesL_ (some 108) rfl rfl Tryd.func20 (by kernel_rfl) rfl #[.slice Ao42 y906.length co42] rfl (by (try simp only [List.map_toArray, List.map_cons, List.map_nil]); first | done | rfl | (simp only [List.length_drop, List.length_take]; rfl)) ?_; (with_reducible refine (tapestrierlaw4_Of.calls kj14 _ _ y906 t909 _ ?side1 ?side2 ?side3 A29.out).mono ?_); (case side1 => repeat (first | exact (Kd.R_reads' HO908.out).2.2 | (with_reducible refine Kd.C_alloc ?_ _) | (with_reducible refine Kd.C_drewN ?_ _) | (with_reducible refine Kd.C_drew ?_))); (case side2 => exact (Kd.R_reads' HO908.out).2.1); (case side3 => exact TabsIn.below HT.out (by repeat (first | (with_reducible first | exact HB.out | apply below_alloc | apply pw_below_drewN | apply below_drew1) | exact HB.out))); rintro e w43 ⟨v910, rfl, ho0, hb⟩; refine ⟨_, rfl, ?_⟩; have n0_ := Aside0.mk (Kd.R_below (by (with_reducible repeat (first | apply Kd.R_alloc | apply Kd.R_drewN | apply Kd.R_drew)); exact HO893.out) hb); have n1_ := Aside0.mk (Kd.R_elder' (by (with_reducible repeat (first | apply Kd.R_alloc | apply Kd.R_drewN | apply Kd.R_drew)); exact HO896.out) (Kd.R_base ho0) hb); have n2_ := Aside0.mk (Kd.R_elder' (by (with_reducible repeat (first | apply Kd.R_alloc | apply Kd.R_drewN | apply Kd.R_drew)); exact HO899.out) (Kd.R_base ho0) hb); have n3_ := Aside0.mk (Kd.R_below (by (with_reducible repeat (first | apply Kd.R_alloc | apply Kd.R_drewN | apply Kd.R_drew)); exact HO908.out) hb); have n4_ := Aside0.mk (Kd.R_lower (Kd.R_new' (Kd.R_new' ho0 (Kd.R_lt (by (with_reducible repeat (first | apply Kd.R_alloc | apply Kd.R_drewN | apply Kd.R_drew)); exact HO896.out))) (Kd.R_lt (by (with_reducible repeat (first | apply Kd.R_alloc | apply Kd.R_drewN | apply Kd.R_drew)); exact HO899.out))) (below_size (by repeat (first | (with_reducible first | exact HB.out | apply below_alloc | apply pw_below_drewN | apply below_drew1) | exact HB.out)))); have n5_ := Aside0.mk (below_step (by repeat (first | (with_reducible first | exact HB.out | apply below_alloc | apply pw_below_drewN | apply below_drew1) | exact HB.out)) hb); clear HO893; clear HO896; clear HO899; clear HO908; clear HB; have HO893 := n0_; have HO896 := n1_; have HO899 := n2_; have HO908 := n3_; have HO911 := n4_; have HB := n5_; clear n0_ n1_ n2_ n3_ n4_ n5_; (try clear hb); (try clear hb2); (try clear hk); (try clear hi); (try clear ho0); obtain ⟨Ao45, co45, eo45⟩ := Kd.R_slice HO896.out; subst eo45) | ((with_reducible refine gate_builtin (b := .append) (xs := #[.const (.slice none 0 0), .tmp 110]) rfl ?_); (try (refine gate_guard (by rfl) ?_; dsimp only)); at_builtin; refine Kd.R_append_rows k31 (w0 := w) w.heap.size rfl (.const (.slice none 0 0)) (.tmp 110) 32 31 (.agg #[(.int .i64 0), (.string ⟨#[]⟩), (.int .i64 0), (.bool false), (.int .i64 0)]) 48 rfl Tryd.underlying32 info31 rfl (by decide) (by omega) (.slice none 0 0) ([] : List (S31)) t894 _ _ _ (fun k_ => some k_ ≠ (.slice Ao45 t894.length co45 : Value).ownBlock ∧ some k_ ≠ (v898 : Value).ownBlock ∧ some k_ ≠ (v910 : Value).ownBlock) (fun _ => False) rfl rfl ?aO ?aR (fun _ _ h => h) (fun _ h => h.elim) ?aF ?aB ?aS ?aL ?_; (case aR => repeat (first | exact (Kd.R_reads' HO896.out).2.2 | (with_reducible refine Kd.C_alloc ?_ _) | (with_reducible refine Kd.C_drewN ?_ _) | (with_reducible refine Kd.C_drew ?_))); (case aB => exact (by repeat (first | (with_reducible first | exact HB.out | apply below_alloc | apply pw_below_drewN | apply below_drew1) | exact HB.out))); (case aF => exact (fun k_ hk => ⟨Kd.fresh' (Kd.R_lt (by (with_reducible repeat (first | apply Kd.R_alloc | apply Kd.R_drewN | apply Kd.R_drew)); exact HO896.out)) k_ hk, Kd.fresh' (Kd.R_lt (by (with_reducible repeat (first | apply Kd.R_alloc | apply Kd.R_drewN | apply Kd.R_drew)); exact HO899.out)) k_ hk, Kd.fresh' (Kd.R_lt (by (with_reducible repeat (first | apply Kd.R_alloc | apply Kd.R_drewN | apply Kd.R_drew)); exact HO911.out)) k_ hk⟩)); (case aO => exact ((Kd.R_nil _ _ _ _ (fun k_ => some k_ ≠ (.slice Ao45 t894.length co45 : Value).ownBlock ∧ some k_ ≠ (v898 : Value).ownBlock ∧ some k_ ≠ (v910 : Value).ownBlock)))); (case aS => exact (below_size (by repeat (first | (with_reducible first | exact HB.out | apply below_alloc | apply pw_below_drewN | apply below_drew1) | exact HB.out)))); (case aL => have := LMc30.out; first | omega | exact Nat.le_of_lt this); intro v913 w44 ho hb hg hat; rw [← Ny912.out] at ho; have n0_ := Aside0.mk (Kd.R_grown (by (with_reducible repeat (first | apply Kd.R_alloc | apply Kd.R_drewN | apply Kd.R_drew)); exact HO893.out) hg (fun _ _ => by simp [Value.ownBlock])); have n1_ := Aside0.mk (Kd.R_after (Kd.R_apart_nil (by (with_reducible repeat (first | apply Kd.R_alloc | apply Kd.R_drewN | apply Kd.R_drew)); exact HO896.out)) hg hat); have n2_ := Aside0.mk (Kd.R_after (Kd.R_apart_nil (by (with_reducible repeat (first | apply Kd.R_alloc | apply Kd.R_drewN | apply Kd.R_drew)); exact HO899.out)) hg hat); have n3_ := Aside0.mk (Kd.R_grown (by (with_reducible repeat (first | apply Kd.R_alloc | apply Kd.R_drewN | apply Kd.R_drew)); exact HO908.out) hg (fun _ _ => by simp [Value.ownBlock])); have n4_ := Aside0.mk (Kd.R_after (Kd.R_apart_nil (by (with_reducible repeat (first | apply Kd.R_alloc | apply Kd.R_drewN | apply Kd.R_drew)); exact HO911.out)) hg hat); have n5_ := Aside0.mk (hb); have n6_ := Aside0.mk (ho); clear HO893; clear HO896; clear HO899; clear HO908; clear HO911; clear HB; have HO893 := n0_; have HO896 := n1_; have HO899 := n2_; have HO908 := n3_; have HO911 := n4_; have HB := n5_; have HO914 := n6_; clear n0_ n1_ n2_ n3_ n4_ n5_ n6_; clear ho hb hg hat) | ((with_reducible refine gate_builtin (b := .append) (xs := #[.tmp 111, .tmp 113]) rfl ?_); (try (refine gate_guard (by rfl) ?_; dsimp only)); at_builtin; refine Kd.R_append k31 (w0 := w) w.heap.size rfl (.tmp 111) (.tmp 113) 32 31 (.agg #[(.int .i64 0), (.string ⟨#[]⟩), (.int .i64 0), (.bool false), (.int .i64 0)]) 48 rfl Tryd.underlying32 info31 rfl (by decide) (by omega) v913 y912 (⟨9, (⟨#[]⟩ : ByteArray), 0, false, 0⟩ : S31) [.int .i64 9, .string (⟨#[]⟩ : ByteArray), .int .i64 0, .bool false, .int .i64 0] (fun k_ => some k_ ≠ (.slice Ao45 t894.length co45 : Value).ownBlock ∧ some k_ ≠ (v898 : Value).ownBlock ∧ some k_ ≠ (v910 : Value).ownBlock) (fun _ => False) rfl rfl ?aP (fun _ hk => hk.elim) ?aF ?aO ?aB ?aS ?aL ?_; (case aP => exact k31_mkM _ _ _ (⟨9, (⟨#[]⟩ : ByteArray), 0, false, 0⟩ : S31)); (case aB => exact (by repeat (first | (with_reducible first | exact HB.out | apply below_alloc | apply pw_below_drewN | apply below_drew1) | exact HB.out))); (case aF => exact (fun k_ hk => ⟨Kd.fresh' (Kd.R_lt (by (with_reducible repeat (first | apply Kd.R_alloc | apply Kd.R_drewN | apply Kd.R_drew)); exact HO896.out)) k_ hk, Kd.fresh' (Kd.R_lt (by (with_reducible repeat (first | apply Kd.R_alloc | apply Kd.R_drewN | apply Kd.R_drew)); exact HO899.out)) k_ hk, Kd.fresh' (Kd.R_lt (by (with_reducible repeat (first | apply Kd.R_alloc | apply Kd.R_drewN | apply Kd.R_drew)); exact HO911.out)) k_ hk⟩)); (case aO => exact (by (with_reducible repeat (first | apply Kd.R_alloc | apply Kd.R_drewN | apply Kd.R_drew)); exact HO914.out)); (case aS => exact (below_size (by repeat (first | (with_reducible first | exact HB.out | apply below_alloc | apply pw_below_drewN | apply below_drew1) | exact HB.out)))); (case aL => have := LMc31.out; first | omega | exact Nat.le_of_lt this); intro v916 w46 ho hb hg hat; rw [← Ny915.out] at ho; have n0_ := Aside0.mk (Kd.R_over' (by (with_reducible repeat (first | apply Kd.R_alloc | apply Kd.R_drewN | apply Kd.R_drew)); exact HO893.out) (Kd.R_typed (by (with_reducible repeat (first | apply Kd.R_alloc | apply Kd.R_drewN | apply Kd.R_drew)); exact HO914.out)) (by decide) hg); have n1_ := Aside0.mk (Kd.R_after (ok := (fun k_ => some k_ ≠ (v898 : Value).ownBlock ∧ some k_ ≠ (v910 : Value).ownBlock)) (by (with_reducible repeat (first | apply Kd.R_alloc | apply Kd.R_drewN | apply Kd.R_drew)); exact Kd.R_mono HO896.out (fun _ hk => ⟨⟨hk.1.1.2, hk.1.2⟩, hk.2⟩)) hg hat); have n2_ := Aside0.mk (Kd.R_after (ok := (fun k_ => some k_ ≠ (.slice Ao45 t894.length co45 : Value).ownBlock ∧ some k_ ≠ (v910 : Value).ownBlock)) (by (with_reducible repeat (first | apply Kd.R_alloc | apply Kd.R_drewN | apply Kd.R_drew)); exact Kd.R_mono HO899.out (fun _ hk => ⟨⟨hk.1.1.2, hk.1.2⟩, hk.2⟩)) hg hat); have n3_ := Aside0.mk (Kd.R_over' (by (with_reducible repeat (first | apply Kd.R_alloc | apply Kd.R_drewN | apply Kd.R_drew)); exact HO908.out) (Kd.R_typed (by (with_reducible repeat (first | apply Kd.R_alloc | apply Kd.R_drewN | apply Kd.R_drew)); exact HO914.out)) (by decide) hg); have n4_ := Aside0.mk (Kd.R_after (ok := (fun k_ => some k_ ≠ (.slice Ao45 t894.length co45 : Value).ownBlock ∧ some k_ ≠ (v898 : Value).ownBlock)) (by (with_reducible repeat (first | apply Kd.R_alloc | apply Kd.R_drewN | apply Kd.R_drew)); exact Kd.R_mono HO911.out (fun _ hk => ⟨⟨hk.1.1.2, hk.1.2⟩, hk.2⟩)) hg hat); have n5_ := Aside0.mk (hb); have n6_ := Aside0.mk (ho); clear HO893; clear HO896; clear HO899; clear HO908; clear HO911; clear HB; clear HO914; have HO893 := n0_; have HO896 := n1_; have HO899 := n2_; have HO908 := n3_; have HO911 := n4_; have HB := n5_; have HO917 := n6_; clear n0_ n1_ n2_ n3_ n4_ n5_ n6_; clear ho hb hg hat; obtain ⟨Ao48, co48, eo48⟩ := Kd.R_slice HO899.out; subst eo48) | ((with_reducible refine gate_builtin (b := .append) (xs := #[.tmp 114, .tmp 115]) rfl ?_); (try (refine gate_guard (by rfl) ?_; dsimp only)); at_builtin; refine Kd.R_append_rows k31 (w0 := w) w.heap.size rfl (.tmp 114) (.tmp 115) 32 31 (.agg #[(.int .i64 0), (.string ⟨#[]⟩), (.int .i64 0), (.bool false), (.int .i64 0)]) 48 rfl Tryd.underlying32 info31 rfl (by decide) (by omega) v916 y915 t897 _ _ _ (fun k_ => some k_ ≠ (.slice Ao45 t894.length co45 : Value).ownBlock ∧ some k_ ≠ (.slice Ao48 t897.length co48 : Value).ownBlock ∧ some k_ ≠ (v910 : Value).ownBlock) (fun _ => False) rfl rfl ?aO ?aR (fun _ _ h => h) (fun _ h => h.elim) ?aF ?aB ?aS ?aL ?_; (case aR => repeat (first | exact (Kd.R_reads' HO899.out).2.2 | (with_reducible refine Kd.C_alloc ?_ _) | (with_reducible refine Kd.C_drewN ?_ _) | (with_reducible refine Kd.C_drew ?_))); (case aB => exact (by repeat (first | (with_reducible first | exact HB.out | apply below_alloc | apply pw_below_drewN | apply below_drew1) | exact HB.out))); (case aF => exact (fun k_ hk => ⟨Kd.fresh' (Kd.R_lt (by (with_reducible repeat (first | apply Kd.R_alloc | apply Kd.R_drewN | apply Kd.R_drew)); exact HO896.out)) k_ hk, Kd.fresh' (Kd.R_lt (by (with_reducible repeat (first | apply Kd.R_alloc | apply Kd.R_drewN | apply Kd.R_drew)); exact HO899.out)) k_ hk, Kd.fresh' (Kd.R_lt (by (with_reducible repeat (first | apply Kd.R_alloc | apply Kd.R_drewN | apply Kd.R_drew)); exact HO911.out)) k_ hk⟩)); (case aO => exact (by (with_reducible repeat (first | apply Kd.R_alloc | apply Kd.R_drewN | apply Kd.R_drew)); exact HO917.out)); (case aS => exact (below_size (by repeat (first | (with_reducible first | exact HB.out | apply below_alloc | apply pw_below_drewN | apply below_drew1) | exact HB.out)))); (case aL => have := LMc32.out; first | omega | exact Nat.le_of_lt this); intro v919 w47 ho hb hg hat; rw [← Ny918.out] at ho; have n0_ := Aside0.mk (Kd.R_over' (by (with_reducible repeat (first | apply Kd.R_alloc | apply Kd.R_drewN | apply Kd.R_drew)); exact HO893.out) (Kd.R_typed (by (with_reducible repeat (first | apply Kd.R_alloc | apply Kd.R_drewN | apply Kd.R_drew)); exact HO917.out)) (by decide) hg); have n1_ := Aside0.mk (Kd.R_after (ok := (fun k_ => some k_ ≠ (.slice Ao48 t897.length co48 : Value).ownBlock ∧ some k_ ≠ (v910 : Value).ownBlock)) (by (with_reducible repeat (first | apply Kd.R_alloc | apply Kd.R_drewN | apply Kd.R_drew)); exact HO896.out) hg hat); have n2_ := Aside0.mk (Kd.R_after (ok := (fun k_ => some k_ ≠ (.slice Ao45 t894.length co45 : Value).ownBlock ∧ some k_ ≠ (v910 : Value).ownBlock)) (by (with_reducible repeat (first | apply Kd.R_alloc | apply Kd.R_drewN | apply Kd.R_drew)); exact HO899.out) hg hat); have n3_ := Aside0.mk (Kd.R_over' (by (with_reducible repeat (first | apply Kd.R_alloc | apply Kd.R_drewN | apply Kd.R_drew)); exact HO908.out) (Kd.R_typed (by (with_reducible repeat (first | apply Kd.R_alloc | apply Kd.R_drewN | apply Kd.R_drew)); exact HO917.out)) (by decide) hg); have n4_ := Aside0.mk (Kd.R_after (ok := (fun k_ => some k_ ≠ (.slice Ao45 t894.length co45 : Value).ownBlock ∧ some k_ ≠ (.slice Ao48 t897.length co48 : Value).ownBlock)) (by (with_reducible repeat (first | apply Kd.R_alloc | apply Kd.R_drewN | apply Kd.R_drew)); exact HO911.out) hg hat); have n5_ := Aside0.mk (hb); have n6_ := Aside0.mk (ho); clear HO893; clear HO896; clear HO899; clear HO908; clear HO911; clear HB; clear HO917; have HO893 := n0_; have HO896 := n1_; have HO899 := n2_; have HO908 := n3_; have HO911 := n4_; have HB := n5_; have HO920 := n6_; clear n0_ n1_ n2_ n3_ n4_ n5_ n6_; clear ho hb hg hat; obtain ⟨Ao49, co49, eo49⟩ := Kd.R_slice HO911.out; subst eo49; obtain ⟨Ao50, co50, eo50⟩ := Kd.R_slice HO920.out; subst eo50) | ((with_reducible refine gate_callee (f := 19) rfl ?_); refine goesL_ (some 117) rfl rfl Tryd.func19 (by kernel_rfl) rfl #[.slice Ao49 t909.length co49, .slice Ao50 y918.length co50] rfl (by (try simp only [List.map_toArray, List.map_cons, List.map_nil]); first | done | rfl | (simp only [List.length_drop, List.length_take]; rfl)) ?_; (with_reducible refine (tapestrierref1_SameTokens.calls kj14 _ _ t909 _ _ y918 t921 _ ?side1 ?side2 ?side3 ?side4 A33.out).mono ?_); (case side1 => repeat (first | exact (Kd.R_reads' HO911.out).2.2 | (with_reducible refine Kd.C_alloc ?_ _) | (with_reducible refine Kd.C_drewN ?_ _) | (with_reducible refine Kd.C_drew ?_))); (case side2 => exact (Kd.R_reads' HO911.out).2.1); (case side3 => repeat (first | exact (Kd.R_reads' HO920.out).2.2 | (with_reducible refine Kd.C_alloc ?_ _) | (with_reducible refine Kd.C_drewN ?_ _) | (with_reducible refine Kd.C_drew ?_))); (case side4 => exact (Kd.R_reads' HO920.out).2.1); rintro e w' ⟨rfl, ⟨nd, rfl⟩⟩; refine ⟨_, rfl, ?_⟩))
                                go_ret
                                exact ⟨by first | rfl | (simp [errW_none, errW_some] <;> rfl) | (simp [*, errW_none, errW_some] <;> rfl), by repeat (first | (with_reducible first | exact HB.out | apply below_alloc | apply pw_below_drewN | apply below_drew1) | exact HB.out)⟩
                              · rw [if_neg c32] at H
                                exact absurd H (by simp)
                            · rw [if_neg c31] at H
                              exact absurd H (by simp)
                          · rw [if_neg c30] at H
                            exact absurd H (by simp)
                        · rw [if_neg c28] at H
                          exact absurd H (by simp)
                      · rw [if_neg c27] at H
                        exact absurd H (by simp)
                    · rw [if_neg c24] at H
                      exact absurd H (by simp)
                  · rw [if_neg c23] at H
                    exact absurd H (by simp)
def tapestrierlaw4_TokParts.Pure : Prop := ∀ (l0 : List Int) (l1 : List Int), l0.length ≤ maxLen → l0.length * 1 ≤ 140737488351232 → (∀ x ∈ l0, (Lit.int .u8 x).wf = true) → l1.length ≤ maxLen → l1.length * 1 ≤ 140737488351232 → (∀ x ∈ l1, (Lit.int .u8 x).wf = true) → ∃ k, tapestrierlaw4_TokParts.f k l0 l1 = some true
theorem tapestrierlaw4_TokParts.walk (P : tapestrierlaw4_TokParts.Pure) (a0 : Option Addr) (len0 cap0 : Nat) (z0 : List Int) (a1 : Option Addr) (len1 cap1 : Nat) (z1 : List Int) (w : World) (w0 : (a0 = none ∧ len0 = 0 ∧ cap0 = 0 ∧ z0 = []) ∨ ∃ x, a0 = some x ∧ len0 ≤ cap0 ∧ cap0 ≤ maxLen ∧ z0.length = cap0 ∧ (∀ i, i < z0.length → w.cell? (x.add i) = some (.int .u8 (z0.getD i 0))) ∧ ∀ n ∈ z0, (Lit.int .u8 n).wf = true) (y0 : len0 * 1 ≤ 140737488351232) (w1 : (a1 = none ∧ len1 = 0 ∧ cap1 = 0 ∧ z1 = []) ∨ ∃ x, a1 = some x ∧ len1 ≤ cap1 ∧ cap1 ≤ maxLen ∧ z1.length = cap1 ∧ (∀ i, i < z1.length → w.cell? (x.add i) = some (.int .u8 (z1.getD i 0))) ∧ ∀ n ∈ z1, (Lit.int .u8 n).wf = true) (y1 : len1 * 1 ≤ 140737488351232) (hT : TabsIn w) :
    Calls Tryd.prog 10 #[.slice a0 len0 cap0, .slice a1 len1 cap1] w fun e w' => e = .returned (.bool true) ∧ Below w.heap.size w w' := by
  obtain ⟨l0, rfl, hr0, hm0, hw0, hc0⟩ := ReadsInt.ofRowC w0
  obtain ⟨l1, rfl, hr1, hm1, hw1, hc1⟩ := ReadsInt.ofRowC w1
  obtain ⟨k, h⟩ := P l0 l1 hm0 y0 hw0 hm1 y1 hw1
  refine (tapestrierlaw4_TokParts.calls k _ _ l0 _ _ l1 true w (Kd.C_of_reads (d := (0 : Int)) (h1 := fun _ => rfl) hr0) hc0 (Kd.C_of_reads (d := (0 : Int)) (h1 := fun _ => rfl) hr1) hc1 hT h).mono ?_
  rintro e w' ⟨rfl, hd⟩
  exact ⟨rfl, hd⟩
end Go.Proofs.YtplkkmmojanclaaDoor.Q
