/- Part of the proof; printed or typed in this session; unused declarations and remarks struck by a program (wip/prune.py). -/
import Derived.Test.YtplkkmmojanclaaDoorCQ0
import Derived.Test.YtplkkmmojanclaaDoorCQ16
import Derived.Test.YtplkkmmojanclaaDoorCQ17
namespace Go.Proofs.YtplkkmmojanclaaDoor.Q
open Go.RowKit Go.Proofs.YtplkkmmojanclaaDoor.My Go.Proofs.YtplkkmmojanclaaDoorW.PrintWords Go.Proofs.YtplkkmmojanclaaDoorW.PrintLast Go.Proofs.YtplkkmmojanclaaDoorW.PrintMore
attribute [local go_sem] max2_int min2_int max_two min_two max_three min_three max_four min_four
set_option linter.unusedVariables false
set_option linter.unusedSimpArgs false
mutual
def tapestrierlaw4_TokStrings.j0 : Nat → ByteArray → Bool → Bool → Bool → Bool → Option (Bool)
  | 0, _, _, _, _, _ => none
  | k + 1, x0, x1, x2, x7, x19 => if x19 = true then (some x7) else (tapestrierlaw4_TokStrings.l0 k x0 x1 x2 0)
def tapestrierlaw4_TokStrings.l0 : Nat → ByteArray → Bool → Bool → Int → Option (Bool)
  | 0, _, _, _, _ => none
  | k + 1, x0, x1, x2, x8 => if x8 < (x0.size : Int) then (if 0 ≤ x8 then (if (bt x0 x8) < 32 then (some true) else (if (bt x0 x8) > 126 then (some true) else (if (bt x0 x8) = 34 then (some true) else (if (bt x0 x8) = 39 then (some true) else (if (bt x0 x8) = 92 then (some true) else (tapestrierlaw4_TokStrings.l0 k x0 x1 x2 (wrap64 (x8 + 1)))))))) else (none)) else (if x1 = true then (tapestrierlaw4_TokStrings.j2 k x0 x2 (⟨#[39]⟩ : ByteArray)) else (tapestrierlaw4_TokStrings.j2 k x0 x2 (⟨#[34]⟩ : ByteArray)))
def tapestrierlaw4_TokStrings.j2 : Nat → ByteArray → Bool → ByteArray → Option (Bool)
  | 0, _, _, _ => none
  | k + 1, x0, x2, x9 => (some (([(⟨4, x0, 0, false, 0⟩ : S31)] : List (S31)) : List (S31))).bind fun y699 => (if x2 = true then (if x9.size + x0.size ≤ 9223372036854775807 then (if (x9 ++ x0).size + x9.size ≤ 9223372036854775807 then (if ((x9 ++ x0) ++ x9).size + 1 ≤ 9223372036854775807 then ((bytesConv5.f (((x9 ++ x0) ++ x9) ++ (⟨#[97]⟩ : ByteArray))).bind fun t702 => ((tapestrierlaw4_Of.f k t702).bind fun t705 => (if y699.length < 2932031007402 then ((tapestrierref1_SameTokens.f k t705 (y699 ++ [(⟨1, (⟨#[97]⟩ : ByteArray), 0, false, 0⟩ : S31)])).bind fun t711 => (some t711)) else (none)))) else (none)) else (none)) else (none)) else (if x9.size + x0.size ≤ 9223372036854775807 then ((bytesConv5.f (x9 ++ x0)).bind fun t715 => ((tapestrierlaw4_Of.f k t715).bind fun t718 => ((tapestrierref1_SameTokens.f k t718 y699).bind fun t721 => (if t721 = true then (if (x9 ++ x0).size + 2 ≤ 9223372036854775807 then ((bytesConv5.f ((x9 ++ x0) ++ (⟨#[10, 97]⟩ : ByteArray))).bind fun t722 => ((tapestrierlaw4_Of.f k t722).bind fun t725 => ((tapestrierref1_SameTokens.f k t725 (([(⟨5, (⟨#[]⟩ : ByteArray), 0, false, 0⟩ : S31), (⟨9, (⟨#[]⟩ : ByteArray), 0, false, 0⟩ : S31), (⟨1, (⟨#[97]⟩ : ByteArray), 0, false, 0⟩ : S31)] : List (S31)))).bind fun t728 => (some t728)))) else (none)) else (some false))))) else (none)))
end
def tapestrierlaw4_TokStrings.f (k : Nat) (a0 : ByteArray) (a1 : Bool) (a2 : Bool) : Option (Bool) := (tapestrierlaw4_alive.f k).bind fun t698 => (if t698 = true then (tapestrierlaw4_TokStrings.j0 k a0 a1 a2 t698 (decide ((a0.size : Int) > 300))) else (tapestrierlaw4_TokStrings.j0 k a0 a1 a2 t698 true))
theorem tapestrierlaw4_TokStrings.mono_l : ∀ k, (∀ y0 y1 y2 y3 y4, LeO (tapestrierlaw4_TokStrings.j0 k y0 y1 y2 y3 y4) (tapestrierlaw4_TokStrings.j0 (k + 1) y0 y1 y2 y3 y4)) ∧ (∀ y0 y1 y2 y3, LeO (tapestrierlaw4_TokStrings.l0 k y0 y1 y2 y3) (tapestrierlaw4_TokStrings.l0 (k + 1) y0 y1 y2 y3)) ∧ (∀ y0 y1 y2, LeO (tapestrierlaw4_TokStrings.j2 k y0 y1 y2) (tapestrierlaw4_TokStrings.j2 (k + 1) y0 y1 y2))
  | 0 => ⟨fun _ _ _ _ _ r h => by simp [tapestrierlaw4_TokStrings.j0] at h, fun _ _ _ _ r h => by simp [tapestrierlaw4_TokStrings.l0] at h, fun _ _ _ r h => by simp [tapestrierlaw4_TokStrings.j2] at h⟩
  | k + 1 => by
    obtain ⟨ih0, ih1, ih2⟩ := tapestrierlaw4_TokStrings.mono_l k
    refine ⟨?_, ?_, ?_⟩
    · intro y0 y1 y2 y3 y4
      unfold tapestrierlaw4_TokStrings.j0
      repeat' first
      | (with_reducible exact ih0 _ _ _ _ _)
      | (with_reducible exact ih1 _ _ _ _)
      | (with_reducible exact ih2 _ _ _)
      | (with_reducible exact tapestrierlaw4_Of.mono _ _)
      | (with_reducible exact tapestrierlaw4_alive.mono _)
      | (with_reducible exact tapestrierref1_SameTokens.mono _ _ _)
      | (with_reducible exact LeO.refl _)
      | (with_reducible exact LeO.none _)
      | (with_reducible refine LeO.ite ?_ ?_)
      | (with_reducible refine LeO.bind ?_ (fun _ => ?_))
      | exact ih0 _ _ _ _ _
      | exact ih1 _ _ _ _
      | exact ih2 _ _ _
      | exact tapestrierlaw4_Of.mono _ _
      | exact tapestrierlaw4_alive.mono _
      | exact tapestrierref1_SameTokens.mono _ _ _
      | exact LeO.none _
      | refine LeO.ite ?_ ?_
      | refine LeO.bind ?_ (fun _ => ?_)
    · intro y0 y1 y2 y3
      unfold tapestrierlaw4_TokStrings.l0
      repeat' first
      | (with_reducible exact ih0 _ _ _ _ _)
      | (with_reducible exact ih1 _ _ _ _)
      | (with_reducible exact ih2 _ _ _)
      | (with_reducible exact tapestrierlaw4_Of.mono _ _)
      | (with_reducible exact tapestrierlaw4_alive.mono _)
      | (with_reducible exact tapestrierref1_SameTokens.mono _ _ _)
      | (with_reducible exact LeO.refl _)
      | (with_reducible exact LeO.none _)
      | (with_reducible refine LeO.ite ?_ ?_)
      | (with_reducible refine LeO.bind ?_ (fun _ => ?_))
      | exact ih0 _ _ _ _ _
      | exact ih1 _ _ _ _
      | exact ih2 _ _ _
      | exact tapestrierlaw4_Of.mono _ _
      | exact tapestrierlaw4_alive.mono _
      | exact tapestrierref1_SameTokens.mono _ _ _
      | exact LeO.none _
      | refine LeO.ite ?_ ?_
      | refine LeO.bind ?_ (fun _ => ?_)
    · intro y0 y1 y2
      unfold tapestrierlaw4_TokStrings.j2
      repeat' first
      | (with_reducible exact ih0 _ _ _ _ _)
      | (with_reducible exact ih1 _ _ _ _)
      | (with_reducible exact ih2 _ _ _)
      | (with_reducible exact tapestrierlaw4_Of.mono _ _)
      | (with_reducible exact tapestrierlaw4_alive.mono _)
      | (with_reducible exact tapestrierref1_SameTokens.mono _ _ _)
      | (with_reducible exact LeO.refl _)
      | (with_reducible exact LeO.none _)
      | (with_reducible refine LeO.ite ?_ ?_)
      | (with_reducible refine LeO.bind ?_ (fun _ => ?_))
      | exact ih0 _ _ _ _ _
      | exact ih1 _ _ _ _
      | exact ih2 _ _ _
      | exact tapestrierlaw4_Of.mono _ _
      | exact tapestrierlaw4_alive.mono _
      | exact tapestrierref1_SameTokens.mono _ _ _
      | exact LeO.none _
      | refine LeO.ite ?_ ?_
      | refine LeO.bind ?_ (fun _ => ?_)
theorem tapestrierlaw4_TokStrings.mono : ∀ a0 a1 a2 k, LeO (tapestrierlaw4_TokStrings.f k a0 a1 a2) (tapestrierlaw4_TokStrings.f (k + 1) a0 a1 a2) := by
  intro a0 a1 a2 k
  obtain ⟨ih0, ih1, ih2⟩ := tapestrierlaw4_TokStrings.mono_l k
  unfold tapestrierlaw4_TokStrings.f
  repeat' first
      | (with_reducible exact ih0 _ _ _ _ _)
      | (with_reducible exact ih1 _ _ _ _)
      | (with_reducible exact ih2 _ _ _)
      | (with_reducible exact tapestrierlaw4_Of.mono _ _)
      | (with_reducible exact tapestrierlaw4_alive.mono _)
      | (with_reducible exact tapestrierref1_SameTokens.mono _ _ _)
      | (with_reducible exact LeO.refl _)
      | (with_reducible exact LeO.none _)
      | (with_reducible refine LeO.ite ?_ ?_)
      | (with_reducible refine LeO.bind ?_ (fun _ => ?_))
      | exact ih0 _ _ _ _ _
      | exact ih1 _ _ _ _
      | exact ih2 _ _ _
      | exact tapestrierlaw4_Of.mono _ _
      | exact tapestrierlaw4_alive.mono _
      | exact tapestrierref1_SameTokens.mono _ _ _
      | exact LeO.none _
      | refine LeO.ite ?_ ?_
      | refine LeO.bind ?_ (fun _ => ?_)
set_option maxHeartbeats 8000000 in
set_option maxRecDepth 100000 in
theorem tapestrierlaw4_TokStrings.calls (k : Nat) (a0 : ByteArray) (a1 : Bool) (a2 : Bool) (r : Bool) (w : World) (hT : TabsIn w) (h : tapestrierlaw4_TokStrings.f k a0 a1 a2 = some r) :
    Calls Tryd.prog 5 #[.string a0, .bool a1, .bool a2] w fun e w' => e = .returned (.bool r) ∧ Below w.heap.size w w' := by
  have hu31 := Tryd.underlying31
  have HT := Aside0.mk hT
  clear hT
  have HB := Aside0.mk (Below.refl w.heap.size w)
  have H : ((tapestrierlaw4_alive.f k).bind fun t698 => (if t698 = true then (tapestrierlaw4_TokStrings.j0 k a0 a1 a2 t698 (decide ((a0.size : Int) > 300))) else (tapestrierlaw4_TokStrings.j0 k a0 a1 a2 t698 true))) = some r := h
  clear h
  replace H := Option.bind_eq_some_iff.mp H
  obtain ⟨t698, A40, H⟩ := H
  replace H : (if t698 = true then (tapestrierlaw4_TokStrings.j0 k a0 a1 a2 t698 (decide ((a0.size : Int) > 300))) else (tapestrierlaw4_TokStrings.j0 k a0 a1 a2 t698 true)) = some r := H
  have A4 := Aside0.mk A40
  clear A40
  have HC5 := Aside0.mk H
  clear H
  go_enter Tryd.func5, Tryd.ntmps5
  go_upto_region 2 with (first | ((with_reducible refine gate_callee (f := 17) rfl ?_); refine goesL_ (some 12) rfl rfl Tryd.func17 (by kernel_rfl) rfl #[] rfl (by (try simp only [List.map_toArray, List.map_cons, List.map_nil]); first | done | rfl | (simp only [List.length_drop, List.length_take]; rfl)) ?_; (with_reducible refine (tapestrierlaw4_alive.calls k  t698 _ ?side1 A4.out).mono ?_); (case side1 => exact TabsIn.below HT.out (by repeat (first | (with_reducible first | exact HB.out | apply below_alloc | apply pw_below_drewN | apply below_drew1) | exact HB.out))); rintro e w6 ⟨rfl, hb⟩; refine ⟨_, rfl, ?_⟩; have n0_ := Aside0.mk (below_step (by repeat (first | (with_reducible first | exact HB.out | apply below_alloc | apply pw_below_drewN | apply below_drew1) | exact HB.out)) hb); clear HB; have HB := n0_; clear n0_; (try clear hb); (try clear hb2); (try clear hk); (try clear hi)))
  (try simp only [Act.put, List.setIfInBounds_toArray, List.set_cons_zero, List.set_cons_succ])
  go_cut [19] (fun v19 wc => ∃ (kq : Nat) (x19_4 : Bool), v19 = .bool x19_4 ∧ Aside0 (tapestrierlaw4_TokStrings.j0 kq a0 a1 a2 t698 x19_4 = some r) ∧ Aside0 (kq ≤ k) ∧ Aside0 (Below w.heap.size w wc))
  case first =>
    have H := HC5.out
    clear HC5
    by_cases c7 : t698 = true
    · subst c7
      have H1 : (tapestrierlaw4_TokStrings.j0 k a0 a1 a2 true (decide ((a0.size : Int) > 300))) = some r := by rw [if_pos rfl] at H; exact H
      clear H
      have H := H1
      clear H1
      have H' := Aside0.mk H
      clear H
      go_wp2
      go_meet
      case rel => exact ⟨_, (decide ((a0.size : Int) > 300)), (by first | rfl | (simp; done) | (simp [*]; done) | (simp [wrap64]; done)), H', ⟨by first | omega | exact Nat.le_refl _⟩, ⟨by repeat (first | (with_reducible first | exact HB.out | apply below_alloc | apply pw_below_drewN | apply below_drew1) | exact HB.out)⟩⟩
    · replace c7 := Bool.eq_false_iff.mpr c7
      subst c7
      have H1 : (tapestrierlaw4_TokStrings.j0 k a0 a1 a2 false true) = some r := by rw [if_neg (show ¬ (false = true) by decide)] at H; exact H
      clear H
      have H := H1
      clear H1
      have H' := Aside0.mk H
      clear H
      go_wp2
      go_meet
      case rel => exact ⟨_, (true), (by first | rfl | (simp; done) | (simp [*]; done) | (simp [wrap64]; done)), H', ⟨by first | omega | exact Nat.le_refl _⟩, ⟨by repeat (first | (with_reducible first | exact HB.out | apply below_alloc | apply pw_below_drewN | apply below_drew1) | exact HB.out)⟩⟩
  case rest =>
    clear HC5
    try clear c1
    try clear p2
    try clear c5
    try clear p6
    try clear c7
    obtain ⟨kq, x19_4, rfl, HA, HJ4, HB⟩ := hcut
    cases kq with
    | zero => exact absurd HA.out (by simp [tapestrierlaw4_TokStrings.j0])
    | succ kj4 =>
      have H := HA.out
      clear HA
      simp only [tapestrierlaw4_TokStrings.j0] at H
      by_cases c8 : x19_4 = true
      · subst c8
        have H1 : (some t698) = some r := by rw [if_pos rfl] at H; exact H
        clear H
        have H := H1
        clear H1
        obtain rfl := Option.some.inj H
        go_wp2
        go_ret
        exact ⟨by first | rfl | (simp [errW_none, errW_some] <;> rfl) | (simp [*, errW_none, errW_some] <;> rfl), by repeat (first | (with_reducible first | exact HB.out | apply below_alloc | apply pw_below_drewN | apply below_drew1) | exact HB.out)⟩
      · replace c8 := Bool.eq_false_iff.mpr c8
        subst c8
        have H1 : (tapestrierlaw4_TokStrings.l0 kj4 a0 a1 a2 0) = some r := by rw [if_neg (show ¬ (false = true) by decide)] at H; exact H
        clear H
        have H := H1
        clear H1
        have H' := Aside0.mk H
        clear H
        go_wp2
        go_loopg [8] kj4 (fun kq v8 w' => ∃ (x8_2 : Int), v8 = .int .i64 x8_2 ∧ Aside0 (tapestrierlaw4_TokStrings.l0 kq a0 a1 a2 x8_2 = some r) ∧ Aside0 (kq ≤ kj4) ∧ Aside0 (Below w.heap.size w w'))
        case atStart => exact ⟨(0), (by first | rfl | (simp; done) | (simp [*]; done) | (simp [wrap64]; done)), H', ⟨Nat.le_refl _⟩, ⟨by repeat (first | (with_reducible first | exact HB.out | apply below_alloc | apply pw_below_drewN | apply below_drew1) | exact HB.out)⟩⟩
        case round =>
          clear H'
          try clear c1
          try clear p2
          try clear c5
          try clear p6
          try clear c7
          try clear c8
          try clear p2
          try clear p6
          obtain ⟨x8_2, rfl, HA, HK2, HB⟩ := hrel
          cases gk with
          | zero => exact absurd HA.out (by simp [tapestrierlaw4_TokStrings.l0])
          | succ k2 =>
            have H := HA.out
            clear HA
            simp only [tapestrierlaw4_TokStrings.l0] at H
            by_cases c9 : x8_2 < (a0.size : Int)
            · rw [if_pos c9] at H
              have c9b0 : decide (x8_2 < (a0.size : Int)) = true := decide_eq_true c9
              clear c9
              by_cases c10 : 0 ≤ x8_2
              · rw [if_pos c10] at H
                have c10b0 : decide (0 ≤ x8_2) = true := decide_eq_true c10
                clear c10
                by_cases c12 : (bt a0 x8_2) < 32
                · rw [if_pos c12] at H
                  have c12b0 : decide ((bt a0 x8_2) < 32) = true := decide_eq_true c12
                  clear c12
                  obtain rfl := Option.some.inj H
                  have p11 : 0 ≤ (x8_2 : Int) := of_decide_eq_true (by first | (with_reducible assumption) | assumption)
                  have q11 : x8_2 < (a0.size : Int) := of_decide_eq_true (by first | (with_reducible assumption) | assumption)
                  have hx11 := bt_at a0 x8_2
                  replace p11 := eq_true p11
                  replace q11 := eq_true q11
                  go_wp2
                  go_ret
                  exact ⟨by first | rfl | (simp [errW_none, errW_some] <;> rfl) | (simp [*, errW_none, errW_some] <;> rfl), by repeat (first | (with_reducible first | exact HB.out | apply below_alloc | apply pw_below_drewN | apply below_drew1) | exact HB.out)⟩
                · rw [if_neg c12] at H
                  have c12b0 : decide ((bt a0 x8_2) < 32) = false := decide_eq_false c12
                  clear c12
                  by_cases c14 : (bt a0 x8_2) > 126
                  · rw [if_pos c14] at H
                    have c14b0 : decide (126 < (bt a0 x8_2)) = true := decide_eq_true c14
                    clear c14
                    obtain rfl := Option.some.inj H
                    have p11 : 0 ≤ (x8_2 : Int) := of_decide_eq_true (by first | (with_reducible assumption) | assumption)
                    have q11 : x8_2 < (a0.size : Int) := of_decide_eq_true (by first | (with_reducible assumption) | assumption)
                    have hx11 := bt_at a0 x8_2
                    replace p11 := eq_true p11
                    replace q11 := eq_true q11
                    have p13 : 0 ≤ (x8_2 : Int) := of_decide_eq_true (by first | (with_reducible assumption) | assumption)
                    have q13 : x8_2 < (a0.size : Int) := of_decide_eq_true (by first | (with_reducible assumption) | assumption)
                    have hx13 := bt_at a0 x8_2
                    replace p13 := eq_true p13
                    replace q13 := eq_true q13
                    go_wp2
                    go_ret
                    exact ⟨by first | rfl | (simp [errW_none, errW_some] <;> rfl) | (simp [*, errW_none, errW_some] <;> rfl), by repeat (first | (with_reducible first | exact HB.out | apply below_alloc | apply pw_below_drewN | apply below_drew1) | exact HB.out)⟩
                  · rw [if_neg c14] at H
                    have c14b0 : decide (126 < (bt a0 x8_2)) = false := decide_eq_false c14
                    clear c14
                    by_cases c16 : (bt a0 x8_2) = 34
                    · rw [if_pos c16] at H
                      have c16b0 : ((bt a0 x8_2) == 34) = true := beq_iff_eq.mpr c16
                      have c16b1 : ((bt a0 x8_2) != 34) = false := bne_eq_false_iff_eq.mpr c16
                      clear c16
                      obtain rfl := Option.some.inj H
                      have p11 : 0 ≤ (x8_2 : Int) := of_decide_eq_true (by first | (with_reducible assumption) | assumption)
                      have q11 : x8_2 < (a0.size : Int) := of_decide_eq_true (by first | (with_reducible assumption) | assumption)
                      have hx11 := bt_at a0 x8_2
                      replace p11 := eq_true p11
                      replace q11 := eq_true q11
                      have p13 : 0 ≤ (x8_2 : Int) := of_decide_eq_true (by first | (with_reducible assumption) | assumption)
                      have q13 : x8_2 < (a0.size : Int) := of_decide_eq_true (by first | (with_reducible assumption) | assumption)
                      have hx13 := bt_at a0 x8_2
                      replace p13 := eq_true p13
                      replace q13 := eq_true q13
                      have p15 : 0 ≤ (x8_2 : Int) := of_decide_eq_true (by first | (with_reducible assumption) | assumption)
                      have q15 : x8_2 < (a0.size : Int) := of_decide_eq_true (by first | (with_reducible assumption) | assumption)
                      have hx15 := bt_at a0 x8_2
                      replace p15 := eq_true p15
                      replace q15 := eq_true q15
                      go_wp2
                      go_ret
                      exact ⟨by first | rfl | (simp [errW_none, errW_some] <;> rfl) | (simp [*, errW_none, errW_some] <;> rfl), by repeat (first | (with_reducible first | exact HB.out | apply below_alloc | apply pw_below_drewN | apply below_drew1) | exact HB.out)⟩
                    · rw [if_neg c16] at H
                      have c16b0 : ((bt a0 x8_2) == 34) = false := beq_eq_false_iff_ne.mpr c16
                      have c16b1 : ((bt a0 x8_2) != 34) = true := bne_iff_ne.mpr c16
                      by_cases c18 : (bt a0 x8_2) = 39
                      · rw [if_pos c18] at H
                        have c18b0 : ((bt a0 x8_2) == 39) = true := beq_iff_eq.mpr c18
                        have c18b1 : ((bt a0 x8_2) != 39) = false := bne_eq_false_iff_eq.mpr c18
                        clear c18
                        obtain rfl := Option.some.inj H
                        have p11 : 0 ≤ (x8_2 : Int) := of_decide_eq_true (by first | (with_reducible assumption) | assumption)
                        have q11 : x8_2 < (a0.size : Int) := of_decide_eq_true (by first | (with_reducible assumption) | assumption)
                        have hx11 := bt_at a0 x8_2
                        replace p11 := eq_true p11
                        replace q11 := eq_true q11
                        have p13 : 0 ≤ (x8_2 : Int) := of_decide_eq_true (by first | (with_reducible assumption) | assumption)
                        have q13 : x8_2 < (a0.size : Int) := of_decide_eq_true (by first | (with_reducible assumption) | assumption)
                        have hx13 := bt_at a0 x8_2
                        replace p13 := eq_true p13
                        replace q13 := eq_true q13
                        have p15 : 0 ≤ (x8_2 : Int) := of_decide_eq_true (by first | (with_reducible assumption) | assumption)
                        have q15 : x8_2 < (a0.size : Int) := of_decide_eq_true (by first | (with_reducible assumption) | assumption)
                        have hx15 := bt_at a0 x8_2
                        replace p15 := eq_true p15
                        replace q15 := eq_true q15
                        have p17 : 0 ≤ (x8_2 : Int) := of_decide_eq_true (by first | (with_reducible assumption) | assumption)
                        have q17 : x8_2 < (a0.size : Int) := of_decide_eq_true (by first | (with_reducible assumption) | assumption)
                        have hx17 := bt_at a0 x8_2
                        replace p17 := eq_true p17
                        replace q17 := eq_true q17
                        go_wp2
                        go_ret
                        exact ⟨by first | rfl | (simp [errW_none, errW_some] <;> rfl) | (simp [*, errW_none, errW_some] <;> rfl), by repeat (first | (with_reducible first | exact HB.out | apply below_alloc | apply pw_below_drewN | apply below_drew1) | exact HB.out)⟩
                      · rw [if_neg c18] at H
                        have c18b0 : ((bt a0 x8_2) == 39) = false := beq_eq_false_iff_ne.mpr c18
                        have c18b1 : ((bt a0 x8_2) != 39) = true := bne_iff_ne.mpr c18
                        by_cases c20 : (bt a0 x8_2) = 92
                        · rw [if_pos c20] at H
                          have c20b0 : ((bt a0 x8_2) == 92) = true := beq_iff_eq.mpr c20
                          have c20b1 : ((bt a0 x8_2) != 92) = false := bne_eq_false_iff_eq.mpr c20
                          clear c20
                          obtain rfl := Option.some.inj H
                          have p11 : 0 ≤ (x8_2 : Int) := of_decide_eq_true (by first | (with_reducible assumption) | assumption)
                          have q11 : x8_2 < (a0.size : Int) := of_decide_eq_true (by first | (with_reducible assumption) | assumption)
                          have hx11 := bt_at a0 x8_2
                          replace p11 := eq_true p11
                          replace q11 := eq_true q11
                          have p13 : 0 ≤ (x8_2 : Int) := of_decide_eq_true (by first | (with_reducible assumption) | assumption)
                          have q13 : x8_2 < (a0.size : Int) := of_decide_eq_true (by first | (with_reducible assumption) | assumption)
                          have hx13 := bt_at a0 x8_2
                          replace p13 := eq_true p13
                          replace q13 := eq_true q13
                          have p15 : 0 ≤ (x8_2 : Int) := of_decide_eq_true (by first | (with_reducible assumption) | assumption)
                          have q15 : x8_2 < (a0.size : Int) := of_decide_eq_true (by first | (with_reducible assumption) | assumption)
                          have hx15 := bt_at a0 x8_2
                          replace p15 := eq_true p15
                          replace q15 := eq_true q15
                          have p17 : 0 ≤ (x8_2 : Int) := of_decide_eq_true (by first | (with_reducible assumption) | assumption)
                          have q17 : x8_2 < (a0.size : Int) := of_decide_eq_true (by first | (with_reducible assumption) | assumption)
                          have hx17 := bt_at a0 x8_2
                          replace p17 := eq_true p17
                          replace q17 := eq_true q17
                          have p19 : 0 ≤ (x8_2 : Int) := of_decide_eq_true (by first | (with_reducible assumption) | assumption)
                          have q19 : x8_2 < (a0.size : Int) := of_decide_eq_true (by first | (with_reducible assumption) | assumption)
                          have hx19 := bt_at a0 x8_2
                          replace p19 := eq_true p19
                          replace q19 := eq_true q19
                          go_wp2
                          go_ret
                          exact ⟨by first | rfl | (simp [errW_none, errW_some] <;> rfl) | (simp [*, errW_none, errW_some] <;> rfl), by repeat (first | (with_reducible first | exact HB.out | apply below_alloc | apply pw_below_drewN | apply below_drew1) | exact HB.out)⟩
                        · rw [if_neg c20] at H
                          have c20b0 : ((bt a0 x8_2) == 92) = false := beq_eq_false_iff_ne.mpr c20
                          have c20b1 : ((bt a0 x8_2) != 92) = true := bne_iff_ne.mpr c20
                          have H' := Aside0.mk H
                          clear H
                          have p11 : 0 ≤ (x8_2 : Int) := of_decide_eq_true (by first | (with_reducible assumption) | assumption)
                          have q11 : x8_2 < (a0.size : Int) := of_decide_eq_true (by first | (with_reducible assumption) | assumption)
                          have hx11 := bt_at a0 x8_2
                          replace p11 := eq_true p11
                          replace q11 := eq_true q11
                          have p13 : 0 ≤ (x8_2 : Int) := of_decide_eq_true (by first | (with_reducible assumption) | assumption)
                          have q13 : x8_2 < (a0.size : Int) := of_decide_eq_true (by first | (with_reducible assumption) | assumption)
                          have hx13 := bt_at a0 x8_2
                          replace p13 := eq_true p13
                          replace q13 := eq_true q13
                          have p15 : 0 ≤ (x8_2 : Int) := of_decide_eq_true (by first | (with_reducible assumption) | assumption)
                          have q15 : x8_2 < (a0.size : Int) := of_decide_eq_true (by first | (with_reducible assumption) | assumption)
                          have hx15 := bt_at a0 x8_2
                          replace p15 := eq_true p15
                          replace q15 := eq_true q15
                          have p17 : 0 ≤ (x8_2 : Int) := of_decide_eq_true (by first | (with_reducible assumption) | assumption)
                          have q17 : x8_2 < (a0.size : Int) := of_decide_eq_true (by first | (with_reducible assumption) | assumption)
                          have hx17 := bt_at a0 x8_2
                          replace p17 := eq_true p17
                          replace q17 := eq_true q17
                          have p19 : 0 ≤ (x8_2 : Int) := of_decide_eq_true (by first | (with_reducible assumption) | assumption)
                          have q19 : x8_2 < (a0.size : Int) := of_decide_eq_true (by first | (with_reducible assumption) | assumption)
                          have hx19 := bt_at a0 x8_2
                          replace p19 := eq_true p19
                          replace q19 := eq_true q19
                          go_wp2
                          go_roundg k2
                          case measure => have := HJ4.out; have := HK2.out; omega
                          case rel => exact ⟨(wrap64 (x8_2 + 1)), (by first | rfl | (simp; done) | (simp [*]; done) | (simp [wrap64]; done)), H', ⟨by have := HJ4.out; have := HK2.out; omega⟩, ⟨by repeat (first | (with_reducible first | exact HB.out | apply below_alloc | apply pw_below_drewN | apply below_drew1) | exact HB.out)⟩⟩
              · rw [if_neg c10] at H
                exact absurd H (by simp)
            · rw [if_neg c9] at H
              have c9b0 : decide (x8_2 < (a0.size : Int)) = false := decide_eq_false c9
              clear c9
              have HC21 := Aside0.mk H
              clear H
              go_upto_if 55 with (fail)
              go_cut [9] (fun v9 wc => ∃ (kq : Nat) (x9_20 : ByteArray), v9 = .string x9_20 ∧ Aside0 (tapestrierlaw4_TokStrings.j2 kq a0 a2 x9_20 = some r) ∧ Aside0 (kq ≤ k2) ∧ Aside0 (Below w.heap.size w wc))
              case first =>
                have H := HC21.out
                clear HC21
                by_cases c22 : a1 = true
                · subst c22
                  have H1 : (tapestrierlaw4_TokStrings.j2 k2 a0 a2 (⟨#[39]⟩ : ByteArray)) = some r := by rw [if_pos rfl] at H; exact H
                  clear H
                  have H := H1
                  clear H1
                  have H' := Aside0.mk H
                  clear H
                  go_wp2
                  go_meet
                  case rel => exact ⟨_, ((⟨#[39]⟩ : ByteArray)), (by first | rfl | (simp; done) | (simp [*]; done) | (simp [wrap64]; done)), H', ⟨by have := HJ4.out; have := HK2.out; first | omega | exact Nat.le_refl _⟩, ⟨by repeat (first | (with_reducible first | exact HB.out | apply below_alloc | apply pw_below_drewN | apply below_drew1) | exact HB.out)⟩⟩
                · replace c22 := Bool.eq_false_iff.mpr c22
                  subst c22
                  have H1 : (tapestrierlaw4_TokStrings.j2 k2 a0 a2 (⟨#[34]⟩ : ByteArray)) = some r := by rw [if_neg (show ¬ (false = true) by decide)] at H; exact H
                  clear H
                  have H := H1
                  clear H1
                  have H' := Aside0.mk H
                  clear H
                  go_wp2
                  go_meet
                  case rel => exact ⟨_, ((⟨#[34]⟩ : ByteArray)), (by first | rfl | (simp; done) | (simp [*]; done) | (simp [wrap64]; done)), H', ⟨by have := HJ4.out; have := HK2.out; first | omega | exact Nat.le_refl _⟩, ⟨by repeat (first | (with_reducible first | exact HB.out | apply below_alloc | apply pw_below_drewN | apply below_drew1) | exact HB.out)⟩⟩
              case rest =>
                clear HC21
                try clear c1
                try clear p1
                try clear q1
                try clear hx1
                try clear c2
                try clear p2
                try clear c5
                try clear p6
                try clear c7
                try clear c8
                try clear c9
                try clear c9b0
                try clear c10
                try clear c10b0
                try clear p11
                try clear q11
                try clear hx11
                try clear c12
                try clear c12b0
                try clear p13
                try clear q13
                try clear hx13
                try clear c14
                try clear c14b0
                try clear p15
                try clear q15
                try clear hx15
                try clear c16
                try clear c16b0
                try clear c16b1
                try clear c17
                try clear p17
                try clear q17
                try clear hx17
                try clear c18
                try clear c18b0
                try clear c18b1
                try clear p19
                try clear q19
                try clear hx19
                try clear c20
                try clear c20b0
                try clear c20b1
                try clear c22
                try clear p11
                try clear p13
                try clear p15
                try clear p17
                try clear p19
                try clear p2
                try clear p6
                try clear q11
                try clear q13
                try clear q15
                try clear q17
                try clear q19
                obtain ⟨kq, x9_20, rfl, HA, HJ20, HB⟩ := hcut
                cases kq with
                | zero => exact absurd HA.out (by simp [tapestrierlaw4_TokStrings.j2])
                | succ kj20 =>
                  have H := HA.out
                  clear HA
                  simp only [tapestrierlaw4_TokStrings.j2] at H
                  obtain ⟨y699, hy699⟩ : ∃ y_ : List (S31), y_ = (([(⟨4, a0, 0, false, 0⟩ : S31)] : List (S31))) := ⟨_, rfl⟩
                  replace H : (if a2 = true then (if x9_20.size + a0.size ≤ 9223372036854775807 then (if (x9_20 ++ a0).size + x9_20.size ≤ 9223372036854775807 then (if ((x9_20 ++ a0) ++ x9_20).size + 1 ≤ 9223372036854775807 then ((bytesConv5.f (((x9_20 ++ a0) ++ x9_20) ++ (⟨#[97]⟩ : ByteArray))).bind fun t702 => ((tapestrierlaw4_Of.f kj20 t702).bind fun t705 => (if y699.length < 2932031007402 then ((tapestrierref1_SameTokens.f kj20 t705 (y699 ++ [(⟨1, (⟨#[97]⟩ : ByteArray), 0, false, 0⟩ : S31)])).bind fun t711 => (some t711)) else (none)))) else (none)) else (none)) else (none)) else (if x9_20.size + a0.size ≤ 9223372036854775807 then ((bytesConv5.f (x9_20 ++ a0)).bind fun t715 => ((tapestrierlaw4_Of.f kj20 t715).bind fun t718 => ((tapestrierref1_SameTokens.f kj20 t718 y699).bind fun t721 => (if t721 = true then (if (x9_20 ++ a0).size + 2 ≤ 9223372036854775807 then ((bytesConv5.f ((x9_20 ++ a0) ++ (⟨#[10, 97]⟩ : ByteArray))).bind fun t722 => ((tapestrierlaw4_Of.f kj20 t722).bind fun t725 => ((tapestrierref1_SameTokens.f kj20 t725 (([(⟨5, (⟨#[]⟩ : ByteArray), 0, false, 0⟩ : S31), (⟨9, (⟨#[]⟩ : ByteArray), 0, false, 0⟩ : S31), (⟨1, (⟨#[97]⟩ : ByteArray), 0, false, 0⟩ : S31)] : List (S31)))).bind fun t728 => (some t728)))) else (none)) else (some false))))) else (none))) = some r := by first | (rw [hy699]; with_reducible exact H) | (have H2_ := (Option.bind_some _ _).symm.trans H; rw [hy699]; with_reducible exact H2_) | (have H2_ := (Option.bind_some _ _).symm.trans H; with_reducible exact H2_) | with_reducible exact H | (rw [hy699]; exact H) | exact H
                  have Ny699 := Aside0.mk hy699
                  clear hy699
                  by_cases c23 : a2 = true
                  · subst c23
                    have H1 : (if x9_20.size + a0.size ≤ 9223372036854775807 then (if (x9_20 ++ a0).size + x9_20.size ≤ 9223372036854775807 then (if ((x9_20 ++ a0) ++ x9_20).size + 1 ≤ 9223372036854775807 then ((bytesConv5.f (((x9_20 ++ a0) ++ x9_20) ++ (⟨#[97]⟩ : ByteArray))).bind fun t702 => ((tapestrierlaw4_Of.f kj20 t702).bind fun t705 => (if y699.length < 2932031007402 then ((tapestrierref1_SameTokens.f kj20 t705 (y699 ++ [(⟨1, (⟨#[97]⟩ : ByteArray), 0, false, 0⟩ : S31)])).bind fun t711 => (some t711)) else (none)))) else (none)) else (none)) else (none)) = some r := by rw [if_pos rfl] at H; exact H
                    clear H
                    have H := H1
                    clear H1
                    by_cases c24 : x9_20.size + a0.size ≤ 9223372036854775807
                    · rw [if_pos c24] at H
                      have c24b0 := eq_true c24
                      have c24b1 : decide (x9_20.size + a0.size ≤ 9223372036854775807) = true := decide_eq_true c24
                      try have c24b2 : (9223372036854775807 < x9_20.size + a0.size) = False := eq_false (Nat.not_lt.2 c24)
                      by_cases c25 : (x9_20 ++ a0).size + x9_20.size ≤ 9223372036854775807
                      · rw [if_pos c25] at H
                        have c25b0 := eq_true c25
                        have c25b1 : decide ((x9_20 ++ a0).size + x9_20.size ≤ 9223372036854775807) = true := decide_eq_true c25
                        try have c25b2 : (9223372036854775807 < (x9_20 ++ a0).size + x9_20.size) = False := eq_false (Nat.not_lt.2 c25)
                        try (have c25b4 := c25b2; simp only [ByteArray.size_append] at c25b4)
                        try have c25b5 : (9223372036854775807 < x9_20.size + a0.size + x9_20.size) = False := c25b4
                        by_cases c26 : ((x9_20 ++ a0) ++ x9_20).size + 1 ≤ 9223372036854775807
                        · rw [if_pos c26] at H
                          have c26b0 := eq_true c26
                          have c26b1 : decide (((x9_20 ++ a0) ++ x9_20).size + 1 ≤ 9223372036854775807) = true := decide_eq_true c26
                          try have c26b2 : (9223372036854775807 < ((x9_20 ++ a0) ++ x9_20).size + 1) = False := eq_false (Nat.not_lt.2 c26)
                          try (have c26b4 := c26b2; simp only [ByteArray.size_append] at c26b4)
                          try have c26b5 : (9223372036854775807 < x9_20.size + a0.size + x9_20.size + 1) = False := c26b4
                          replace H := Option.bind_eq_some_iff.mp H
                          obtain ⟨t702, A270, H⟩ := H
                          replace H : ((tapestrierlaw4_Of.f kj20 t702).bind fun t705 => (if y699.length < 2932031007402 then ((tapestrierref1_SameTokens.f kj20 t705 (y699 ++ [(⟨1, (⟨#[97]⟩ : ByteArray), 0, false, 0⟩ : S31)])).bind fun t711 => (some t711)) else (none))) = some r := H
                          have A27 := Aside0.mk A270
                          clear A270
                          replace H := Option.bind_eq_some_iff.mp H
                          obtain ⟨t705, A280, H⟩ := H
                          replace H : (if y699.length < 2932031007402 then ((tapestrierref1_SameTokens.f kj20 t705 (y699 ++ [(⟨1, (⟨#[97]⟩ : ByteArray), 0, false, 0⟩ : S31)])).bind fun t711 => (some t711)) else (none)) = some r := H
                          have A28 := Aside0.mk A280
                          clear A280
                          by_cases c29 : y699.length < 2932031007402
                          · rw [if_pos c29] at H
                            have LMc29 := Aside0.mk c29
                            clear c29
                            obtain ⟨y708, hy708⟩ : ∃ y_ : List (S31), y_ = (y699 ++ [(⟨1, (⟨#[97]⟩ : ByteArray), 0, false, 0⟩ : S31)]) := ⟨_, rfl⟩
                            replace H : ((tapestrierref1_SameTokens.f kj20 t705 y708).bind fun t711 => (some t711)) = some r := by first | (rw [hy708]; with_reducible exact H) | (have H2_ := (Option.bind_some _ _).symm.trans H; rw [hy708]; with_reducible exact H2_) | (have H2_ := (Option.bind_some _ _).symm.trans H; with_reducible exact H2_) | with_reducible exact H | (rw [hy708]; exact H) | exact H
                            have Ny708 := Aside0.mk hy708
                            clear hy708
                            replace H := Option.bind_eq_some_iff.mp H
                            obtain ⟨t711, A300, H⟩ := H
                            replace H : (some t711) = some r := H
                            have A30 := Aside0.mk A300
                            clear A300
                            obtain rfl := Option.some.inj H
                            go_wp2_with (first | ((with_reducible refine gate_dst (N := 58) rfl ?_); (try (refine gate_guard (by rfl) ?_; dsimp only)); refine Kd.R_lit k31 _ 31 ?hg (N := 58) ?hd (xs := ([(⟨4, a0, 0, false, 0⟩ : S31)] : List (S31))) (inner := [.int .i64 4, .string a0, .int .i64 0, .bool false, .int .i64 0]) (ok := fun _ => True) (okp := fun _ => True) ?hr ?hp (fun _ hk => hk) trivial (Below.refl _ _) (Nat.le_refl _) (by simp) ?_; (case hd => rfl); (case hg => rfl); (case hr => first | (go_simp; done) | (go_simp; rfl)); (case hp => exact (Reps.c5 (show Kd.M k31 _ _ _ (⟨4, a0, 0, false, 0⟩ : S31) [.int .i64 4, .string a0, .int .i64 0, .bool false, .int .i64 0] from (k31_mkM _ _ _ (⟨4, a0, 0, false, 0⟩ : S31) )) (Reps.none _ _))); intro v700 w31 ho32 hb hg_ hnew_; clear hg_ hnew_; (first | rw [← Ny699.out] at ho32 | (simp only [Int.reduceToNat] at ho32; rw [← Ny699.out] at ho32)); have n0_ := Aside0.mk (Kd.R_lower ho32 (below_size (by repeat (first | (with_reducible first | exact HB.out | apply below_alloc | apply pw_below_drewN | apply below_drew1) | exact HB.out)))); have n1_ := Aside0.mk (below_step (by repeat (first | (with_reducible first | exact HB.out | apply below_alloc | apply pw_below_drewN | apply below_drew1) | exact HB.out)) hb); clear HB; have HO701 := n0_; have HB := n1_; clear n0_ n1_; clear hb ho32) | ((with_reducible refine gate_dst (N := 66) rfl ?_); (try (refine gate_guard (by rfl) ?_; dsimp only)); (try (refine gate_guard (by rfl) ?_; dsimp only)); refine conv_goes ?hg (N := 66) ?hd (src := 9) (dst := 25) (e := 5) (s := (((x9_20 ++ a0) ++ x9_20) ++ (⟨#[97]⟩ : ByteArray))) (x := ?xo8) ?ho Tryd.underlying9 Tryd.underlying25 Tryd.underlying5 ?hx ?_; (case hd => rfl); (case hg => rfl); (case ho => rfl); (case hx => first | rfl | (go_simp; done) | (go_simp; rfl)); (with_reducible refine (bytesConv5.calls (((x9_20 ++ a0) ++ x9_20) ++ (⟨#[97]⟩ : ByteArray)) t702 _ A27.out).mono ?_); rintro e w33 ⟨v703, rfl, ho0, hb⟩; refine ⟨_, rfl, ?_⟩; have n0_ := Aside0.mk (Kd.R_below (by (with_reducible repeat (first | apply Kd.R_alloc | apply Kd.R_drewN | apply Kd.R_drew)); exact HO701.out) hb); have n1_ := Aside0.mk (Kd.V_lower (Kd.V_mono (ok' := fun k_ => some k_ ≠ (v700 : Value).ownBlock) ho0 (fun k_ hk_ => (Kd.fresh' (Kd.R_lt (by (with_reducible repeat (first | apply Kd.R_alloc | apply Kd.R_drewN | apply Kd.R_drew)); exact HO701.out)) k_ hk_))) (below_size (by repeat (first | (with_reducible first | exact HB.out | apply below_alloc | apply pw_below_drewN | apply below_drew1) | exact HB.out)))); have n2_ := Aside0.mk (below_step (by repeat (first | (with_reducible first | exact HB.out | apply below_alloc | apply pw_below_drewN | apply below_drew1) | exact HB.out)) hb); clear HO701; clear HB; have HO701 := n0_; have HO704 := n1_; have HB := n2_; clear n0_ n1_ n2_; (try clear hb); (try clear hb2); (try clear hk); (try clear hi); (try clear ho0); obtain ⟨Ao34, co34, eo34⟩ := Kd.V_slice HO704.out; subst eo34) | ((with_reducible refine gate_callee (f := 20) rfl ?_); refine goesL_ (some 67) rfl rfl Tryd.func20 (by kernel_rfl) rfl #[.slice Ao34 t702.length co34] rfl (by (try simp only [List.map_toArray, List.map_cons, List.map_nil]); first | done | rfl | (simp only [List.length_drop, List.length_take]; rfl)) ?_; (with_reducible refine (tapestrierlaw4_Of.calls kj20 _ _ t702 t705 _ ?side1 ?side2 ?side3 A28.out).mono ?_); (case side1 => repeat (first | exact (Kd.V_reads' HO704.out).2.2 | (with_reducible refine Kd.C_alloc ?_ _) | (with_reducible refine Kd.C_drewN ?_ _) | (with_reducible refine Kd.C_drew ?_))); (case side2 => exact (Kd.V_reads' HO704.out).2.1); (case side3 => exact TabsIn.below HT.out (by repeat (first | (with_reducible first | exact HB.out | apply below_alloc | apply pw_below_drewN | apply below_drew1) | exact HB.out))); rintro e w35 ⟨v706, rfl, ho0, hb⟩; refine ⟨_, rfl, ?_⟩; have n0_ := Aside0.mk (Kd.R_elder' (by (with_reducible repeat (first | apply Kd.R_alloc | apply Kd.R_drewN | apply Kd.R_drew)); exact HO701.out) (Kd.R_base ho0) hb); have n1_ := Aside0.mk (Kd.V_elder' (by (with_reducible repeat (first | apply Kd.V_alloc | apply Kd.V_drewN | apply Kd.V_drew)); exact HO704.out) (Kd.R_base ho0) hb); have n2_ := Aside0.mk (Kd.R_lower (Kd.R_new' ho0 (Kd.R_lt (by (with_reducible repeat (first | apply Kd.R_alloc | apply Kd.R_drewN | apply Kd.R_drew)); exact HO701.out))) (below_size (by repeat (first | (with_reducible first | exact HB.out | apply below_alloc | apply pw_below_drewN | apply below_drew1) | exact HB.out)))); have n3_ := Aside0.mk (below_step (by repeat (first | (with_reducible first | exact HB.out | apply below_alloc | apply pw_below_drewN | apply below_drew1) | exact HB.out)) hb); clear HO701; clear HO704; clear HB; have HO701 := n0_; have HO704 := n1_; have HO707 := n2_; have HB := n3_; clear n0_ n1_ n2_ n3_; (try clear hb); (try clear hb2); (try clear hk); (try clear hi); (try clear ho0)) | ((with_reducible refine gate_builtin (b := .append) (xs := #[.tmp 68, .tmp 70]) rfl ?_); (try (refine gate_guard (by rfl) ?_; dsimp only)); at_builtin; refine Kd.R_append k31 (w0 := w) w.heap.size rfl (.tmp 68) (.tmp 70) 32 31 (.agg #[(.int .i64 0), (.string ⟨#[]⟩), (.int .i64 0), (.bool false), (.int .i64 0)]) 48 rfl Tryd.underlying32 info31 rfl (by decide) (by omega) v700 y699 (⟨1, (⟨#[97]⟩ : ByteArray), 0, false, 0⟩ : S31) [.int .i64 1, .string (⟨#[97]⟩ : ByteArray), .int .i64 0, .bool false, .int .i64 0] (fun k_ => some k_ ≠ (v706 : Value).ownBlock) (fun _ => False) rfl rfl ?aP (fun _ hk => hk.elim) ?aF ?aO ?aB ?aS ?aL ?_; (case aP => exact k31_mkM _ _ _ (⟨1, (⟨#[97]⟩ : ByteArray), 0, false, 0⟩ : S31)); (case aB => exact (by repeat (first | (with_reducible first | exact HB.out | apply below_alloc | apply pw_below_drewN | apply below_drew1) | exact HB.out))); (case aF => exact (fun k_ hk => Kd.fresh' (Kd.R_lt (by (with_reducible repeat (first | apply Kd.R_alloc | apply Kd.R_drewN | apply Kd.R_drew)); exact HO707.out)) k_ hk)); (case aO => exact (by (with_reducible repeat (first | apply Kd.R_alloc | apply Kd.R_drewN | apply Kd.R_drew)); exact Kd.R_mono HO701.out (fun _ hk => hk.2))); (case aS => exact (below_size (by repeat (first | (with_reducible first | exact HB.out | apply below_alloc | apply pw_below_drewN | apply below_drew1) | exact HB.out)))); (case aL => have := LMc29.out; first | omega | exact Nat.le_of_lt this); intro v709 w36 ho hb hg hat; rw [← Ny708.out] at ho; have n0_ := Aside0.mk (Kd.V_afterv (ok := (fun k_ => some k_ ≠ (v706 : Value).ownBlock)) (by (with_reducible repeat (first | apply Kd.V_alloc | apply Kd.V_drewN | apply Kd.V_drew)); exact Kd.V_mono HO704.out (fun _ hk => ⟨hk.2, hk.1⟩)) hg hat); have n1_ := Aside0.mk (Kd.R_after (ok := (fun _ => True)) (by (with_reducible repeat (first | apply Kd.R_alloc | apply Kd.R_drewN | apply Kd.R_drew)); exact HO707.out) hg hat); have n2_ := Aside0.mk (hb); have n3_ := Aside0.mk (ho); clear HO704; clear HO707; clear HB; clear HO701; have HO704 := n0_; have HO707 := n1_; have HB := n2_; have HO710 := n3_; clear n0_ n1_ n2_ n3_; clear ho hb hg hat; obtain ⟨Ao37, co37, eo37⟩ := Kd.R_slice HO707.out; subst eo37; obtain ⟨Ao38, co38, eo38⟩ := Kd.R_slice HO710.out; subst eo38) | ((with_reducible refine gate_callee (f := 19) rfl ?_); refine goesL_ (some 72) rfl rfl Tryd.func19 (by kernel_rfl) rfl #[.slice Ao37 t705.length co37, .slice Ao38 y708.length co38] rfl (by (try simp only [List.map_toArray, List.map_cons, List.map_nil]); first | done | rfl | (simp only [List.length_drop, List.length_take]; rfl)) ?_; (with_reducible refine (tapestrierref1_SameTokens.calls kj20 _ _ t705 _ _ y708 t711 _ ?side1 ?side2 ?side3 ?side4 A30.out).mono ?_); (case side1 => repeat (first | exact (Kd.R_reads' HO707.out).2.2 | (with_reducible refine Kd.C_alloc ?_ _) | (with_reducible refine Kd.C_drewN ?_ _) | (with_reducible refine Kd.C_drew ?_))); (case side2 => exact (Kd.R_reads' HO707.out).2.1); (case side3 => repeat (first | exact (Kd.R_reads' HO710.out).2.2 | (with_reducible refine Kd.C_alloc ?_ _) | (with_reducible refine Kd.C_drewN ?_ _) | (with_reducible refine Kd.C_drew ?_))); (case side4 => exact (Kd.R_reads' HO710.out).2.1); rintro e w' ⟨rfl, ⟨nd, rfl⟩⟩; refine ⟨_, rfl, ?_⟩))
                            go_ret
                            exact ⟨by first | rfl | (simp [errW_none, errW_some] <;> rfl) | (simp [*, errW_none, errW_some] <;> rfl), by repeat (first | (with_reducible first | exact HB.out | apply below_alloc | apply pw_below_drewN | apply below_drew1) | exact HB.out)⟩
                          · rw [if_neg c29] at H
                            exact absurd H (by simp)
                        · rw [if_neg c26] at H
                          exact absurd H (by simp)
                      · rw [if_neg c25] at H
                        exact absurd H (by simp)
                    · rw [if_neg c24] at H
                      exact absurd H (by simp)
                  · replace c23 := Bool.eq_false_iff.mpr c23
                    subst c23
                    have H1 : (if x9_20.size + a0.size ≤ 9223372036854775807 then ((bytesConv5.f (x9_20 ++ a0)).bind fun t715 => ((tapestrierlaw4_Of.f kj20 t715).bind fun t718 => ((tapestrierref1_SameTokens.f kj20 t718 y699).bind fun t721 => (if t721 = true then (if (x9_20 ++ a0).size + 2 ≤ 9223372036854775807 then ((bytesConv5.f ((x9_20 ++ a0) ++ (⟨#[10, 97]⟩ : ByteArray))).bind fun t722 => ((tapestrierlaw4_Of.f kj20 t722).bind fun t725 => ((tapestrierref1_SameTokens.f kj20 t725 (([(⟨5, (⟨#[]⟩ : ByteArray), 0, false, 0⟩ : S31), (⟨9, (⟨#[]⟩ : ByteArray), 0, false, 0⟩ : S31), (⟨1, (⟨#[97]⟩ : ByteArray), 0, false, 0⟩ : S31)] : List (S31)))).bind fun t728 => (some t728)))) else (none)) else (some false))))) else (none)) = some r := by rw [if_neg (show ¬ (false = true) by decide)] at H; exact H
                    clear H
                    have H := H1
                    clear H1
                    obtain ⟨y712, hy712⟩ : ∃ y_ : List (S31), y_ = (([(⟨5, (⟨#[]⟩ : ByteArray), 0, false, 0⟩ : S31), (⟨9, (⟨#[]⟩ : ByteArray), 0, false, 0⟩ : S31), (⟨1, (⟨#[97]⟩ : ByteArray), 0, false, 0⟩ : S31)] : List (S31))) := ⟨_, rfl⟩
                    replace H : (if x9_20.size + a0.size ≤ 9223372036854775807 then ((bytesConv5.f (x9_20 ++ a0)).bind fun t715 => ((tapestrierlaw4_Of.f kj20 t715).bind fun t718 => ((tapestrierref1_SameTokens.f kj20 t718 y699).bind fun t721 => (if t721 = true then (if (x9_20 ++ a0).size + 2 ≤ 9223372036854775807 then ((bytesConv5.f ((x9_20 ++ a0) ++ (⟨#[10, 97]⟩ : ByteArray))).bind fun t722 => ((tapestrierlaw4_Of.f kj20 t722).bind fun t725 => ((tapestrierref1_SameTokens.f kj20 t725 y712).bind fun t728 => (some t728)))) else (none)) else (some false))))) else (none)) = some r := by first | (rw [hy712]; with_reducible exact H) | (have H2_ := (Option.bind_some _ _).symm.trans H; rw [hy712]; with_reducible exact H2_) | (have H2_ := (Option.bind_some _ _).symm.trans H; with_reducible exact H2_) | with_reducible exact H | (rw [hy712]; exact H) | exact H
                    have Ny712 := Aside0.mk hy712
                    clear hy712
                    by_cases c39 : x9_20.size + a0.size ≤ 9223372036854775807
                    · rw [if_pos c39] at H
                      have c39b0 := eq_true c39
                      have c39b1 : decide (x9_20.size + a0.size ≤ 9223372036854775807) = true := decide_eq_true c39
                      try have c39b2 : (9223372036854775807 < x9_20.size + a0.size) = False := eq_false (Nat.not_lt.2 c39)
                      replace H := Option.bind_eq_some_iff.mp H
                      obtain ⟨t715, A400, H⟩ := H
                      replace H : ((tapestrierlaw4_Of.f kj20 t715).bind fun t718 => ((tapestrierref1_SameTokens.f kj20 t718 y699).bind fun t721 => (if t721 = true then (if (x9_20 ++ a0).size + 2 ≤ 9223372036854775807 then ((bytesConv5.f ((x9_20 ++ a0) ++ (⟨#[10, 97]⟩ : ByteArray))).bind fun t722 => ((tapestrierlaw4_Of.f kj20 t722).bind fun t725 => ((tapestrierref1_SameTokens.f kj20 t725 y712).bind fun t728 => (some t728)))) else (none)) else (some false)))) = some r := H
                      have A40 := Aside0.mk A400
                      clear A400
                      replace H := Option.bind_eq_some_iff.mp H
                      obtain ⟨t718, A410, H⟩ := H
                      replace H : ((tapestrierref1_SameTokens.f kj20 t718 y699).bind fun t721 => (if t721 = true then (if (x9_20 ++ a0).size + 2 ≤ 9223372036854775807 then ((bytesConv5.f ((x9_20 ++ a0) ++ (⟨#[10, 97]⟩ : ByteArray))).bind fun t722 => ((tapestrierlaw4_Of.f kj20 t722).bind fun t725 => ((tapestrierref1_SameTokens.f kj20 t725 y712).bind fun t728 => (some t728)))) else (none)) else (some false))) = some r := H
                      have A41 := Aside0.mk A410
                      clear A410
                      replace H := Option.bind_eq_some_iff.mp H
                      obtain ⟨t721, A420, H⟩ := H
                      replace H : (if t721 = true then (if (x9_20 ++ a0).size + 2 ≤ 9223372036854775807 then ((bytesConv5.f ((x9_20 ++ a0) ++ (⟨#[10, 97]⟩ : ByteArray))).bind fun t722 => ((tapestrierlaw4_Of.f kj20 t722).bind fun t725 => ((tapestrierref1_SameTokens.f kj20 t725 y712).bind fun t728 => (some t728)))) else (none)) else (some false)) = some r := H
                      have A42 := Aside0.mk A420
                      clear A420
                      by_cases c43 : t721 = true
                      · subst c43
                        have H1 : (if (x9_20 ++ a0).size + 2 ≤ 9223372036854775807 then ((bytesConv5.f ((x9_20 ++ a0) ++ (⟨#[10, 97]⟩ : ByteArray))).bind fun t722 => ((tapestrierlaw4_Of.f kj20 t722).bind fun t725 => ((tapestrierref1_SameTokens.f kj20 t725 y712).bind fun t728 => (some t728)))) else (none)) = some r := by rw [if_pos rfl] at H; exact H
                        clear H
                        have H := H1
                        clear H1
                        by_cases c44 : (x9_20 ++ a0).size + 2 ≤ 9223372036854775807
                        · rw [if_pos c44] at H
                          have c44b0 := eq_true c44
                          have c44b1 : decide ((x9_20 ++ a0).size + 2 ≤ 9223372036854775807) = true := decide_eq_true c44
                          try have c44b2 : (9223372036854775807 < (x9_20 ++ a0).size + 2) = False := eq_false (Nat.not_lt.2 c44)
                          try (have c44b4 := c44b2; simp only [ByteArray.size_append] at c44b4)
                          try have c44b5 : (9223372036854775807 < x9_20.size + a0.size + 2) = False := c44b4
                          replace H := Option.bind_eq_some_iff.mp H
                          obtain ⟨t722, A450, H⟩ := H
                          replace H : ((tapestrierlaw4_Of.f kj20 t722).bind fun t725 => ((tapestrierref1_SameTokens.f kj20 t725 y712).bind fun t728 => (some t728))) = some r := H
                          have A45 := Aside0.mk A450
                          clear A450
                          replace H := Option.bind_eq_some_iff.mp H
                          obtain ⟨t725, A460, H⟩ := H
                          replace H : ((tapestrierref1_SameTokens.f kj20 t725 y712).bind fun t728 => (some t728)) = some r := H
                          have A46 := Aside0.mk A460
                          clear A460
                          replace H := Option.bind_eq_some_iff.mp H
                          obtain ⟨t728, A470, H⟩ := H
                          replace H : (some t728) = some r := H
                          have A47 := Aside0.mk A470
                          clear A470
                          obtain rfl := Option.some.inj H
                          go_wp2_with (first | ((with_reducible refine gate_dst (N := 58) rfl ?_); (try (refine gate_guard (by rfl) ?_; dsimp only)); refine Kd.R_lit k31 _ 31 ?hg (N := 58) ?hd (xs := ([(⟨4, a0, 0, false, 0⟩ : S31)] : List (S31))) (inner := [.int .i64 4, .string a0, .int .i64 0, .bool false, .int .i64 0]) (ok := fun _ => True) (okp := fun _ => True) ?hr ?hp (fun _ hk => hk) trivial (Below.refl _ _) (Nat.le_refl _) (by simp) ?_; (case hd => rfl); (case hg => rfl); (case hr => first | (go_simp; done) | (go_simp; rfl)); (case hp => exact (Reps.c5 (show Kd.M k31 _ _ _ (⟨4, a0, 0, false, 0⟩ : S31) [.int .i64 4, .string a0, .int .i64 0, .bool false, .int .i64 0] from (k31_mkM _ _ _ (⟨4, a0, 0, false, 0⟩ : S31) )) (Reps.none _ _))); intro v700 w48 ho49 hb hg_ hnew_; clear hg_ hnew_; (first | rw [← Ny699.out] at ho49 | (simp only [Int.reduceToNat] at ho49; rw [← Ny699.out] at ho49)); have n0_ := Aside0.mk (Kd.R_lower ho49 (below_size (by repeat (first | (with_reducible first | exact HB.out | apply below_alloc | apply pw_below_drewN | apply below_drew1) | exact HB.out)))); have n1_ := Aside0.mk (below_step (by repeat (first | (with_reducible first | exact HB.out | apply below_alloc | apply pw_below_drewN | apply below_drew1) | exact HB.out)) hb); clear HB; have HO701 := n0_; have HB := n1_; clear n0_ n1_; clear hb ho49) | ((with_reducible refine gate_dst (N := 76) rfl ?_); (try (refine gate_guard (by rfl) ?_; dsimp only)); refine Kd.R_lit k31 _ 31 ?hg (N := 76) ?hd (xs := ([(⟨5, (⟨#[]⟩ : ByteArray), 0, false, 0⟩ : S31), (⟨9, (⟨#[]⟩ : ByteArray), 0, false, 0⟩ : S31), (⟨1, (⟨#[97]⟩ : ByteArray), 0, false, 0⟩ : S31)] : List (S31))) (inner := [.int .i64 5, .string (⟨#[]⟩ : ByteArray), .int .i64 0, .bool false, .int .i64 0, .int .i64 9, .string (⟨#[]⟩ : ByteArray), .int .i64 0, .bool false, .int .i64 0, .int .i64 1, .string (⟨#[97]⟩ : ByteArray), .int .i64 0, .bool false, .int .i64 0]) (ok := fun _ => True) (okp := fun _ => True) ?hr ?hp (fun _ hk => hk) trivial (Below.refl _ _) (Nat.le_refl _) (by simp) ?_; (case hd => rfl); (case hg => rfl); (case hr => first | (go_simp; done) | (go_simp; rfl)); (case hp => exact (Reps.c5 (show Kd.M k31 _ _ _ (⟨5, (⟨#[]⟩ : ByteArray), 0, false, 0⟩ : S31) [.int .i64 5, .string (⟨#[]⟩ : ByteArray), .int .i64 0, .bool false, .int .i64 0] from (k31_mkM _ _ _ (⟨5, (⟨#[]⟩ : ByteArray), 0, false, 0⟩ : S31) )) (Reps.c5 (show Kd.M k31 _ _ _ (⟨9, (⟨#[]⟩ : ByteArray), 0, false, 0⟩ : S31) [.int .i64 9, .string (⟨#[]⟩ : ByteArray), .int .i64 0, .bool false, .int .i64 0] from (k31_mkM _ _ _ (⟨9, (⟨#[]⟩ : ByteArray), 0, false, 0⟩ : S31) )) (Reps.c5 (show Kd.M k31 _ _ _ (⟨1, (⟨#[97]⟩ : ByteArray), 0, false, 0⟩ : S31) [.int .i64 1, .string (⟨#[97]⟩ : ByteArray), .int .i64 0, .bool false, .int .i64 0] from (k31_mkM _ _ _ (⟨1, (⟨#[97]⟩ : ByteArray), 0, false, 0⟩ : S31) )) (Reps.none _ _))))); intro v713 w50 ho51 hb hg_ hnew_; clear hg_ hnew_; (first | rw [← Ny712.out] at ho51 | (simp only [Int.reduceToNat] at ho51; rw [← Ny712.out] at ho51)); have n0_ := Aside0.mk (Kd.R_elder' (by (with_reducible repeat (first | apply Kd.R_alloc | apply Kd.R_drewN | apply Kd.R_drew)); exact HO701.out) (Kd.R_base ho51) hb); have n1_ := Aside0.mk (Kd.R_lower (Kd.R_new' ho51 (Kd.R_lt (by (with_reducible repeat (first | apply Kd.R_alloc | apply Kd.R_drewN | apply Kd.R_drew)); exact HO701.out))) (below_size (by repeat (first | (with_reducible first | exact HB.out | apply below_alloc | apply pw_below_drewN | apply below_drew1) | exact HB.out)))); have n2_ := Aside0.mk (below_step (by repeat (first | (with_reducible first | exact HB.out | apply below_alloc | apply pw_below_drewN | apply below_drew1) | exact HB.out)) hb); clear HO701; clear HB; have HO701 := n0_; have HO714 := n1_; have HB := n2_; clear n0_ n1_ n2_; clear hb ho51) | ((with_reducible refine gate_dst (N := 80) rfl ?_); (try (refine gate_guard (by rfl) ?_; dsimp only)); (try (refine gate_guard (by rfl) ?_; dsimp only)); refine conv_goes ?hg (N := 80) ?hd (src := 9) (dst := 25) (e := 5) (s := (x9_20 ++ a0)) (x := ?xo9) ?ho Tryd.underlying9 Tryd.underlying25 Tryd.underlying5 ?hx ?_; (case hd => rfl); (case hg => rfl); (case ho => rfl); (case hx => first | rfl | (go_simp; done) | (go_simp; rfl)); (with_reducible refine (bytesConv5.calls (x9_20 ++ a0) t715 _ A40.out).mono ?_); rintro e w52 ⟨v716, rfl, ho0, hb⟩; refine ⟨_, rfl, ?_⟩; have n0_ := Aside0.mk (Kd.R_below (by (with_reducible repeat (first | apply Kd.R_alloc | apply Kd.R_drewN | apply Kd.R_drew)); exact HO701.out) hb); have n1_ := Aside0.mk (Kd.R_below (by (with_reducible repeat (first | apply Kd.R_alloc | apply Kd.R_drewN | apply Kd.R_drew)); exact HO714.out) hb); have n2_ := Aside0.mk (Kd.V_lower (Kd.V_mono (ok' := fun k_ => some k_ ≠ (v700 : Value).ownBlock ∧ some k_ ≠ (v713 : Value).ownBlock) ho0 (fun k_ hk_ => ⟨(Kd.fresh' (Kd.R_lt (by (with_reducible repeat (first | apply Kd.R_alloc | apply Kd.R_drewN | apply Kd.R_drew)); exact HO701.out)) k_ hk_), (Kd.fresh' (Kd.R_lt (by (with_reducible repeat (first | apply Kd.R_alloc | apply Kd.R_drewN | apply Kd.R_drew)); exact HO714.out)) k_ hk_)⟩)) (below_size (by repeat (first | (with_reducible first | exact HB.out | apply below_alloc | apply pw_below_drewN | apply below_drew1) | exact HB.out)))); have n3_ := Aside0.mk (below_step (by repeat (first | (with_reducible first | exact HB.out | apply below_alloc | apply pw_below_drewN | apply below_drew1) | exact HB.out)) hb); clear HO701; clear HO714; clear HB; have HO701 := n0_; have HO714 := n1_; have HO717 := n2_; have HB := n3_; clear n0_ n1_ n2_ n3_; (try clear hb); (try clear hb2); (try clear hk); (try clear hi); (try clear ho0); obtain ⟨Ao53, co53, eo53⟩ := Kd.V_slice HO717.out; subst eo53) | ((with_reducible refine gate_callee (f := 20) rfl ?_); refine goesL_ (some 81) rfl rfl Tryd.func20 (by kernel_rfl) rfl #[.slice Ao53 t715.length co53] rfl (by (try simp only [List.map_toArray, List.map_cons, List.map_nil]); first | done | rfl | (simp only [List.length_drop, List.length_take]; rfl)) ?_; (with_reducible refine (tapestrierlaw4_Of.calls kj20 _ _ t715 t718 _ ?side1 ?side2 ?side3 A41.out).mono ?_); (case side1 => repeat (first | exact (Kd.V_reads' HO717.out).2.2 | (with_reducible refine Kd.C_alloc ?_ _) | (with_reducible refine Kd.C_drewN ?_ _) | (with_reducible refine Kd.C_drew ?_))); (case side2 => exact (Kd.V_reads' HO717.out).2.1); (case side3 => exact TabsIn.below HT.out (by repeat (first | (with_reducible first | exact HB.out | apply below_alloc | apply pw_below_drewN | apply below_drew1) | exact HB.out))); rintro e w54 ⟨v719, rfl, ho0, hb⟩; refine ⟨_, rfl, ?_⟩; have n0_ := Aside0.mk (Kd.R_elder' (by (with_reducible repeat (first | apply Kd.R_alloc | apply Kd.R_drewN | apply Kd.R_drew)); exact HO701.out) (Kd.R_base ho0) hb); have n1_ := Aside0.mk (Kd.R_elder' (by (with_reducible repeat (first | apply Kd.R_alloc | apply Kd.R_drewN | apply Kd.R_drew)); exact HO714.out) (Kd.R_base ho0) hb); have n2_ := Aside0.mk (Kd.V_elder' (by (with_reducible repeat (first | apply Kd.V_alloc | apply Kd.V_drewN | apply Kd.V_drew)); exact HO717.out) (Kd.R_base ho0) hb); have n3_ := Aside0.mk (Kd.R_lower (Kd.R_new' (Kd.R_new' ho0 (Kd.R_lt (by (with_reducible repeat (first | apply Kd.R_alloc | apply Kd.R_drewN | apply Kd.R_drew)); exact HO701.out))) (Kd.R_lt (by (with_reducible repeat (first | apply Kd.R_alloc | apply Kd.R_drewN | apply Kd.R_drew)); exact HO714.out))) (below_size (by repeat (first | (with_reducible first | exact HB.out | apply below_alloc | apply pw_below_drewN | apply below_drew1) | exact HB.out)))); have n4_ := Aside0.mk (below_step (by repeat (first | (with_reducible first | exact HB.out | apply below_alloc | apply pw_below_drewN | apply below_drew1) | exact HB.out)) hb); clear HO701; clear HO714; clear HO717; clear HB; have HO701 := n0_; have HO714 := n1_; have HO717 := n2_; have HO720 := n3_; have HB := n4_; clear n0_ n1_ n2_ n3_ n4_; (try clear hb); (try clear hb2); (try clear hk); (try clear hi); (try clear ho0); obtain ⟨Ao55, co55, eo55⟩ := Kd.R_slice HO720.out; subst eo55; obtain ⟨Ao56, co56, eo56⟩ := Kd.R_slice HO701.out; subst eo56) | ((with_reducible refine gate_callee (f := 19) rfl ?_); refine goesL_ (some 83) rfl rfl Tryd.func19 (by kernel_rfl) rfl #[.slice Ao55 t718.length co55, .slice Ao56 y699.length co56] rfl (by (try simp only [List.map_toArray, List.map_cons, List.map_nil]); first | done | rfl | (simp only [List.length_drop, List.length_take]; rfl)) ?_; (with_reducible refine (tapestrierref1_SameTokens.calls kj20 _ _ t718 _ _ y699 true _ ?side1 ?side2 ?side3 ?side4 A42.out).mono ?_); (case side1 => repeat (first | exact (Kd.R_reads' HO720.out).2.2 | (with_reducible refine Kd.C_alloc ?_ _) | (with_reducible refine Kd.C_drewN ?_ _) | (with_reducible refine Kd.C_drew ?_))); (case side2 => exact (Kd.R_reads' HO720.out).2.1); (case side3 => repeat (first | exact (Kd.R_reads' HO701.out).2.2 | (with_reducible refine Kd.C_alloc ?_ _) | (with_reducible refine Kd.C_drewN ?_ _) | (with_reducible refine Kd.C_drew ?_))); (case side4 => exact (Kd.R_reads' HO701.out).2.1); rintro e w' ⟨rfl, ⟨nd, rfl⟩⟩; refine ⟨_, rfl, ?_⟩) | ((with_reducible refine gate_dst (N := 89) rfl ?_); (try (refine gate_guard (by rfl) ?_; dsimp only)); (try (refine gate_guard (by rfl) ?_; dsimp only)); refine conv_goes ?hg (N := 89) ?hd (src := 9) (dst := 25) (e := 5) (s := ((x9_20 ++ a0) ++ (⟨#[10, 97]⟩ : ByteArray))) (x := ?xo10) ?ho Tryd.underlying9 Tryd.underlying25 Tryd.underlying5 ?hx ?_; (case hd => rfl); (case hg => rfl); (case ho => rfl); (case hx => first | rfl | (go_simp; done) | (go_simp; rfl)); (with_reducible refine (bytesConv5.calls ((x9_20 ++ a0) ++ (⟨#[10, 97]⟩ : ByteArray)) t722 _ A45.out).mono ?_); rintro e w57 ⟨v723, rfl, ho0, hb⟩; refine ⟨_, rfl, ?_⟩; have n0_ := Aside0.mk (Kd.R_below (by (with_reducible repeat (first | apply Kd.R_alloc | apply Kd.R_drewN | apply Kd.R_drew)); exact HO701.out) hb); have n1_ := Aside0.mk (Kd.R_below (by (with_reducible repeat (first | apply Kd.R_alloc | apply Kd.R_drewN | apply Kd.R_drew)); exact HO714.out) hb); have n2_ := Aside0.mk (Kd.V_below (by (with_reducible repeat (first | apply Kd.V_alloc | apply Kd.V_drewN | apply Kd.V_drew)); exact HO717.out) hb); have n3_ := Aside0.mk (Kd.R_below (by (with_reducible repeat (first | apply Kd.R_alloc | apply Kd.R_drewN | apply Kd.R_drew)); exact HO720.out) hb); have n4_ := Aside0.mk (Kd.V_lower (Kd.V_mono (ok' := fun k_ => some k_ ≠ (.slice Ao56 y699.length co56 : Value).ownBlock ∧ some k_ ≠ (v713 : Value).ownBlock ∧ some k_ ≠ (.slice Ao55 t718.length co55 : Value).ownBlock) ho0 (fun k_ hk_ => ⟨(Kd.fresh' (Kd.R_lt (by (with_reducible repeat (first | apply Kd.R_alloc | apply Kd.R_drewN | apply Kd.R_drew)); exact HO701.out)) k_ hk_), (Kd.fresh' (Kd.R_lt (by (with_reducible repeat (first | apply Kd.R_alloc | apply Kd.R_drewN | apply Kd.R_drew)); exact HO714.out)) k_ hk_), (Kd.fresh' (Kd.R_lt (by (with_reducible repeat (first | apply Kd.R_alloc | apply Kd.R_drewN | apply Kd.R_drew)); exact HO720.out)) k_ hk_)⟩)) (below_size (by repeat (first | (with_reducible first | exact HB.out | apply below_alloc | apply pw_below_drewN | apply below_drew1) | exact HB.out)))); have n5_ := Aside0.mk (below_step (by repeat (first | (with_reducible first | exact HB.out | apply below_alloc | apply pw_below_drewN | apply below_drew1) | exact HB.out)) hb); clear HO701; clear HO714; clear HO717; clear HO720; clear HB; have HO701 := n0_; have HO714 := n1_; have HO717 := n2_; have HO720 := n3_; have HO724 := n4_; have HB := n5_; clear n0_ n1_ n2_ n3_ n4_ n5_; (try clear hb); (try clear hb2); (try clear hk); (try clear hi); (try clear ho0); obtain ⟨Ao58, co58, eo58⟩ := Kd.V_slice HO724.out; subst eo58) | (go_at_call 20; (with_reducible refine (tapestrierlaw4_Of.calls kj20 _ _ t722 t725 _ ?side1 ?side2 ?side3 A46.out).mono ?_); (case side1 => repeat (first | exact (Kd.V_reads' HO724.out).2.2 | (with_reducible refine Kd.C_alloc ?_ _) | (with_reducible refine Kd.C_drewN ?_ _) | (with_reducible refine Kd.C_drew ?_))); (case side2 => exact (Kd.V_reads' HO724.out).2.1); (case side3 => exact TabsIn.below HT.out (by repeat (first | (with_reducible first | exact HB.out | apply below_alloc | apply pw_below_drewN | apply below_drew1) | exact HB.out))); rintro e w59 ⟨v726, rfl, ho0, hb⟩; have n0_ := Aside0.mk (Kd.R_elder' (by (with_reducible repeat (first | apply Kd.R_alloc | apply Kd.R_drewN | apply Kd.R_drew)); exact HO701.out) (Kd.R_base ho0) hb); have n1_ := Aside0.mk (Kd.R_elder' (by (with_reducible repeat (first | apply Kd.R_alloc | apply Kd.R_drewN | apply Kd.R_drew)); exact HO714.out) (Kd.R_base ho0) hb); have n2_ := Aside0.mk (Kd.V_elder' (by (with_reducible repeat (first | apply Kd.V_alloc | apply Kd.V_drewN | apply Kd.V_drew)); exact HO717.out) (Kd.R_base ho0) hb); have n3_ := Aside0.mk (Kd.R_elder' (by (with_reducible repeat (first | apply Kd.R_alloc | apply Kd.R_drewN | apply Kd.R_drew)); exact HO720.out) (Kd.R_base ho0) hb); have n4_ := Aside0.mk (Kd.V_elder' (by (with_reducible repeat (first | apply Kd.V_alloc | apply Kd.V_drewN | apply Kd.V_drew)); exact HO724.out) (Kd.R_base ho0) hb); have n5_ := Aside0.mk (Kd.R_lower (Kd.R_new' (Kd.R_new' (Kd.R_new' ho0 (Kd.R_lt (by (with_reducible repeat (first | apply Kd.R_alloc | apply Kd.R_drewN | apply Kd.R_drew)); exact HO701.out))) (Kd.R_lt (by (with_reducible repeat (first | apply Kd.R_alloc | apply Kd.R_drewN | apply Kd.R_drew)); exact HO714.out))) (Kd.R_lt (by (with_reducible repeat (first | apply Kd.R_alloc | apply Kd.R_drewN | apply Kd.R_drew)); exact HO720.out))) (below_size (by repeat (first | (with_reducible first | exact HB.out | apply below_alloc | apply pw_below_drewN | apply below_drew1) | exact HB.out)))); have n6_ := Aside0.mk (below_step (by repeat (first | (with_reducible first | exact HB.out | apply below_alloc | apply pw_below_drewN | apply below_drew1) | exact HB.out)) hb); clear HO701; clear HO714; clear HO717; clear HO720; clear HO724; clear HB; have HO701 := n0_; have HO714 := n1_; have HO717 := n2_; have HO720 := n3_; have HO724 := n4_; have HO727 := n5_; have HB := n6_; clear n0_ n1_ n2_ n3_ n4_ n5_ n6_; (try clear hb); (try clear hb2); (try clear hk); (try clear hi); (try clear ho0); obtain ⟨Ao60, co60, eo60⟩ := Kd.R_slice HO727.out; subst eo60; obtain ⟨Ao61, co61, eo61⟩ := Kd.R_slice HO714.out; subst eo61) | (go_at_call 19; (with_reducible refine (tapestrierref1_SameTokens.calls kj20 _ _ t725 _ _ y712 t728 _ ?side1 ?side2 ?side3 ?side4 A47.out).mono ?_); (case side1 => repeat (first | exact (Kd.R_reads' HO727.out).2.2 | (with_reducible refine Kd.C_alloc ?_ _) | (with_reducible refine Kd.C_drewN ?_ _) | (with_reducible refine Kd.C_drew ?_))); (case side2 => exact (Kd.R_reads' HO727.out).2.1); (case side3 => repeat (first | exact (Kd.R_reads' HO714.out).2.2 | (with_reducible refine Kd.C_alloc ?_ _) | (with_reducible refine Kd.C_drewN ?_ _) | (with_reducible refine Kd.C_drew ?_))); (case side4 => exact (Kd.R_reads' HO714.out).2.1); rintro e w' ⟨rfl, ⟨nd, rfl⟩⟩))
                          go_ret
                          exact ⟨by first | rfl | (simp [errW_none, errW_some] <;> rfl) | (simp [*, errW_none, errW_some] <;> rfl), by repeat (first | (with_reducible first | exact HB.out | apply below_alloc | apply pw_below_drewN | apply below_drew1) | exact HB.out)⟩
                        · rw [if_neg c44] at H
                          exact absurd H (by simp)
                      · replace c43 := Bool.eq_false_iff.mpr c43
                        subst c43
                        have H1 : (some false) = some r := by rw [if_neg (show ¬ (false = true) by decide)] at H; exact H
                        clear H
                        have H := H1
                        clear H1
                        obtain rfl := Option.some.inj H
                        go_wp2_with (first | ((with_reducible refine gate_dst (N := 58) rfl ?_); (try (refine gate_guard (by rfl) ?_; dsimp only)); refine Kd.R_lit k31 _ 31 ?hg (N := 58) ?hd (xs := ([(⟨4, a0, 0, false, 0⟩ : S31)] : List (S31))) (inner := [.int .i64 4, .string a0, .int .i64 0, .bool false, .int .i64 0]) (ok := fun _ => True) (okp := fun _ => True) ?hr ?hp (fun _ hk => hk) trivial (Below.refl _ _) (Nat.le_refl _) (by simp) ?_; (case hd => rfl); (case hg => rfl); (case hr => first | (go_simp; done) | (go_simp; rfl)); (case hp => exact (Reps.c5 (show Kd.M k31 _ _ _ (⟨4, a0, 0, false, 0⟩ : S31) [.int .i64 4, .string a0, .int .i64 0, .bool false, .int .i64 0] from (k31_mkM _ _ _ (⟨4, a0, 0, false, 0⟩ : S31) )) (Reps.none _ _))); intro v700 w62 ho63 hb hg_ hnew_; clear hg_ hnew_; (first | rw [← Ny699.out] at ho63 | (simp only [Int.reduceToNat] at ho63; rw [← Ny699.out] at ho63)); have n0_ := Aside0.mk (Kd.R_lower ho63 (below_size (by repeat (first | (with_reducible first | exact HB.out | apply below_alloc | apply pw_below_drewN | apply below_drew1) | exact HB.out)))); have n1_ := Aside0.mk (below_step (by repeat (first | (with_reducible first | exact HB.out | apply below_alloc | apply pw_below_drewN | apply below_drew1) | exact HB.out)) hb); clear HB; have HO701 := n0_; have HB := n1_; clear n0_ n1_; clear hb ho63) | ((with_reducible refine gate_dst (N := 76) rfl ?_); (try (refine gate_guard (by rfl) ?_; dsimp only)); refine Kd.R_lit k31 _ 31 ?hg (N := 76) ?hd (xs := ([(⟨5, (⟨#[]⟩ : ByteArray), 0, false, 0⟩ : S31), (⟨9, (⟨#[]⟩ : ByteArray), 0, false, 0⟩ : S31), (⟨1, (⟨#[97]⟩ : ByteArray), 0, false, 0⟩ : S31)] : List (S31))) (inner := [.int .i64 5, .string (⟨#[]⟩ : ByteArray), .int .i64 0, .bool false, .int .i64 0, .int .i64 9, .string (⟨#[]⟩ : ByteArray), .int .i64 0, .bool false, .int .i64 0, .int .i64 1, .string (⟨#[97]⟩ : ByteArray), .int .i64 0, .bool false, .int .i64 0]) (ok := fun _ => True) (okp := fun _ => True) ?hr ?hp (fun _ hk => hk) trivial (Below.refl _ _) (Nat.le_refl _) (by simp) ?_; (case hd => rfl); (case hg => rfl); (case hr => first | (go_simp; done) | (go_simp; rfl)); (case hp => exact (Reps.c5 (show Kd.M k31 _ _ _ (⟨5, (⟨#[]⟩ : ByteArray), 0, false, 0⟩ : S31) [.int .i64 5, .string (⟨#[]⟩ : ByteArray), .int .i64 0, .bool false, .int .i64 0] from (k31_mkM _ _ _ (⟨5, (⟨#[]⟩ : ByteArray), 0, false, 0⟩ : S31) )) (Reps.c5 (show Kd.M k31 _ _ _ (⟨9, (⟨#[]⟩ : ByteArray), 0, false, 0⟩ : S31) [.int .i64 9, .string (⟨#[]⟩ : ByteArray), .int .i64 0, .bool false, .int .i64 0] from (k31_mkM _ _ _ (⟨9, (⟨#[]⟩ : ByteArray), 0, false, 0⟩ : S31) )) (Reps.c5 (show Kd.M k31 _ _ _ (⟨1, (⟨#[97]⟩ : ByteArray), 0, false, 0⟩ : S31) [.int .i64 1, .string (⟨#[97]⟩ : ByteArray), .int .i64 0, .bool false, .int .i64 0] from (k31_mkM _ _ _ (⟨1, (⟨#[97]⟩ : ByteArray), 0, false, 0⟩ : S31) )) (Reps.none _ _))))); intro v713 w64 ho65 hb hg_ hnew_; clear hg_ hnew_; (first | rw [← Ny712.out] at ho65 | (simp only [Int.reduceToNat] at ho65; rw [← Ny712.out] at ho65)); have n0_ := Aside0.mk (Kd.R_elder' (by (with_reducible repeat (first | apply Kd.R_alloc | apply Kd.R_drewN | apply Kd.R_drew)); exact HO701.out) (Kd.R_base ho65) hb); have n1_ := Aside0.mk (Kd.R_lower (Kd.R_new' ho65 (Kd.R_lt (by (with_reducible repeat (first | apply Kd.R_alloc | apply Kd.R_drewN | apply Kd.R_drew)); exact HO701.out))) (below_size (by repeat (first | (with_reducible first | exact HB.out | apply below_alloc | apply pw_below_drewN | apply below_drew1) | exact HB.out)))); have n2_ := Aside0.mk (below_step (by repeat (first | (with_reducible first | exact HB.out | apply below_alloc | apply pw_below_drewN | apply below_drew1) | exact HB.out)) hb); clear HO701; clear HB; have HO701 := n0_; have HO714 := n1_; have HB := n2_; clear n0_ n1_ n2_; clear hb ho65) | ((with_reducible refine gate_dst (N := 80) rfl ?_); (try (refine gate_guard (by rfl) ?_; dsimp only)); (try (refine gate_guard (by rfl) ?_; dsimp only)); refine conv_goes ?hg (N := 80) ?hd (src := 9) (dst := 25) (e := 5) (s := (x9_20 ++ a0)) (x := ?xo11) ?ho Tryd.underlying9 Tryd.underlying25 Tryd.underlying5 ?hx ?_; (case hd => rfl); (case hg => rfl); (case ho => rfl); (case hx => first | rfl | (go_simp; done) | (go_simp; rfl)); (with_reducible refine (bytesConv5.calls (x9_20 ++ a0) t715 _ A40.out).mono ?_); rintro e w66 ⟨v716, rfl, ho0, hb⟩; refine ⟨_, rfl, ?_⟩; have n0_ := Aside0.mk (Kd.R_below (by (with_reducible repeat (first | apply Kd.R_alloc | apply Kd.R_drewN | apply Kd.R_drew)); exact HO701.out) hb); have n1_ := Aside0.mk (Kd.R_below (by (with_reducible repeat (first | apply Kd.R_alloc | apply Kd.R_drewN | apply Kd.R_drew)); exact HO714.out) hb); have n2_ := Aside0.mk (Kd.V_lower (Kd.V_mono (ok' := fun k_ => some k_ ≠ (v700 : Value).ownBlock ∧ some k_ ≠ (v713 : Value).ownBlock) ho0 (fun k_ hk_ => ⟨(Kd.fresh' (Kd.R_lt (by (with_reducible repeat (first | apply Kd.R_alloc | apply Kd.R_drewN | apply Kd.R_drew)); exact HO701.out)) k_ hk_), (Kd.fresh' (Kd.R_lt (by (with_reducible repeat (first | apply Kd.R_alloc | apply Kd.R_drewN | apply Kd.R_drew)); exact HO714.out)) k_ hk_)⟩)) (below_size (by repeat (first | (with_reducible first | exact HB.out | apply below_alloc | apply pw_below_drewN | apply below_drew1) | exact HB.out)))); have n3_ := Aside0.mk (below_step (by repeat (first | (with_reducible first | exact HB.out | apply below_alloc | apply pw_below_drewN | apply below_drew1) | exact HB.out)) hb); clear HO701; clear HO714; clear HB; have HO701 := n0_; have HO714 := n1_; have HO717 := n2_; have HB := n3_; clear n0_ n1_ n2_ n3_; (try clear hb); (try clear hb2); (try clear hk); (try clear hi); (try clear ho0); obtain ⟨Ao67, co67, eo67⟩ := Kd.V_slice HO717.out; subst eo67) | ((with_reducible refine gate_callee (f := 20) rfl ?_); refine goesL_ (some 81) rfl rfl Tryd.func20 (by kernel_rfl) rfl #[.slice Ao67 t715.length co67] rfl (by (try simp only [List.map_toArray, List.map_cons, List.map_nil]); first | done | rfl | (simp only [List.length_drop, List.length_take]; rfl)) ?_; (with_reducible refine (tapestrierlaw4_Of.calls kj20 _ _ t715 t718 _ ?side1 ?side2 ?side3 A41.out).mono ?_); (case side1 => repeat (first | exact (Kd.V_reads' HO717.out).2.2 | (with_reducible refine Kd.C_alloc ?_ _) | (with_reducible refine Kd.C_drewN ?_ _) | (with_reducible refine Kd.C_drew ?_))); (case side2 => exact (Kd.V_reads' HO717.out).2.1); (case side3 => exact TabsIn.below HT.out (by repeat (first | (with_reducible first | exact HB.out | apply below_alloc | apply pw_below_drewN | apply below_drew1) | exact HB.out))); rintro e w68 ⟨v719, rfl, ho0, hb⟩; refine ⟨_, rfl, ?_⟩; have n0_ := Aside0.mk (Kd.R_elder' (by (with_reducible repeat (first | apply Kd.R_alloc | apply Kd.R_drewN | apply Kd.R_drew)); exact HO701.out) (Kd.R_base ho0) hb); have n1_ := Aside0.mk (Kd.R_elder' (by (with_reducible repeat (first | apply Kd.R_alloc | apply Kd.R_drewN | apply Kd.R_drew)); exact HO714.out) (Kd.R_base ho0) hb); have n2_ := Aside0.mk (Kd.V_elder' (by (with_reducible repeat (first | apply Kd.V_alloc | apply Kd.V_drewN | apply Kd.V_drew)); exact HO717.out) (Kd.R_base ho0) hb); have n3_ := Aside0.mk (Kd.R_lower (Kd.R_new' (Kd.R_new' ho0 (Kd.R_lt (by (with_reducible repeat (first | apply Kd.R_alloc | apply Kd.R_drewN | apply Kd.R_drew)); exact HO701.out))) (Kd.R_lt (by (with_reducible repeat (first | apply Kd.R_alloc | apply Kd.R_drewN | apply Kd.R_drew)); exact HO714.out))) (below_size (by repeat (first | (with_reducible first | exact HB.out | apply below_alloc | apply pw_below_drewN | apply below_drew1) | exact HB.out)))); have n4_ := Aside0.mk (below_step (by repeat (first | (with_reducible first | exact HB.out | apply below_alloc | apply pw_below_drewN | apply below_drew1) | exact HB.out)) hb); clear HO701; clear HO714; clear HO717; clear HB; have HO701 := n0_; have HO714 := n1_; have HO717 := n2_; have HO720 := n3_; have HB := n4_; clear n0_ n1_ n2_ n3_ n4_; (try clear hb); (try clear hb2); (try clear hk); (try clear hi); (try clear ho0); obtain ⟨Ao69, co69, eo69⟩ := Kd.R_slice HO720.out; subst eo69; obtain ⟨Ao70, co70, eo70⟩ := Kd.R_slice HO701.out; subst eo70) | ((with_reducible refine gate_callee (f := 19) rfl ?_); refine goesL_ (some 83) rfl rfl Tryd.func19 (by kernel_rfl) rfl #[.slice Ao69 t718.length co69, .slice Ao70 y699.length co70] rfl (by (try simp only [List.map_toArray, List.map_cons, List.map_nil]); first | done | rfl | (simp only [List.length_drop, List.length_take]; rfl)) ?_; (with_reducible refine (tapestrierref1_SameTokens.calls kj20 _ _ t718 _ _ y699 false _ ?side1 ?side2 ?side3 ?side4 A42.out).mono ?_); (case side1 => repeat (first | exact (Kd.R_reads' HO720.out).2.2 | (with_reducible refine Kd.C_alloc ?_ _) | (with_reducible refine Kd.C_drewN ?_ _) | (with_reducible refine Kd.C_drew ?_))); (case side2 => exact (Kd.R_reads' HO720.out).2.1); (case side3 => repeat (first | exact (Kd.R_reads' HO701.out).2.2 | (with_reducible refine Kd.C_alloc ?_ _) | (with_reducible refine Kd.C_drewN ?_ _) | (with_reducible refine Kd.C_drew ?_))); (case side4 => exact (Kd.R_reads' HO701.out).2.1); rintro e w' ⟨rfl, ⟨nd, rfl⟩⟩; refine ⟨_, rfl, ?_⟩))
                        go_ret
                        exact ⟨by first | rfl | (simp [errW_none, errW_some] <;> rfl) | (simp [*, errW_none, errW_some] <;> rfl), by repeat (first | (with_reducible first | exact HB.out | apply below_alloc | apply pw_below_drewN | apply below_drew1) | exact HB.out)⟩
                    · rw [if_neg c39] at H
                      exact absurd H (by simp)
def tapestrierlaw4_TokStrings.Pure : Prop := ∀ (a0 : ByteArray) (a1 : Bool) (a2 : Bool), a0.size ≤ 140737488351232 → ∃ k, tapestrierlaw4_TokStrings.f k a0 a1 a2 = some true
theorem tapestrierlaw4_TokStrings.walk (P : tapestrierlaw4_TokStrings.Pure) (a0 : ByteArray) (a1 : Bool) (a2 : Bool) (w : World) (w0 : a0.size ≤ 140737488351232) (hT : TabsIn w) :
    Calls Tryd.prog 5 #[.string a0, .bool a1, .bool a2] w fun e w' => e = .returned (.bool true) ∧ Below w.heap.size w w' := by
  obtain ⟨k, h⟩ := P a0 a1 a2 w0
  refine (tapestrierlaw4_TokStrings.calls k a0 a1 a2 true w hT h).mono ?_
  rintro e w' ⟨rfl, hd⟩
  exact ⟨rfl, hd⟩
end Go.Proofs.YtplkkmmojanclaaDoor.Q
