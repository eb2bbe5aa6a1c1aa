/- Part of the proof; printed or typed in this session; unused declarations and remarks struck by a program (wip/prune.py). -/
import Derived.Test.YtplkkmmojanclaaDoorCQ0
import Derived.Test.YtplkkmmojanclaaDoorCQ16
import Derived.Test.YtplkkmmojanclaaDoorCQ17
set_option linter.all false
namespace Go.Proofs.YtplkkmmojanclaaDoor.Q
open Go.RowKit Go.Proofs.YtplkkmmojanclaaDoor.My Go.Proofs.YtplkkmmojanclaaDoorW.PrintWords Go.Proofs.YtplkkmmojanclaaDoorW.PrintLast Go.Proofs.YtplkkmmojanclaaDoorW.PrintMore
attribute [local go_sem] max2_int min2_int max_two min_two max_three min_three max_four min_four
set_option linter.unusedVariables false
set_option linter.unusedSimpArgs false
mutual
def tapestrierlaw4_TokStrings.j0 : Nat → ByteArray → Bool → Bool → Bool → Bool → Option (Bool)
  | 0, _, _, _, _, _ => none
  | k + 1, x0, x1, x2, x7, x19 => if x19 = true then (some x7) else (tapestrierlaw4_TokStrings.l0 k x0 x1 x2 0)
def tapestrierlaw4_TokStrings.l0 : Nat → ByteArray → Bool → Bool → Int → Option (Bool)
  | 0, _, _, _, _ => none
  | k + 1, x0, x1, x2, x8 => if x8 < (x0.size : Int) then (if 0 ≤ x8 then (if (bt x0 x8) < 32 then (some true) else (if (bt x0 x8) > 126 then (some true) else (if (bt x0 x8) = 34 then (some true) else (if (bt x0 x8) = 39 then (some true) else (if (bt x0 x8) = 92 then (some true) else (tapestrierlaw4_TokStrings.l0 k x0 x1 x2 (wrap64 (x8 + 1)))))))) else (none)) else (if x1 = true then (tapestrierlaw4_TokStrings.j2 k x0 x2 (⟨#[39]⟩ : ByteArray)) else (tapestrierlaw4_TokStrings.j2 k x0 x2 (⟨#[34]⟩ : ByteArray)))
def tapestrierlaw4_TokStrings.j2 : Nat → ByteArray → Bool → ByteArray → Option (Bool)
  | 0, _, _, _ => none
  | k + 1, x0, x2, x9 => (some (([(⟨4, x0, 0, false, 0⟩ : S31)] : List (S31)) : List (S31))).bind fun y699 => (if x2 = true then (if x9.size + x0.size ≤ 9223372036854775807 then (if (x9 ++ x0).size + x9.size ≤ 9223372036854775807 then (if ((x9 ++ x0) ++ x9).size + 1 ≤ 9223372036854775807 then ((bytesConv5.f (((x9 ++ x0) ++ x9) ++ (⟨#[97]⟩ : ByteArray))).bind fun t702 => ((tapestrierlaw4_Of.f k t702).bind fun t705 => (if y699.length < 2932031007402 then ((tapestrierref1_SameTokens.f k t705 (y699 ++ [(⟨1, (⟨#[97]⟩ : ByteArray), 0, false, 0⟩ : S31)])).bind fun t711 => (some t711)) else (none)))) else (none)) else (none)) else (none)) else (if x9.size + x0.size ≤ 9223372036854775807 then ((bytesConv5.f (x9 ++ x0)).bind fun t715 => ((tapestrierlaw4_Of.f k t715).bind fun t718 => ((tapestrierref1_SameTokens.f k t718 y699).bind fun t721 => (if t721 = true then (if (x9 ++ x0).size + 2 ≤ 9223372036854775807 then ((bytesConv5.f ((x9 ++ x0) ++ (⟨#[10, 97]⟩ : ByteArray))).bind fun t722 => ((tapestrierlaw4_Of.f k t722).bind fun t725 => ((tapestrierref1_SameTokens.f k t725 (([(⟨5, (⟨#[]⟩ : ByteArray), 0, false, 0⟩ : S31), (⟨9, (⟨#[]⟩ : ByteArray), 0, false, 0⟩ : S31), (⟨1, (⟨#[97]⟩ : ByteArray), 0, false, 0⟩ : S31)] : List (S31)))).bind fun t728 => (some t728)))) else (none)) else (some false))))) else (none)))
end
theorem tapestrierlaw4_TokStrings.mono_l : ∀ k, (∀ y0 y1 y2 y3 y4, LeO (tapestrierlaw4_TokStrings.j0 k y0 y1 y2 y3 y4) (tapestrierlaw4_TokStrings.j0 (k + 1) y0 y1 y2 y3 y4)) ∧ (∀ y0 y1 y2 y3, LeO (tapestrierlaw4_TokStrings.l0 k y0 y1 y2 y3) (tapestrierlaw4_TokStrings.l0 (k + 1) y0 y1 y2 y3)) ∧ (∀ y0 y1 y2, LeO (tapestrierlaw4_TokStrings.j2 k y0 y1 y2) (tapestrierlaw4_TokStrings.j2 (k + 1) y0 y1 y2))
  | 0 => ⟨fun _ _ _ _ _ r h => by simp [tapestrierlaw4_TokStrings.j0] at h, fun _ _ _ _ r h => by simp [tapestrierlaw4_TokStrings.l0] at h, fun _ _ _ r h => by simp [tapestrierlaw4_TokStrings.j2] at h⟩
  | k + 1 => by
    obtain ⟨ih0, ih1, ih2⟩ := tapestrierlaw4_TokStrings.mono_l k
    refine ⟨?_, ?_, ?_⟩
    · intro y0 y1 y2 y3 y4
      unfold tapestrierlaw4_TokStrings.j0
      repeat' first
      | (with_reducible exact ih0 _ _ _ _ _)
      | (with_reducible exact ih1 _ _ _ _)
      | (with_reducible exact ih2 _ _ _)
      | (with_reducible exact tapestrierlaw4_Of.mono _ _)
      | (with_reducible exact tapestrierlaw4_alive.mono _)
      | (with_reducible exact tapestrierref1_SameTokens.mono _ _ _)
      | (with_reducible exact LeO.refl _)
      | (with_reducible exact LeO.none _)
      | (with_reducible refine LeO.ite ?_ ?_)
      | (with_reducible refine LeO.bind ?_ (fun _ => ?_))
      | exact ih0 _ _ _ _ _
      | exact ih1 _ _ _ _
      | exact ih2 _ _ _
      | exact tapestrierlaw4_Of.mono _ _
      | exact tapestrierlaw4_alive.mono _
      | exact tapestrierref1_SameTokens.mono _ _ _
      | exact LeO.none _
      | refine LeO.ite ?_ ?_
      | refine LeO.bind ?_ (fun _ => ?_)
    · intro y0 y1 y2 y3
      unfold tapestrierlaw4_TokStrings.l0
      repeat' first
      | (with_reducible exact ih0 _ _ _ _ _)
      | (with_reducible exact ih1 _ _ _ _)
      | (with_reducible exact ih2 _ _ _)
      | (with_reducible exact tapestrierlaw4_Of.mono _ _)
      | (with_reducible exact tapestrierlaw4_alive.mono _)
      | (with_reducible exact tapestrierref1_SameTokens.mono _ _ _)
      | (with_reducible exact LeO.refl _)
      | (with_reducible exact LeO.none _)
      | (with_reducible refine LeO.ite ?_ ?_)
      | (with_reducible refine LeO.bind ?_ (fun _ => ?_))
      | exact ih0 _ _ _ _ _
      | exact ih1 _ _ _ _
      | exact ih2 _ _ _
      | exact tapestrierlaw4_Of.mono _ _
      | exact tapestrierlaw4_alive.mono _
      | exact tapestrierref1_SameTokens.mono _ _ _
      | exact LeO.none _
      | refine LeO.ite ?_ ?_
      | refine LeO.bind ?_ (fun _ => ?_)
    · intro y0 y1 y2
      unfold tapestrierlaw4_TokStrings.j2
      repeat' first
      | (with_reducible exact ih0 _ _ _ _ _)
      | (with_reducible exact ih1 _ _ _ _)
      | (with_reducible exact ih2 _ _ _)
      | (with_reducible exact tapestrierlaw4_Of.mono _ _)
      | (with_reducible exact tapestrierlaw4_alive.mono _)
      | (with_reducible exact tapestrierref1_SameTokens.mono _ _ _)
      | (with_reducible exact LeO.refl _)
      | (with_reducible exact LeO.none _)
      | (with_reducible refine LeO.ite ?_ ?_)
      | (with_reducible refine LeO.bind ?_ (fun _ => ?_))
      | exact ih0 _ _ _ _ _
      | exact ih1 _ _ _ _
      | exact ih2 _ _ _
      | exact tapestrierlaw4_Of.mono _ _
      | exact tapestrierlaw4_alive.mono _
      | exact tapestrierref1_SameTokens.mono _ _ _
      | exact LeO.none _
      | refine LeO.ite ?_ ?_
      | refine LeO.bind ?_ (fun _ => ?_)
def tapestrierref1_Digits.f : Nat → Int → Option (ByteArray)
  | 0, _ => none
  | k + 1, a0 => if 0 ≤ (Int.tmod a0 10) then (if (Int.tmod a0 10) ≤ (wrap64 ((Int.tmod a0 10) + 1)) then (if (wrap64 ((Int.tmod a0 10) + 1)) ≤ 10 then (if a0 > 9 then ((tapestrierref1_Digits.f k (wrap64 (Int.tdiv a0 10))).bind fun t729 => (if t729.size + ((⟨#[48, 49, 50, 51, 52, 53, 54, 55, 56, 57]⟩ : ByteArray).extract ((Int.tmod a0 10) : Int).toNat ((wrap64 ((Int.tmod a0 10) + 1)) : Int).toNat).size ≤ 9223372036854775807 then (some (t729 ++ ((⟨#[48, 49, 50, 51, 52, 53, 54, 55, 56, 57]⟩ : ByteArray).extract ((Int.tmod a0 10) : Int).toNat ((wrap64 ((Int.tmod a0 10) + 1)) : Int).toNat))) else (none))) else (some ((⟨#[48, 49, 50, 51, 52, 53, 54, 55, 56, 57]⟩ : ByteArray).extract ((Int.tmod a0 10) : Int).toNat ((wrap64 ((Int.tmod a0 10) + 1)) : Int).toNat))) else (none)) else (none)) else (none)
theorem tapestrierref1_Digits.mono_l : ∀ k, (∀ y0, LeO (tapestrierref1_Digits.f k y0) (tapestrierref1_Digits.f (k + 1) y0))
  | 0 => fun _ r h => by simp [tapestrierref1_Digits.f] at h
  | k + 1 => by
    have ih0 := tapestrierref1_Digits.mono_l k
    · intro y0
      unfold tapestrierref1_Digits.f
      repeat' first
      | (with_reducible exact ih0 _)
      | (with_reducible exact LeO.refl _)
      | (with_reducible exact LeO.none _)
      | (with_reducible refine LeO.ite ?_ ?_)
      | (with_reducible refine LeO.bind ?_ (fun _ => ?_))
      | exact ih0 _
      | exact LeO.none _
      | refine LeO.ite ?_ ?_
      | refine LeO.bind ?_ (fun _ => ?_)
theorem tapestrierref1_Digits.mono : ∀ a0 k, LeO (tapestrierref1_Digits.f k a0) (tapestrierref1_Digits.f (k + 1) a0) := by
  intro a0 k
  have ih0 := tapestrierref1_Digits.mono_l k
  exact ih0 a0
set_option maxHeartbeats 8000000 in
set_option maxRecDepth 100000 in
theorem tapestrierref1_Digits.calls (k : Nat) : ∀ (a0 : Int) (r : ByteArray) (w : World) (h : tapestrierref1_Digits.f k a0 = some r),
    Calls Tryd.prog 21 #[.int .i64 a0] w fun e w' => e = .returned (.string r) ∧ Drawn0 w w' := by
  induction k using Nat.strongRecOn with
  | _ k ih =>
  intro a0 r w h
  cases k with
  | zero => exact absurd h (by simp [tapestrierref1_Digits.f])
  | succ k =>
  simp only [tapestrierref1_Digits.f] at h
  have H : (if 0 ≤ (Int.tmod a0 10) then (if (Int.tmod a0 10) ≤ (wrap64 ((Int.tmod a0 10) + 1)) then (if (wrap64 ((Int.tmod a0 10) + 1)) ≤ 10 then (if a0 > 9 then ((tapestrierref1_Digits.f k (wrap64 (Int.tdiv a0 10))).bind fun t729 => (if t729.size + ((⟨#[48, 49, 50, 51, 52, 53, 54, 55, 56, 57]⟩ : ByteArray).extract ((Int.tmod a0 10) : Int).toNat ((wrap64 ((Int.tmod a0 10) + 1)) : Int).toNat).size ≤ 9223372036854775807 then (some (t729 ++ ((⟨#[48, 49, 50, 51, 52, 53, 54, 55, 56, 57]⟩ : ByteArray).extract ((Int.tmod a0 10) : Int).toNat ((wrap64 ((Int.tmod a0 10) + 1)) : Int).toNat))) else (none))) else (some ((⟨#[48, 49, 50, 51, 52, 53, 54, 55, 56, 57]⟩ : ByteArray).extract ((Int.tmod a0 10) : Int).toNat ((wrap64 ((Int.tmod a0 10) + 1)) : Int).toNat))) else (none)) else (none)) else (none)) = some r := h
  clear h
  obtain ⟨ji2, hji2⟩ : ∃ j_ : Int, (Int.tmod a0 10) = j_ := ⟨_, rfl⟩
  replace H : (if 0 ≤ (ji2) then (if (ji2) ≤ (wrap64 ((ji2) + 1)) then (if (wrap64 ((ji2) + 1)) ≤ 10 then (if a0 > 9 then ((tapestrierref1_Digits.f k (wrap64 (Int.tdiv a0 10))).bind fun t729 => (if t729.size + ((⟨#[48, 49, 50, 51, 52, 53, 54, 55, 56, 57]⟩ : ByteArray).extract ((ji2) : Int).toNat ((wrap64 ((ji2) + 1)) : Int).toNat).size ≤ 9223372036854775807 then (some (t729 ++ ((⟨#[48, 49, 50, 51, 52, 53, 54, 55, 56, 57]⟩ : ByteArray).extract ((ji2) : Int).toNat ((wrap64 ((ji2) + 1)) : Int).toNat))) else (none))) else (some ((⟨#[48, 49, 50, 51, 52, 53, 54, 55, 56, 57]⟩ : ByteArray).extract ((ji2) : Int).toNat ((wrap64 ((ji2) + 1)) : Int).toNat))) else (none)) else (none)) else (none)) = some r := by first | (rw [hji2] at H; exact H) | (simp only [hji2] at H ⊢; exact H)
  by_cases c3 : 0 ≤ (ji2)
  · rw [if_pos c3] at H
    have c3b0 := eq_true c3
    have c3b1 : decide (0 ≤ (ji2)) = true := decide_eq_true c3
    clear c3
    by_cases c4 : (ji2) ≤ (wrap64 ((ji2) + 1))
    · rw [if_pos c4] at H
      have c4b0 := eq_true c4
      have c4b1 : decide ((ji2) ≤ (wrap64 ((ji2) + 1))) = true := decide_eq_true c4
      by_cases c5 : (wrap64 ((ji2) + 1)) ≤ 10
      · rw [if_pos c5] at H
        have c5b0 := eq_true c5
        have c5b1 : decide ((wrap64 ((ji2) + 1)) ≤ 10) = true := decide_eq_true c5
        by_cases c6 : a0 > 9
        · rw [if_pos c6] at H
          have c6b0 : decide (9 < a0) = true := decide_eq_true c6
          clear c6
          replace H := Option.bind_eq_some_iff.mp H
          obtain ⟨t729, A70, H⟩ := H
          replace H : (if t729.size + ((⟨#[48, 49, 50, 51, 52, 53, 54, 55, 56, 57]⟩ : ByteArray).extract ((ji2) : Int).toNat ((wrap64 ((ji2) + 1)) : Int).toNat).size ≤ 9223372036854775807 then (some (t729 ++ ((⟨#[48, 49, 50, 51, 52, 53, 54, 55, 56, 57]⟩ : ByteArray).extract ((ji2) : Int).toNat ((wrap64 ((ji2) + 1)) : Int).toNat))) else (none)) = some r := H
          have A7 := Aside0.mk A70
          clear A70
          by_cases c8 : t729.size + ((⟨#[48, 49, 50, 51, 52, 53, 54, 55, 56, 57]⟩ : ByteArray).extract ((ji2) : Int).toNat ((wrap64 ((ji2) + 1)) : Int).toNat).size ≤ 9223372036854775807
          · rw [if_pos c8] at H
            have c8b0 := eq_true c8
            have c8b1 : decide (t729.size + ((⟨#[48, 49, 50, 51, 52, 53, 54, 55, 56, 57]⟩ : ByteArray).extract ((ji2) : Int).toNat ((wrap64 ((ji2) + 1)) : Int).toNat).size ≤ 9223372036854775807) = true := decide_eq_true c8
            try have c8b2 : (9223372036854775807 < t729.size + ((⟨#[48, 49, 50, 51, 52, 53, 54, 55, 56, 57]⟩ : ByteArray).extract ((ji2) : Int).toNat ((wrap64 ((ji2) + 1)) : Int).toNat).size) = False := eq_false (Nat.not_lt.2 c8)
            obtain rfl := Option.some.inj H
            go_enter Tryd.func21, Tryd.ntmps21
            go_wp2_with (first | ((with_reducible refine gate_callee (f := 21) rfl ?_); refine goesL_ (some 14) rfl rfl Tryd.func21 (by kernel_rfl) rfl #[.int .i64 (wrap64 (Int.tdiv a0 10))] rfl (by (try simp only [List.map_toArray, List.map_cons, List.map_nil]); first | done | rfl | (simp only [List.length_drop, List.length_take]; rfl)) ?_; (with_reducible refine (ih k (by omega) (wrap64 (Int.tdiv a0 10)) t729 _ A7.out).mono ?_); rintro e w' ⟨rfl, ⟨nd, rfl⟩⟩; refine ⟨_, rfl, ?_⟩))
            go_ret
            exact ⟨by first | rfl | (simp; done) | (simp only [← hji2] <;> (first | rfl | simp)) | (simp [*]; done), by repeat (first | exact Drawn0.refl _ | apply Drawn0.step)⟩
          · rw [if_neg c8] at H
            exact absurd H (by simp)
        · rw [if_neg c6] at H
          have c6b0 : decide (9 < a0) = false := decide_eq_false c6
          clear c6
          obtain rfl := Option.some.inj H
          go_enter Tryd.func21, Tryd.ntmps21
          go_wp2
          go_ret
          exact ⟨by first | rfl | (simp; done) | (simp only [← hji2] <;> (first | rfl | simp)) | (simp [*]; done), by repeat (first | exact Drawn0.refl _ | apply Drawn0.step)⟩
      · rw [if_neg c5] at H
        exact absurd H (by simp)
    · rw [if_neg c4] at H
      exact absurd H (by simp)
  · rw [if_neg c3] at H
    exact absurd H (by simp)
end Go.Proofs.YtplkkmmojanclaaDoor.Q
