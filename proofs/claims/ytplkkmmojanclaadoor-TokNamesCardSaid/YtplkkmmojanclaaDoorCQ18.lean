/- Part of the proof; printed or typed in this session; unused declarations and remarks struck by a program (wip/prune.py). -/
import Derived.Test.YtplkkmmojanclaaDoorCQ0
import Derived.Test.YtplkkmmojanclaaDoorCQ16
import Derived.Test.YtplkkmmojanclaaDoorCQ17
set_option linter.all false
namespace Go.Proofs.YtplkkmmojanclaaDoor.Q
open Go.RowKit Go.Proofs.YtplkkmmojanclaaDoor.My Go.Proofs.YtplkkmmojanclaaDoorW.PrintWords Go.Proofs.YtplkkmmojanclaaDoorW.PrintLast Go.Proofs.YtplkkmmojanclaaDoorW.PrintMore
attribute [local go_sem] max2_int min2_int max_two min_two max_three min_three max_four min_four
set_option linter.unusedVariables false
set_option linter.unusedSimpArgs false
mutual
def tapestrierlaw4_TokNames.j0 : Nat → ByteArray → Int → Bool → Bool → Option (Bool)
  | 0, _, _, _, _ => none
  | k + 1, x0, x1, x5, x18 => if x18 = true then (some x5) else ((some (([(⟨#[]⟩ : ByteArray), (⟨#[64]⟩ : ByteArray), (⟨#[35]⟩ : ByteArray), (⟨#[]⟩ : ByteArray), (⟨#[45]⟩ : ByteArray), (⟨#[45, 45]⟩ : ByteArray), (⟨#[92]⟩ : ByteArray), (⟨#[46]⟩ : ByteArray), (⟨#[51]⟩ : ByteArray)] : List ByteArray) : List ByteArray)).bind fun y655 => ((some (([(⟨#[]⟩ : ByteArray), (⟨#[]⟩ : ByteArray), (⟨#[]⟩ : ByteArray), (⟨#[40]⟩ : ByteArray), (⟨#[]⟩ : ByteArray), (⟨#[]⟩ : ByteArray), (⟨#[]⟩ : ByteArray), (⟨#[]⟩ : ByteArray), (⟨#[]⟩ : ByteArray)] : List ByteArray) : List ByteArray)).bind fun y658 => (if 1 + x0.size ≤ 9223372036854775807 then (if 2 + x0.size ≤ 9223372036854775807 then ((some (([(([(⟨1, x0, 0, false, 0⟩ : S31)] : List (S31))), (([(⟨2, x0, 0, false, 0⟩ : S31)] : List (S31))), (([(⟨3, x0, 0, false, 0⟩ : S31)] : List (S31))), (([(⟨20, x0, 0, false, 0⟩ : S31)] : List (S31))), (([(⟨1, (⟨#[45]⟩ : ByteArray) ++ x0, 0, false, 0⟩ : S31)] : List (S31))), (([(⟨1, (⟨#[45, 45]⟩ : ByteArray) ++ x0, 0, false, 0⟩ : S31)] : List (S31))), [], (([(⟨10, (⟨#[]⟩ : ByteArray), 0, false, 46⟩ : S31), (⟨1, x0, 0, false, 0⟩ : S31)] : List (S31))), (([(⟨8, x0, 3000, false, 0⟩ : S31)] : List (S31)))] : List (List (S31))) : List (List (S31)))).bind fun y685 => (if x1 < 0 then (tapestrierlaw4_TokNames.j1 k x0 x1 y655 y658 y685 true) else (if x1 ≥ (y655.length : Int) then (tapestrierlaw4_TokNames.j1 k x0 x1 y655 y658 y685 true) else (tapestrierlaw4_TokNames.j1 k x0 x1 y655 y658 y685 (x1 == 6))))) else (none)) else (none))))
def tapestrierlaw4_TokNames.j1 : Nat → ByteArray → Int → List ByteArray → List ByteArray → List (List (S31)) → Bool → Option (Bool)
  | 0, _, _, _, _, _, _ => none
  | k + 1, x0, x1, x7, x8, x9, x61 => if x61 = true then (some true) else (if 0 ≤ x1 then (if x1 < (x7.length : Int) then (if (rdOf ByteArray.empty x7 x1).size + x0.size ≤ 9223372036854775807 then (if x1 < (x8.length : Int) then (if ((rdOf ByteArray.empty x7 x1) ++ x0).size + (rdOf ByteArray.empty x8 x1).size ≤ 9223372036854775807 then ((bytesConv5.f (((rdOf ByteArray.empty x7 x1) ++ x0) ++ (rdOf ByteArray.empty x8 x1))).bind fun t690 => ((tapestrierlaw4_Of.f k t690).bind fun t693 => (if x1 < (x9.length : Int) then ((tapestrierref1_SameTokens.f k t693 (rd_L5 x9 x1)).bind fun t697 => (some t697)) else (none)))) else (none)) else (none)) else (none)) else (none)) else (none))
end
def tapestrierlaw4_TokNames.f (k : Nat) (a0 : ByteArray) (a1 : Int) : Option (Bool) := (tapestrierlaw4_alive.f k).bind fun t653 => ((tapestrierlaw4_name.f k a0).bind fun t654 => (if t653 = true then (tapestrierlaw4_TokNames.j0 k a0 a1 t653 (!t654)) else (tapestrierlaw4_TokNames.j0 k a0 a1 t653 true)))
theorem tapestrierlaw4_TokNames.mono_l : ∀ k, (∀ y0 y1 y2 y3, LeO (tapestrierlaw4_TokNames.j0 k y0 y1 y2 y3) (tapestrierlaw4_TokNames.j0 (k + 1) y0 y1 y2 y3)) ∧ (∀ y0 y1 y2 y3 y4 y5, LeO (tapestrierlaw4_TokNames.j1 k y0 y1 y2 y3 y4 y5) (tapestrierlaw4_TokNames.j1 (k + 1) y0 y1 y2 y3 y4 y5))
  | 0 => ⟨fun _ _ _ _ r h => by simp [tapestrierlaw4_TokNames.j0] at h, fun _ _ _ _ _ _ r h => by simp [tapestrierlaw4_TokNames.j1] at h⟩
  | k + 1 => by
    obtain ⟨ih0, ih1⟩ := tapestrierlaw4_TokNames.mono_l k
    refine ⟨?_, ?_⟩
    · intro y0 y1 y2 y3
      unfold tapestrierlaw4_TokNames.j0
      repeat' first
      | (with_reducible exact ih0 _ _ _ _)
      | (with_reducible exact ih1 _ _ _ _ _ _)
      | (with_reducible exact tapestrierlaw4_Of.mono _ _)
      | (with_reducible exact tapestrierlaw4_alive.mono _)
      | (with_reducible exact tapestrierlaw4_name.mono _ _)
      | (with_reducible exact tapestrierref1_SameTokens.mono _ _ _)
      | (with_reducible exact LeO.refl _)
      | (with_reducible exact LeO.none _)
      | (with_reducible refine LeO.ite ?_ ?_)
      | (with_reducible refine LeO.bind ?_ (fun _ => ?_))
      | exact ih0 _ _ _ _
      | exact ih1 _ _ _ _ _ _
      | exact tapestrierlaw4_Of.mono _ _
      | exact tapestrierlaw4_alive.mono _
      | exact tapestrierlaw4_name.mono _ _
      | exact tapestrierref1_SameTokens.mono _ _ _
      | exact LeO.none _
      | refine LeO.ite ?_ ?_
      | refine LeO.bind ?_ (fun _ => ?_)
    · intro y0 y1 y2 y3 y4 y5
      unfold tapestrierlaw4_TokNames.j1
      repeat' first
      | (with_reducible exact ih0 _ _ _ _)
      | (with_reducible exact ih1 _ _ _ _ _ _)
      | (with_reducible exact tapestrierlaw4_Of.mono _ _)
      | (with_reducible exact tapestrierlaw4_alive.mono _)
      | (with_reducible exact tapestrierlaw4_name.mono _ _)
      | (with_reducible exact tapestrierref1_SameTokens.mono _ _ _)
      | (with_reducible exact LeO.refl _)
      | (with_reducible exact LeO.none _)
      | (with_reducible refine LeO.ite ?_ ?_)
      | (with_reducible refine LeO.bind ?_ (fun _ => ?_))
      | exact ih0 _ _ _ _
      | exact ih1 _ _ _ _ _ _
      | exact tapestrierlaw4_Of.mono _ _
      | exact tapestrierlaw4_alive.mono _
      | exact tapestrierlaw4_name.mono _ _
      | exact tapestrierref1_SameTokens.mono _ _ _
      | exact LeO.none _
      | refine LeO.ite ?_ ?_
      | refine LeO.bind ?_ (fun _ => ?_)
theorem tapestrierlaw4_TokNames.mono : ∀ a0 a1 k, LeO (tapestrierlaw4_TokNames.f k a0 a1) (tapestrierlaw4_TokNames.f (k + 1) a0 a1) := by
  intro a0 a1 k
  obtain ⟨ih0, ih1⟩ := tapestrierlaw4_TokNames.mono_l k
  unfold tapestrierlaw4_TokNames.f
  repeat' first
      | (with_reducible exact ih0 _ _ _ _)
      | (with_reducible exact ih1 _ _ _ _ _ _)
      | (with_reducible exact tapestrierlaw4_Of.mono _ _)
      | (with_reducible exact tapestrierlaw4_alive.mono _)
      | (with_reducible exact tapestrierlaw4_name.mono _ _)
      | (with_reducible exact tapestrierref1_SameTokens.mono _ _ _)
      | (with_reducible exact LeO.refl _)
      | (with_reducible exact LeO.none _)
      | (with_reducible refine LeO.ite ?_ ?_)
      | (with_reducible refine LeO.bind ?_ (fun _ => ?_))
      | exact ih0 _ _ _ _
      | exact ih1 _ _ _ _ _ _
      | exact tapestrierlaw4_Of.mono _ _
      | exact tapestrierlaw4_alive.mono _
      | exact tapestrierlaw4_name.mono _ _
      | exact tapestrierref1_SameTokens.mono _ _ _
      | exact LeO.none _
      | refine LeO.ite ?_ ?_
      | refine LeO.bind ?_ (fun _ => ?_)
def tapestrierlaw4_TokNames.T10 : Bool × List (List Nat × List Nat) := (true, [([], []), ([], []), ([0, 1], [0, 1]), ([2], [2]), ([], []), ([3, 4], [3, 4]), ([], []), ([], []), ([6, 7], [6, 7]), ([8], [8]), ([5, 9], [5, 9]), ([10], [10]), ([11], [11]), ([], []), ([], []), ([13, 14], [13, 14]), ([15], [15]), ([12, 16, 12], [12, 16]), ([17, 17, 0, 1, 2, 3, 4, 5, 6, 7, 8, 9, 10, 11, 12, 13, 14, 15, 16, 17], [17])])
def tapestrierlaw4_TokNames.B10 : List Nat := [0, 0, 3, 7, 0, 31, 0, 0, 192, 448, 1023, 2047, 4095, 0, 0, 24576, 57344, 131071, 262143]
theorem tapestrierlaw4_TokNames.tab10 : rtab .any (opsOf Tryd.f4 10) = tapestrierlaw4_TokNames.T10 := by kernel_rfl
theorem tapestrierlaw4_TokNames.bits10 : waitsOk tapestrierlaw4_TokNames.T10.2 tapestrierlaw4_TokNames.B10 = true := by kernel_rfl
set_option maxHeartbeats 8000000 in
set_option maxRecDepth 100000 in
theorem tapestrierlaw4_TokNames.calls (k : Nat) (a0 : ByteArray) (a1 : Int) (r : Bool) (w : World) (hT : TabsIn w) (h : tapestrierlaw4_TokNames.f k a0 a1 = some r) :
    Calls Tryd.prog 4 #[.string a0, .int .i64 a1] w fun e w' => e = .returned (.bool r) ∧ Below w.heap.size w w' := by
  have hu31 := Tryd.underlying31
  have HT := Aside0.mk hT
  clear hT
  have HB := Aside0.mk (Below.refl w.heap.size w)
  have H : ((tapestrierlaw4_alive.f k).bind fun t653 => ((tapestrierlaw4_name.f k a0).bind fun t654 => (if t653 = true then (tapestrierlaw4_TokNames.j0 k a0 a1 t653 (!t654)) else (tapestrierlaw4_TokNames.j0 k a0 a1 t653 true)))) = some r := h
  clear h
  replace H := Option.bind_eq_some_iff.mp H
  obtain ⟨t653, A30, H⟩ := H
  replace H : ((tapestrierlaw4_name.f k a0).bind fun t654 => (if t653 = true then (tapestrierlaw4_TokNames.j0 k a0 a1 t653 (!t654)) else (tapestrierlaw4_TokNames.j0 k a0 a1 t653 true))) = some r := H
  have A3 := Aside0.mk A30
  clear A30
  replace H := Option.bind_eq_some_iff.mp H
  obtain ⟨t654, A40, H⟩ := H
  replace H : (if t653 = true then (tapestrierlaw4_TokNames.j0 k a0 a1 t653 (!t654)) else (tapestrierlaw4_TokNames.j0 k a0 a1 t653 true)) = some r := H
  have A4 := Aside0.mk A40
  clear A40
  have HC5 := Aside0.mk H
  clear H
  go_enter Tryd.func4, Tryd.ntmps4
  go_upto_region 3 with (first | ((with_reducible refine gate_callee (f := 17) rfl ?_); refine goesL_ (some 10) rfl rfl Tryd.func17 (by kernel_rfl) rfl #[] rfl (by (try simp only [List.map_toArray, List.map_cons, List.map_nil]); first | done | rfl | (simp only [List.length_drop, List.length_take]; rfl)) ?_; (with_reducible refine (tapestrierlaw4_alive.calls k  t653 _ ?side1 A3.out).mono ?_); (case side1 => exact TabsIn.below HT.out (by repeat (first | (with_reducible first | exact HB.out | apply below_alloc | apply pw_below_drewN | apply below_drew1) | exact HB.out))); rintro e w6 ⟨rfl, hb⟩; refine ⟨_, rfl, ?_⟩; have n0_ := Aside0.mk (below_step (by repeat (first | (with_reducible first | exact HB.out | apply below_alloc | apply pw_below_drewN | apply below_drew1) | exact HB.out)) hb); clear HB; have HB := n0_; clear n0_; (try clear hb); (try clear hb2); (try clear hk); (try clear hi)) | ((with_reducible refine gate_callee (f := 18) rfl ?_); refine goesL_ (some 12) rfl rfl Tryd.func18 (by kernel_rfl) rfl #[.string a0] rfl (by (try simp only [List.map_toArray, List.map_cons, List.map_nil]); first | done | rfl | (simp only [List.length_drop, List.length_take]; rfl)) ?_; (with_reducible refine (tapestrierlaw4_name.calls k a0 t654 _ A4.out).mono ?_); rintro e w' ⟨rfl, ⟨nd, rfl⟩⟩; refine ⟨_, rfl, ?_⟩))
  (try simp only [Act.put, List.setIfInBounds_toArray, List.set_cons_zero, List.set_cons_succ])
  go_cut [18] (fun v18 wc => ∃ (kq : Nat) (x18_4 : Bool), v18 = .bool x18_4 ∧ Aside0 (tapestrierlaw4_TokNames.j0 kq a0 a1 t653 x18_4 = some r) ∧ Aside0 (kq ≤ k) ∧ Aside0 (Below w.heap.size w wc))
  case first =>
    have H := HC5.out
    clear HC5
    by_cases c7 : t653 = true
    · subst c7
      have H1 : (tapestrierlaw4_TokNames.j0 k a0 a1 true (!t654)) = some r := by rw [if_pos rfl] at H; exact H
      clear H
      have H := H1
      clear H1
      have H' := Aside0.mk H
      clear H
      go_wp2
      go_meet
      case rel => exact ⟨_, (!t654), (by first | rfl | (simp; done) | (simp [*]; done) | (simp [wrap64]; done)), H', ⟨by first | omega | exact Nat.le_refl _⟩, ⟨by repeat (first | (with_reducible first | exact HB.out | apply below_alloc | apply pw_below_drewN | apply below_drew1) | exact HB.out)⟩⟩
    · replace c7 := Bool.eq_false_iff.mpr c7
      subst c7
      have H1 : (tapestrierlaw4_TokNames.j0 k a0 a1 false true) = some r := by rw [if_neg (show ¬ (false = true) by decide)] at H; exact H
      clear H
      have H := H1
      clear H1
      have H' := Aside0.mk H
      clear H
      go_wp2
      go_meet
      case rel => exact ⟨_, (true), (by first | rfl | (simp; done) | (simp [*]; done) | (simp [wrap64]; done)), H', ⟨by first | omega | exact Nat.le_refl _⟩, ⟨by repeat (first | (with_reducible first | exact HB.out | apply below_alloc | apply pw_below_drewN | apply below_drew1) | exact HB.out)⟩⟩
  case rest =>
    clear HC5
    try clear c1
    try clear p2
    try clear c4
    try clear p6
    try clear c7
    obtain ⟨kq, x18_4, rfl, HA, HJ4, HB⟩ := hcut
    cases kq with
    | zero => exact absurd HA.out (by simp [tapestrierlaw4_TokNames.j0])
    | succ kj4 =>
      have H := HA.out
      clear HA
      simp only [tapestrierlaw4_TokNames.j0] at H
      by_cases c8 : x18_4 = true
      · subst c8
        have H1 : (some t653) = some r := by rw [if_pos rfl] at H; exact H
        clear H
        have H := H1
        clear H1
        obtain rfl := Option.some.inj H
        go_wp2
        go_ret
        exact ⟨by first | rfl | (simp [errW_none, errW_some] <;> rfl) | (simp [*, errW_none, errW_some] <;> rfl), by repeat (first | (with_reducible first | exact HB.out | apply below_alloc | apply pw_below_drewN | apply below_drew1) | exact HB.out)⟩
      · replace c8 := Bool.eq_false_iff.mpr c8
        subst c8
        have H1 : ((some (([(⟨#[]⟩ : ByteArray), (⟨#[64]⟩ : ByteArray), (⟨#[35]⟩ : ByteArray), (⟨#[]⟩ : ByteArray), (⟨#[45]⟩ : ByteArray), (⟨#[45, 45]⟩ : ByteArray), (⟨#[92]⟩ : ByteArray), (⟨#[46]⟩ : ByteArray), (⟨#[51]⟩ : ByteArray)] : List ByteArray) : List ByteArray)).bind fun y655 => ((some (([(⟨#[]⟩ : ByteArray), (⟨#[]⟩ : ByteArray), (⟨#[]⟩ : ByteArray), (⟨#[40]⟩ : ByteArray), (⟨#[]⟩ : ByteArray), (⟨#[]⟩ : ByteArray), (⟨#[]⟩ : ByteArray), (⟨#[]⟩ : ByteArray), (⟨#[]⟩ : ByteArray)] : List ByteArray) : List ByteArray)).bind fun y658 => (if 1 + a0.size ≤ 9223372036854775807 then (if 2 + a0.size ≤ 9223372036854775807 then ((some (([(([(⟨1, a0, 0, false, 0⟩ : S31)] : List (S31))), (([(⟨2, a0, 0, false, 0⟩ : S31)] : List (S31))), (([(⟨3, a0, 0, false, 0⟩ : S31)] : List (S31))), (([(⟨20, a0, 0, false, 0⟩ : S31)] : List (S31))), (([(⟨1, (⟨#[45]⟩ : ByteArray) ++ a0, 0, false, 0⟩ : S31)] : List (S31))), (([(⟨1, (⟨#[45, 45]⟩ : ByteArray) ++ a0, 0, false, 0⟩ : S31)] : List (S31))), [], (([(⟨10, (⟨#[]⟩ : ByteArray), 0, false, 46⟩ : S31), (⟨1, a0, 0, false, 0⟩ : S31)] : List (S31))), (([(⟨8, a0, 3000, false, 0⟩ : S31)] : List (S31)))] : List (List (S31))) : List (List (S31)))).bind fun y685 => (if a1 < 0 then (tapestrierlaw4_TokNames.j1 kj4 a0 a1 y655 y658 y685 true) else (if a1 ≥ (y655.length : Int) then (tapestrierlaw4_TokNames.j1 kj4 a0 a1 y655 y658 y685 true) else (tapestrierlaw4_TokNames.j1 kj4 a0 a1 y655 y658 y685 (a1 == 6))))) else (none)) else (none)))) = some r := by rw [if_neg (show ¬ (false = true) by decide)] at H; exact H
        clear H
        have H := H1
        clear H1
        obtain ⟨y655, hy655⟩ : ∃ y_ : List ByteArray, y_ = (([(⟨#[]⟩ : ByteArray), (⟨#[64]⟩ : ByteArray), (⟨#[35]⟩ : ByteArray), (⟨#[]⟩ : ByteArray), (⟨#[45]⟩ : ByteArray), (⟨#[45, 45]⟩ : ByteArray), (⟨#[92]⟩ : ByteArray), (⟨#[46]⟩ : ByteArray), (⟨#[51]⟩ : ByteArray)] : List ByteArray)) := ⟨_, rfl⟩
        replace H : ((some (([(⟨#[]⟩ : ByteArray), (⟨#[]⟩ : ByteArray), (⟨#[]⟩ : ByteArray), (⟨#[40]⟩ : ByteArray), (⟨#[]⟩ : ByteArray), (⟨#[]⟩ : ByteArray), (⟨#[]⟩ : ByteArray), (⟨#[]⟩ : ByteArray), (⟨#[]⟩ : ByteArray)] : List ByteArray) : List ByteArray)).bind fun y658 => (if 1 + a0.size ≤ 9223372036854775807 then (if 2 + a0.size ≤ 9223372036854775807 then ((some (([(([(⟨1, a0, 0, false, 0⟩ : S31)] : List (S31))), (([(⟨2, a0, 0, false, 0⟩ : S31)] : List (S31))), (([(⟨3, a0, 0, false, 0⟩ : S31)] : List (S31))), (([(⟨20, a0, 0, false, 0⟩ : S31)] : List (S31))), (([(⟨1, (⟨#[45]⟩ : ByteArray) ++ a0, 0, false, 0⟩ : S31)] : List (S31))), (([(⟨1, (⟨#[45, 45]⟩ : ByteArray) ++ a0, 0, false, 0⟩ : S31)] : List (S31))), [], (([(⟨10, (⟨#[]⟩ : ByteArray), 0, false, 46⟩ : S31), (⟨1, a0, 0, false, 0⟩ : S31)] : List (S31))), (([(⟨8, a0, 3000, false, 0⟩ : S31)] : List (S31)))] : List (List (S31))) : List (List (S31)))).bind fun y685 => (if a1 < 0 then (tapestrierlaw4_TokNames.j1 kj4 a0 a1 y655 y658 y685 true) else (if a1 ≥ (y655.length : Int) then (tapestrierlaw4_TokNames.j1 kj4 a0 a1 y655 y658 y685 true) else (tapestrierlaw4_TokNames.j1 kj4 a0 a1 y655 y658 y685 (a1 == 6))))) else (none)) else (none))) = some r := by first | (rw [hy655]; with_reducible exact H) | (have H2_ := (Option.bind_some _ _).symm.trans H; rw [hy655]; with_reducible exact H2_) | (have H2_ := (Option.bind_some _ _).symm.trans H; with_reducible exact H2_) | with_reducible exact H | (rw [hy655]; exact H) | exact H
        have Ny655 := Aside0.mk hy655
        clear hy655
        obtain ⟨y658, hy658⟩ : ∃ y_ : List ByteArray, y_ = (([(⟨#[]⟩ : ByteArray), (⟨#[]⟩ : ByteArray), (⟨#[]⟩ : ByteArray), (⟨#[40]⟩ : ByteArray), (⟨#[]⟩ : ByteArray), (⟨#[]⟩ : ByteArray), (⟨#[]⟩ : ByteArray), (⟨#[]⟩ : ByteArray), (⟨#[]⟩ : ByteArray)] : List ByteArray)) := ⟨_, rfl⟩
        replace H : (if 1 + a0.size ≤ 9223372036854775807 then (if 2 + a0.size ≤ 9223372036854775807 then ((some (([(([(⟨1, a0, 0, false, 0⟩ : S31)] : List (S31))), (([(⟨2, a0, 0, false, 0⟩ : S31)] : List (S31))), (([(⟨3, a0, 0, false, 0⟩ : S31)] : List (S31))), (([(⟨20, a0, 0, false, 0⟩ : S31)] : List (S31))), (([(⟨1, (⟨#[45]⟩ : ByteArray) ++ a0, 0, false, 0⟩ : S31)] : List (S31))), (([(⟨1, (⟨#[45, 45]⟩ : ByteArray) ++ a0, 0, false, 0⟩ : S31)] : List (S31))), [], (([(⟨10, (⟨#[]⟩ : ByteArray), 0, false, 46⟩ : S31), (⟨1, a0, 0, false, 0⟩ : S31)] : List (S31))), (([(⟨8, a0, 3000, false, 0⟩ : S31)] : List (S31)))] : List (List (S31))) : List (List (S31)))).bind fun y685 => (if a1 < 0 then (tapestrierlaw4_TokNames.j1 kj4 a0 a1 y655 y658 y685 true) else (if a1 ≥ (y655.length : Int) then (tapestrierlaw4_TokNames.j1 kj4 a0 a1 y655 y658 y685 true) else (tapestrierlaw4_TokNames.j1 kj4 a0 a1 y655 y658 y685 (a1 == 6))))) else (none)) else (none)) = some r := by first | (rw [hy658]; with_reducible exact H) | (have H2_ := (Option.bind_some _ _).symm.trans H; rw [hy658]; with_reducible exact H2_) | (have H2_ := (Option.bind_some _ _).symm.trans H; with_reducible exact H2_) | with_reducible exact H | (rw [hy658]; exact H) | exact H
        have Ny658 := Aside0.mk hy658
        clear hy658
        obtain ⟨y661, hy661⟩ : ∃ y_ : List (S31), y_ = (([(⟨1, a0, 0, false, 0⟩ : S31)] : List (S31))) := ⟨_, rfl⟩
        replace H : (if 1 + a0.size ≤ 9223372036854775807 then (if 2 + a0.size ≤ 9223372036854775807 then ((some (([y661, (([(⟨2, a0, 0, false, 0⟩ : S31)] : List (S31))), (([(⟨3, a0, 0, false, 0⟩ : S31)] : List (S31))), (([(⟨20, a0, 0, false, 0⟩ : S31)] : List (S31))), (([(⟨1, (⟨#[45]⟩ : ByteArray) ++ a0, 0, false, 0⟩ : S31)] : List (S31))), (([(⟨1, (⟨#[45, 45]⟩ : ByteArray) ++ a0, 0, false, 0⟩ : S31)] : List (S31))), [], (([(⟨10, (⟨#[]⟩ : ByteArray), 0, false, 46⟩ : S31), (⟨1, a0, 0, false, 0⟩ : S31)] : List (S31))), (([(⟨8, a0, 3000, false, 0⟩ : S31)] : List (S31)))] : List (List (S31))) : List (List (S31)))).bind fun y685 => (if a1 < 0 then (tapestrierlaw4_TokNames.j1 kj4 a0 a1 y655 y658 y685 true) else (if a1 ≥ (y655.length : Int) then (tapestrierlaw4_TokNames.j1 kj4 a0 a1 y655 y658 y685 true) else (tapestrierlaw4_TokNames.j1 kj4 a0 a1 y655 y658 y685 (a1 == 6))))) else (none)) else (none)) = some r := by first | (rw [hy661]; with_reducible exact H) | (have H2_ := (Option.bind_some _ _).symm.trans H; rw [hy661]; with_reducible exact H2_) | (have H2_ := (Option.bind_some _ _).symm.trans H; with_reducible exact H2_) | with_reducible exact H | (rw [hy661]; exact H) | exact H
        have Ny661 := Aside0.mk hy661
        clear hy661
        obtain ⟨y664, hy664⟩ : ∃ y_ : List (S31), y_ = (([(⟨2, a0, 0, false, 0⟩ : S31)] : List (S31))) := ⟨_, rfl⟩
        replace H : (if 1 + a0.size ≤ 9223372036854775807 then (if 2 + a0.size ≤ 9223372036854775807 then ((some (([y661, y664, (([(⟨3, a0, 0, false, 0⟩ : S31)] : List (S31))), (([(⟨20, a0, 0, false, 0⟩ : S31)] : List (S31))), (([(⟨1, (⟨#[45]⟩ : ByteArray) ++ a0, 0, false, 0⟩ : S31)] : List (S31))), (([(⟨1, (⟨#[45, 45]⟩ : ByteArray) ++ a0, 0, false, 0⟩ : S31)] : List (S31))), [], (([(⟨10, (⟨#[]⟩ : ByteArray), 0, false, 46⟩ : S31), (⟨1, a0, 0, false, 0⟩ : S31)] : List (S31))), (([(⟨8, a0, 3000, false, 0⟩ : S31)] : List (S31)))] : List (List (S31))) : List (List (S31)))).bind fun y685 => (if a1 < 0 then (tapestrierlaw4_TokNames.j1 kj4 a0 a1 y655 y658 y685 true) else (if a1 ≥ (y655.length : Int) then (tapestrierlaw4_TokNames.j1 kj4 a0 a1 y655 y658 y685 true) else (tapestrierlaw4_TokNames.j1 kj4 a0 a1 y655 y658 y685 (a1 == 6))))) else (none)) else (none)) = some r := by first | (rw [hy664]; with_reducible exact H) | (have H2_ := (Option.bind_some _ _).symm.trans H; rw [hy664]; with_reducible exact H2_) | (have H2_ := (Option.bind_some _ _).symm.trans H; with_reducible exact H2_) | with_reducible exact H | (rw [hy664]; exact H) | exact H
        have Ny664 := Aside0.mk hy664
        clear hy664
        obtain ⟨y667, hy667⟩ : ∃ y_ : List (S31), y_ = (([(⟨3, a0, 0, false, 0⟩ : S31)] : List (S31))) := ⟨_, rfl⟩
        replace H : (if 1 + a0.size ≤ 9223372036854775807 then (if 2 + a0.size ≤ 9223372036854775807 then ((some (([y661, y664, y667, (([(⟨20, a0, 0, false, 0⟩ : S31)] : List (S31))), (([(⟨1, (⟨#[45]⟩ : ByteArray) ++ a0, 0, false, 0⟩ : S31)] : List (S31))), (([(⟨1, (⟨#[45, 45]⟩ : ByteArray) ++ a0, 0, false, 0⟩ : S31)] : List (S31))), [], (([(⟨10, (⟨#[]⟩ : ByteArray), 0, false, 46⟩ : S31), (⟨1, a0, 0, false, 0⟩ : S31)] : List (S31))), (([(⟨8, a0, 3000, false, 0⟩ : S31)] : List (S31)))] : List (List (S31))) : List (List (S31)))).bind fun y685 => (if a1 < 0 then (tapestrierlaw4_TokNames.j1 kj4 a0 a1 y655 y658 y685 true) else (if a1 ≥ (y655.length : Int) then (tapestrierlaw4_TokNames.j1 kj4 a0 a1 y655 y658 y685 true) else (tapestrierlaw4_TokNames.j1 kj4 a0 a1 y655 y658 y685 (a1 == 6))))) else (none)) else (none)) = some r := by first | (rw [hy667]; with_reducible exact H) | (have H2_ := (Option.bind_some _ _).symm.trans H; rw [hy667]; with_reducible exact H2_) | (have H2_ := (Option.bind_some _ _).symm.trans H; with_reducible exact H2_) | with_reducible exact H | (rw [hy667]; exact H) | exact H
        have Ny667 := Aside0.mk hy667
        clear hy667
        obtain ⟨y670, hy670⟩ : ∃ y_ : List (S31), y_ = (([(⟨20, a0, 0, false, 0⟩ : S31)] : List (S31))) := ⟨_, rfl⟩
        replace H : (if 1 + a0.size ≤ 9223372036854775807 then (if 2 + a0.size ≤ 9223372036854775807 then ((some (([y661, y664, y667, y670, (([(⟨1, (⟨#[45]⟩ : ByteArray) ++ a0, 0, false, 0⟩ : S31)] : List (S31))), (([(⟨1, (⟨#[45, 45]⟩ : ByteArray) ++ a0, 0, false, 0⟩ : S31)] : List (S31))), [], (([(⟨10, (⟨#[]⟩ : ByteArray), 0, false, 46⟩ : S31), (⟨1, a0, 0, false, 0⟩ : S31)] : List (S31))), (([(⟨8, a0, 3000, false, 0⟩ : S31)] : List (S31)))] : List (List (S31))) : List (List (S31)))).bind fun y685 => (if a1 < 0 then (tapestrierlaw4_TokNames.j1 kj4 a0 a1 y655 y658 y685 true) else (if a1 ≥ (y655.length : Int) then (tapestrierlaw4_TokNames.j1 kj4 a0 a1 y655 y658 y685 true) else (tapestrierlaw4_TokNames.j1 kj4 a0 a1 y655 y658 y685 (a1 == 6))))) else (none)) else (none)) = some r := by first | (rw [hy670]; with_reducible exact H) | (have H2_ := (Option.bind_some _ _).symm.trans H; rw [hy670]; with_reducible exact H2_) | (have H2_ := (Option.bind_some _ _).symm.trans H; with_reducible exact H2_) | with_reducible exact H | (rw [hy670]; exact H) | exact H
        have Ny670 := Aside0.mk hy670
        clear hy670
        by_cases c9 : 1 + a0.size ≤ 9223372036854775807
        · rw [if_pos c9] at H
          have c9b0 := eq_true c9
          have c9b1 : decide (1 + a0.size ≤ 9223372036854775807) = true := decide_eq_true c9
          try have c9b2 : (9223372036854775807 < 1 + a0.size) = False := eq_false (Nat.not_lt.2 c9)
          obtain ⟨y673, hy673⟩ : ∃ y_ : List (S31), y_ = (([(⟨1, (⟨#[45]⟩ : ByteArray) ++ a0, 0, false, 0⟩ : S31)] : List (S31))) := ⟨_, rfl⟩
          replace H : (if 2 + a0.size ≤ 9223372036854775807 then ((some (([y661, y664, y667, y670, y673, (([(⟨1, (⟨#[45, 45]⟩ : ByteArray) ++ a0, 0, false, 0⟩ : S31)] : List (S31))), [], (([(⟨10, (⟨#[]⟩ : ByteArray), 0, false, 46⟩ : S31), (⟨1, a0, 0, false, 0⟩ : S31)] : List (S31))), (([(⟨8, a0, 3000, false, 0⟩ : S31)] : List (S31)))] : List (List (S31))) : List (List (S31)))).bind fun y685 => (if a1 < 0 then (tapestrierlaw4_TokNames.j1 kj4 a0 a1 y655 y658 y685 true) else (if a1 ≥ (y655.length : Int) then (tapestrierlaw4_TokNames.j1 kj4 a0 a1 y655 y658 y685 true) else (tapestrierlaw4_TokNames.j1 kj4 a0 a1 y655 y658 y685 (a1 == 6))))) else (none)) = some r := by first | (rw [hy673]; with_reducible exact H) | (have H2_ := (Option.bind_some _ _).symm.trans H; rw [hy673]; with_reducible exact H2_) | (have H2_ := (Option.bind_some _ _).symm.trans H; with_reducible exact H2_) | with_reducible exact H | (rw [hy673]; exact H) | exact H
          have Ny673 := Aside0.mk hy673
          clear hy673
          by_cases c10 : 2 + a0.size ≤ 9223372036854775807
          · rw [if_pos c10] at H
            have c10b0 := eq_true c10
            have c10b1 : decide (2 + a0.size ≤ 9223372036854775807) = true := decide_eq_true c10
            try have c10b2 : (9223372036854775807 < 2 + a0.size) = False := eq_false (Nat.not_lt.2 c10)
            obtain ⟨y676, hy676⟩ : ∃ y_ : List (S31), y_ = (([(⟨1, (⟨#[45, 45]⟩ : ByteArray) ++ a0, 0, false, 0⟩ : S31)] : List (S31))) := ⟨_, rfl⟩
            replace H : ((some (([y661, y664, y667, y670, y673, y676, [], (([(⟨10, (⟨#[]⟩ : ByteArray), 0, false, 46⟩ : S31), (⟨1, a0, 0, false, 0⟩ : S31)] : List (S31))), (([(⟨8, a0, 3000, false, 0⟩ : S31)] : List (S31)))] : List (List (S31))) : List (List (S31)))).bind fun y685 => (if a1 < 0 then (tapestrierlaw4_TokNames.j1 kj4 a0 a1 y655 y658 y685 true) else (if a1 ≥ (y655.length : Int) then (tapestrierlaw4_TokNames.j1 kj4 a0 a1 y655 y658 y685 true) else (tapestrierlaw4_TokNames.j1 kj4 a0 a1 y655 y658 y685 (a1 == 6))))) = some r := by first | (rw [hy676]; with_reducible exact H) | (have H2_ := (Option.bind_some _ _).symm.trans H; rw [hy676]; with_reducible exact H2_) | (have H2_ := (Option.bind_some _ _).symm.trans H; with_reducible exact H2_) | with_reducible exact H | (rw [hy676]; exact H) | exact H
            have Ny676 := Aside0.mk hy676
            clear hy676
            obtain ⟨y679, hy679⟩ : ∃ y_ : List (S31), y_ = (([(⟨10, (⟨#[]⟩ : ByteArray), 0, false, 46⟩ : S31), (⟨1, a0, 0, false, 0⟩ : S31)] : List (S31))) := ⟨_, rfl⟩
            replace H : ((some (([y661, y664, y667, y670, y673, y676, [], y679, (([(⟨8, a0, 3000, false, 0⟩ : S31)] : List (S31)))] : List (List (S31))) : List (List (S31)))).bind fun y685 => (if a1 < 0 then (tapestrierlaw4_TokNames.j1 kj4 a0 a1 y655 y658 y685 true) else (if a1 ≥ (y655.length : Int) then (tapestrierlaw4_TokNames.j1 kj4 a0 a1 y655 y658 y685 true) else (tapestrierlaw4_TokNames.j1 kj4 a0 a1 y655 y658 y685 (a1 == 6))))) = some r := by first | (rw [hy679]; with_reducible exact H) | (have H2_ := (Option.bind_some _ _).symm.trans H; rw [hy679]; with_reducible exact H2_) | (have H2_ := (Option.bind_some _ _).symm.trans H; with_reducible exact H2_) | with_reducible exact H | (rw [hy679]; exact H) | exact H
            have Ny679 := Aside0.mk hy679
            clear hy679
            obtain ⟨y682, hy682⟩ : ∃ y_ : List (S31), y_ = (([(⟨8, a0, 3000, false, 0⟩ : S31)] : List (S31))) := ⟨_, rfl⟩
            replace H : ((some (([y661, y664, y667, y670, y673, y676, [], y679, y682] : List (List (S31))) : List (List (S31)))).bind fun y685 => (if a1 < 0 then (tapestrierlaw4_TokNames.j1 kj4 a0 a1 y655 y658 y685 true) else (if a1 ≥ (y655.length : Int) then (tapestrierlaw4_TokNames.j1 kj4 a0 a1 y655 y658 y685 true) else (tapestrierlaw4_TokNames.j1 kj4 a0 a1 y655 y658 y685 (a1 == 6))))) = some r := by first | (rw [hy682]; with_reducible exact H) | (have H2_ := (Option.bind_some _ _).symm.trans H; rw [hy682]; with_reducible exact H2_) | (have H2_ := (Option.bind_some _ _).symm.trans H; with_reducible exact H2_) | with_reducible exact H | (rw [hy682]; exact H) | exact H
            have Ny682 := Aside0.mk hy682
            clear hy682
            obtain ⟨y685, hy685⟩ : ∃ y_ : List (List (S31)), y_ = (([y661, y664, y667, y670, y673, y676, [], y679, y682] : List (List (S31)))) := ⟨_, rfl⟩
            replace H : (if a1 < 0 then (tapestrierlaw4_TokNames.j1 kj4 a0 a1 y655 y658 y685 true) else (if a1 ≥ (y655.length : Int) then (tapestrierlaw4_TokNames.j1 kj4 a0 a1 y655 y658 y685 true) else (tapestrierlaw4_TokNames.j1 kj4 a0 a1 y655 y658 y685 (a1 == 6)))) = some r := by first | (rw [hy685]; with_reducible exact H) | (have H2_ := (Option.bind_some _ _).symm.trans H; rw [hy685]; with_reducible exact H2_) | (have H2_ := (Option.bind_some _ _).symm.trans H; with_reducible exact H2_) | with_reducible exact H | (rw [hy685]; exact H) | exact H
            have Ny685 := Aside0.mk hy685
            clear hy685
            have HC11 := Aside0.mk H
            clear H
            go_upto_region 8 with (first | ((with_reducible refine gate_dst (N := 20) rfl ?_); (try (refine gate_guard (by rfl) ?_; dsimp only)); refine Kd.R_lit Kd.string _ 9 ?hg (N := 20) ?hd (xs := ([(⟨#[]⟩ : ByteArray), (⟨#[64]⟩ : ByteArray), (⟨#[35]⟩ : ByteArray), (⟨#[]⟩ : ByteArray), (⟨#[45]⟩ : ByteArray), (⟨#[45, 45]⟩ : ByteArray), (⟨#[92]⟩ : ByteArray), (⟨#[46]⟩ : ByteArray), (⟨#[51]⟩ : ByteArray)] : List ByteArray)) (inner := [.string (⟨#[]⟩ : ByteArray), .string (⟨#[64]⟩ : ByteArray), .string (⟨#[35]⟩ : ByteArray), .string (⟨#[]⟩ : ByteArray), .string (⟨#[45]⟩ : ByteArray), .string (⟨#[45, 45]⟩ : ByteArray), .string (⟨#[92]⟩ : ByteArray), .string (⟨#[46]⟩ : ByteArray), .string (⟨#[51]⟩ : ByteArray)]) (ok := fun _ => True) (okp := fun _ => True) ?hr ?hp (fun _ hk => hk) trivial (Below.refl _ _) (Nat.le_refl _) (by simp) ?_; (case hd => rfl); (case hg => rfl); (case hr => first | (go_simp; done) | (go_simp; rfl)); (case hp => exact (Reps.one (show Kd.M Kd.string _ _ _ (⟨#[]⟩ : ByteArray) [.string (⟨#[]⟩ : ByteArray)] from rfl) (Reps.one (show Kd.M Kd.string _ _ _ (⟨#[64]⟩ : ByteArray) [.string (⟨#[64]⟩ : ByteArray)] from rfl) (Reps.one (show Kd.M Kd.string _ _ _ (⟨#[35]⟩ : ByteArray) [.string (⟨#[35]⟩ : ByteArray)] from rfl) (Reps.one (show Kd.M Kd.string _ _ _ (⟨#[]⟩ : ByteArray) [.string (⟨#[]⟩ : ByteArray)] from rfl) (Reps.one (show Kd.M Kd.string _ _ _ (⟨#[45]⟩ : ByteArray) [.string (⟨#[45]⟩ : ByteArray)] from rfl) (Reps.one (show Kd.M Kd.string _ _ _ (⟨#[45, 45]⟩ : ByteArray) [.string (⟨#[45, 45]⟩ : ByteArray)] from rfl) (Reps.one (show Kd.M Kd.string _ _ _ (⟨#[92]⟩ : ByteArray) [.string (⟨#[92]⟩ : ByteArray)] from rfl) (Reps.one (show Kd.M Kd.string _ _ _ (⟨#[46]⟩ : ByteArray) [.string (⟨#[46]⟩ : ByteArray)] from rfl) (Reps.one (show Kd.M Kd.string _ _ _ (⟨#[51]⟩ : ByteArray) [.string (⟨#[51]⟩ : ByteArray)] from rfl) (Reps.none _ _))))))))))); intro v656 w12 ho13 hb hg_ hnew_; clear hg_ hnew_; (first | rw [← Ny655.out] at ho13 | (simp only [Int.reduceToNat] at ho13; rw [← Ny655.out] at ho13)); have n0_ := Aside0.mk (Kd.R_lower ho13 (below_size (by repeat (first | (with_reducible first | exact HB.out | apply below_alloc | apply pw_below_drewN | apply below_drew1) | exact HB.out)))); have n1_ := Aside0.mk (below_step (by repeat (first | (with_reducible first | exact HB.out | apply below_alloc | apply pw_below_drewN | apply below_drew1) | exact HB.out)) hb); clear HB; have HO657 := n0_; have HB := n1_; clear n0_ n1_; clear hb ho13) | ((with_reducible refine gate_dst (N := 21) rfl ?_); (try (refine gate_guard (by rfl) ?_; dsimp only)); refine Kd.R_lit Kd.string _ 9 ?hg (N := 21) ?hd (xs := ([(⟨#[]⟩ : ByteArray), (⟨#[]⟩ : ByteArray), (⟨#[]⟩ : ByteArray), (⟨#[40]⟩ : ByteArray), (⟨#[]⟩ : ByteArray), (⟨#[]⟩ : ByteArray), (⟨#[]⟩ : ByteArray), (⟨#[]⟩ : ByteArray), (⟨#[]⟩ : ByteArray)] : List ByteArray)) (inner := [.string (⟨#[]⟩ : ByteArray), .string (⟨#[]⟩ : ByteArray), .string (⟨#[]⟩ : ByteArray), .string (⟨#[40]⟩ : ByteArray), .string (⟨#[]⟩ : ByteArray), .string (⟨#[]⟩ : ByteArray), .string (⟨#[]⟩ : ByteArray), .string (⟨#[]⟩ : ByteArray), .string (⟨#[]⟩ : ByteArray)]) (ok := fun _ => True) (okp := fun _ => True) ?hr ?hp (fun _ hk => hk) trivial (Below.refl _ _) (Nat.le_refl _) (by simp) ?_; (case hd => rfl); (case hg => rfl); (case hr => first | (go_simp; done) | (go_simp; rfl)); (case hp => exact (Reps.one (show Kd.M Kd.string _ _ _ (⟨#[]⟩ : ByteArray) [.string (⟨#[]⟩ : ByteArray)] from rfl) (Reps.one (show Kd.M Kd.string _ _ _ (⟨#[]⟩ : ByteArray) [.string (⟨#[]⟩ : ByteArray)] from rfl) (Reps.one (show Kd.M Kd.string _ _ _ (⟨#[]⟩ : ByteArray) [.string (⟨#[]⟩ : ByteArray)] from rfl) (Reps.one (show Kd.M Kd.string _ _ _ (⟨#[40]⟩ : ByteArray) [.string (⟨#[40]⟩ : ByteArray)] from rfl) (Reps.one (show Kd.M Kd.string _ _ _ (⟨#[]⟩ : ByteArray) [.string (⟨#[]⟩ : ByteArray)] from rfl) (Reps.one (show Kd.M Kd.string _ _ _ (⟨#[]⟩ : ByteArray) [.string (⟨#[]⟩ : ByteArray)] from rfl) (Reps.one (show Kd.M Kd.string _ _ _ (⟨#[]⟩ : ByteArray) [.string (⟨#[]⟩ : ByteArray)] from rfl) (Reps.one (show Kd.M Kd.string _ _ _ (⟨#[]⟩ : ByteArray) [.string (⟨#[]⟩ : ByteArray)] from rfl) (Reps.one (show Kd.M Kd.string _ _ _ (⟨#[]⟩ : ByteArray) [.string (⟨#[]⟩ : ByteArray)] from rfl) (Reps.none _ _))))))))))); intro v659 w14 ho15 hb hg_ hnew_; clear hg_ hnew_; (first | rw [← Ny658.out] at ho15 | (simp only [Int.reduceToNat] at ho15; rw [← Ny658.out] at ho15)); have n0_ := Aside0.mk (Kd.R_elder' (by (with_reducible repeat (first | apply Kd.R_alloc | apply Kd.R_drewN | apply Kd.R_drew)); exact HO657.out) (Kd.R_base ho15) hb); have n1_ := Aside0.mk (Kd.R_lower (Kd.R_new' ho15 (Kd.R_lt (by (with_reducible repeat (first | apply Kd.R_alloc | apply Kd.R_drewN | apply Kd.R_drew)); exact HO657.out))) (below_size (by repeat (first | (with_reducible first | exact HB.out | apply below_alloc | apply pw_below_drewN | apply below_drew1) | exact HB.out)))); have n2_ := Aside0.mk (below_step (by repeat (first | (with_reducible first | exact HB.out | apply below_alloc | apply pw_below_drewN | apply below_drew1) | exact HB.out)) hb); clear HO657; clear HB; have HO657 := n0_; have HO660 := n1_; have HB := n2_; clear n0_ n1_ n2_; clear hb ho15) | ((with_reducible refine gate_dst (N := 24) rfl ?_); (try (refine gate_guard (by rfl) ?_; dsimp only)); refine Kd.R_lit k31 _ 31 ?hg (N := 24) ?hd (xs := ([(⟨1, a0, 0, false, 0⟩ : S31)] : List (S31))) (inner := [.int .i64 1, .string a0, .int .i64 0, .bool false, .int .i64 0]) (ok := fun _ => True) (okp := fun _ => True) ?hr ?hp (fun _ hk => hk) trivial (Below.refl _ _) (Nat.le_refl _) (by simp) ?_; (case hd => rfl); (case hg => rfl); (case hr => first | (go_simp; done) | (go_simp; rfl)); (case hp => exact (Reps.c5 (show Kd.M k31 _ _ _ (⟨1, a0, 0, false, 0⟩ : S31) [.int .i64 1, .string a0, .int .i64 0, .bool false, .int .i64 0] from (k31_mkM _ _ _ (⟨1, a0, 0, false, 0⟩ : S31) )) (Reps.none _ _))); intro v662 w16 ho17 hb hg_ hnew_; clear hg_ hnew_; (first | rw [← Ny661.out] at ho17 | (simp only [Int.reduceToNat] at ho17; rw [← Ny661.out] at ho17)); have n0_ := Aside0.mk (Kd.R_below (by (with_reducible repeat (first | apply Kd.R_alloc | apply Kd.R_drewN | apply Kd.R_drew)); exact HO657.out) hb); have n1_ := Aside0.mk (Kd.R_below (by (with_reducible repeat (first | apply Kd.R_alloc | apply Kd.R_drewN | apply Kd.R_drew)); exact HO660.out) hb); have n2_ := Aside0.mk (Kd.R_lower ho17 (below_size (by repeat (first | (with_reducible first | exact HB.out | apply below_alloc | apply pw_below_drewN | apply below_drew1) | exact HB.out)))); have n3_ := Aside0.mk (below_step (by repeat (first | (with_reducible first | exact HB.out | apply below_alloc | apply pw_below_drewN | apply below_drew1) | exact HB.out)) hb); clear HO657; clear HO660; clear HB; have HO657 := n0_; have HO660 := n1_; have HO663 := n2_; have HB := n3_; clear n0_ n1_ n2_ n3_; clear hb ho17) | ((with_reducible refine gate_dst (N := 27) rfl ?_); (try (refine gate_guard (by rfl) ?_; dsimp only)); refine Kd.R_lit k31 _ 31 ?hg (N := 27) ?hd (xs := ([(⟨2, a0, 0, false, 0⟩ : S31)] : List (S31))) (inner := [.int .i64 2, .string a0, .int .i64 0, .bool false, .int .i64 0]) (ok := fun _ => True) (okp := fun _ => True) ?hr ?hp (fun _ hk => hk) trivial (Below.refl _ _) (Nat.le_refl _) (by simp) ?_; (case hd => rfl); (case hg => rfl); (case hr => first | (go_simp; done) | (go_simp; rfl)); (case hp => exact (Reps.c5 (show Kd.M k31 _ _ _ (⟨2, a0, 0, false, 0⟩ : S31) [.int .i64 2, .string a0, .int .i64 0, .bool false, .int .i64 0] from (k31_mkM _ _ _ (⟨2, a0, 0, false, 0⟩ : S31) )) (Reps.none _ _))); intro v665 w18 ho19 hb hg_ hnew_; clear hg_ hnew_; (first | rw [← Ny664.out] at ho19 | (simp only [Int.reduceToNat] at ho19; rw [← Ny664.out] at ho19)); have n0_ := Aside0.mk (Kd.R_below (by (with_reducible repeat (first | apply Kd.R_alloc | apply Kd.R_drewN | apply Kd.R_drew)); exact HO657.out) hb); have n1_ := Aside0.mk (Kd.R_below (by (with_reducible repeat (first | apply Kd.R_alloc | apply Kd.R_drewN | apply Kd.R_drew)); exact HO660.out) hb); have n2_ := Aside0.mk (Kd.R_elder' (by (with_reducible repeat (first | apply Kd.R_alloc | apply Kd.R_drewN | apply Kd.R_drew)); exact HO663.out) (Kd.R_base ho19) hb); have n3_ := Aside0.mk (Kd.R_lower (Kd.R_new' ho19 (Kd.R_lt (by (with_reducible repeat (first | apply Kd.R_alloc | apply Kd.R_drewN | apply Kd.R_drew)); exact HO663.out))) (below_size (by repeat (first | (with_reducible first | exact HB.out | apply below_alloc | apply pw_below_drewN | apply below_drew1) | exact HB.out)))); have n4_ := Aside0.mk (below_step (by repeat (first | (with_reducible first | exact HB.out | apply below_alloc | apply pw_below_drewN | apply below_drew1) | exact HB.out)) hb); clear HO657; clear HO660; clear HO663; clear HB; have HO657 := n0_; have HO660 := n1_; have HO663 := n2_; have HO666 := n3_; have HB := n4_; clear n0_ n1_ n2_ n3_ n4_; clear hb ho19) | ((with_reducible refine gate_dst (N := 30) rfl ?_); (try (refine gate_guard (by rfl) ?_; dsimp only)); refine Kd.R_lit k31 _ 31 ?hg (N := 30) ?hd (xs := ([(⟨3, a0, 0, false, 0⟩ : S31)] : List (S31))) (inner := [.int .i64 3, .string a0, .int .i64 0, .bool false, .int .i64 0]) (ok := fun _ => True) (okp := fun _ => True) ?hr ?hp (fun _ hk => hk) trivial (Below.refl _ _) (Nat.le_refl _) (by simp) ?_; (case hd => rfl); (case hg => rfl); (case hr => first | (go_simp; done) | (go_simp; rfl)); (case hp => exact (Reps.c5 (show Kd.M k31 _ _ _ (⟨3, a0, 0, false, 0⟩ : S31) [.int .i64 3, .string a0, .int .i64 0, .bool false, .int .i64 0] from (k31_mkM _ _ _ (⟨3, a0, 0, false, 0⟩ : S31) )) (Reps.none _ _))); intro v668 w20 ho21 hb hg_ hnew_; clear hg_ hnew_; (first | rw [← Ny667.out] at ho21 | (simp only [Int.reduceToNat] at ho21; rw [← Ny667.out] at ho21)); have n0_ := Aside0.mk (Kd.R_below (by (with_reducible repeat (first | apply Kd.R_alloc | apply Kd.R_drewN | apply Kd.R_drew)); exact HO657.out) hb); have n1_ := Aside0.mk (Kd.R_below (by (with_reducible repeat (first | apply Kd.R_alloc | apply Kd.R_drewN | apply Kd.R_drew)); exact HO660.out) hb); have n2_ := Aside0.mk (Kd.R_elder' (by (with_reducible repeat (first | apply Kd.R_alloc | apply Kd.R_drewN | apply Kd.R_drew)); exact HO663.out) (Kd.R_base ho21) hb); have n3_ := Aside0.mk (Kd.R_elder' (by (with_reducible repeat (first | apply Kd.R_alloc | apply Kd.R_drewN | apply Kd.R_drew)); exact HO666.out) (Kd.R_base ho21) hb); have n4_ := Aside0.mk (Kd.R_lower (Kd.R_new' (Kd.R_new' ho21 (Kd.R_lt (by (with_reducible repeat (first | apply Kd.R_alloc | apply Kd.R_drewN | apply Kd.R_drew)); exact HO663.out))) (Kd.R_lt (by (with_reducible repeat (first | apply Kd.R_alloc | apply Kd.R_drewN | apply Kd.R_drew)); exact HO666.out))) (below_size (by repeat (first | (with_reducible first | exact HB.out | apply below_alloc | apply pw_below_drewN | apply below_drew1) | exact HB.out)))); have n5_ := Aside0.mk (below_step (by repeat (first | (with_reducible first | exact HB.out | apply below_alloc | apply pw_below_drewN | apply below_drew1) | exact HB.out)) hb); clear HO657; clear HO660; clear HO663; clear HO666; clear HB; have HO657 := n0_; have HO660 := n1_; have HO663 := n2_; have HO666 := n3_; have HO669 := n4_; have HB := n5_; clear n0_ n1_ n2_ n3_ n4_ n5_; clear hb ho21) | ((with_reducible refine gate_dst (N := 33) rfl ?_); (try (refine gate_guard (by rfl) ?_; dsimp only)); refine Kd.R_lit k31 _ 31 ?hg (N := 33) ?hd (xs := ([(⟨20, a0, 0, false, 0⟩ : S31)] : List (S31))) (inner := [.int .i64 20, .string a0, .int .i64 0, .bool false, .int .i64 0]) (ok := fun _ => True) (okp := fun _ => True) ?hr ?hp (fun _ hk => hk) trivial (Below.refl _ _) (Nat.le_refl _) (by simp) ?_; (case hd => rfl); (case hg => rfl); (case hr => first | (go_simp; done) | (go_simp; rfl)); (case hp => exact (Reps.c5 (show Kd.M k31 _ _ _ (⟨20, a0, 0, false, 0⟩ : S31) [.int .i64 20, .string a0, .int .i64 0, .bool false, .int .i64 0] from (k31_mkM _ _ _ (⟨20, a0, 0, false, 0⟩ : S31) )) (Reps.none _ _))); intro v671 w22 ho23 hb hg_ hnew_; clear hg_ hnew_; (first | rw [← Ny670.out] at ho23 | (simp only [Int.reduceToNat] at ho23; rw [← Ny670.out] at ho23)); have n0_ := Aside0.mk (Kd.R_below (by (with_reducible repeat (first | apply Kd.R_alloc | apply Kd.R_drewN | apply Kd.R_drew)); exact HO657.out) hb); have n1_ := Aside0.mk (Kd.R_below (by (with_reducible repeat (first | apply Kd.R_alloc | apply Kd.R_drewN | apply Kd.R_drew)); exact HO660.out) hb); have n2_ := Aside0.mk (Kd.R_elder' (by (with_reducible repeat (first | apply Kd.R_alloc | apply Kd.R_drewN | apply Kd.R_drew)); exact HO663.out) (Kd.R_base ho23) hb); have n3_ := Aside0.mk (Kd.R_elder' (by (with_reducible repeat (first | apply Kd.R_alloc | apply Kd.R_drewN | apply Kd.R_drew)); exact HO666.out) (Kd.R_base ho23) hb); have n4_ := Aside0.mk (Kd.R_elder' (by (with_reducible repeat (first | apply Kd.R_alloc | apply Kd.R_drewN | apply Kd.R_drew)); exact HO669.out) (Kd.R_base ho23) hb); have n5_ := Aside0.mk (Kd.R_lower (Kd.R_new' (Kd.R_new' (Kd.R_new' ho23 (Kd.R_lt (by (with_reducible repeat (first | apply Kd.R_alloc | apply Kd.R_drewN | apply Kd.R_drew)); exact HO663.out))) (Kd.R_lt (by (with_reducible repeat (first | apply Kd.R_alloc | apply Kd.R_drewN | apply Kd.R_drew)); exact HO666.out))) (Kd.R_lt (by (with_reducible repeat (first | apply Kd.R_alloc | apply Kd.R_drewN | apply Kd.R_drew)); exact HO669.out))) (below_size (by repeat (first | (with_reducible first | exact HB.out | apply below_alloc | apply pw_below_drewN | apply below_drew1) | exact HB.out)))); have n6_ := Aside0.mk (below_step (by repeat (first | (with_reducible first | exact HB.out | apply below_alloc | apply pw_below_drewN | apply below_drew1) | exact HB.out)) hb); clear HO657; clear HO660; clear HO663; clear HO666; clear HO669; clear HB; have HO657 := n0_; have HO660 := n1_; have HO663 := n2_; have HO666 := n3_; have HO669 := n4_; have HO672 := n5_; have HB := n6_; clear n0_ n1_ n2_ n3_ n4_ n5_ n6_; clear hb ho23) | ((with_reducible refine gate_dst (N := 37) rfl ?_); (try (refine gate_guard (by rfl) ?_; dsimp only)); refine Kd.R_lit k31 _ 31 ?hg (N := 37) ?hd (xs := ([(⟨1, (⟨#[45]⟩ : ByteArray) ++ a0, 0, false, 0⟩ : S31)] : List (S31))) (inner := [.int .i64 1, .string ((⟨#[45]⟩ : ByteArray) ++ a0), .int .i64 0, .bool false, .int .i64 0]) (ok := fun _ => True) (okp := fun _ => True) ?hr ?hp (fun _ hk => hk) trivial (Below.refl _ _) (Nat.le_refl _) (by simp) ?_; (case hd => rfl); (case hg => rfl); (case hr => first | (go_simp; done) | (go_simp; rfl)); (case hp => exact (Reps.c5 (show Kd.M k31 _ _ _ (⟨1, (⟨#[45]⟩ : ByteArray) ++ a0, 0, false, 0⟩ : S31) [.int .i64 1, .string ((⟨#[45]⟩ : ByteArray) ++ a0), .int .i64 0, .bool false, .int .i64 0] from (k31_mkM _ _ _ (⟨1, (⟨#[45]⟩ : ByteArray) ++ a0, 0, false, 0⟩ : S31) )) (Reps.none _ _))); intro v674 w24 ho25 hb hg_ hnew_; clear hg_ hnew_; (first | rw [← Ny673.out] at ho25 | (simp only [Int.reduceToNat] at ho25; rw [← Ny673.out] at ho25)); have n0_ := Aside0.mk (Kd.R_below (by (with_reducible repeat (first | apply Kd.R_alloc | apply Kd.R_drewN | apply Kd.R_drew)); exact HO657.out) hb); have n1_ := Aside0.mk (Kd.R_below (by (with_reducible repeat (first | apply Kd.R_alloc | apply Kd.R_drewN | apply Kd.R_drew)); exact HO660.out) hb); have n2_ := Aside0.mk (Kd.R_elder' (by (with_reducible repeat (first | apply Kd.R_alloc | apply Kd.R_drewN | apply Kd.R_drew)); exact HO663.out) (Kd.R_base ho25) hb); have n3_ := Aside0.mk (Kd.R_elder' (by (with_reducible repeat (first | apply Kd.R_alloc | apply Kd.R_drewN | apply Kd.R_drew)); exact HO666.out) (Kd.R_base ho25) hb); have n4_ := Aside0.mk (Kd.R_elder' (by (with_reducible repeat (first | apply Kd.R_alloc | apply Kd.R_drewN | apply Kd.R_drew)); exact HO669.out) (Kd.R_base ho25) hb); have n5_ := Aside0.mk (Kd.R_elder' (by (with_reducible repeat (first | apply Kd.R_alloc | apply Kd.R_drewN | apply Kd.R_drew)); exact HO672.out) (Kd.R_base ho25) hb); have n6_ := Aside0.mk (Kd.R_lower (Kd.R_new' (Kd.R_new' (Kd.R_new' (Kd.R_new' ho25 (Kd.R_lt (by (with_reducible repeat (first | apply Kd.R_alloc | apply Kd.R_drewN | apply Kd.R_drew)); exact HO663.out))) (Kd.R_lt (by (with_reducible repeat (first | apply Kd.R_alloc | apply Kd.R_drewN | apply Kd.R_drew)); exact HO666.out))) (Kd.R_lt (by (with_reducible repeat (first | apply Kd.R_alloc | apply Kd.R_drewN | apply Kd.R_drew)); exact HO669.out))) (Kd.R_lt (by (with_reducible repeat (first | apply Kd.R_alloc | apply Kd.R_drewN | apply Kd.R_drew)); exact HO672.out))) (below_size (by repeat (first | (with_reducible first | exact HB.out | apply below_alloc | apply pw_below_drewN | apply below_drew1) | exact HB.out)))); have n7_ := Aside0.mk (below_step (by repeat (first | (with_reducible first | exact HB.out | apply below_alloc | apply pw_below_drewN | apply below_drew1) | exact HB.out)) hb); clear HO657; clear HO660; clear HO663; clear HO666; clear HO669; clear HO672; clear HB; have HO657 := n0_; have HO660 := n1_; have HO663 := n2_; have HO666 := n3_; have HO669 := n4_; have HO672 := n5_; have HO675 := n6_; have HB := n7_; clear n0_ n1_ n2_ n3_ n4_ n5_ n6_ n7_; clear hb ho25) | ((with_reducible refine gate_dst (N := 41) rfl ?_); (try (refine gate_guard (by rfl) ?_; dsimp only)); refine Kd.R_lit k31 _ 31 ?hg (N := 41) ?hd (xs := ([(⟨1, (⟨#[45, 45]⟩ : ByteArray) ++ a0, 0, false, 0⟩ : S31)] : List (S31))) (inner := [.int .i64 1, .string ((⟨#[45, 45]⟩ : ByteArray) ++ a0), .int .i64 0, .bool false, .int .i64 0]) (ok := fun _ => True) (okp := fun _ => True) ?hr ?hp (fun _ hk => hk) trivial (Below.refl _ _) (Nat.le_refl _) (by simp) ?_; (case hd => rfl); (case hg => rfl); (case hr => first | (go_simp; done) | (go_simp; rfl)); (case hp => exact (Reps.c5 (show Kd.M k31 _ _ _ (⟨1, (⟨#[45, 45]⟩ : ByteArray) ++ a0, 0, false, 0⟩ : S31) [.int .i64 1, .string ((⟨#[45, 45]⟩ : ByteArray) ++ a0), .int .i64 0, .bool false, .int .i64 0] from (k31_mkM _ _ _ (⟨1, (⟨#[45, 45]⟩ : ByteArray) ++ a0, 0, false, 0⟩ : S31) )) (Reps.none _ _))); intro v677 w26 ho27 hb hg_ hnew_; clear hg_ hnew_; (first | rw [← Ny676.out] at ho27 | (simp only [Int.reduceToNat] at ho27; rw [← Ny676.out] at ho27)); have n0_ := Aside0.mk (Kd.R_below (by (with_reducible repeat (first | apply Kd.R_alloc | apply Kd.R_drewN | apply Kd.R_drew)); exact HO657.out) hb); have n1_ := Aside0.mk (Kd.R_below (by (with_reducible repeat (first | apply Kd.R_alloc | apply Kd.R_drewN | apply Kd.R_drew)); exact HO660.out) hb); have n2_ := Aside0.mk (Kd.R_elder' (by (with_reducible repeat (first | apply Kd.R_alloc | apply Kd.R_drewN | apply Kd.R_drew)); exact HO663.out) (Kd.R_base ho27) hb); have n3_ := Aside0.mk (Kd.R_elder' (by (with_reducible repeat (first | apply Kd.R_alloc | apply Kd.R_drewN | apply Kd.R_drew)); exact HO666.out) (Kd.R_base ho27) hb); have n4_ := Aside0.mk (Kd.R_elder' (by (with_reducible repeat (first | apply Kd.R_alloc | apply Kd.R_drewN | apply Kd.R_drew)); exact HO669.out) (Kd.R_base ho27) hb); have n5_ := Aside0.mk (Kd.R_elder' (by (with_reducible repeat (first | apply Kd.R_alloc | apply Kd.R_drewN | apply Kd.R_drew)); exact HO672.out) (Kd.R_base ho27) hb); have n6_ := Aside0.mk (Kd.R_elder' (by (with_reducible repeat (first | apply Kd.R_alloc | apply Kd.R_drewN | apply Kd.R_drew)); exact HO675.out) (Kd.R_base ho27) hb); have n7_ := Aside0.mk (Kd.R_lower (Kd.R_new' (Kd.R_new' (Kd.R_new' (Kd.R_new' (Kd.R_new' ho27 (Kd.R_lt (by (with_reducible repeat (first | apply Kd.R_alloc | apply Kd.R_drewN | apply Kd.R_drew)); exact HO663.out))) (Kd.R_lt (by (with_reducible repeat (first | apply Kd.R_alloc | apply Kd.R_drewN | apply Kd.R_drew)); exact HO666.out))) (Kd.R_lt (by (with_reducible repeat (first | apply Kd.R_alloc | apply Kd.R_drewN | apply Kd.R_drew)); exact HO669.out))) (Kd.R_lt (by (with_reducible repeat (first | apply Kd.R_alloc | apply Kd.R_drewN | apply Kd.R_drew)); exact HO672.out))) (Kd.R_lt (by (with_reducible repeat (first | apply Kd.R_alloc | apply Kd.R_drewN | apply Kd.R_drew)); exact HO675.out))) (below_size (by repeat (first | (with_reducible first | exact HB.out | apply below_alloc | apply pw_below_drewN | apply below_drew1) | exact HB.out)))); have n8_ := Aside0.mk (below_step (by repeat (first | (with_reducible first | exact HB.out | apply below_alloc | apply pw_below_drewN | apply below_drew1) | exact HB.out)) hb); clear HO657; clear HO660; clear HO663; clear HO666; clear HO669; clear HO672; clear HO675; clear HB; have HO657 := n0_; have HO660 := n1_; have HO663 := n2_; have HO666 := n3_; have HO669 := n4_; have HO672 := n5_; have HO675 := n6_; have HO678 := n7_; have HB := n8_; clear n0_ n1_ n2_ n3_ n4_ n5_ n6_ n7_ n8_; clear hb ho27) | ((with_reducible refine gate_dst (N := 45) rfl ?_); (try (refine gate_guard (by rfl) ?_; dsimp only)); refine Kd.R_lit k31 _ 31 ?hg (N := 45) ?hd (xs := ([(⟨10, (⟨#[]⟩ : ByteArray), 0, false, 46⟩ : S31), (⟨1, a0, 0, false, 0⟩ : S31)] : List (S31))) (inner := [.int .i64 10, .string (⟨#[]⟩ : ByteArray), .int .i64 0, .bool false, .int .i64 46, .int .i64 1, .string a0, .int .i64 0, .bool false, .int .i64 0]) (ok := fun _ => True) (okp := fun _ => True) ?hr ?hp (fun _ hk => hk) trivial (Below.refl _ _) (Nat.le_refl _) (by simp) ?_; (case hd => rfl); (case hg => rfl); (case hr => first | (go_simp; done) | (go_simp; rfl)); (case hp => exact (Reps.c5 (show Kd.M k31 _ _ _ (⟨10, (⟨#[]⟩ : ByteArray), 0, false, 46⟩ : S31) [.int .i64 10, .string (⟨#[]⟩ : ByteArray), .int .i64 0, .bool false, .int .i64 46] from (k31_mkM _ _ _ (⟨10, (⟨#[]⟩ : ByteArray), 0, false, 46⟩ : S31) )) (Reps.c5 (show Kd.M k31 _ _ _ (⟨1, a0, 0, false, 0⟩ : S31) [.int .i64 1, .string a0, .int .i64 0, .bool false, .int .i64 0] from (k31_mkM _ _ _ (⟨1, a0, 0, false, 0⟩ : S31) )) (Reps.none _ _)))); intro v680 w28 ho29 hb hg_ hnew_; clear hg_ hnew_; (first | rw [← Ny679.out] at ho29 | (simp only [Int.reduceToNat] at ho29; rw [← Ny679.out] at ho29)); have n0_ := Aside0.mk (Kd.R_below (by (with_reducible repeat (first | apply Kd.R_alloc | apply Kd.R_drewN | apply Kd.R_drew)); exact HO657.out) hb); have n1_ := Aside0.mk (Kd.R_below (by (with_reducible repeat (first | apply Kd.R_alloc | apply Kd.R_drewN | apply Kd.R_drew)); exact HO660.out) hb); have n2_ := Aside0.mk (Kd.R_elder' (by (with_reducible repeat (first | apply Kd.R_alloc | apply Kd.R_drewN | apply Kd.R_drew)); exact HO663.out) (Kd.R_base ho29) hb); have n3_ := Aside0.mk (Kd.R_elder' (by (with_reducible repeat (first | apply Kd.R_alloc | apply Kd.R_drewN | apply Kd.R_drew)); exact HO666.out) (Kd.R_base ho29) hb); have n4_ := Aside0.mk (Kd.R_elder' (by (with_reducible repeat (first | apply Kd.R_alloc | apply Kd.R_drewN | apply Kd.R_drew)); exact HO669.out) (Kd.R_base ho29) hb); have n5_ := Aside0.mk (Kd.R_elder' (by (with_reducible repeat (first | apply Kd.R_alloc | apply Kd.R_drewN | apply Kd.R_drew)); exact HO672.out) (Kd.R_base ho29) hb); have n6_ := Aside0.mk (Kd.R_elder' (by (with_reducible repeat (first | apply Kd.R_alloc | apply Kd.R_drewN | apply Kd.R_drew)); exact HO675.out) (Kd.R_base ho29) hb); have n7_ := Aside0.mk (Kd.R_elder' (by (with_reducible repeat (first | apply Kd.R_alloc | apply Kd.R_drewN | apply Kd.R_drew)); exact HO678.out) (Kd.R_base ho29) hb); have n8_ := Aside0.mk (Kd.R_lower (Kd.R_new' (Kd.R_new' (Kd.R_new' (Kd.R_new' (Kd.R_new' (Kd.R_new' ho29 (Kd.R_lt (by (with_reducible repeat (first | apply Kd.R_alloc | apply Kd.R_drewN | apply Kd.R_drew)); exact HO663.out))) (Kd.R_lt (by (with_reducible repeat (first | apply Kd.R_alloc | apply Kd.R_drewN | apply Kd.R_drew)); exact HO666.out))) (Kd.R_lt (by (with_reducible repeat (first | apply Kd.R_alloc | apply Kd.R_drewN | apply Kd.R_drew)); exact HO669.out))) (Kd.R_lt (by (with_reducible repeat (first | apply Kd.R_alloc | apply Kd.R_drewN | apply Kd.R_drew)); exact HO672.out))) (Kd.R_lt (by (with_reducible repeat (first | apply Kd.R_alloc | apply Kd.R_drewN | apply Kd.R_drew)); exact HO675.out))) (Kd.R_lt (by (with_reducible repeat (first | apply Kd.R_alloc | apply Kd.R_drewN | apply Kd.R_drew)); exact HO678.out))) (below_size (by repeat (first | (with_reducible first | exact HB.out | apply below_alloc | apply pw_below_drewN | apply below_drew1) | exact HB.out)))); have n9_ := Aside0.mk (below_step (by repeat (first | (with_reducible first | exact HB.out | apply below_alloc | apply pw_below_drewN | apply below_drew1) | exact HB.out)) hb); clear HO657; clear HO660; clear HO663; clear HO666; clear HO669; clear HO672; clear HO675; clear HO678; clear HB; have HO657 := n0_; have HO660 := n1_; have HO663 := n2_; have HO666 := n3_; have HO669 := n4_; have HO672 := n5_; have HO675 := n6_; have HO678 := n7_; have HO681 := n8_; have HB := n9_; clear n0_ n1_ n2_ n3_ n4_ n5_ n6_ n7_ n8_ n9_; clear hb ho29) | ((with_reducible refine gate_dst (N := 48) rfl ?_); (try (refine gate_guard (by rfl) ?_; dsimp only)); refine Kd.R_lit k31 _ 31 ?hg (N := 48) ?hd (xs := ([(⟨8, a0, 3000, false, 0⟩ : S31)] : List (S31))) (inner := [.int .i64 8, .string a0, .int .i64 3000, .bool false, .int .i64 0]) (ok := fun _ => True) (okp := fun _ => True) ?hr ?hp (fun _ hk => hk) trivial (Below.refl _ _) (Nat.le_refl _) (by simp) ?_; (case hd => rfl); (case hg => rfl); (case hr => first | (go_simp; done) | (go_simp; rfl)); (case hp => exact (Reps.c5 (show Kd.M k31 _ _ _ (⟨8, a0, 3000, false, 0⟩ : S31) [.int .i64 8, .string a0, .int .i64 3000, .bool false, .int .i64 0] from (k31_mkM _ _ _ (⟨8, a0, 3000, false, 0⟩ : S31) )) (Reps.none _ _))); intro v683 w30 ho31 hb hg_ hnew_; clear hg_ hnew_; (first | rw [← Ny682.out] at ho31 | (simp only [Int.reduceToNat] at ho31; rw [← Ny682.out] at ho31)); have n0_ := Aside0.mk (Kd.R_below (by (with_reducible repeat (first | apply Kd.R_alloc | apply Kd.R_drewN | apply Kd.R_drew)); exact HO657.out) hb); have n1_ := Aside0.mk (Kd.R_below (by (with_reducible repeat (first | apply Kd.R_alloc | apply Kd.R_drewN | apply Kd.R_drew)); exact HO660.out) hb); have n2_ := Aside0.mk (Kd.R_elder' (by (with_reducible repeat (first | apply Kd.R_alloc | apply Kd.R_drewN | apply Kd.R_drew)); exact HO663.out) (Kd.R_base ho31) hb); have n3_ := Aside0.mk (Kd.R_elder' (by (with_reducible repeat (first | apply Kd.R_alloc | apply Kd.R_drewN | apply Kd.R_drew)); exact HO666.out) (Kd.R_base ho31) hb); have n4_ := Aside0.mk (Kd.R_elder' (by (with_reducible repeat (first | apply Kd.R_alloc | apply Kd.R_drewN | apply Kd.R_drew)); exact HO669.out) (Kd.R_base ho31) hb); have n5_ := Aside0.mk (Kd.R_elder' (by (with_reducible repeat (first | apply Kd.R_alloc | apply Kd.R_drewN | apply Kd.R_drew)); exact HO672.out) (Kd.R_base ho31) hb); have n6_ := Aside0.mk (Kd.R_elder' (by (with_reducible repeat (first | apply Kd.R_alloc | apply Kd.R_drewN | apply Kd.R_drew)); exact HO675.out) (Kd.R_base ho31) hb); have n7_ := Aside0.mk (Kd.R_elder' (by (with_reducible repeat (first | apply Kd.R_alloc | apply Kd.R_drewN | apply Kd.R_drew)); exact HO678.out) (Kd.R_base ho31) hb); have n8_ := Aside0.mk (Kd.R_elder' (by (with_reducible repeat (first | apply Kd.R_alloc | apply Kd.R_drewN | apply Kd.R_drew)); exact HO681.out) (Kd.R_base ho31) hb); have n9_ := Aside0.mk (Kd.R_lower (Kd.R_new' (Kd.R_new' (Kd.R_new' (Kd.R_new' (Kd.R_new' (Kd.R_new' (Kd.R_new' ho31 (Kd.R_lt (by (with_reducible repeat (first | apply Kd.R_alloc | apply Kd.R_drewN | apply Kd.R_drew)); exact HO663.out))) (Kd.R_lt (by (with_reducible repeat (first | apply Kd.R_alloc | apply Kd.R_drewN | apply Kd.R_drew)); exact HO666.out))) (Kd.R_lt (by (with_reducible repeat (first | apply Kd.R_alloc | apply Kd.R_drewN | apply Kd.R_drew)); exact HO669.out))) (Kd.R_lt (by (with_reducible repeat (first | apply Kd.R_alloc | apply Kd.R_drewN | apply Kd.R_drew)); exact HO672.out))) (Kd.R_lt (by (with_reducible repeat (first | apply Kd.R_alloc | apply Kd.R_drewN | apply Kd.R_drew)); exact HO675.out))) (Kd.R_lt (by (with_reducible repeat (first | apply Kd.R_alloc | apply Kd.R_drewN | apply Kd.R_drew)); exact HO678.out))) (Kd.R_lt (by (with_reducible repeat (first | apply Kd.R_alloc | apply Kd.R_drewN | apply Kd.R_drew)); exact HO681.out))) (below_size (by repeat (first | (with_reducible first | exact HB.out | apply below_alloc | apply pw_below_drewN | apply below_drew1) | exact HB.out)))); have n10_ := Aside0.mk (below_step (by repeat (first | (with_reducible first | exact HB.out | apply below_alloc | apply pw_below_drewN | apply below_drew1) | exact HB.out)) hb); clear HO657; clear HO660; clear HO663; clear HO666; clear HO669; clear HO672; clear HO675; clear HO678; clear HO681; clear HB; have HO657 := n0_; have HO660 := n1_; have HO663 := n2_; have HO666 := n3_; have HO669 := n4_; have HO672 := n5_; have HO675 := n6_; have HO678 := n7_; have HO681 := n8_; have HO684 := n9_; have HB := n10_; clear n0_ n1_ n2_ n3_ n4_ n5_ n6_ n7_ n8_ n9_ n10_; clear hb ho31; obtain ⟨Ao32, co32, eo32⟩ := Kd.R_slice HO663.out; subst eo32; obtain ⟨Ao33, co33, eo33⟩ := Kd.R_slice HO666.out; subst eo33; obtain ⟨Ao34, co34, eo34⟩ := Kd.R_slice HO669.out; subst eo34; obtain ⟨Ao35, co35, eo35⟩ := Kd.R_slice HO672.out; subst eo35; obtain ⟨Ao36, co36, eo36⟩ := Kd.R_slice HO675.out; subst eo36; obtain ⟨Ao37, co37, eo37⟩ := Kd.R_slice HO678.out; subst eo37; obtain ⟨Ao38, co38, eo38⟩ := Kd.R_slice HO681.out; subst eo38; obtain ⟨Ao39, co39, eo39⟩ := Kd.R_slice HO684.out; subst eo39) | ((with_reducible refine gate_dst (N := 49) rfl ?_); (try (refine gate_guard (by rfl) ?_; dsimp only)); refine Kd.N_lit (Kd.slice 31 k31) _ 32 ?hg (N' := 49) ?hd (xs := ([y661, y664, y667, y670, y673, y676, [], y679, y682] : List (List (S31)))) (inner := [.slice Ao32 y661.length co32, .slice Ao33 y664.length co33, .slice Ao34 y667.length co34, .slice Ao35 y670.length co35, .slice Ao36 y673.length co36, .slice Ao37 y676.length co37, .slice none 0 0, .slice Ao38 y679.length co38, .slice Ao39 y682.length co39]) (ok := (fun k_ => some k_ ≠ (v656 : Value).ownBlock ∧ some k_ ≠ (v659 : Value).ownBlock)) (okp := (fun k_ => some k_ ≠ (v656 : Value).ownBlock ∧ some k_ ≠ (v659 : Value).ownBlock)) ?hr ?hp (fun _ hk => hk) ((show ∀ k_, w30.heap.size ≤ k_ → (fun k_ => some k_ ≠ (v656 : Value).ownBlock ∧ some k_ ≠ (v659 : Value).ownBlock) k_ from fun k_ hk => ⟨Kd.fresh' (Kd.R_lt (by (with_reducible repeat (first | apply Kd.R_alloc | apply Kd.R_drewN | apply Kd.R_drew)); exact HO657.out)) k_ hk, Kd.fresh' (Kd.R_lt (by (with_reducible repeat (first | apply Kd.R_alloc | apply Kd.R_drewN | apply Kd.R_drew)); exact HO660.out)) k_ hk⟩) _ (Nat.le_refl _)) (Below.refl _ _) (Nat.le_refl _) (by simp) ?_; (case hd => rfl); (case hg => rfl); (case hr => first | (go_simp; done) | (go_simp; rfl)); (case hp => exact (Reps.one (show Kd.FK (Kd.slice 31 k31) _ _ y661 [.slice Ao32 y661.length co32] from (Kd.FK_slice_mk (Kd.R_reads' (Kd.R_mono (ok' := (fun k_ => some k_ ≠ (v656 : Value).ownBlock ∧ some k_ ≠ (v659 : Value).ownBlock)) (Kd.R_apart' (Kd.R_apart' (HO663.out) (Kd.R_typed HO657.out) (by decide)) (Kd.R_typed HO660.out) (by decide)) (fun k_ hk => ⟨hk.1.2, hk.2⟩))).2.1 (Kd.R_F (Kd.R_mono (ok' := (fun k_ => some k_ ≠ (v656 : Value).ownBlock ∧ some k_ ≠ (v659 : Value).ownBlock)) (Kd.R_apart' (Kd.R_apart' (HO663.out) (Kd.R_typed HO657.out) (by decide)) (Kd.R_typed HO660.out) (by decide)) (fun k_ hk => ⟨hk.1.2, hk.2⟩))))) (Reps.one (show Kd.FK (Kd.slice 31 k31) _ _ y664 [.slice Ao33 y664.length co33] from (Kd.FK_slice_mk (Kd.R_reads' (Kd.R_mono (ok' := (fun k_ => some k_ ≠ (v656 : Value).ownBlock ∧ some k_ ≠ (v659 : Value).ownBlock)) (Kd.R_apart' (Kd.R_apart' (HO666.out) (Kd.R_typed HO657.out) (by decide)) (Kd.R_typed HO660.out) (by decide)) (fun k_ hk => ⟨hk.1.2, hk.2⟩))).2.1 (Kd.R_F (Kd.R_mono (ok' := (fun k_ => some k_ ≠ (v656 : Value).ownBlock ∧ some k_ ≠ (v659 : Value).ownBlock)) (Kd.R_apart' (Kd.R_apart' (HO666.out) (Kd.R_typed HO657.out) (by decide)) (Kd.R_typed HO660.out) (by decide)) (fun k_ hk => ⟨hk.1.2, hk.2⟩))))) (Reps.one (show Kd.FK (Kd.slice 31 k31) _ _ y667 [.slice Ao34 y667.length co34] from (Kd.FK_slice_mk (Kd.R_reads' (Kd.R_mono (ok' := (fun k_ => some k_ ≠ (v656 : Value).ownBlock ∧ some k_ ≠ (v659 : Value).ownBlock)) (Kd.R_apart' (Kd.R_apart' (HO669.out) (Kd.R_typed HO657.out) (by decide)) (Kd.R_typed HO660.out) (by decide)) (fun k_ hk => ⟨hk.1.2, hk.2⟩))).2.1 (Kd.R_F (Kd.R_mono (ok' := (fun k_ => some k_ ≠ (v656 : Value).ownBlock ∧ some k_ ≠ (v659 : Value).ownBlock)) (Kd.R_apart' (Kd.R_apart' (HO669.out) (Kd.R_typed HO657.out) (by decide)) (Kd.R_typed HO660.out) (by decide)) (fun k_ hk => ⟨hk.1.2, hk.2⟩))))) (Reps.one (show Kd.FK (Kd.slice 31 k31) _ _ y670 [.slice Ao35 y670.length co35] from (Kd.FK_slice_mk (Kd.R_reads' (Kd.R_mono (ok' := (fun k_ => some k_ ≠ (v656 : Value).ownBlock ∧ some k_ ≠ (v659 : Value).ownBlock)) (Kd.R_apart' (Kd.R_apart' (HO672.out) (Kd.R_typed HO657.out) (by decide)) (Kd.R_typed HO660.out) (by decide)) (fun k_ hk => ⟨hk.1.2, hk.2⟩))).2.1 (Kd.R_F (Kd.R_mono (ok' := (fun k_ => some k_ ≠ (v656 : Value).ownBlock ∧ some k_ ≠ (v659 : Value).ownBlock)) (Kd.R_apart' (Kd.R_apart' (HO672.out) (Kd.R_typed HO657.out) (by decide)) (Kd.R_typed HO660.out) (by decide)) (fun k_ hk => ⟨hk.1.2, hk.2⟩))))) (Reps.one (show Kd.FK (Kd.slice 31 k31) _ _ y673 [.slice Ao36 y673.length co36] from (Kd.FK_slice_mk (Kd.R_reads' (Kd.R_mono (ok' := (fun k_ => some k_ ≠ (v656 : Value).ownBlock ∧ some k_ ≠ (v659 : Value).ownBlock)) (Kd.R_apart' (Kd.R_apart' (HO675.out) (Kd.R_typed HO657.out) (by decide)) (Kd.R_typed HO660.out) (by decide)) (fun k_ hk => ⟨hk.1.2, hk.2⟩))).2.1 (Kd.R_F (Kd.R_mono (ok' := (fun k_ => some k_ ≠ (v656 : Value).ownBlock ∧ some k_ ≠ (v659 : Value).ownBlock)) (Kd.R_apart' (Kd.R_apart' (HO675.out) (Kd.R_typed HO657.out) (by decide)) (Kd.R_typed HO660.out) (by decide)) (fun k_ hk => ⟨hk.1.2, hk.2⟩))))) (Reps.one (show Kd.FK (Kd.slice 31 k31) _ _ y676 [.slice Ao37 y676.length co37] from (Kd.FK_slice_mk (Kd.R_reads' (Kd.R_mono (ok' := (fun k_ => some k_ ≠ (v656 : Value).ownBlock ∧ some k_ ≠ (v659 : Value).ownBlock)) (Kd.R_apart' (Kd.R_apart' (HO678.out) (Kd.R_typed HO657.out) (by decide)) (Kd.R_typed HO660.out) (by decide)) (fun k_ hk => ⟨hk.1.2, hk.2⟩))).2.1 (Kd.R_F (Kd.R_mono (ok' := (fun k_ => some k_ ≠ (v656 : Value).ownBlock ∧ some k_ ≠ (v659 : Value).ownBlock)) (Kd.R_apart' (Kd.R_apart' (HO678.out) (Kd.R_typed HO657.out) (by decide)) (Kd.R_typed HO660.out) (by decide)) (fun k_ hk => ⟨hk.1.2, hk.2⟩))))) (Reps.one (show Kd.FK (Kd.slice 31 k31) _ _ [] [.slice none 0 0] from (Kd.FK_slice_mk (Nat.le_refl _) (Kd.F_nil _ _ _))) (Reps.one (show Kd.FK (Kd.slice 31 k31) _ _ y679 [.slice Ao38 y679.length co38] from (Kd.FK_slice_mk (Kd.R_reads' (Kd.R_mono (ok' := (fun k_ => some k_ ≠ (v656 : Value).ownBlock ∧ some k_ ≠ (v659 : Value).ownBlock)) (Kd.R_apart' (Kd.R_apart' (HO681.out) (Kd.R_typed HO657.out) (by decide)) (Kd.R_typed HO660.out) (by decide)) (fun k_ hk => ⟨hk.1.2, hk.2⟩))).2.1 (Kd.R_F (Kd.R_mono (ok' := (fun k_ => some k_ ≠ (v656 : Value).ownBlock ∧ some k_ ≠ (v659 : Value).ownBlock)) (Kd.R_apart' (Kd.R_apart' (HO681.out) (Kd.R_typed HO657.out) (by decide)) (Kd.R_typed HO660.out) (by decide)) (fun k_ hk => ⟨hk.1.2, hk.2⟩))))) (Reps.one (show Kd.FK (Kd.slice 31 k31) _ _ y682 [.slice Ao39 y682.length co39] from (Kd.FK_slice_mk (Kd.R_reads' (Kd.R_mono (ok' := (fun k_ => some k_ ≠ (v656 : Value).ownBlock ∧ some k_ ≠ (v659 : Value).ownBlock)) (Kd.R_apart' (Kd.R_apart' (HO684.out) (Kd.R_typed HO657.out) (by decide)) (Kd.R_typed HO660.out) (by decide)) (fun k_ hk => ⟨hk.1.2, hk.2⟩))).2.1 (Kd.R_F (Kd.R_mono (ok' := (fun k_ => some k_ ≠ (v656 : Value).ownBlock ∧ some k_ ≠ (v659 : Value).ownBlock)) (Kd.R_apart' (Kd.R_apart' (HO684.out) (Kd.R_typed HO657.out) (by decide)) (Kd.R_typed HO660.out) (by decide)) (fun k_ hk => ⟨hk.1.2, hk.2⟩))))) (Reps.none _ _))))))))))); intro v686 w40 ho41 hb hg_ hnew_; clear hg_ hnew_; (first | rw [← Ny685.out] at ho41 | (simp only [Int.reduceToNat] at ho41; rw [← Ny685.out] at ho41)); have n0_ := Aside0.mk (Kd.R_below (by (with_reducible repeat (first | apply Kd.R_alloc | apply Kd.R_drewN | apply Kd.R_drew)); exact HO657.out) hb); have n1_ := Aside0.mk (Kd.R_below (by (with_reducible repeat (first | apply Kd.R_alloc | apply Kd.R_drewN | apply Kd.R_drew)); exact HO660.out) hb); have n2_ := Aside0.mk (Kd.N_lower ho41 (below_size (by repeat (first | (with_reducible first | exact HB.out | apply below_alloc | apply pw_below_drewN | apply below_drew1) | exact HB.out)))); have n3_ := Aside0.mk (below_step (by repeat (first | (with_reducible first | exact HB.out | apply below_alloc | apply pw_below_drewN | apply below_drew1) | exact HB.out)) hb); clear HO657; clear HO660; clear HB; clear HO663; clear HO666; clear HO669; clear HO672; clear HO675; clear HO678; clear HO681; clear HO684; have HO657 := n0_; have HO660 := n1_; have HO687 := n2_; have HB := n3_; clear n0_ n1_ n2_ n3_; clear hb ho41))
            (try simp only [Act.put, List.setIfInBounds_toArray, List.set_cons_zero, List.set_cons_succ])
            go_cut [61] (fun v61 wc => ∃ (kq : Nat) (x61_10 : Bool), v61 = .bool x61_10 ∧ Aside0 (tapestrierlaw4_TokNames.j1 kq a0 a1 y655 y658 y685 x61_10 = some r) ∧ Aside0 (kq ≤ kj4) ∧ Aside0 (Kd.R Kd.string 9 wc w.heap.size (fun k_ => some k_ ≠ (v659 : Value).ownBlock) v656 y655) ∧ Aside0 (Kd.R Kd.string 9 wc w.heap.size (fun k_ => some k_ ≠ (v656 : Value).ownBlock) v659 y658) ∧ Aside0 (Kd.N (Kd.slice 31 k31) 32 wc w.heap.size (fun k_ => some k_ ≠ (v656 : Value).ownBlock ∧ some k_ ≠ (v659 : Value).ownBlock) v686 y685) ∧ Aside0 (Below w.heap.size w wc))
            case first =>
              have H := HC11.out
              clear HC11
              by_cases c42 : a1 < 0
              · rw [if_pos c42] at H
                have c42b0 : decide (a1 < 0) = true := decide_eq_true c42
                clear c42
                (first | rw [c42b0] | (simp only [i64_w, i32_w]; rw [c42b0]) | skip)
                have H' := Aside0.mk H
                clear H
                go_wp2
                go_meet
                case rel => exact ⟨_, (true), (by first | rfl | (simp; done) | (simp [*]; done) | (simp [wrap64]; done)), H', ⟨by have := HJ4.out; first | omega | exact Nat.le_refl _⟩, ⟨by (with_reducible repeat (first | apply Kd.R_alloc | apply Kd.R_drewN | apply Kd.R_drew)); exact Kd.R_mono HO657.out (fun _ hk => hk.2)⟩, ⟨by (with_reducible repeat (first | apply Kd.R_alloc | apply Kd.R_drewN | apply Kd.R_drew)); exact Kd.R_mono HO660.out (fun _ hk => hk.2)⟩, ⟨by (with_reducible repeat (first | apply Kd.N_alloc | apply Kd.N_drewN | apply Kd.N_drew)); exact HO687.out⟩, ⟨by repeat (first | (with_reducible first | exact HB.out | apply below_alloc | apply pw_below_drewN | apply below_drew1) | exact HB.out)⟩⟩
              · rw [if_neg c42] at H
                have c42b0 : decide (a1 < 0) = false := decide_eq_false c42
                clear c42
                (first | rw [c42b0] | (simp only [i64_w, i32_w]; rw [c42b0]) | skip)
                by_cases c43 : a1 ≥ (y655.length : Int)
                · rw [if_pos c43] at H
                  have c43b0 : decide ((y655.length : Int) ≤ a1) = true := decide_eq_true c43
                  clear c43
                  have H' := Aside0.mk H
                  clear H
                  obtain ⟨Ao44, co44, eo44⟩ := Kd.R_slice HO657.out
                  subst eo44
                  go_wp2
                  go_meet
                  case rel => exact ⟨_, (true), (by first | rfl | (simp; done) | (simp [*]; done) | (simp [wrap64]; done)), H', ⟨by have := HJ4.out; first | omega | exact Nat.le_refl _⟩, ⟨by (with_reducible repeat (first | apply Kd.R_alloc | apply Kd.R_drewN | apply Kd.R_drew)); exact Kd.R_mono HO657.out (fun _ hk => hk.2)⟩, ⟨by (with_reducible repeat (first | apply Kd.R_alloc | apply Kd.R_drewN | apply Kd.R_drew)); exact Kd.R_mono HO660.out (fun _ hk => hk.2)⟩, ⟨by (with_reducible repeat (first | apply Kd.N_alloc | apply Kd.N_drewN | apply Kd.N_drew)); exact HO687.out⟩, ⟨by repeat (first | (with_reducible first | exact HB.out | apply below_alloc | apply pw_below_drewN | apply below_drew1) | exact HB.out)⟩⟩
                · rw [if_neg c43] at H
                  have c43b0 : decide ((y655.length : Int) ≤ a1) = false := decide_eq_false c43
                  clear c43
                  have H' := Aside0.mk H
                  clear H
                  obtain ⟨Ao45, co45, eo45⟩ := Kd.R_slice HO657.out
                  subst eo45
                  go_wp2
                  go_meet
                  case rel => exact ⟨_, ((a1 == 6)), (by first | rfl | (simp; done) | (simp [*]; done) | (simp [wrap64]; done)), H', ⟨by have := HJ4.out; first | omega | exact Nat.le_refl _⟩, ⟨by (with_reducible repeat (first | apply Kd.R_alloc | apply Kd.R_drewN | apply Kd.R_drew)); exact Kd.R_mono HO657.out (fun _ hk => hk.2)⟩, ⟨by (with_reducible repeat (first | apply Kd.R_alloc | apply Kd.R_drewN | apply Kd.R_drew)); exact Kd.R_mono HO660.out (fun _ hk => hk.2)⟩, ⟨by (with_reducible repeat (first | apply Kd.N_alloc | apply Kd.N_drewN | apply Kd.N_drew)); exact HO687.out⟩, ⟨by repeat (first | (with_reducible first | exact HB.out | apply below_alloc | apply pw_below_drewN | apply below_drew1) | exact HB.out)⟩⟩
            case rest =>
              clear HC11
              try clear c1
              try clear p2
              try clear c4
              try clear c5
              try clear p6
              try clear c7
              try clear c8
              try clear c9
              try clear c9b0
              try clear c9b1
              try clear c9b2
              try clear c10
              try clear c10b0
              try clear c10b1
              try clear c10b2
              try clear c17
              try clear c18
              try clear c42
              try clear c42b0
              try clear c43
              try clear c43b0
              try clear p2
              try clear p6
              obtain ⟨kq, x61_10, rfl, HA, HJ10, HO_7, HO_8, HO_9, HB⟩ := hcut
              cases kq with
              | zero => exact absurd HA.out (by simp [tapestrierlaw4_TokNames.j1])
              | succ kj10 =>
                have H := HA.out
                clear HA
                simp only [tapestrierlaw4_TokNames.j1] at H
                by_cases c46 : x61_10 = true
                · subst c46
                  have H1 : (some true) = some r := by rw [if_pos rfl] at H; exact H
                  clear H
                  have H := H1
                  clear H1
                  obtain rfl := Option.some.inj H
                  go_wp2
                  go_ret
                  exact ⟨by first | rfl | (simp [errW_none, errW_some] <;> rfl) | (simp [*, errW_none, errW_some] <;> rfl), by repeat (first | (with_reducible first | exact HB.out | apply below_alloc | apply pw_below_drewN | apply below_drew1) | exact HB.out)⟩
                · replace c46 := Bool.eq_false_iff.mpr c46
                  subst c46
                  have H1 : (if 0 ≤ a1 then (if a1 < (y655.length : Int) then (if (rdOf ByteArray.empty y655 a1).size + a0.size ≤ 9223372036854775807 then (if a1 < (y658.length : Int) then (if ((rdOf ByteArray.empty y655 a1) ++ a0).size + (rdOf ByteArray.empty y658 a1).size ≤ 9223372036854775807 then ((bytesConv5.f (((rdOf ByteArray.empty y655 a1) ++ a0) ++ (rdOf ByteArray.empty y658 a1))).bind fun t690 => ((tapestrierlaw4_Of.f kj10 t690).bind fun t693 => (if a1 < (y685.length : Int) then ((tapestrierref1_SameTokens.f kj10 t693 (rd_L5 y685 a1)).bind fun t697 => (some t697)) else (none)))) else (none)) else (none)) else (none)) else (none)) else (none)) = some r := by rw [if_neg (show ¬ (false = true) by decide)] at H; exact H
                  clear H
                  have H := H1
                  clear H1
                  by_cases c47 : 0 ≤ a1
                  · rw [if_pos c47] at H
                    have c47b0 : decide (0 ≤ a1) = true := decide_eq_true c47
                    clear c47
                    by_cases c48 : a1 < (y655.length : Int)
                    · rw [if_pos c48] at H
                      have c48b0 : decide (a1 < (y655.length : Int)) = true := decide_eq_true c48
                      clear c48
                      by_cases c49 : (rdOf ByteArray.empty y655 a1).size + a0.size ≤ 9223372036854775807
                      · rw [if_pos c49] at H
                        have c49b0 := eq_true c49
                        have c49b1 : decide ((rdOf ByteArray.empty y655 a1).size + a0.size ≤ 9223372036854775807) = true := decide_eq_true c49
                        try have c49b2 : (9223372036854775807 < (rdOf ByteArray.empty y655 a1).size + a0.size) = False := eq_false (Nat.not_lt.2 c49)
                        by_cases c50 : a1 < (y658.length : Int)
                        · rw [if_pos c50] at H
                          have c50b0 : decide (a1 < (y658.length : Int)) = true := decide_eq_true c50
                          clear c50
                          by_cases c51 : ((rdOf ByteArray.empty y655 a1) ++ a0).size + (rdOf ByteArray.empty y658 a1).size ≤ 9223372036854775807
                          · rw [if_pos c51] at H
                            have c51b0 := eq_true c51
                            have c51b1 : decide (((rdOf ByteArray.empty y655 a1) ++ a0).size + (rdOf ByteArray.empty y658 a1).size ≤ 9223372036854775807) = true := decide_eq_true c51
                            try have c51b2 : (9223372036854775807 < ((rdOf ByteArray.empty y655 a1) ++ a0).size + (rdOf ByteArray.empty y658 a1).size) = False := eq_false (Nat.not_lt.2 c51)
                            try (have c51b4 := c51b2; simp only [ByteArray.size_append] at c51b4)
                            try have c51b5 : (9223372036854775807 < (rdOf ByteArray.empty y655 a1).size + a0.size + (rdOf ByteArray.empty y658 a1).size) = False := c51b4
                            replace H := Option.bind_eq_some_iff.mp H
                            obtain ⟨t690, A520, H⟩ := H
                            replace H : ((tapestrierlaw4_Of.f kj10 t690).bind fun t693 => (if a1 < (y685.length : Int) then ((tapestrierref1_SameTokens.f kj10 t693 (rd_L5 y685 a1)).bind fun t697 => (some t697)) else (none))) = some r := H
                            have A52 := Aside0.mk A520
                            clear A520
                            replace H := Option.bind_eq_some_iff.mp H
                            obtain ⟨t693, A530, H⟩ := H
                            replace H : (if a1 < (y685.length : Int) then ((tapestrierref1_SameTokens.f kj10 t693 (rd_L5 y685 a1)).bind fun t697 => (some t697)) else (none)) = some r := H
                            have A53 := Aside0.mk A530
                            clear A530
                            by_cases c54 : a1 < (y685.length : Int)
                            · rw [if_pos c54] at H
                              have c54b0 : decide (a1 < (y685.length : Int)) = true := decide_eq_true c54
                              clear c54
                              replace H := Option.bind_eq_some_iff.mp H
                              obtain ⟨t697, A550, H⟩ := H
                              replace H : (some t697) = some r := H
                              have A55 := Aside0.mk A550
                              clear A550
                              obtain rfl := Option.some.inj H
                              try go_wp2
                              have n0_ := Aside0.mk (Kd.R_drew HO_7.out)
                              have n1_ := Aside0.mk (Kd.R_drew HO_8.out)
                              have n2_ := Aside0.mk (Kd.N_drew HO_9.out)
                              have n3_ := Aside0.mk (below_drew1 HB.out)
                              clear HO_7
                              clear HO_8
                              clear HO_9
                              clear HB
                              have HO_7 := n0_
                              have HO_8 := n1_
                              have HO_9 := n2_
                              have HB := n3_
                              clear n0_ n1_ n2_ n3_
                              obtain ⟨Ao57, co57, eo57⟩ := Kd.R_slice HO_7.out
                              (first | subst eo57 | (injection eo57 with f1_ f2_ f3_; have f4_ := f1_.symm; have f5_ := f3_.symm; clear f1_ f2_ f3_; subst f4_; subst f5_))
                              have p688 : 0 ≤ (a1 : Int) := of_decide_eq_true (by first | (with_reducible assumption) | assumption)
                              have q688 : a1 < (y655.length : Int) := of_decide_eq_true (by first | (with_reducible assumption) | assumption)
                              obtain ⟨ad688, e688, hx688_0⟩ := Kd.at_string (Kd.R_reads' HO_7.out).2.2 a1 p688 q688
                              cases e688
                              replace p688 := eq_true p688
                              replace q688 := eq_true q688
                              obtain ⟨Ao58, co58, eo58⟩ := Kd.R_slice HO_8.out
                              (first | subst eo58 | (injection eo58 with f1_ f2_ f3_; have f4_ := f1_.symm; have f5_ := f3_.symm; clear f1_ f2_ f3_; subst f4_; subst f5_))
                              have p689 : 0 ≤ (a1 : Int) := of_decide_eq_true (by first | (with_reducible assumption) | assumption)
                              have q689 : a1 < (y658.length : Int) := of_decide_eq_true (by first | (with_reducible assumption) | assumption)
                              obtain ⟨ad689, e689, hx689_0⟩ := Kd.at_string (Kd.R_reads' HO_8.out).2.2 a1 p689 q689
                              cases e689
                              replace p689 := eq_true p689
                              replace q689 := eq_true q689
                              obtain ⟨Ao59, co59, eo59⟩ := Kd.N_slice HO_9.out
                              (first | subst eo59 | (injection eo59 with f1_ f2_ f3_; have f4_ := f1_.symm; have f5_ := f3_.symm; clear f1_ f2_ f3_; subst f4_; subst f5_))
                              have p696 : 0 ≤ (a1 : Int) := of_decide_eq_true (by first | (with_reducible assumption) | assumption)
                              have q696 : a1 < (y685.length : Int) := of_decide_eq_true (by first | (with_reducible assumption) | assumption)
                              obtain ⟨ad696, A696_0, c696_0, e696, hx696_0, hl696_0, hi696_0⟩ := at_L5 (Kd.N_reads' HO_9.out).2.2 a1 p696 q696
                              cases e696
                              obtain ⟨ce696, hce696, hMe696, hcc696⟩ := Kd.N_get HO_9.out [] a1 p696 (by first | exact q696 | exact of_decide_eq_true (by first | (with_reducible assumption) | assumption) | (have e_ := (Kd.N_reads' HO_9.out).1; omega))
                              obtain ⟨ua696_0, uc696_0, rfl, ul696_0, ge696_0⟩ := Kd.FK_slice_open hMe696
                              have hv696_0 := hcc696 0 _ rfl
                              rw [Nat.add_zero, show ((Kd.slice 31 k31)).sz = 1 from rfl, Nat.mul_one] at hv696_0
                              replace hv696_0 := Option.some.inj (hv696_0.symm.trans hx696_0)
                              injection hv696_0 with hva_ hvn_ hvc_
                              rw [hva_] at ge696_0
                              rw [hvc_] at ul696_0
                              have HL696_0 := Aside0.mk (show Kd.V k31 31 _ w.heap.size _ _ (rd_L5 y685 a1) from Kd.V_mk ul696_0 ge696_0)
                              clear hva_ hvn_ hvc_ ge696_0 ul696_0
                              clear hcc696 hce696
                              have HR696_0 := Aside0.mk hi696_0
                              have HC696_0 := Aside0.mk hl696_0
                              clear hi696_0 hl696_0
                              replace p696 := eq_true p696
                              replace q696 := eq_true q696
                              refine start_ (n := 19) (S := fun w' => w'.cell? (ad688.add (a1).toNat) = some (.string (rdOf ByteArray.empty y655 a1)) ∧ w'.cell? (ad689.add (a1).toNat) = some (.string (rdOf ByteArray.empty y658 a1)) ∧ w'.cell? (ad696.add (a1).toNat) = some (.slice A696_0 (rd_L5 y685 a1).length c696_0)) (ds := []) #[false, false, false, false, false, false, false, false, false, false, false, false, false, false, false, false, false, false, false] (by kernel_rfl) rfl rfl ⟨hx688_0, hx689_0, hx696_0⟩ (fun hHeld => ?_); refine with_tabW tapestrierlaw4_TokNames.tab10 tapestrierlaw4_TokNames.bits10 (fun HT_ HW_ => ?_)
                              generalize wc.drew = w56 at HO_7 HO_8 HO_9 HB HL696_0 HR696_0 hx688_0 hx689_0 hx696_0 hHeld ⊢
                              refine pure_ (i := 0) (N := some 62) (v := ?_) (a' := ?_) #[true, false, false, false, false, false, false, false, false, false, false, false, false, false, false, false, false, false, false] rfl rfl (any_of HT_.out (by kernel_rfl)) (fun _ _ _ h => h) (Or.inl ⟨by rfl, ?_⟩) ?_ ?_
                              rotate_left
                              · intro w'
                                go_simp
                                with_reducible rfl
                              rotate_left
                              · simp only [Act.put, List.setIfInBounds_toArray, List.set_cons_zero, List.set_cons_succ, i64_w, i32_w]
                                rfl
                              refine pure_ (i := 1) (N := some 63) (v := ?_) (a' := ?_) #[true, true, false, false, false, false, false, false, false, false, false, false, false, false, false, false, false, false, false] rfl rfl (any_of HT_.out (by kernel_rfl)) (fun _ _ _ h => h) (Or.inl ⟨by rfl, ?_⟩) ?_ ?_
                              rotate_left
                              · intro w'
                                go_simp
                                with_reducible rfl
                              rotate_left
                              · simp only [Act.put, List.setIfInBounds_toArray, List.set_cons_zero, List.set_cons_succ, i64_w, i32_w]
                                rfl
                              refine pure_ (i := 2) (N := some 64) (v := ?_) (a' := ?_) #[true, true, true, false, false, false, false, false, false, false, false, false, false, false, false, false, false, false, false] rfl rfl (any_of HT_.out (by kernel_rfl)) (fun _ _ _ h => h) (Or.inl ⟨by rfl, ?_⟩) ?_ ?_
                              rotate_left
                              · intro w'
                                go_simp
                                with_reducible rfl
                              rotate_left
                              · simp only [Act.put, List.setIfInBounds_toArray, List.set_cons_zero, List.set_cons_succ, i64_w, i32_w]
                                rfl
                              refine pure_ (i := 4) (N := some 66) (v := ?_) (a' := ?_) #[true, true, true, false, true, false, false, false, false, false, false, false, false, false, false, false, false, false, false] rfl rfl (any_of HT_.out (by kernel_rfl)) (fun _ _ _ h => h) (Or.inl ⟨by rfl, ?_⟩) ?_ ?_
                              rotate_left
                              · intro w'
                                go_simp
                                with_reducible rfl
                              rotate_left
                              · simp only [Act.put, List.setIfInBounds_toArray, List.set_cons_zero, List.set_cons_succ, i64_w, i32_w]
                                rfl
                              refine pure_ (i := 6) (N := some 68) (v := ?_) (a' := ?_) #[true, true, true, false, true, false, true, false, false, false, false, false, false, false, false, false, false, false, false] rfl rfl (any_of HT_.out (by kernel_rfl)) (fun _ _ _ h => h) (Or.inl ⟨by rfl, ?_⟩) ?_ ?_
                              rotate_left
                              · intro w'
                                go_simp
                                with_reducible rfl
                              rotate_left
                              · simp only [Act.put, List.setIfInBounds_toArray, List.set_cons_zero, List.set_cons_succ, i64_w, i32_w]
                                rfl
                              refine pure_ (i := 7) (N := some 69) (v := ?_) (a' := ?_) #[true, true, true, false, true, false, true, true, false, false, false, false, false, false, false, false, false, false, false] rfl rfl (any_of HT_.out (by kernel_rfl)) (fun _ _ _ h => h) (Or.inl ⟨by rfl, ?_⟩) ?_ ?_
                              rotate_left
                              · intro w'
                                go_simp
                                with_reducible rfl
                              rotate_left
                              · simp only [Act.put, List.setIfInBounds_toArray, List.set_cons_zero, List.set_cons_succ, i64_w, i32_w]
                                rfl
                              refine pure_ (i := 8) (N := some 70) (v := ?_) (a' := ?_) #[true, true, true, false, true, false, true, true, true, false, false, false, false, false, false, false, false, false, false] rfl rfl (any_of HT_.out (by kernel_rfl)) (fun _ _ _ h => h) (Or.inl ⟨by rfl, ?_⟩) ?_ ?_
                              rotate_left
                              · intro w'
                                go_simp
                                with_reducible rfl
                              rotate_left
                              · simp only [Act.put, List.setIfInBounds_toArray, List.set_cons_zero, List.set_cons_succ, i64_w, i32_w]
                                rfl
                              refine pure_ (i := 13) (N := some 75) (v := ?_) (a' := ?_) #[true, true, true, false, true, false, true, true, true, false, false, false, false, true, false, false, false, false, false] rfl rfl (any_of HT_.out (by kernel_rfl)) (fun _ _ _ h => h) (Or.inl ⟨by rfl, ?_⟩) ?_ ?_
                              rotate_left
                              · intro w'
                                go_simp
                                with_reducible rfl
                              rotate_left
                              · simp only [Act.put, List.setIfInBounds_toArray, List.set_cons_zero, List.set_cons_succ, i64_w, i32_w]
                                rfl
                              refine pure_ (i := 14) (N := some 76) (v := ?_) (a' := ?_) #[true, true, true, false, true, false, true, true, true, false, false, false, false, true, true, false, false, false, false] rfl rfl (any_of HT_.out (by kernel_rfl)) (fun _ _ _ h => h) (Or.inl ⟨by rfl, ?_⟩) ?_ ?_
                              rotate_left
                              · intro w'
                                go_simp
                                with_reducible rfl
                              rotate_left
                              · simp only [Act.put, List.setIfInBounds_toArray, List.set_cons_zero, List.set_cons_succ, i64_w, i32_w]
                                rfl
                              refine pure_ (i := 15) (N := some 77) (v := ?_) (a' := ?_) #[true, true, true, false, true, false, true, true, true, false, false, false, false, true, true, true, false, false, false] rfl rfl (any_of HT_.out (by kernel_rfl)) (fun _ _ _ h => h) (Or.inl ⟨by rfl, ?_⟩) ?_ ?_
                              rotate_left
                              · intro w'
                                go_simp
                                with_reducible rfl
                              rotate_left
                              · simp only [Act.put, List.setIfInBounds_toArray, List.set_cons_zero, List.set_cons_succ, i64_w, i32_w]
                                rfl
                              refine take_ (i := 3) (N := some 65) (v := ?_) (a' := ?_) #[true, true, true, true, true, false, true, true, true, false, false, false, false, true, true, true, false, false, false] rfl rfl (take_ofW HT_.out HW_.out (by kernel_rfl)) (fun _ _ _ h => h) (Or.inl ⟨by rfl, ?_⟩) hHeld ?_ ?_
                              rotate_left
                              · rintro w' ⟨s0, s1, s2⟩
                                go_simp
                                with_reducible rfl
                              rotate_left
                              · simp only [Act.put, List.setIfInBounds_toArray, List.set_cons_zero, List.set_cons_succ, i64_w, i32_w]
                                rfl
                              refine pure_ (i := 5) (N := some 67) (v := ?_) (a' := ?_) #[true, true, true, true, true, true, true, true, true, false, false, false, false, true, true, true, false, false, false] rfl rfl (any_of HT_.out (by kernel_rfl)) (fun _ _ _ h => h) (Or.inl ⟨by rfl, ?_⟩) ?_ ?_
                              rotate_left
                              · intro w'
                                go_simp
                                with_reducible rfl
                              rotate_left
                              · simp only [Act.put, List.setIfInBounds_toArray, List.set_cons_zero, List.set_cons_succ, i64_w, i32_w]
                                rfl
                              refine take_ (i := 9) (N := some 71) (v := ?_) (a' := ?_) #[true, true, true, true, true, true, true, true, true, true, false, false, false, true, true, true, false, false, false] rfl rfl (take_ofW HT_.out HW_.out (by kernel_rfl)) (fun _ _ _ h => h) (Or.inl ⟨by rfl, ?_⟩) hHeld ?_ ?_
                              rotate_left
                              · rintro w' ⟨s0, s1, s2⟩
                                go_simp
                                with_reducible rfl
                              rotate_left
                              · simp only [Act.put, List.setIfInBounds_toArray, List.set_cons_zero, List.set_cons_succ, i64_w, i32_w]
                                rfl
                              refine pure_ (i := 10) (N := some 72) (v := ?_) (a' := ?_) #[true, true, true, true, true, true, true, true, true, true, true, false, false, true, true, true, false, false, false] rfl rfl (any_of HT_.out (by kernel_rfl)) (fun _ _ _ h => h) (Or.inl ⟨by rfl, ?_⟩) ?_ ?_
                              rotate_left
                              · intro w'
                                go_simp
                                with_reducible rfl
                              rotate_left
                              · simp only [Act.put, List.setIfInBounds_toArray, List.set_cons_zero, List.set_cons_succ, i64_w, i32_w]
                                rfl
                              refine take_ (i := 16) (N := some 78) (v := ?_) (a' := ?_) #[true, true, true, true, true, true, true, true, true, true, true, false, false, true, true, true, true, false, false] rfl rfl (take_ofW HT_.out HW_.out (by kernel_rfl)) (fun _ _ _ h => h) (Or.inl ⟨by rfl, ?_⟩) hHeld ?_ ?_
                              rotate_left
                              · rintro w' ⟨s0, s1, s2⟩
                                go_simp
                                with_reducible rfl
                              rotate_left
                              · simp only [Act.put, List.setIfInBounds_toArray, List.set_cons_zero, List.set_cons_succ, i64_w, i32_w]
                                rfl
                              refine one_ (i := 11) (N := some 73) #[true, true, true, true, true, true, true, true, true, true, true, true, false, true, true, true, true, false, false] rfl rfl (one_of HT_.out (by kernel_rfl)) (by decide) (fun K hK => ?_)
                              refine conv_step (N := 73) (src := 9) (dst := 25) (e := 5) (s := (((rdOf ByteArray.empty y655 a1) ++ a0) ++ (rdOf ByteArray.empty y658 a1))) (by rfl) rfl rfl Tryd.underlying9 Tryd.underlying25 Tryd.underlying5 (by first | rfl | (go_simp; done) | (go_simp; rfl)) ?_
                              with_reducible refine (bytesConv5.calls (((rdOf ByteArray.empty y655 a1) ++ a0) ++ (rdOf ByteArray.empty y658 a1)) t690 _ A52.out).mono ?_
                              rintro e w60 ⟨v691, rfl, ho0, hb⟩
                              have HS0_ := (hb.cell (World.block_lt_of_cell? _ _ (hHeld.1))).trans (hHeld.1)
                              have HS1_ := (hb.cell (World.block_lt_of_cell? _ _ (hHeld.2.1))).trans (hHeld.2.1)
                              have HS2_ := (hb.cell (World.block_lt_of_cell? _ _ (hHeld.2.2))).trans (hHeld.2.2)
                              refine ⟨_, rfl, ?_⟩
                              have n0_ := Aside0.mk (Kd.R_below (by (with_reducible repeat (first | apply Kd.R_alloc | apply Kd.R_drewN | apply Kd.R_drew)); exact HO_7.out) hb)
                              have n1_ := Aside0.mk (Kd.R_below (by (with_reducible repeat (first | apply Kd.R_alloc | apply Kd.R_drewN | apply Kd.R_drew)); exact HO_8.out) hb)
                              have n2_ := Aside0.mk (Kd.N_below (by (with_reducible repeat (first | apply Kd.N_alloc | apply Kd.N_drewN | apply Kd.N_drew)); exact HO_9.out) hb)
                              have n3_ := Aside0.mk (Kd.V_below (by (with_reducible repeat (first | apply Kd.V_alloc | apply Kd.V_drewN | apply Kd.V_drew)); exact HL696_0.out) hb)
                              have n4_ := Aside0.mk (Kd.V_lower (Kd.V_mono (ok' := fun k_ => some k_ ≠ (.slice (some ad688) y655.length co57 : Value).ownBlock ∧ some k_ ≠ (.slice (some ad689) y658.length co58 : Value).ownBlock ∧ some k_ ≠ (.slice (some ad696) y685.length co59 : Value).ownBlock) ho0 (fun k_ hk_ => ⟨(Kd.fresh' (Kd.R_lt (by (with_reducible repeat (first | apply Kd.R_alloc | apply Kd.R_drewN | apply Kd.R_drew)); exact HO_7.out)) k_ hk_), (Kd.fresh' (Kd.R_lt (by (with_reducible repeat (first | apply Kd.R_alloc | apply Kd.R_drewN | apply Kd.R_drew)); exact HO_8.out)) k_ hk_), (Kd.fresh' (Kd.N_lt (by (with_reducible repeat (first | apply Kd.N_alloc | apply Kd.N_drewN | apply Kd.N_drew)); exact HO_9.out)) k_ hk_)⟩)) (below_size (by repeat (first | (with_reducible first | exact HB.out | apply below_alloc | apply pw_below_drewN | apply below_drew1) | exact HB.out))))
                              have n5_ := Aside0.mk (Kd.C_below (by repeat (first | (with_reducible exact HR696_0.out) | (with_reducible refine Kd.C_alloc ?_ _) | (with_reducible refine Kd.C_drewN ?_ _) | (with_reducible refine Kd.C_drew ?_) | exact HR696_0.out)) hb)
                              have n6_ := Aside0.mk (below_step (by repeat (first | (with_reducible first | exact HB.out | apply below_alloc | apply pw_below_drewN | apply below_drew1) | exact HB.out)) hb)
                              clear HO_7
                              clear HO_8
                              clear HO_9
                              clear HL696_0
                              clear HR696_0
                              clear HB
                              have HO_7 := n0_
                              have HO_8 := n1_
                              have HO_9 := n2_
                              have HL696_0 := n3_
                              have HO692 := n4_
                              have HR696_0 := n5_
                              have HB := n6_
                              clear n0_ n1_ n2_ n3_ n4_ n5_ n6_
                              (try clear hb)
                              (try clear hb2)
                              (try clear hk)
                              (try clear hi)
                              (try clear ho0)
                              obtain ⟨Ao61, co61, eo61⟩ := Kd.V_slice HO692.out
                              (first | subst eo61 | (injection eo61 with f1_ f2_ f3_; have f4_ := f1_.symm; have f5_ := f3_.symm; clear f1_ f2_ f3_; subst f4_; subst f5_))
                              refine hK.out _ _ ⟨HS0_, HS1_, HS2_⟩ (fun hHeld => ?_)
                              clear hK K
                              refine norm_ (a' := ?_) ?_ ?_
                              rotate_left
                              · show Act.put _ (some 73) _ = _
                                simp only [Act.put, List.setIfInBounds_toArray, List.set_cons_zero, List.set_cons_succ, i64_w, i32_w]
                                rfl
                              refine one_ (i := 12) (N := some 74) #[true, true, true, true, true, true, true, true, true, true, true, true, true, true, true, true, true, false, false] rfl rfl (one_of HT_.out (by kernel_rfl)) (by decide) (fun K hK => ?_)
                              refine goes_ Tryd.func20 (by kernel_rfl) rfl #[.slice Ao61 t690.length co61] (by rfl) rfl rfl (by (try simp only [List.map_toArray, List.map_cons, List.map_nil]); first | done | rfl | (simp only [List.length_drop, List.length_take]; rfl)) ?_
                              with_reducible refine (tapestrierlaw4_Of.calls kj10 _ _ t690 t693 _ ?side1 ?side2 ?side3 A53.out).mono ?_
                              (case side1 => repeat (first | exact (Kd.V_reads' HO692.out).2.2 | (with_reducible refine Kd.C_alloc ?_ _) | (with_reducible refine Kd.C_drewN ?_ _) | (with_reducible refine Kd.C_drew ?_)))
                              (case side2 => exact (Kd.V_reads' HO692.out).2.1)
                              (case side3 => exact TabsIn.below HT.out (by repeat (first | (with_reducible first | exact HB.out | apply below_alloc | apply pw_below_drewN | apply below_drew1) | exact HB.out)))
                              rintro e w62 ⟨v694, rfl, ho0, hb⟩
                              have HS0_ := (hb.cell (World.block_lt_of_cell? _ _ (hHeld.1))).trans (hHeld.1)
                              have HS1_ := (hb.cell (World.block_lt_of_cell? _ _ (hHeld.2.1))).trans (hHeld.2.1)
                              have HS2_ := (hb.cell (World.block_lt_of_cell? _ _ (hHeld.2.2))).trans (hHeld.2.2)
                              refine ⟨_, rfl, ?_⟩
                              have n0_ := Aside0.mk (Kd.R_below (by (with_reducible repeat (first | apply Kd.R_alloc | apply Kd.R_drewN | apply Kd.R_drew)); exact HO_7.out) hb)
                              have n1_ := Aside0.mk (Kd.R_below (by (with_reducible repeat (first | apply Kd.R_alloc | apply Kd.R_drewN | apply Kd.R_drew)); exact HO_8.out) hb)
                              have n2_ := Aside0.mk (Kd.N_elder' (by (with_reducible repeat (first | apply Kd.N_alloc | apply Kd.N_drewN | apply Kd.N_drew)); exact HO_9.out) (Kd.R_base ho0) hb)
                              have n3_ := Aside0.mk (Kd.V_elder' (by (with_reducible repeat (first | apply Kd.V_alloc | apply Kd.V_drewN | apply Kd.V_drew)); exact HL696_0.out) (Kd.R_base ho0) hb)
                              have n4_ := Aside0.mk (Kd.V_elder' (by (with_reducible repeat (first | apply Kd.V_alloc | apply Kd.V_drewN | apply Kd.V_drew)); exact HO692.out) (Kd.R_base ho0) hb)
                              have n5_ := Aside0.mk (Kd.R_lower ho0 (below_size (by repeat (first | (with_reducible first | exact HB.out | apply below_alloc | apply pw_below_drewN | apply below_drew1) | exact HB.out))))
                              have n6_ := Aside0.mk (Kd.C_below (by repeat (first | (with_reducible exact HR696_0.out) | (with_reducible refine Kd.C_alloc ?_ _) | (with_reducible refine Kd.C_drewN ?_ _) | (with_reducible refine Kd.C_drew ?_) | exact HR696_0.out)) hb)
                              have n7_ := Aside0.mk (below_step (by repeat (first | (with_reducible first | exact HB.out | apply below_alloc | apply pw_below_drewN | apply below_drew1) | exact HB.out)) hb)
                              clear HO_7
                              clear HO_8
                              clear HO_9
                              clear HL696_0
                              clear HO692
                              clear HR696_0
                              clear HB
                              have HO_7 := n0_
                              have HO_8 := n1_
                              have HO_9 := n2_
                              have HL696_0 := n3_
                              have HO692 := n4_
                              have HO695 := n5_
                              have HR696_0 := n6_
                              have HB := n7_
                              clear n0_ n1_ n2_ n3_ n4_ n5_ n6_ n7_
                              (try clear hb)
                              (try clear hb2)
                              (try clear hk)
                              (try clear hi)
                              (try clear ho0)
                              obtain ⟨Ao63, co63, eo63⟩ := Kd.R_slice HO695.out
                              (first | subst eo63 | (injection eo63 with f1_ f2_ f3_; have f4_ := f1_.symm; have f5_ := f3_.symm; clear f1_ f2_ f3_; subst f4_; subst f5_))
                              refine hK.out _ _ ⟨HS0_, HS1_, HS2_⟩ (fun hHeld => ?_)
                              clear hK K
                              refine norm_ (a' := ?_) ?_ ?_
                              rotate_left
                              · show Act.put _ (some 74) _ = _
                                simp only [Act.put, List.setIfInBounds_toArray, List.set_cons_zero, List.set_cons_succ, i64_w, i32_w]
                                rfl
                              refine one_ (i := 17) (N := some 79) #[true, true, true, true, true, true, true, true, true, true, true, true, true, true, true, true, true, true, false] rfl rfl (one_of HT_.out (by kernel_rfl)) (by decide) (fun K hK => ?_)
                              refine goes_ Tryd.func19 (by kernel_rfl) rfl #[.slice Ao63 t693.length co63, .slice A696_0 (rd_L5 y685 a1).length c696_0] (by rfl) rfl rfl (by (try simp only [List.map_toArray, List.map_cons, List.map_nil]); first | done | rfl | (simp only [List.length_drop, List.length_take]; rfl)) ?_
                              with_reducible refine (tapestrierref1_SameTokens.calls kj10 _ _ t693 _ _ (rd_L5 y685 a1) t697 _ ?side1 ?side2 ?side3 ?side4 A55.out).mono ?_
                              (case side1 => repeat (first | exact (Kd.R_reads' HO695.out).2.2 | (with_reducible refine Kd.C_alloc ?_ _) | (with_reducible refine Kd.C_drewN ?_ _) | (with_reducible refine Kd.C_drew ?_)))
                              (case side2 => exact (Kd.R_reads' HO695.out).2.1)
                              (case side3 => repeat (first | exact (by repeat (first | (with_reducible exact HR696_0.out) | (with_reducible refine Kd.C_alloc ?_ _) | (with_reducible refine Kd.C_drewN ?_ _) | (with_reducible refine Kd.C_drew ?_) | exact HR696_0.out)) | (with_reducible refine Kd.C_alloc ?_ _) | (with_reducible refine Kd.C_drewN ?_ _) | (with_reducible refine Kd.C_drew ?_)))
                              (case side4 => exact HC696_0.out)
                              rintro e w' ⟨rfl, ⟨nd, rfl⟩⟩
                              refine ⟨_, rfl, ?_⟩
                              refine hK.out _ _ ⟨hHeld.1, hHeld.2.1, hHeld.2.2⟩ (fun hHeld => ?_)
                              clear hK K
                              refine norm_ (a' := ?_) ?_ ?_
                              rotate_left
                              · show Act.put _ (some 79) _ = _
                                simp only [Act.put, List.setIfInBounds_toArray, List.set_cons_zero, List.set_cons_succ, i64_w, i32_w]
                                rfl
                              refine pure_ (i := 18) (N := some 4) (v := ?_) (a' := ?_) #[true, true, true, true, true, true, true, true, true, true, true, true, true, true, true, true, true, true, true] rfl rfl (any_of HT_.out (by kernel_rfl)) (fun _ _ _ h => h) (Or.inl ⟨by rfl, ?_⟩) ?_ ?_
                              rotate_left
                              · intro w'
                                go_simp
                                with_reducible rfl
                              rotate_left
                              · simp only [Act.put, List.setIfInBounds_toArray, List.set_cons_zero, List.set_cons_succ, i64_w, i32_w]
                                rfl
                              refine done_ (done_of HT_.out (by kernel_rfl)) ?_
                              try go_wp2
                              go_ret
                              exact ⟨by first | rfl | (simp [errW_none, errW_some] <;> rfl) | (simp [*, errW_none, errW_some] <;> rfl), by repeat (first | (with_reducible first | exact HB.out | apply below_alloc | apply pw_below_drewN | apply below_drew1) | exact HB.out)⟩
                            · rw [if_neg c54] at H
                              exact absurd H (by simp)
                          · rw [if_neg c51] at H
                            exact absurd H (by simp)
                        · rw [if_neg c50] at H
                          exact absurd H (by simp)
                      · rw [if_neg c49] at H
                        exact absurd H (by simp)
                    · rw [if_neg c48] at H
                      exact absurd H (by simp)
                  · rw [if_neg c47] at H
                    exact absurd H (by simp)
          · rw [if_neg c10] at H
            exact absurd H (by simp)
        · rw [if_neg c9] at H
          exact absurd H (by simp)
def tapestrierlaw4_TokNames.Pure : Prop := ∀ (a0 : ByteArray) (a1 : Int), a0.size ≤ 140737488351232 → (Lit.int .i64 a1).wf = true → ∃ k, tapestrierlaw4_TokNames.f k a0 a1 = some true
theorem tapestrierlaw4_TokNames.walk (P : tapestrierlaw4_TokNames.Pure) (a0 : ByteArray) (a1 : Int) (w : World) (w0 : a0.size ≤ 140737488351232) (w1 : (Lit.int .i64 a1).wf = true) (hT : TabsIn w) :
    Calls Tryd.prog 4 #[.string a0, .int .i64 a1] w fun e w' => e = .returned (.bool true) ∧ Below w.heap.size w w' := by
  obtain ⟨k, h⟩ := P a0 a1 w0 w1
  refine (tapestrierlaw4_TokNames.calls k a0 a1 true w hT h).mono ?_
  rintro e w' ⟨rfl, hd⟩
  exact ⟨rfl, hd⟩
end Go.Proofs.YtplkkmmojanclaaDoor.Q
