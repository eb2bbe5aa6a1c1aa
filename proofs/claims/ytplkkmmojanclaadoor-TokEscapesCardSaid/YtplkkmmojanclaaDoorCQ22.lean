/- Part of the proof; printed or typed in this session; unused declarations and remarks struck by a program (wip/prune.py). -/
import Derived.Test.YtplkkmmojanclaaDoorCQ0
import Derived.Test.YtplkkmmojanclaaDoorCQ16
import Derived.Test.YtplkkmmojanclaaDoorCQ17
import Derived.Test.YtplkkmmojanclaaDoorCQ21
set_option linter.all false
namespace Go.Proofs.YtplkkmmojanclaaDoor.Q
open Go.RowKit Go.Proofs.YtplkkmmojanclaaDoor.My Go.Proofs.YtplkkmmojanclaaDoorW.PrintWords Go.Proofs.YtplkkmmojanclaaDoorW.PrintLast Go.Proofs.YtplkkmmojanclaaDoorW.PrintMore
attribute [local go_sem] max2_int min2_int max_two min_two max_three min_three max_four min_four
set_option linter.unusedVariables false
set_option linter.unusedSimpArgs false
mutual
def tapestrierlaw4_TokEscapes.j0 : Nat → Int → Bool → Bool → Bool → Option (Bool)
  | 0, _, _, _, _ => none
  | k + 1, x0, x1, x5, x22 => if x22 = true then (some x5) else (tapestrierlaw4_TokEscapes.l0 k x0 x1 (⟨#[]⟩ : ByteArray) x0)
def tapestrierlaw4_TokEscapes.l0 : Nat → Int → Bool → ByteArray → Int → Option (Bool)
  | 0, _, _, _, _ => none
  | k + 1, x0, x1, x6, x7 => if x7 > 0 then (if 0 ≤ (Go.bits .and .i64 x7 15) then (if (Go.bits .and .i64 x7 15) ≤ (wrap64 ((Go.bits .and .i64 x7 15) + 1)) then (if (wrap64 ((Go.bits .and .i64 x7 15) + 1)) ≤ 16 then (if ((⟨#[48, 49, 50, 51, 52, 53, 54, 55, 56, 57, 97, 98, 99, 100, 101, 102]⟩ : ByteArray).extract ((Go.bits .and .i64 x7 15) : Int).toNat ((wrap64 ((Go.bits .and .i64 x7 15) + 1)) : Int).toNat).size + x6.size ≤ 9223372036854775807 then (tapestrierlaw4_TokEscapes.l0 k x0 x1 (((⟨#[48, 49, 50, 51, 52, 53, 54, 55, 56, 57, 97, 98, 99, 100, 101, 102]⟩ : ByteArray).extract ((Go.bits .and .i64 x7 15) : Int).toNat ((wrap64 ((Go.bits .and .i64 x7 15) + 1)) : Int).toNat) ++ x6) (x7 / 16)) else (none)) else (none)) else (none)) else (none)) else (if x6.toList = ([] : List UInt8) then (if 0 ≤ (Go.bits .and .i64 x7 15) then (if (Go.bits .and .i64 x7 15) ≤ (wrap64 ((Go.bits .and .i64 x7 15) + 1)) then (if (wrap64 ((Go.bits .and .i64 x7 15) + 1)) ≤ 16 then (if ((⟨#[48, 49, 50, 51, 52, 53, 54, 55, 56, 57, 97, 98, 99, 100, 101, 102]⟩ : ByteArray).extract ((Go.bits .and .i64 x7 15) : Int).toNat ((wrap64 ((Go.bits .and .i64 x7 15) + 1)) : Int).toNat).size + x6.size ≤ 9223372036854775807 then (tapestrierlaw4_TokEscapes.l0 k x0 x1 (((⟨#[48, 49, 50, 51, 52, 53, 54, 55, 56, 57, 97, 98, 99, 100, 101, 102]⟩ : ByteArray).extract ((Go.bits .and .i64 x7 15) : Int).toNat ((wrap64 ((Go.bits .and .i64 x7 15) + 1)) : Int).toNat) ++ x6) (x7 / 16)) else (none)) else (none)) else (none)) else (none)) else (if x0 = 0 then (tapestrierlaw4_TokEscapes.j2 k x1 x6 x0 true) else (if x0 > 1114111 then (tapestrierlaw4_TokEscapes.j2 k x1 x6 x0 true) else (if x0 ≥ 55296 then (tapestrierlaw4_TokEscapes.j2 k x1 x6 x0 (decide (x0 ≤ 57343))) else (tapestrierlaw4_TokEscapes.j2 k x1 x6 x0 false)))))
def tapestrierlaw4_TokEscapes.j2 : Nat → Bool → ByteArray → Int → Bool → Option (Bool)
  | 0, _, _, _, _ => none
  | k + 1, x1, x6, x8, x55 => if x55 = true then (tapestrierlaw4_TokEscapes.j3 k x1 x6 65533) else (tapestrierlaw4_TokEscapes.j3 k x1 x6 x8)
def tapestrierlaw4_TokEscapes.j3 : Nat → Bool → ByteArray → Int → Option (Bool)
  | 0, _, _, _ => none
  | k + 1, x1, x6, x8 => (tapestrierref1_Bytes.f k (([x8] : List Int))).bind fun t790 => (if 1 + x6.size ≤ 9223372036854775807 then (if x1 = true then (tapestrierlaw4_TokEscapes.j4 k x1 (strOfNums t790) ((⟨#[92]⟩ : ByteArray) ++ x6) (⟨#[]⟩ : ByteArray) true) else (tapestrierlaw4_TokEscapes.j4 k x1 (strOfNums t790) ((⟨#[92]⟩ : ByteArray) ++ x6) (⟨#[]⟩ : ByteArray) (decide ((x6.size : Int) < 6)))) else (none))
def tapestrierlaw4_TokEscapes.j4 : Nat → Bool → ByteArray → ByteArray → ByteArray → Bool → Option (Bool)
  | 0, _, _, _, _, _ => none
  | k + 1, x1, x9, x10, x11, x67 => if x67 = true then (if x10.size + 1 ≤ 9223372036854775807 then (tapestrierlaw4_TokEscapes.j5 k x1 x9 (x10 ++ (⟨#[32]⟩ : ByteArray)) x11) else (none)) else (tapestrierlaw4_TokEscapes.j5 k x1 x9 x10 x11)
def tapestrierlaw4_TokEscapes.j5 : Nat → Bool → ByteArray → ByteArray → ByteArray → Option (Bool)
  | 0, _, _, _, _ => none
  | k + 1, x1, x9, x10, x11 => if x1 = true then (tapestrierlaw4_TokEscapes.j6 k x9 x10 x11) else (if x10.size + 1 ≤ 9223372036854775807 then (tapestrierlaw4_TokEscapes.j6 k x9 (x10 ++ (⟨#[103]⟩ : ByteArray)) (⟨#[103]⟩ : ByteArray)) else (none))
def tapestrierlaw4_TokEscapes.j6 : Nat → ByteArray → ByteArray → ByteArray → Option (Bool)
  | 0, _, _, _ => none
  | k + 1, x9, x10, x11 => (bytesConv5.f x10).bind fun t793 => ((tapestrierlaw4_Of.f k t793).bind fun t796 => (if x9.size + x11.size ≤ 9223372036854775807 then ((tapestrierref1_SameTokens.f k t796 (([(⟨1, x9 ++ x11, 0, false, 0⟩ : S31)] : List (S31)))).bind fun t802 => (if t802 = true then (if 1 + x10.size ≤ 9223372036854775807 then (if ((⟨#[34]⟩ : ByteArray) ++ x10).size + 1 ≤ 9223372036854775807 then ((bytesConv5.f (((⟨#[34]⟩ : ByteArray) ++ x10) ++ (⟨#[34]⟩ : ByteArray))).bind fun t803 => ((tapestrierlaw4_Of.f k t803).bind fun t806 => ((tapestrierref1_SameTokens.f k t806 (([(⟨4, x9 ++ x11, 0, false, 0⟩ : S31)] : List (S31)))).bind fun t812 => (some t812)))) else (none)) else (none)) else (some false))) else (none)))
end
def tapestrierlaw4_TokEscapes.f (k : Nat) (a0 : Int) (a1 : Bool) : Option (Bool) := (tapestrierlaw4_alive.f k).bind fun t786 => (if t786 = true then (if a0 < 0 then (tapestrierlaw4_TokEscapes.j0 k a0 a1 t786 true) else (tapestrierlaw4_TokEscapes.j0 k a0 a1 t786 (decide (a0 > 16777215)))) else (tapestrierlaw4_TokEscapes.j0 k a0 a1 t786 true))
theorem tapestrierlaw4_TokEscapes.mono_l : ∀ k, (∀ y0 y1 y2 y3, LeO (tapestrierlaw4_TokEscapes.j0 k y0 y1 y2 y3) (tapestrierlaw4_TokEscapes.j0 (k + 1) y0 y1 y2 y3)) ∧ (∀ y0 y1 y2 y3, LeO (tapestrierlaw4_TokEscapes.l0 k y0 y1 y2 y3) (tapestrierlaw4_TokEscapes.l0 (k + 1) y0 y1 y2 y3)) ∧ (∀ y0 y1 y2 y3, LeO (tapestrierlaw4_TokEscapes.j2 k y0 y1 y2 y3) (tapestrierlaw4_TokEscapes.j2 (k + 1) y0 y1 y2 y3)) ∧ (∀ y0 y1 y2, LeO (tapestrierlaw4_TokEscapes.j3 k y0 y1 y2) (tapestrierlaw4_TokEscapes.j3 (k + 1) y0 y1 y2)) ∧ (∀ y0 y1 y2 y3 y4, LeO (tapestrierlaw4_TokEscapes.j4 k y0 y1 y2 y3 y4) (tapestrierlaw4_TokEscapes.j4 (k + 1) y0 y1 y2 y3 y4)) ∧ (∀ y0 y1 y2 y3, LeO (tapestrierlaw4_TokEscapes.j5 k y0 y1 y2 y3) (tapestrierlaw4_TokEscapes.j5 (k + 1) y0 y1 y2 y3)) ∧ (∀ y0 y1 y2, LeO (tapestrierlaw4_TokEscapes.j6 k y0 y1 y2) (tapestrierlaw4_TokEscapes.j6 (k + 1) y0 y1 y2))
  | 0 => ⟨fun _ _ _ _ r h => by simp [tapestrierlaw4_TokEscapes.j0] at h, fun _ _ _ _ r h => by simp [tapestrierlaw4_TokEscapes.l0] at h, fun _ _ _ _ r h => by simp [tapestrierlaw4_TokEscapes.j2] at h, fun _ _ _ r h => by simp [tapestrierlaw4_TokEscapes.j3] at h, fun _ _ _ _ _ r h => by simp [tapestrierlaw4_TokEscapes.j4] at h, fun _ _ _ _ r h => by simp [tapestrierlaw4_TokEscapes.j5] at h, fun _ _ _ r h => by simp [tapestrierlaw4_TokEscapes.j6] at h⟩
  | k + 1 => by
    obtain ⟨ih0, ih1, ih2, ih3, ih4, ih5, ih6⟩ := tapestrierlaw4_TokEscapes.mono_l k
    refine ⟨?_, ?_, ?_, ?_, ?_, ?_, ?_⟩
    · intro y0 y1 y2 y3
      unfold tapestrierlaw4_TokEscapes.j0
      repeat' first
      | (with_reducible exact ih0 _ _ _ _)
      | (with_reducible exact ih1 _ _ _ _)
      | (with_reducible exact ih2 _ _ _ _)
      | (with_reducible exact ih3 _ _ _)
      | (with_reducible exact ih4 _ _ _ _ _)
      | (with_reducible exact ih5 _ _ _ _)
      | (with_reducible exact ih6 _ _ _)
      | (with_reducible exact tapestrierlaw4_Of.mono _ _)
      | (with_reducible exact tapestrierlaw4_alive.mono _)
      | (with_reducible exact tapestrierref1_Bytes.mono _ _)
      | (with_reducible exact tapestrierref1_SameTokens.mono _ _ _)
      | (with_reducible exact LeO.refl _)
      | (with_reducible exact LeO.none _)
      | (with_reducible refine LeO.ite ?_ ?_)
      | (with_reducible refine LeO.bind ?_ (fun _ => ?_))
      | exact ih0 _ _ _ _
      | exact ih1 _ _ _ _
      | exact ih2 _ _ _ _
      | exact ih3 _ _ _
      | exact ih4 _ _ _ _ _
      | exact ih5 _ _ _ _
      | exact ih6 _ _ _
      | exact tapestrierlaw4_Of.mono _ _
      | exact tapestrierlaw4_alive.mono _
      | exact tapestrierref1_Bytes.mono _ _
      | exact tapestrierref1_SameTokens.mono _ _ _
      | exact LeO.none _
      | refine LeO.ite ?_ ?_
      | refine LeO.bind ?_ (fun _ => ?_)
    · intro y0 y1 y2 y3
      unfold tapestrierlaw4_TokEscapes.l0
      repeat' first
      | (with_reducible exact ih0 _ _ _ _)
      | (with_reducible exact ih1 _ _ _ _)
      | (with_reducible exact ih2 _ _ _ _)
      | (with_reducible exact ih3 _ _ _)
      | (with_reducible exact ih4 _ _ _ _ _)
      | (with_reducible exact ih5 _ _ _ _)
      | (with_reducible exact ih6 _ _ _)
      | (with_reducible exact tapestrierlaw4_Of.mono _ _)
      | (with_reducible exact tapestrierlaw4_alive.mono _)
      | (with_reducible exact tapestrierref1_Bytes.mono _ _)
      | (with_reducible exact tapestrierref1_SameTokens.mono _ _ _)
      | (with_reducible exact LeO.refl _)
      | (with_reducible exact LeO.none _)
      | (with_reducible refine LeO.ite ?_ ?_)
      | (with_reducible refine LeO.bind ?_ (fun _ => ?_))
      | exact ih0 _ _ _ _
      | exact ih1 _ _ _ _
      | exact ih2 _ _ _ _
      | exact ih3 _ _ _
      | exact ih4 _ _ _ _ _
      | exact ih5 _ _ _ _
      | exact ih6 _ _ _
      | exact tapestrierlaw4_Of.mono _ _
      | exact tapestrierlaw4_alive.mono _
      | exact tapestrierref1_Bytes.mono _ _
      | exact tapestrierref1_SameTokens.mono _ _ _
      | exact LeO.none _
      | refine LeO.ite ?_ ?_
      | refine LeO.bind ?_ (fun _ => ?_)
    · intro y0 y1 y2 y3
      unfold tapestrierlaw4_TokEscapes.j2
      repeat' first
      | (with_reducible exact ih0 _ _ _ _)
      | (with_reducible exact ih1 _ _ _ _)
      | (with_reducible exact ih2 _ _ _ _)
      | (with_reducible exact ih3 _ _ _)
      | (with_reducible exact ih4 _ _ _ _ _)
      | (with_reducible exact ih5 _ _ _ _)
      | (with_reducible exact ih6 _ _ _)
      | (with_reducible exact tapestrierlaw4_Of.mono _ _)
      | (with_reducible exact tapestrierlaw4_alive.mono _)
      | (with_reducible exact tapestrierref1_Bytes.mono _ _)
      | (with_reducible exact tapestrierref1_SameTokens.mono _ _ _)
      | (with_reducible exact LeO.refl _)
      | (with_reducible exact LeO.none _)
      | (with_reducible refine LeO.ite ?_ ?_)
      | (with_reducible refine LeO.bind ?_ (fun _ => ?_))
      | exact ih0 _ _ _ _
      | exact ih1 _ _ _ _
      | exact ih2 _ _ _ _
      | exact ih3 _ _ _
      | exact ih4 _ _ _ _ _
      | exact ih5 _ _ _ _
      | exact ih6 _ _ _
      | exact tapestrierlaw4_Of.mono _ _
      | exact tapestrierlaw4_alive.mono _
      | exact tapestrierref1_Bytes.mono _ _
      | exact tapestrierref1_SameTokens.mono _ _ _
      | exact LeO.none _
      | refine LeO.ite ?_ ?_
      | refine LeO.bind ?_ (fun _ => ?_)
    · intro y0 y1 y2
      unfold tapestrierlaw4_TokEscapes.j3
      repeat' first
      | (with_reducible exact ih0 _ _ _ _)
      | (with_reducible exact ih1 _ _ _ _)
      | (with_reducible exact ih2 _ _ _ _)
      | (with_reducible exact ih3 _ _ _)
      | (with_reducible exact ih4 _ _ _ _ _)
      | (with_reducible exact ih5 _ _ _ _)
      | (with_reducible exact ih6 _ _ _)
      | (with_reducible exact tapestrierlaw4_Of.mono _ _)
      | (with_reducible exact tapestrierlaw4_alive.mono _)
      | (with_reducible exact tapestrierref1_Bytes.mono _ _)
      | (with_reducible exact tapestrierref1_SameTokens.mono _ _ _)
      | (with_reducible exact LeO.refl _)
      | (with_reducible exact LeO.none _)
      | (with_reducible refine LeO.ite ?_ ?_)
      | (with_reducible refine LeO.bind ?_ (fun _ => ?_))
      | exact ih0 _ _ _ _
      | exact ih1 _ _ _ _
      | exact ih2 _ _ _ _
      | exact ih3 _ _ _
      | exact ih4 _ _ _ _ _
      | exact ih5 _ _ _ _
      | exact ih6 _ _ _
      | exact tapestrierlaw4_Of.mono _ _
      | exact tapestrierlaw4_alive.mono _
      | exact tapestrierref1_Bytes.mono _ _
      | exact tapestrierref1_SameTokens.mono _ _ _
      | exact LeO.none _
      | refine LeO.ite ?_ ?_
      | refine LeO.bind ?_ (fun _ => ?_)
    · intro y0 y1 y2 y3 y4
      unfold tapestrierlaw4_TokEscapes.j4
      repeat' first
      | (with_reducible exact ih0 _ _ _ _)
      | (with_reducible exact ih1 _ _ _ _)
      | (with_reducible exact ih2 _ _ _ _)
      | (with_reducible exact ih3 _ _ _)
      | (with_reducible exact ih4 _ _ _ _ _)
      | (with_reducible exact ih5 _ _ _ _)
      | (with_reducible exact ih6 _ _ _)
      | (with_reducible exact tapestrierlaw4_Of.mono _ _)
      | (with_reducible exact tapestrierlaw4_alive.mono _)
      | (with_reducible exact tapestrierref1_Bytes.mono _ _)
      | (with_reducible exact tapestrierref1_SameTokens.mono _ _ _)
      | (with_reducible exact LeO.refl _)
      | (with_reducible exact LeO.none _)
      | (with_reducible refine LeO.ite ?_ ?_)
      | (with_reducible refine LeO.bind ?_ (fun _ => ?_))
      | exact ih0 _ _ _ _
      | exact ih1 _ _ _ _
      | exact ih2 _ _ _ _
      | exact ih3 _ _ _
      | exact ih4 _ _ _ _ _
      | exact ih5 _ _ _ _
      | exact ih6 _ _ _
      | exact tapestrierlaw4_Of.mono _ _
      | exact tapestrierlaw4_alive.mono _
      | exact tapestrierref1_Bytes.mono _ _
      | exact tapestrierref1_SameTokens.mono _ _ _
      | exact LeO.none _
      | refine LeO.ite ?_ ?_
      | refine LeO.bind ?_ (fun _ => ?_)
    · intro y0 y1 y2 y3
      unfold tapestrierlaw4_TokEscapes.j5
      repeat' first
      | (with_reducible exact ih0 _ _ _ _)
      | (with_reducible exact ih1 _ _ _ _)
      | (with_reducible exact ih2 _ _ _ _)
      | (with_reducible exact ih3 _ _ _)
      | (with_reducible exact ih4 _ _ _ _ _)
      | (with_reducible exact ih5 _ _ _ _)
      | (with_reducible exact ih6 _ _ _)
      | (with_reducible exact tapestrierlaw4_Of.mono _ _)
      | (with_reducible exact tapestrierlaw4_alive.mono _)
      | (with_reducible exact tapestrierref1_Bytes.mono _ _)
      | (with_reducible exact tapestrierref1_SameTokens.mono _ _ _)
      | (with_reducible exact LeO.refl _)
      | (with_reducible exact LeO.none _)
      | (with_reducible refine LeO.ite ?_ ?_)
      | (with_reducible refine LeO.bind ?_ (fun _ => ?_))
      | exact ih0 _ _ _ _
      | exact ih1 _ _ _ _
      | exact ih2 _ _ _ _
      | exact ih3 _ _ _
      | exact ih4 _ _ _ _ _
      | exact ih5 _ _ _ _
      | exact ih6 _ _ _
      | exact tapestrierlaw4_Of.mono _ _
      | exact tapestrierlaw4_alive.mono _
      | exact tapestrierref1_Bytes.mono _ _
      | exact tapestrierref1_SameTokens.mono _ _ _
      | exact LeO.none _
      | refine LeO.ite ?_ ?_
      | refine LeO.bind ?_ (fun _ => ?_)
    · intro y0 y1 y2
      unfold tapestrierlaw4_TokEscapes.j6
      repeat' first
      | (with_reducible exact ih0 _ _ _ _)
      | (with_reducible exact ih1 _ _ _ _)
      | (with_reducible exact ih2 _ _ _ _)
      | (with_reducible exact ih3 _ _ _)
      | (with_reducible exact ih4 _ _ _ _ _)
      | (with_reducible exact ih5 _ _ _ _)
      | (with_reducible exact ih6 _ _ _)
      | (with_reducible exact tapestrierlaw4_Of.mono _ _)
      | (with_reducible exact tapestrierlaw4_alive.mono _)
      | (with_reducible exact tapestrierref1_Bytes.mono _ _)
      | (with_reducible exact tapestrierref1_SameTokens.mono _ _ _)
      | (with_reducible exact LeO.refl _)
      | (with_reducible exact LeO.none _)
      | (with_reducible refine LeO.ite ?_ ?_)
      | (with_reducible refine LeO.bind ?_ (fun _ => ?_))
      | exact ih0 _ _ _ _
      | exact ih1 _ _ _ _
      | exact ih2 _ _ _ _
      | exact ih3 _ _ _
      | exact ih4 _ _ _ _ _
      | exact ih5 _ _ _ _
      | exact ih6 _ _ _
      | exact tapestrierlaw4_Of.mono _ _
      | exact tapestrierlaw4_alive.mono _
      | exact tapestrierref1_Bytes.mono _ _
      | exact tapestrierref1_SameTokens.mono _ _ _
      | exact LeO.none _
      | refine LeO.ite ?_ ?_
      | refine LeO.bind ?_ (fun _ => ?_)
theorem tapestrierlaw4_TokEscapes.mono : ∀ a0 a1 k, LeO (tapestrierlaw4_TokEscapes.f k a0 a1) (tapestrierlaw4_TokEscapes.f (k + 1) a0 a1) := by
  intro a0 a1 k
  obtain ⟨ih0, ih1, ih2, ih3, ih4, ih5, ih6⟩ := tapestrierlaw4_TokEscapes.mono_l k
  unfold tapestrierlaw4_TokEscapes.f
  repeat' first
      | (with_reducible exact ih0 _ _ _ _)
      | (with_reducible exact ih1 _ _ _ _)
      | (with_reducible exact ih2 _ _ _ _)
      | (with_reducible exact ih3 _ _ _)
      | (with_reducible exact ih4 _ _ _ _ _)
      | (with_reducible exact ih5 _ _ _ _)
      | (with_reducible exact ih6 _ _ _)
      | (with_reducible exact tapestrierlaw4_Of.mono _ _)
      | (with_reducible exact tapestrierlaw4_alive.mono _)
      | (with_reducible exact tapestrierref1_Bytes.mono _ _)
      | (with_reducible exact tapestrierref1_SameTokens.mono _ _ _)
      | (with_reducible exact LeO.refl _)
      | (with_reducible exact LeO.none _)
      | (with_reducible refine LeO.ite ?_ ?_)
      | (with_reducible refine LeO.bind ?_ (fun _ => ?_))
      | exact ih0 _ _ _ _
      | exact ih1 _ _ _ _
      | exact ih2 _ _ _ _
      | exact ih3 _ _ _
      | exact ih4 _ _ _ _ _
      | exact ih5 _ _ _ _
      | exact ih6 _ _ _
      | exact tapestrierlaw4_Of.mono _ _
      | exact tapestrierlaw4_alive.mono _
      | exact tapestrierref1_Bytes.mono _ _
      | exact tapestrierref1_SameTokens.mono _ _ _
      | exact LeO.none _
      | refine LeO.ite ?_ ?_
      | refine LeO.bind ?_ (fun _ => ?_)
set_option maxHeartbeats 8000000 in
set_option maxRecDepth 100000 in
theorem tapestrierlaw4_TokEscapes.calls (k : Nat) (a0 : Int) (a1 : Bool) (r : Bool) (w : World) (hT : TabsIn w) (h : tapestrierlaw4_TokEscapes.f k a0 a1 = some r) :
    Calls Tryd.prog 8 #[.int .i64 a0, .bool a1] w fun e w' => e = .returned (.bool r) ∧ Below w.heap.size w w' := by
  have hu31 := Tryd.underlying31
  have HT := Aside0.mk hT
  clear hT
  have HB := Aside0.mk (Below.refl w.heap.size w)
  have H : ((tapestrierlaw4_alive.f k).bind fun t786 => (if t786 = true then (if a0 < 0 then (tapestrierlaw4_TokEscapes.j0 k a0 a1 t786 true) else (tapestrierlaw4_TokEscapes.j0 k a0 a1 t786 (decide (a0 > 16777215)))) else (tapestrierlaw4_TokEscapes.j0 k a0 a1 t786 true))) = some r := h
  clear h
  replace H := Option.bind_eq_some_iff.mp H
  obtain ⟨t786, A30, H⟩ := H
  replace H : (if t786 = true then (if a0 < 0 then (tapestrierlaw4_TokEscapes.j0 k a0 a1 t786 true) else (tapestrierlaw4_TokEscapes.j0 k a0 a1 t786 (decide (a0 > 16777215)))) else (tapestrierlaw4_TokEscapes.j0 k a0 a1 t786 true)) = some r := H
  have A3 := Aside0.mk A30
  clear A30
  have HC4 := Aside0.mk H
  clear H
  go_enter Tryd.func8, Tryd.ntmps8
  go_upto_region 2 with (first | ((with_reducible refine gate_callee (f := 17) rfl ?_); refine goesL_ (some 12) rfl rfl Tryd.func17 (by kernel_rfl) rfl #[] rfl (by (try simp only [List.map_toArray, List.map_cons, List.map_nil]); first | done | rfl | (simp only [List.length_drop, List.length_take]; rfl)) ?_; (with_reducible refine (tapestrierlaw4_alive.calls k  t786 _ ?side1 A3.out).mono ?_); (case side1 => exact TabsIn.below HT.out (by repeat (first | (with_reducible first | exact HB.out | apply below_alloc | apply pw_below_drewN | apply below_drew1) | exact HB.out))); rintro e w5 ⟨rfl, hb⟩; refine ⟨_, rfl, ?_⟩; have n0_ := Aside0.mk (below_step (by repeat (first | (with_reducible first | exact HB.out | apply below_alloc | apply pw_below_drewN | apply below_drew1) | exact HB.out)) hb); clear HB; have HB := n0_; clear n0_; (try clear hb); (try clear hb2); (try clear hk); (try clear hi)))
  (try simp only [Act.put, List.setIfInBounds_toArray, List.set_cons_zero, List.set_cons_succ])
  go_cut [22] (fun v22 wc => ∃ (kq : Nat) (x22_3 : Bool), v22 = .bool x22_3 ∧ Aside0 (tapestrierlaw4_TokEscapes.j0 kq a0 a1 t786 x22_3 = some r) ∧ Aside0 (kq ≤ k) ∧ Aside0 (Below w.heap.size w wc))
  case first =>
    have H := HC4.out
    clear HC4
    by_cases c6 : t786 = true
    · subst c6
      have H1 : (if a0 < 0 then (tapestrierlaw4_TokEscapes.j0 k a0 a1 true true) else (tapestrierlaw4_TokEscapes.j0 k a0 a1 true (decide (a0 > 16777215)))) = some r := by rw [if_pos rfl] at H; exact H
      clear H
      have H := H1
      clear H1
      by_cases c7 : a0 < 0
      · rw [if_pos c7] at H
        have c7b0 : decide (a0 < 0) = true := decide_eq_true c7
        clear c7
        (first | rw [c7b0] | (simp only [i64_w, i32_w]; rw [c7b0]) | skip)
        have H' := Aside0.mk H
        clear H
        go_wp2
        go_meet
        case rel => exact ⟨_, (true), (by first | rfl | (simp; done) | (simp [*]; done) | (simp [wrap64]; done)), H', ⟨by first | omega | exact Nat.le_refl _⟩, ⟨by repeat (first | (with_reducible first | exact HB.out | apply below_alloc | apply pw_below_drewN | apply below_drew1) | exact HB.out)⟩⟩
      · rw [if_neg c7] at H
        have c7b0 : decide (a0 < 0) = false := decide_eq_false c7
        clear c7
        (first | rw [c7b0] | (simp only [i64_w, i32_w]; rw [c7b0]) | skip)
        have H' := Aside0.mk H
        clear H
        go_wp2
        go_meet
        case rel => exact ⟨_, (decide (a0 > 16777215)), (by first | rfl | (simp; done) | (simp [*]; done) | (simp [wrap64]; done)), H', ⟨by first | omega | exact Nat.le_refl _⟩, ⟨by repeat (first | (with_reducible first | exact HB.out | apply below_alloc | apply pw_below_drewN | apply below_drew1) | exact HB.out)⟩⟩
    · replace c6 := Bool.eq_false_iff.mpr c6
      subst c6
      have H1 : (tapestrierlaw4_TokEscapes.j0 k a0 a1 false true) = some r := by rw [if_neg (show ¬ (false = true) by decide)] at H; exact H
      clear H
      have H := H1
      clear H1
      have H' := Aside0.mk H
      clear H
      go_wp2
      go_meet
      case rel => exact ⟨_, (true), (by first | rfl | (simp; done) | (simp [*]; done) | (simp [wrap64]; done)), H', ⟨by first | omega | exact Nat.le_refl _⟩, ⟨by repeat (first | (with_reducible first | exact HB.out | apply below_alloc | apply pw_below_drewN | apply below_drew1) | exact HB.out)⟩⟩
  case rest =>
    clear HC4
    try clear c1
    try clear p2
    try clear c6
    try clear p6
    try clear c7
    try clear c7b0
    obtain ⟨kq, x22_3, rfl, HA, HJ3, HB⟩ := hcut
    cases kq with
    | zero => exact absurd HA.out (by simp [tapestrierlaw4_TokEscapes.j0])
    | succ kj3 =>
      have H := HA.out
      clear HA
      simp only [tapestrierlaw4_TokEscapes.j0] at H
      by_cases c8 : x22_3 = true
      · subst c8
        have H1 : (some t786) = some r := by rw [if_pos rfl] at H; exact H
        clear H
        have H := H1
        clear H1
        obtain rfl := Option.some.inj H
        go_wp2
        go_ret
        exact ⟨by first | rfl | (simp [errW_none, errW_some] <;> rfl) | (simp [*, errW_none, errW_some] <;> rfl), by repeat (first | (with_reducible first | exact HB.out | apply below_alloc | apply pw_below_drewN | apply below_drew1) | exact HB.out)⟩
      · replace c8 := Bool.eq_false_iff.mpr c8
        subst c8
        have H1 : (tapestrierlaw4_TokEscapes.l0 kj3 a0 a1 (⟨#[]⟩ : ByteArray) a0) = some r := by rw [if_neg (show ¬ (false = true) by decide)] at H; exact H
        clear H
        have H := H1
        clear H1
        have H' := Aside0.mk H
        clear H
        go_wp2
        go_loopg [6, 7] kj3 (fun kq v6 v7 w' => ∃ (x6_2 : ByteArray) (x7_2 : Int), v6 = .string x6_2 ∧ v7 = .int .i64 x7_2 ∧ Aside0 (tapestrierlaw4_TokEscapes.l0 kq a0 a1 x6_2 x7_2 = some r) ∧ Aside0 (kq ≤ kj3) ∧ Aside0 (Below w.heap.size w w'))
        case atStart => exact ⟨((⟨#[]⟩ : ByteArray)), (a0), (by first | rfl | (simp; done) | (simp [*]; done) | (simp [wrap64]; done)), (by first | rfl | (simp; done) | (simp [*]; done) | (simp [wrap64]; done)), H', ⟨Nat.le_refl _⟩, ⟨by repeat (first | (with_reducible first | exact HB.out | apply below_alloc | apply pw_below_drewN | apply below_drew1) | exact HB.out)⟩⟩
        case round =>
          clear H'
          try clear c1
          try clear p2
          try clear c6
          try clear p6
          try clear c7
          try clear c7b0
          try clear c8
          try clear p2
          try clear p6
          obtain ⟨x6_2, x7_2, rfl, rfl, HA, HK2, HB⟩ := hrel
          cases gk with
          | zero => exact absurd HA.out (by simp [tapestrierlaw4_TokEscapes.l0])
          | succ k2 =>
            have H := HA.out
            clear HA
            simp only [tapestrierlaw4_TokEscapes.l0] at H
            by_cases c9 : x7_2 > 0
            · rw [if_pos c9] at H
              have c9b0 : decide (0 < x7_2) = true := decide_eq_true c9
              clear c9
              by_cases c10 : 0 ≤ (Go.bits .and .i64 x7_2 15)
              · rw [if_pos c10] at H
                have c10b0 := eq_true c10
                have c10b1 : decide (0 ≤ (Go.bits .and .i64 x7_2 15)) = true := decide_eq_true c10
                clear c10
                by_cases c11 : (Go.bits .and .i64 x7_2 15) ≤ (wrap64 ((Go.bits .and .i64 x7_2 15) + 1))
                · rw [if_pos c11] at H
                  have c11b0 := eq_true c11
                  have c11b1 : decide ((Go.bits .and .i64 x7_2 15) ≤ (wrap64 ((Go.bits .and .i64 x7_2 15) + 1))) = true := decide_eq_true c11
                  by_cases c12 : (wrap64 ((Go.bits .and .i64 x7_2 15) + 1)) ≤ 16
                  · rw [if_pos c12] at H
                    have c12b0 := eq_true c12
                    have c12b1 : decide ((wrap64 ((Go.bits .and .i64 x7_2 15) + 1)) ≤ 16) = true := decide_eq_true c12
                    by_cases c13 : ((⟨#[48, 49, 50, 51, 52, 53, 54, 55, 56, 57, 97, 98, 99, 100, 101, 102]⟩ : ByteArray).extract ((Go.bits .and .i64 x7_2 15) : Int).toNat ((wrap64 ((Go.bits .and .i64 x7_2 15) + 1)) : Int).toNat).size + x6_2.size ≤ 9223372036854775807
                    · rw [if_pos c13] at H
                      have c13b0 := eq_true c13
                      have c13b1 : decide (((⟨#[48, 49, 50, 51, 52, 53, 54, 55, 56, 57, 97, 98, 99, 100, 101, 102]⟩ : ByteArray).extract ((Go.bits .and .i64 x7_2 15) : Int).toNat ((wrap64 ((Go.bits .and .i64 x7_2 15) + 1)) : Int).toNat).size + x6_2.size ≤ 9223372036854775807) = true := decide_eq_true c13
                      try have c13b2 : (9223372036854775807 < ((⟨#[48, 49, 50, 51, 52, 53, 54, 55, 56, 57, 97, 98, 99, 100, 101, 102]⟩ : ByteArray).extract ((Go.bits .and .i64 x7_2 15) : Int).toNat ((wrap64 ((Go.bits .and .i64 x7_2 15) + 1)) : Int).toNat).size + x6_2.size) = False := eq_false (Nat.not_lt.2 c13)
                      have H' := Aside0.mk H
                      clear H
                      go_wp2
                      go_roundg k2
                      case measure => have := HJ3.out; have := HK2.out; omega
                      case rel => exact ⟨(((⟨#[48, 49, 50, 51, 52, 53, 54, 55, 56, 57, 97, 98, 99, 100, 101, 102]⟩ : ByteArray).extract ((Go.bits .and .i64 x7_2 15) : Int).toNat ((wrap64 ((Go.bits .and .i64 x7_2 15) + 1)) : Int).toNat) ++ x6_2), (x7_2 / 16), (by first | rfl | (simp; done) | (simp [*]; done) | (simp [wrap64]; done)), (by first | rfl | (simp; done) | (simp [*]; done) | (simp [wrap64]; done)), H', ⟨by have := HJ3.out; have := HK2.out; omega⟩, ⟨by repeat (first | (with_reducible first | exact HB.out | apply below_alloc | apply pw_below_drewN | apply below_drew1) | exact HB.out)⟩⟩
                    · rw [if_neg c13] at H
                      exact absurd H (by simp)
                  · rw [if_neg c12] at H
                    exact absurd H (by simp)
                · rw [if_neg c11] at H
                  exact absurd H (by simp)
              · rw [if_neg c10] at H
                exact absurd H (by simp)
            · rw [if_neg c9] at H
              have c9b0 : decide (0 < x7_2) = false := decide_eq_false c9
              clear c9
              by_cases c14 : x6_2.toList = ([] : List UInt8)
              · rw [if_pos c14] at H
                have c14b0 : (x6_2.toList == ([] : List UInt8)) = true := beq_iff_eq.mpr c14
                have c14b1 : (x6_2.toList != ([] : List UInt8)) = false := bne_eq_false_iff_eq.mpr c14
                clear c14
                by_cases c15 : 0 ≤ (Go.bits .and .i64 x7_2 15)
                · rw [if_pos c15] at H
                  have c15b0 := eq_true c15
                  have c15b1 : decide (0 ≤ (Go.bits .and .i64 x7_2 15)) = true := decide_eq_true c15
                  clear c15
                  by_cases c16 : (Go.bits .and .i64 x7_2 15) ≤ (wrap64 ((Go.bits .and .i64 x7_2 15) + 1))
                  · rw [if_pos c16] at H
                    have c16b0 := eq_true c16
                    have c16b1 : decide ((Go.bits .and .i64 x7_2 15) ≤ (wrap64 ((Go.bits .and .i64 x7_2 15) + 1))) = true := decide_eq_true c16
                    by_cases c17 : (wrap64 ((Go.bits .and .i64 x7_2 15) + 1)) ≤ 16
                    · rw [if_pos c17] at H
                      have c17b0 := eq_true c17
                      have c17b1 : decide ((wrap64 ((Go.bits .and .i64 x7_2 15) + 1)) ≤ 16) = true := decide_eq_true c17
                      by_cases c18 : ((⟨#[48, 49, 50, 51, 52, 53, 54, 55, 56, 57, 97, 98, 99, 100, 101, 102]⟩ : ByteArray).extract ((Go.bits .and .i64 x7_2 15) : Int).toNat ((wrap64 ((Go.bits .and .i64 x7_2 15) + 1)) : Int).toNat).size + x6_2.size ≤ 9223372036854775807
                      · rw [if_pos c18] at H
                        have c18b0 := eq_true c18
                        have c18b1 : decide (((⟨#[48, 49, 50, 51, 52, 53, 54, 55, 56, 57, 97, 98, 99, 100, 101, 102]⟩ : ByteArray).extract ((Go.bits .and .i64 x7_2 15) : Int).toNat ((wrap64 ((Go.bits .and .i64 x7_2 15) + 1)) : Int).toNat).size + x6_2.size ≤ 9223372036854775807) = true := decide_eq_true c18
                        try have c18b2 : (9223372036854775807 < ((⟨#[48, 49, 50, 51, 52, 53, 54, 55, 56, 57, 97, 98, 99, 100, 101, 102]⟩ : ByteArray).extract ((Go.bits .and .i64 x7_2 15) : Int).toNat ((wrap64 ((Go.bits .and .i64 x7_2 15) + 1)) : Int).toNat).size + x6_2.size) = False := eq_false (Nat.not_lt.2 c18)
                        have H' := Aside0.mk H
                        clear H
                        go_wp2
                        go_roundg k2
                        case measure => have := HJ3.out; have := HK2.out; omega
                        case rel => exact ⟨(((⟨#[48, 49, 50, 51, 52, 53, 54, 55, 56, 57, 97, 98, 99, 100, 101, 102]⟩ : ByteArray).extract ((Go.bits .and .i64 x7_2 15) : Int).toNat ((wrap64 ((Go.bits .and .i64 x7_2 15) + 1)) : Int).toNat) ++ x6_2), (x7_2 / 16), (by first | rfl | (simp; done) | (simp [*]; done) | (simp [wrap64]; done)), (by first | rfl | (simp; done) | (simp [*]; done) | (simp [wrap64]; done)), H', ⟨by have := HJ3.out; have := HK2.out; omega⟩, ⟨by repeat (first | (with_reducible first | exact HB.out | apply below_alloc | apply pw_below_drewN | apply below_drew1) | exact HB.out)⟩⟩
                      · rw [if_neg c18] at H
                        exact absurd H (by simp)
                    · rw [if_neg c17] at H
                      exact absurd H (by simp)
                  · rw [if_neg c16] at H
                    exact absurd H (by simp)
                · rw [if_neg c15] at H
                  exact absurd H (by simp)
              · rw [if_neg c14] at H
                have c14b0 : (x6_2.toList == ([] : List UInt8)) = false := beq_eq_false_iff_ne.mpr c14
                have c14b1 : (x6_2.toList != ([] : List UInt8)) = true := bne_iff_ne.mpr c14
                have HC19 := Aside0.mk H
                clear H
                go_upto_region 10 with (fail)
                go_cut [55] (fun v55 wc => ∃ (kq : Nat) (x55_18 : Bool), v55 = .bool x55_18 ∧ Aside0 (tapestrierlaw4_TokEscapes.j2 kq a1 x6_2 a0 x55_18 = some r) ∧ Aside0 (kq ≤ k2) ∧ Aside0 (Below w.heap.size w wc))
                case first =>
                  have H := HC19.out
                  clear HC19
                  by_cases c20 : a0 = 0
                  · rw [if_pos c20] at H
                    have c20b0 : (a0 == 0) = true := beq_iff_eq.mpr c20
                    have c20b1 : (a0 != 0) = false := bne_eq_false_iff_eq.mpr c20
                    clear c20
                    (first | rw [c20b0] | (simp only [i64_w, i32_w]; rw [c20b0]) | skip)
                    have H' := Aside0.mk H
                    clear H
                    go_wp2
                    go_meet
                    case rel => exact ⟨_, (true), (by first | rfl | (simp; done) | (simp [*]; done) | (simp [wrap64]; done)), H', ⟨by have := HJ3.out; have := HK2.out; first | omega | exact Nat.le_refl _⟩, ⟨by repeat (first | (with_reducible first | exact HB.out | apply below_alloc | apply pw_below_drewN | apply below_drew1) | exact HB.out)⟩⟩
                  · rw [if_neg c20] at H
                    have c20b0 : (a0 == 0) = false := beq_eq_false_iff_ne.mpr c20
                    have c20b1 : (a0 != 0) = true := bne_iff_ne.mpr c20
                    (first | rw [c20b0] | (simp only [i64_w, i32_w]; rw [c20b0]) | skip)
                    by_cases c21 : a0 > 1114111
                    · rw [if_pos c21] at H
                      have c21b0 : decide (1114111 < a0) = true := decide_eq_true c21
                      clear c21
                      have H' := Aside0.mk H
                      clear H
                      go_wp2
                      go_meet
                      case rel => exact ⟨_, (true), (by first | rfl | (simp; done) | (simp [*]; done) | (simp [wrap64]; done)), H', ⟨by have := HJ3.out; have := HK2.out; first | omega | exact Nat.le_refl _⟩, ⟨by repeat (first | (with_reducible first | exact HB.out | apply below_alloc | apply pw_below_drewN | apply below_drew1) | exact HB.out)⟩⟩
                    · rw [if_neg c21] at H
                      have c21b0 : decide (1114111 < a0) = false := decide_eq_false c21
                      clear c21
                      by_cases c22 : a0 ≥ 55296
                      · rw [if_pos c22] at H
                        have c22b0 : decide (55296 ≤ a0) = true := decide_eq_true c22
                        clear c22
                        have H' := Aside0.mk H
                        clear H
                        go_wp2
                        go_meet
                        case rel => exact ⟨_, (decide (a0 ≤ 57343)), (by first | rfl | (simp; done) | (simp [*]; done) | (simp [wrap64]; done)), H', ⟨by have := HJ3.out; have := HK2.out; first | omega | exact Nat.le_refl _⟩, ⟨by repeat (first | (with_reducible first | exact HB.out | apply below_alloc | apply pw_below_drewN | apply below_drew1) | exact HB.out)⟩⟩
                      · rw [if_neg c22] at H
                        have c22b0 : decide (55296 ≤ a0) = false := decide_eq_false c22
                        clear c22
                        have H' := Aside0.mk H
                        clear H
                        go_wp2
                        go_meet
                        case rel => exact ⟨_, (false), (by first | rfl | (simp; done) | (simp [*]; done) | (simp [wrap64]; done)), H', ⟨by have := HJ3.out; have := HK2.out; first | omega | exact Nat.le_refl _⟩, ⟨by repeat (first | (with_reducible first | exact HB.out | apply below_alloc | apply pw_below_drewN | apply below_drew1) | exact HB.out)⟩⟩
                case rest =>
                  clear HC19
                  try clear c1
                  try clear c2
                  try clear p2
                  try clear c6
                  try clear p6
                  try clear c7
                  try clear c7b0
                  try clear c8
                  try clear c9
                  try clear c9b0
                  try clear c10
                  try clear c10b0
                  try clear c10b1
                  try clear c11
                  try clear c11b0
                  try clear c11b1
                  try clear c12
                  try clear c12b0
                  try clear c12b1
                  try clear c13
                  try clear c13b0
                  try clear c13b1
                  try clear c13b2
                  try clear c14
                  try clear c14b0
                  try clear c14b1
                  try clear c15
                  try clear c15b0
                  try clear c15b1
                  try clear c16
                  try clear c16b0
                  try clear c16b1
                  try clear c17
                  try clear c17b0
                  try clear c17b1
                  try clear c18
                  try clear c18b0
                  try clear c18b1
                  try clear c18b2
                  try clear c20
                  try clear c20b0
                  try clear c20b1
                  try clear c21
                  try clear c21b0
                  try clear c22
                  try clear c22b0
                  try clear p2
                  try clear p6
                  obtain ⟨kq, x55_18, rfl, HA, HJ18, HB⟩ := hcut
                  cases kq with
                  | zero => exact absurd HA.out (by simp [tapestrierlaw4_TokEscapes.j2])
                  | succ kj18 =>
                    have H := HA.out
                    clear HA
                    simp only [tapestrierlaw4_TokEscapes.j2] at H
                    have HC23 := Aside0.mk H
                    clear H
                    go_upto_if 55 with (fail)
                    go_cut [8] (fun v8 wc => ∃ (kq : Nat) (x8_22 : Int), v8 = .int .i64 x8_22 ∧ Aside0 (tapestrierlaw4_TokEscapes.j3 kq a1 x6_2 x8_22 = some r) ∧ Aside0 (kq ≤ kj18) ∧ Aside0 (Below w.heap.size w wc))
                    case first =>
                      have H := HC23.out
                      clear HC23
                      by_cases c24 : x55_18 = true
                      · subst c24
                        have H1 : (tapestrierlaw4_TokEscapes.j3 kj18 a1 x6_2 65533) = some r := by rw [if_pos rfl] at H; exact H
                        clear H
                        have H := H1
                        clear H1
                        have H' := Aside0.mk H
                        clear H
                        go_wp2
                        go_meet
                        case rel => exact ⟨_, (65533), (by first | rfl | (simp; done) | (simp [*]; done) | (simp [wrap64]; done)), H', ⟨by have := HJ3.out; have := HK2.out; have := HJ18.out; first | omega | exact Nat.le_refl _⟩, ⟨by repeat (first | (with_reducible first | exact HB.out | apply below_alloc | apply pw_below_drewN | apply below_drew1) | exact HB.out)⟩⟩
                      · replace c24 := Bool.eq_false_iff.mpr c24
                        subst c24
                        have H1 : (tapestrierlaw4_TokEscapes.j3 kj18 a1 x6_2 a0) = some r := by rw [if_neg (show ¬ (false = true) by decide)] at H; exact H
                        clear H
                        have H := H1
                        clear H1
                        have H' := Aside0.mk H
                        clear H
                        go_wp2
                        go_meet
                        case rel => exact ⟨_, (a0), (by first | rfl | (simp; done) | (simp [*]; done) | (simp [wrap64]; done)), H', ⟨by have := HJ3.out; have := HK2.out; have := HJ18.out; first | omega | exact Nat.le_refl _⟩, ⟨by repeat (first | (with_reducible first | exact HB.out | apply below_alloc | apply pw_below_drewN | apply below_drew1) | exact HB.out)⟩⟩
                    case rest =>
                      clear HC23
                      try clear c1
                      try clear c2
                      try clear p2
                      try clear c6
                      try clear p6
                      try clear c7
                      try clear c7b0
                      try clear c8
                      try clear c9
                      try clear c9b0
                      try clear c10
                      try clear c10b0
                      try clear c10b1
                      try clear c11
                      try clear c11b0
                      try clear c11b1
                      try clear c12
                      try clear c12b0
                      try clear c12b1
                      try clear c13
                      try clear c13b0
                      try clear c13b1
                      try clear c13b2
                      try clear c14
                      try clear c14b0
                      try clear c14b1
                      try clear c15
                      try clear c15b0
                      try clear c15b1
                      try clear c16
                      try clear c16b0
                      try clear c16b1
                      try clear c17
                      try clear c17b0
                      try clear c17b1
                      try clear c18
                      try clear c18b0
                      try clear c18b1
                      try clear c18b2
                      try clear c20
                      try clear c20b0
                      try clear c20b1
                      try clear c21
                      try clear c21b0
                      try clear c22
                      try clear c22b0
                      try clear c24
                      try clear p2
                      try clear p6
                      obtain ⟨kq, x8_22, rfl, HA, HJ22, HB⟩ := hcut
                      cases kq with
                      | zero => exact absurd HA.out (by simp [tapestrierlaw4_TokEscapes.j3])
                      | succ kj22 =>
                        have H := HA.out
                        clear HA
                        simp only [tapestrierlaw4_TokEscapes.j3] at H
                        obtain ⟨y787, hy787⟩ : ∃ y_ : List Int, y_ = (([x8_22] : List Int)) := ⟨_, rfl⟩
                        replace H : ((tapestrierref1_Bytes.f kj22 y787).bind fun t790 => (if 1 + x6_2.size ≤ 9223372036854775807 then (if a1 = true then (tapestrierlaw4_TokEscapes.j4 kj22 a1 (strOfNums t790) ((⟨#[92]⟩ : ByteArray) ++ x6_2) (⟨#[]⟩ : ByteArray) true) else (tapestrierlaw4_TokEscapes.j4 kj22 a1 (strOfNums t790) ((⟨#[92]⟩ : ByteArray) ++ x6_2) (⟨#[]⟩ : ByteArray) (decide ((x6_2.size : Int) < 6)))) else (none))) = some r := by first | (rw [hy787]; with_reducible exact H) | (have H2_ := (Option.bind_some _ _).symm.trans H; rw [hy787]; with_reducible exact H2_) | (have H2_ := (Option.bind_some _ _).symm.trans H; with_reducible exact H2_) | with_reducible exact H | (rw [hy787]; exact H) | exact H
                        have Ny787 := Aside0.mk hy787
                        clear hy787
                        replace H := Option.bind_eq_some_iff.mp H
                        obtain ⟨t790, A250, H⟩ := H
                        replace H : (if 1 + x6_2.size ≤ 9223372036854775807 then (if a1 = true then (tapestrierlaw4_TokEscapes.j4 kj22 a1 (strOfNums t790) ((⟨#[92]⟩ : ByteArray) ++ x6_2) (⟨#[]⟩ : ByteArray) true) else (tapestrierlaw4_TokEscapes.j4 kj22 a1 (strOfNums t790) ((⟨#[92]⟩ : ByteArray) ++ x6_2) (⟨#[]⟩ : ByteArray) (decide ((x6_2.size : Int) < 6)))) else (none)) = some r := H
                        have A25 := Aside0.mk A250
                        clear A250
                        by_cases c26 : 1 + x6_2.size ≤ 9223372036854775807
                        · rw [if_pos c26] at H
                          have c26b0 := eq_true c26
                          have c26b1 : decide (1 + x6_2.size ≤ 9223372036854775807) = true := decide_eq_true c26
                          try have c26b2 : (9223372036854775807 < 1 + x6_2.size) = False := eq_false (Nat.not_lt.2 c26)
                          have HC27 := Aside0.mk H
                          clear H
                          go_upto_region 15 with (first | ((with_reducible refine gate_dst (N := 57) rfl ?_); (try (refine gate_guard (by rfl) ?_; dsimp only)); refine Kd.R_lit (Kd.int .i64) _ 3 ?hg (N := 57) ?hd (xs := ([x8_22] : List Int)) (inner := [.int .i64 x8_22]) (ok := fun _ => True) (okp := fun _ => True) ?hr ?hp (fun _ hk => hk) trivial (Below.refl _ _) (Nat.le_refl _) (by simp) ?_; (case hd => rfl); (case hg => rfl); (case hr => first | (go_simp; done) | (go_simp; rfl)); (case hp => exact (Reps.one (show Kd.M (Kd.int .i64) _ _ _ x8_22 [.int .i64 x8_22] from rfl) (Reps.none _ _))); intro v788 w28 ho29 hb hg_ hnew_; clear hg_ hnew_; (first | rw [← Ny787.out] at ho29 | (simp only [Int.reduceToNat] at ho29; rw [← Ny787.out] at ho29)); have n0_ := Aside0.mk (Kd.R_lower ho29 (below_size (by repeat (first | (with_reducible first | exact HB.out | apply below_alloc | apply pw_below_drewN | apply below_drew1) | exact HB.out)))); have n1_ := Aside0.mk (below_step (by repeat (first | (with_reducible first | exact HB.out | apply below_alloc | apply pw_below_drewN | apply below_drew1) | exact HB.out)) hb); clear HB; have HO789 := n0_; have HB := n1_; clear n0_ n1_; clear hb ho29; obtain ⟨Ao30, co30, eo30⟩ := Kd.R_slice HO789.out; subst eo30) | ((with_reducible refine gate_callee (f := 22) rfl ?_); refine goesL_ (some 58) rfl rfl Tryd.func22 (by kernel_rfl) rfl #[.slice Ao30 y787.length co30] rfl (by (try simp only [List.map_toArray, List.map_cons, List.map_nil]); first | done | rfl | (simp only [List.length_drop, List.length_take]; rfl)) ?_; (with_reducible refine (tapestrierref1_Bytes.calls kj22 _ _ y787 t790 _ ?side1 ?side2 A25.out).mono ?_); (case side1 => repeat (first | exact (Kd.R_reads' HO789.out).2.2 | (with_reducible refine Kd.C_alloc ?_ _) | (with_reducible refine Kd.C_drewN ?_ _) | (with_reducible refine Kd.C_drew ?_))); (case side2 => exact (Kd.R_reads' HO789.out).2.1); rintro e w31 ⟨v791, rfl, ho0, hb⟩; refine ⟨_, rfl, ?_⟩; have n0_ := Aside0.mk (Kd.R_below (by (with_reducible repeat (first | apply Kd.R_alloc | apply Kd.R_drewN | apply Kd.R_drew)); exact HO789.out) hb); have n1_ := Aside0.mk (Kd.R_lower ho0 (below_size (by repeat (first | (with_reducible first | exact HB.out | apply below_alloc | apply pw_below_drewN | apply below_drew1) | exact HB.out)))); have n2_ := Aside0.mk (below_step (by repeat (first | (with_reducible first | exact HB.out | apply below_alloc | apply pw_below_drewN | apply below_drew1) | exact HB.out)) hb); clear HO789; clear HB; have HO789 := n0_; have HO792 := n1_; have HB := n2_; clear n0_ n1_ n2_; (try clear hb); (try clear hb2); (try clear hk); (try clear hi); (try clear ho0); have hcv32 := own_string (P := Tryd.prog) Tryd.underlying25 Tryd.underlying5 Tryd.underlying9 (Kd.own_of_R HO792.out)))
                          (try simp only [Act.put, List.setIfInBounds_toArray, List.set_cons_zero, List.set_cons_succ])
                          go_cut [67] (fun v67 wc => ∃ (kq : Nat) (x67_26 : Bool), v67 = .bool x67_26 ∧ Aside0 (tapestrierlaw4_TokEscapes.j4 kq a1 (strOfNums t790) ((⟨#[92]⟩ : ByteArray) ++ x6_2) (⟨#[]⟩ : ByteArray) x67_26 = some r) ∧ Aside0 (kq ≤ kj22) ∧ Aside0 (Below w.heap.size w wc))
                          case first =>
                            have H := HC27.out
                            clear HC27
                            by_cases c33 : a1 = true
                            · subst c33
                              have H1 : (tapestrierlaw4_TokEscapes.j4 kj22 true (strOfNums t790) ((⟨#[92]⟩ : ByteArray) ++ x6_2) (⟨#[]⟩ : ByteArray) true) = some r := by rw [if_pos rfl] at H; exact H
                              clear H
                              have H := H1
                              clear H1
                              have H' := Aside0.mk H
                              clear H
                              go_wp2
                              go_meet
                              case rel => exact ⟨_, (true), (by first | rfl | (simp; done) | (simp [*]; done) | (simp [wrap64]; done)), H', ⟨by have := HJ3.out; have := HK2.out; have := HJ18.out; have := HJ22.out; first | omega | exact Nat.le_refl _⟩, ⟨by repeat (first | (with_reducible first | exact HB.out | apply below_alloc | apply pw_below_drewN | apply below_drew1) | exact HB.out)⟩⟩
                            · replace c33 := Bool.eq_false_iff.mpr c33
                              subst c33
                              have H1 : (tapestrierlaw4_TokEscapes.j4 kj22 false (strOfNums t790) ((⟨#[92]⟩ : ByteArray) ++ x6_2) (⟨#[]⟩ : ByteArray) (decide ((x6_2.size : Int) < 6))) = some r := by rw [if_neg (show ¬ (false = true) by decide)] at H; exact H
                              clear H
                              have H := H1
                              clear H1
                              have H' := Aside0.mk H
                              clear H
                              go_wp2
                              go_meet
                              case rel => exact ⟨_, (decide ((x6_2.size : Int) < 6)), (by first | rfl | (simp; done) | (simp [*]; done) | (simp [wrap64]; done)), H', ⟨by have := HJ3.out; have := HK2.out; have := HJ18.out; have := HJ22.out; first | omega | exact Nat.le_refl _⟩, ⟨by repeat (first | (with_reducible first | exact HB.out | apply below_alloc | apply pw_below_drewN | apply below_drew1) | exact HB.out)⟩⟩
                          case rest =>
                            clear HC27
                            try clear c1
                            try clear c2
                            try clear p2
                            try clear c3
                            try clear hcv3
                            try clear c6
                            try clear p6
                            try clear c7
                            try clear c7b0
                            try clear c8
                            try clear c9
                            try clear c9b0
                            try clear c10
                            try clear c10b0
                            try clear c10b1
                            try clear c11
                            try clear c11b0
                            try clear c11b1
                            try clear c12
                            try clear c12b0
                            try clear c12b1
                            try clear c13
                            try clear c13b0
                            try clear c13b1
                            try clear c13b2
                            try clear c14
                            try clear c14b0
                            try clear c14b1
                            try clear c15
                            try clear c15b0
                            try clear c15b1
                            try clear c16
                            try clear c16b0
                            try clear c16b1
                            try clear c17
                            try clear c17b0
                            try clear c17b1
                            try clear c18
                            try clear c18b0
                            try clear c18b1
                            try clear c18b2
                            try clear c20
                            try clear c20b0
                            try clear c20b1
                            try clear c21
                            try clear c21b0
                            try clear c22
                            try clear c22b0
                            try clear c24
                            try clear c26
                            try clear c26b0
                            try clear c26b1
                            try clear c26b2
                            try clear hcv32
                            try clear c33
                            try clear p2
                            try clear p6
                            obtain ⟨kq, x67_26, rfl, HA, HJ26, HB⟩ := hcut
                            cases kq with
                            | zero => exact absurd HA.out (by simp [tapestrierlaw4_TokEscapes.j4])
                            | succ kj26 =>
                              have H := HA.out
                              clear HA
                              simp only [tapestrierlaw4_TokEscapes.j4] at H
                              have HC34 := Aside0.mk H
                              clear H
                              go_upto_if 67 with (fail)
                              go_cut [10] (fun v10 wc => ∃ (kq : Nat) (x10_33 : ByteArray), v10 = .string x10_33 ∧ Aside0 (tapestrierlaw4_TokEscapes.j5 kq a1 (strOfNums t790) x10_33 (⟨#[]⟩ : ByteArray) = some r) ∧ Aside0 (kq ≤ kj26) ∧ Aside0 (Below w.heap.size w wc))
                              case first =>
                                have H := HC34.out
                                clear HC34
                                by_cases c35 : x67_26 = true
                                · subst c35
                                  have H1 : (if ((⟨#[92]⟩ : ByteArray) ++ x6_2).size + 1 ≤ 9223372036854775807 then (tapestrierlaw4_TokEscapes.j5 kj26 a1 (strOfNums t790) (((⟨#[92]⟩ : ByteArray) ++ x6_2) ++ (⟨#[32]⟩ : ByteArray)) (⟨#[]⟩ : ByteArray)) else (none)) = some r := by rw [if_pos rfl] at H; exact H
                                  clear H
                                  have H := H1
                                  clear H1
                                  by_cases c36 : ((⟨#[92]⟩ : ByteArray) ++ x6_2).size + 1 ≤ 9223372036854775807
                                  · rw [if_pos c36] at H
                                    have c36b0 := eq_true c36
                                    have c36b1 : decide (((⟨#[92]⟩ : ByteArray) ++ x6_2).size + 1 ≤ 9223372036854775807) = true := decide_eq_true c36
                                    try have c36b2 : (9223372036854775807 < ((⟨#[92]⟩ : ByteArray) ++ x6_2).size + 1) = False := eq_false (Nat.not_lt.2 c36)
                                    try (have c36b4 := c36b2; simp only [ByteArray.size_append] at c36b4)
                                    try have c36b5 : (9223372036854775807 < 1 + x6_2.size + 1) = False := c36b4
                                    have H' := Aside0.mk H
                                    clear H
                                    go_wp2
                                    go_meet
                                    case rel => exact ⟨_, (((⟨#[92]⟩ : ByteArray) ++ x6_2) ++ (⟨#[32]⟩ : ByteArray)), (by first | rfl | (simp; done) | (simp [*]; done) | (simp [wrap64]; done)), H', ⟨by have := HJ3.out; have := HK2.out; have := HJ18.out; have := HJ22.out; have := HJ26.out; first | omega | exact Nat.le_refl _⟩, ⟨by repeat (first | (with_reducible first | exact HB.out | apply below_alloc | apply pw_below_drewN | apply below_drew1) | exact HB.out)⟩⟩
                                  · rw [if_neg c36] at H
                                    exact absurd H (by simp)
                                · replace c35 := Bool.eq_false_iff.mpr c35
                                  subst c35
                                  have H1 : (tapestrierlaw4_TokEscapes.j5 kj26 a1 (strOfNums t790) ((⟨#[92]⟩ : ByteArray) ++ x6_2) (⟨#[]⟩ : ByteArray)) = some r := by rw [if_neg (show ¬ (false = true) by decide)] at H; exact H
                                  clear H
                                  have H := H1
                                  clear H1
                                  have H' := Aside0.mk H
                                  clear H
                                  go_wp2
                                  go_meet
                                  case rel => exact ⟨_, (((⟨#[92]⟩ : ByteArray) ++ x6_2)), (by first | rfl | (simp; done) | (simp [*]; done) | (simp [wrap64]; done)), H', ⟨by have := HJ3.out; have := HK2.out; have := HJ18.out; have := HJ22.out; have := HJ26.out; first | omega | exact Nat.le_refl _⟩, ⟨by repeat (first | (with_reducible first | exact HB.out | apply below_alloc | apply pw_below_drewN | apply below_drew1) | exact HB.out)⟩⟩
                              case rest =>
                                clear HC34
                                try clear c1
                                try clear c2
                                try clear p2
                                try clear c3
                                try clear hcv3
                                try clear c6
                                try clear p6
                                try clear c7
                                try clear c7b0
                                try clear c8
                                try clear c9
                                try clear c9b0
                                try clear c10
                                try clear c10b0
                                try clear c10b1
                                try clear c11
                                try clear c11b0
                                try clear c11b1
                                try clear c12
                                try clear c12b0
                                try clear c12b1
                                try clear c13
                                try clear c13b0
                                try clear c13b1
                                try clear c13b2
                                try clear c14
                                try clear c14b0
                                try clear c14b1
                                try clear c15
                                try clear c15b0
                                try clear c15b1
                                try clear c16
                                try clear c16b0
                                try clear c16b1
                                try clear c17
                                try clear c17b0
                                try clear c17b1
                                try clear c18
                                try clear c18b0
                                try clear c18b1
                                try clear c18b2
                                try clear c20
                                try clear c20b0
                                try clear c20b1
                                try clear c21
                                try clear c21b0
                                try clear c22
                                try clear c22b0
                                try clear c24
                                try clear c26
                                try clear c26b0
                                try clear c26b1
                                try clear c26b2
                                try clear hcv32
                                try clear c33
                                try clear c35
                                try clear c36
                                try clear c36b0
                                try clear c36b1
                                try clear c36b2
                                try clear p2
                                try clear p6
                                obtain ⟨kq, x10_33, rfl, HA, HJ33, HB⟩ := hcut
                                cases kq with
                                | zero => exact absurd HA.out (by simp [tapestrierlaw4_TokEscapes.j5])
                                | succ kj33 =>
                                  have H := HA.out
                                  clear HA
                                  simp only [tapestrierlaw4_TokEscapes.j5] at H
                                  have HC37 := Aside0.mk H
                                  clear H
                                  go_upto_if 71 with (fail)
                                  go_cut [10, 11] (fun v10 v11 wc => ∃ (kq : Nat) (x10_36 : ByteArray) (x11_36 : ByteArray), v10 = .string x10_36 ∧ v11 = .string x11_36 ∧ Aside0 (tapestrierlaw4_TokEscapes.j6 kq (strOfNums t790) x10_36 x11_36 = some r) ∧ Aside0 (kq ≤ kj33) ∧ Aside0 (Below w.heap.size w wc))
                                  case first =>
                                    have H := HC37.out
                                    clear HC37
                                    by_cases c38 : a1 = true
                                    · subst c38
                                      have H1 : (tapestrierlaw4_TokEscapes.j6 kj33 (strOfNums t790) x10_33 (⟨#[]⟩ : ByteArray)) = some r := by rw [if_pos rfl] at H; exact H
                                      clear H
                                      have H := H1
                                      clear H1
                                      have H' := Aside0.mk H
                                      clear H
                                      go_wp2
                                      go_meet
                                      case rel => exact ⟨_, (x10_33), ((⟨#[]⟩ : ByteArray)), (by first | rfl | (simp; done) | (simp [*]; done) | (simp [wrap64]; done)), (by first | rfl | (simp; done) | (simp [*]; done) | (simp [wrap64]; done)), H', ⟨by have := HJ3.out; have := HK2.out; have := HJ18.out; have := HJ22.out; have := HJ26.out; have := HJ33.out; first | omega | exact Nat.le_refl _⟩, ⟨by repeat (first | (with_reducible first | exact HB.out | apply below_alloc | apply pw_below_drewN | apply below_drew1) | exact HB.out)⟩⟩
                                    · replace c38 := Bool.eq_false_iff.mpr c38
                                      subst c38
                                      have H1 : (if x10_33.size + 1 ≤ 9223372036854775807 then (tapestrierlaw4_TokEscapes.j6 kj33 (strOfNums t790) (x10_33 ++ (⟨#[103]⟩ : ByteArray)) (⟨#[103]⟩ : ByteArray)) else (none)) = some r := by rw [if_neg (show ¬ (false = true) by decide)] at H; exact H
                                      clear H
                                      have H := H1
                                      clear H1
                                      by_cases c39 : x10_33.size + 1 ≤ 9223372036854775807
                                      · rw [if_pos c39] at H
                                        have c39b0 := eq_true c39
                                        have c39b1 : decide (x10_33.size + 1 ≤ 9223372036854775807) = true := decide_eq_true c39
                                        try have c39b2 : (9223372036854775807 < x10_33.size + 1) = False := eq_false (Nat.not_lt.2 c39)
                                        have H' := Aside0.mk H
                                        clear H
                                        go_wp2
                                        go_meet
                                        case rel => exact ⟨_, (x10_33 ++ (⟨#[103]⟩ : ByteArray)), ((⟨#[103]⟩ : ByteArray)), (by first | rfl | (simp; done) | (simp [*]; done) | (simp [wrap64]; done)), (by first | rfl | (simp; done) | (simp [*]; done) | (simp [wrap64]; done)), H', ⟨by have := HJ3.out; have := HK2.out; have := HJ18.out; have := HJ22.out; have := HJ26.out; have := HJ33.out; first | omega | exact Nat.le_refl _⟩, ⟨by repeat (first | (with_reducible first | exact HB.out | apply below_alloc | apply pw_below_drewN | apply below_drew1) | exact HB.out)⟩⟩
                                      · rw [if_neg c39] at H
                                        exact absurd H (by simp)
                                  case rest =>
                                    clear HC37
                                    try clear c1
                                    try clear c2
                                    try clear p2
                                    try clear c3
                                    try clear hcv3
                                    try clear c6
                                    try clear p6
                                    try clear c7
                                    try clear c7b0
                                    try clear c8
                                    try clear c9
                                    try clear c9b0
                                    try clear c10
                                    try clear c10b0
                                    try clear c10b1
                                    try clear c11
                                    try clear c11b0
                                    try clear c11b1
                                    try clear c12
                                    try clear c12b0
                                    try clear c12b1
                                    try clear c13
                                    try clear c13b0
                                    try clear c13b1
                                    try clear c13b2
                                    try clear c14
                                    try clear c14b0
                                    try clear c14b1
                                    try clear c15
                                    try clear c15b0
                                    try clear c15b1
                                    try clear c16
                                    try clear c16b0
                                    try clear c16b1
                                    try clear c17
                                    try clear c17b0
                                    try clear c17b1
                                    try clear c18
                                    try clear c18b0
                                    try clear c18b1
                                    try clear c18b2
                                    try clear c20
                                    try clear c20b0
                                    try clear c20b1
                                    try clear c21
                                    try clear c21b0
                                    try clear c22
                                    try clear c22b0
                                    try clear c24
                                    try clear c26
                                    try clear c26b0
                                    try clear c26b1
                                    try clear c26b2
                                    try clear hcv32
                                    try clear c33
                                    try clear c35
                                    try clear c36
                                    try clear c36b0
                                    try clear c36b1
                                    try clear c36b2
                                    try clear c38
                                    try clear c39
                                    try clear c39b0
                                    try clear c39b1
                                    try clear c39b2
                                    try clear p2
                                    try clear p6
                                    obtain ⟨kq, x10_36, x11_36, rfl, rfl, HA, HJ36, HB⟩ := hcut
                                    cases kq with
                                    | zero => exact absurd HA.out (by simp [tapestrierlaw4_TokEscapes.j6])
                                    | succ kj36 =>
                                      have H := HA.out
                                      clear HA
                                      simp only [tapestrierlaw4_TokEscapes.j6] at H
                                      replace H := Option.bind_eq_some_iff.mp H
                                      obtain ⟨t793, A400, H⟩ := H
                                      replace H : ((tapestrierlaw4_Of.f kj36 t793).bind fun t796 => (if (strOfNums t790).size + x11_36.size ≤ 9223372036854775807 then ((tapestrierref1_SameTokens.f kj36 t796 (([(⟨1, (strOfNums t790) ++ x11_36, 0, false, 0⟩ : S31)] : List (S31)))).bind fun t802 => (if t802 = true then (if 1 + x10_36.size ≤ 9223372036854775807 then (if ((⟨#[34]⟩ : ByteArray) ++ x10_36).size + 1 ≤ 9223372036854775807 then ((bytesConv5.f (((⟨#[34]⟩ : ByteArray) ++ x10_36) ++ (⟨#[34]⟩ : ByteArray))).bind fun t803 => ((tapestrierlaw4_Of.f kj36 t803).bind fun t806 => ((tapestrierref1_SameTokens.f kj36 t806 (([(⟨4, (strOfNums t790) ++ x11_36, 0, false, 0⟩ : S31)] : List (S31)))).bind fun t812 => (some t812)))) else (none)) else (none)) else (some false))) else (none))) = some r := H
                                      have A40 := Aside0.mk A400
                                      clear A400
                                      replace H := Option.bind_eq_some_iff.mp H
                                      obtain ⟨t796, A410, H⟩ := H
                                      replace H : (if (strOfNums t790).size + x11_36.size ≤ 9223372036854775807 then ((tapestrierref1_SameTokens.f kj36 t796 (([(⟨1, (strOfNums t790) ++ x11_36, 0, false, 0⟩ : S31)] : List (S31)))).bind fun t802 => (if t802 = true then (if 1 + x10_36.size ≤ 9223372036854775807 then (if ((⟨#[34]⟩ : ByteArray) ++ x10_36).size + 1 ≤ 9223372036854775807 then ((bytesConv5.f (((⟨#[34]⟩ : ByteArray) ++ x10_36) ++ (⟨#[34]⟩ : ByteArray))).bind fun t803 => ((tapestrierlaw4_Of.f kj36 t803).bind fun t806 => ((tapestrierref1_SameTokens.f kj36 t806 (([(⟨4, (strOfNums t790) ++ x11_36, 0, false, 0⟩ : S31)] : List (S31)))).bind fun t812 => (some t812)))) else (none)) else (none)) else (some false))) else (none)) = some r := H
                                      have A41 := Aside0.mk A410
                                      clear A410
                                      by_cases c42 : (strOfNums t790).size + x11_36.size ≤ 9223372036854775807
                                      · rw [if_pos c42] at H
                                        have c42b0 := eq_true c42
                                        have c42b1 : decide ((strOfNums t790).size + x11_36.size ≤ 9223372036854775807) = true := decide_eq_true c42
                                        try have c42b2 : (9223372036854775807 < (strOfNums t790).size + x11_36.size) = False := eq_false (Nat.not_lt.2 c42)
                                        obtain ⟨y799, hy799⟩ : ∃ y_ : List (S31), y_ = (([(⟨1, (strOfNums t790) ++ x11_36, 0, false, 0⟩ : S31)] : List (S31))) := ⟨_, rfl⟩
                                        replace H : ((tapestrierref1_SameTokens.f kj36 t796 y799).bind fun t802 => (if t802 = true then (if 1 + x10_36.size ≤ 9223372036854775807 then (if ((⟨#[34]⟩ : ByteArray) ++ x10_36).size + 1 ≤ 9223372036854775807 then ((bytesConv5.f (((⟨#[34]⟩ : ByteArray) ++ x10_36) ++ (⟨#[34]⟩ : ByteArray))).bind fun t803 => ((tapestrierlaw4_Of.f kj36 t803).bind fun t806 => ((tapestrierref1_SameTokens.f kj36 t806 (([(⟨4, (strOfNums t790) ++ x11_36, 0, false, 0⟩ : S31)] : List (S31)))).bind fun t812 => (some t812)))) else (none)) else (none)) else (some false))) = some r := by first | (rw [hy799]; with_reducible exact H) | (have H2_ := (Option.bind_some _ _).symm.trans H; rw [hy799]; with_reducible exact H2_) | (have H2_ := (Option.bind_some _ _).symm.trans H; with_reducible exact H2_) | with_reducible exact H | (rw [hy799]; exact H) | exact H
                                        have Ny799 := Aside0.mk hy799
                                        clear hy799
                                        replace H := Option.bind_eq_some_iff.mp H
                                        obtain ⟨t802, A430, H⟩ := H
                                        replace H : (if t802 = true then (if 1 + x10_36.size ≤ 9223372036854775807 then (if ((⟨#[34]⟩ : ByteArray) ++ x10_36).size + 1 ≤ 9223372036854775807 then ((bytesConv5.f (((⟨#[34]⟩ : ByteArray) ++ x10_36) ++ (⟨#[34]⟩ : ByteArray))).bind fun t803 => ((tapestrierlaw4_Of.f kj36 t803).bind fun t806 => ((tapestrierref1_SameTokens.f kj36 t806 (([(⟨4, (strOfNums t790) ++ x11_36, 0, false, 0⟩ : S31)] : List (S31)))).bind fun t812 => (some t812)))) else (none)) else (none)) else (some false)) = some r := H
                                        have A43 := Aside0.mk A430
                                        clear A430
                                        by_cases c44 : t802 = true
                                        · subst c44
                                          have H1 : (if 1 + x10_36.size ≤ 9223372036854775807 then (if ((⟨#[34]⟩ : ByteArray) ++ x10_36).size + 1 ≤ 9223372036854775807 then ((bytesConv5.f (((⟨#[34]⟩ : ByteArray) ++ x10_36) ++ (⟨#[34]⟩ : ByteArray))).bind fun t803 => ((tapestrierlaw4_Of.f kj36 t803).bind fun t806 => ((tapestrierref1_SameTokens.f kj36 t806 (([(⟨4, (strOfNums t790) ++ x11_36, 0, false, 0⟩ : S31)] : List (S31)))).bind fun t812 => (some t812)))) else (none)) else (none)) = some r := by rw [if_pos rfl] at H; exact H
                                          clear H
                                          have H := H1
                                          clear H1
                                          by_cases c45 : 1 + x10_36.size ≤ 9223372036854775807
                                          · rw [if_pos c45] at H
                                            have c45b0 := eq_true c45
                                            have c45b1 : decide (1 + x10_36.size ≤ 9223372036854775807) = true := decide_eq_true c45
                                            try have c45b2 : (9223372036854775807 < 1 + x10_36.size) = False := eq_false (Nat.not_lt.2 c45)
                                            by_cases c46 : ((⟨#[34]⟩ : ByteArray) ++ x10_36).size + 1 ≤ 9223372036854775807
                                            · rw [if_pos c46] at H
                                              have c46b0 := eq_true c46
                                              have c46b1 : decide (((⟨#[34]⟩ : ByteArray) ++ x10_36).size + 1 ≤ 9223372036854775807) = true := decide_eq_true c46
                                              try have c46b2 : (9223372036854775807 < ((⟨#[34]⟩ : ByteArray) ++ x10_36).size + 1) = False := eq_false (Nat.not_lt.2 c46)
                                              try (have c46b4 := c46b2; simp only [ByteArray.size_append] at c46b4)
                                              try have c46b5 : (9223372036854775807 < 1 + x10_36.size + 1) = False := c46b4
                                              replace H := Option.bind_eq_some_iff.mp H
                                              obtain ⟨t803, A470, H⟩ := H
                                              replace H : ((tapestrierlaw4_Of.f kj36 t803).bind fun t806 => ((tapestrierref1_SameTokens.f kj36 t806 (([(⟨4, (strOfNums t790) ++ x11_36, 0, false, 0⟩ : S31)] : List (S31)))).bind fun t812 => (some t812))) = some r := H
                                              have A47 := Aside0.mk A470
                                              clear A470
                                              replace H := Option.bind_eq_some_iff.mp H
                                              obtain ⟨t806, A480, H⟩ := H
                                              replace H : ((tapestrierref1_SameTokens.f kj36 t806 (([(⟨4, (strOfNums t790) ++ x11_36, 0, false, 0⟩ : S31)] : List (S31)))).bind fun t812 => (some t812)) = some r := H
                                              have A48 := Aside0.mk A480
                                              clear A480
                                              obtain ⟨y809, hy809⟩ : ∃ y_ : List (S31), y_ = (([(⟨4, (strOfNums t790) ++ x11_36, 0, false, 0⟩ : S31)] : List (S31))) := ⟨_, rfl⟩
                                              replace H : ((tapestrierref1_SameTokens.f kj36 t806 y809).bind fun t812 => (some t812)) = some r := by first | (rw [hy809]; with_reducible exact H) | (have H2_ := (Option.bind_some _ _).symm.trans H; rw [hy809]; with_reducible exact H2_) | (have H2_ := (Option.bind_some _ _).symm.trans H; with_reducible exact H2_) | with_reducible exact H | (rw [hy809]; exact H) | exact H
                                              have Ny809 := Aside0.mk hy809
                                              clear hy809
                                              replace H := Option.bind_eq_some_iff.mp H
                                              obtain ⟨t812, A490, H⟩ := H
                                              replace H : (some t812) = some r := H
                                              have A49 := Aside0.mk A490
                                              clear A490
                                              obtain rfl := Option.some.inj H
                                              go_wp2_with (first | ((with_reducible refine gate_dst (N := 75) rfl ?_); (try (refine gate_guard (by rfl) ?_; dsimp only)); (try (refine gate_guard (by rfl) ?_; dsimp only)); refine conv_goes ?hg (N := 75) ?hd (src := 9) (dst := 25) (e := 5) (s := x10_36) (x := ?xo12) ?ho Tryd.underlying9 Tryd.underlying25 Tryd.underlying5 ?hx ?_; (case hd => rfl); (case hg => rfl); (case ho => rfl); (case hx => first | rfl | (go_simp; done) | (go_simp; rfl)); (with_reducible refine (bytesConv5.calls x10_36 t793 _ A40.out).mono ?_); rintro e w50 ⟨v794, rfl, ho0, hb⟩; refine ⟨_, rfl, ?_⟩; have n0_ := Aside0.mk (Kd.V_lower (Kd.V_mono (ok' := fun k_ => True) ho0 (fun k_ hk_ => trivial)) (below_size (by repeat (first | (with_reducible first | exact HB.out | apply below_alloc | apply pw_below_drewN | apply below_drew1) | exact HB.out)))); have n1_ := Aside0.mk (below_step (by repeat (first | (with_reducible first | exact HB.out | apply below_alloc | apply pw_below_drewN | apply below_drew1) | exact HB.out)) hb); clear HB; have HO795 := n0_; have HB := n1_; clear n0_ n1_; (try clear hb); (try clear hb2); (try clear hk); (try clear hi); (try clear ho0); obtain ⟨Ao51, co51, eo51⟩ := Kd.V_slice HO795.out; subst eo51) | ((with_reducible refine gate_callee (f := 20) rfl ?_); refine goesL_ (some 76) rfl rfl Tryd.func20 (by kernel_rfl) rfl #[.slice Ao51 t793.length co51] rfl (by (try simp only [List.map_toArray, List.map_cons, List.map_nil]); first | done | rfl | (simp only [List.length_drop, List.length_take]; rfl)) ?_; (with_reducible refine (tapestrierlaw4_Of.calls kj36 _ _ t793 t796 _ ?side1 ?side2 ?side3 A41.out).mono ?_); (case side1 => repeat (first | exact (Kd.V_reads' HO795.out).2.2 | (with_reducible refine Kd.C_alloc ?_ _) | (with_reducible refine Kd.C_drewN ?_ _) | (with_reducible refine Kd.C_drew ?_))); (case side2 => exact (Kd.V_reads' HO795.out).2.1); (case side3 => exact TabsIn.below HT.out (by repeat (first | (with_reducible first | exact HB.out | apply below_alloc | apply pw_below_drewN | apply below_drew1) | exact HB.out))); rintro e w52 ⟨v797, rfl, ho0, hb⟩; refine ⟨_, rfl, ?_⟩; have n0_ := Aside0.mk (Kd.V_elder' (by (with_reducible repeat (first | apply Kd.V_alloc | apply Kd.V_drewN | apply Kd.V_drew)); exact HO795.out) (Kd.R_base ho0) hb); have n1_ := Aside0.mk (Kd.R_lower ho0 (below_size (by repeat (first | (with_reducible first | exact HB.out | apply below_alloc | apply pw_below_drewN | apply below_drew1) | exact HB.out)))); have n2_ := Aside0.mk (below_step (by repeat (first | (with_reducible first | exact HB.out | apply below_alloc | apply pw_below_drewN | apply below_drew1) | exact HB.out)) hb); clear HO795; clear HB; have HO795 := n0_; have HO798 := n1_; have HB := n2_; clear n0_ n1_ n2_; (try clear hb); (try clear hb2); (try clear hk); (try clear hi); (try clear ho0)) | ((with_reducible refine gate_dst (N := 81) rfl ?_); (try (refine gate_guard (by rfl) ?_; dsimp only)); refine Kd.R_lit k31 _ 31 ?hg (N := 81) ?hd (xs := ([(⟨1, (strOfNums t790) ++ x11_36, 0, false, 0⟩ : S31)] : List (S31))) (inner := [.int .i64 1, .string ((strOfNums t790) ++ x11_36), .int .i64 0, .bool false, .int .i64 0]) (ok := fun _ => True) (okp := fun _ => True) ?hr ?hp (fun _ hk => hk) trivial (Below.refl _ _) (Nat.le_refl _) (by simp) ?_; (case hd => rfl); (case hg => rfl); (case hr => first | (go_simp; done) | (go_simp; rfl)); (case hp => exact (Reps.c5 (show Kd.M k31 _ _ _ (⟨1, (strOfNums t790) ++ x11_36, 0, false, 0⟩ : S31) [.int .i64 1, .string ((strOfNums t790) ++ x11_36), .int .i64 0, .bool false, .int .i64 0] from (k31_mkM _ _ _ (⟨1, (strOfNums t790) ++ x11_36, 0, false, 0⟩ : S31) )) (Reps.none _ _))); intro v800 w53 ho54 hb hg_ hnew_; clear hg_ hnew_; (first | rw [← Ny799.out] at ho54 | (simp only [Int.reduceToNat] at ho54; rw [← Ny799.out] at ho54)); have n0_ := Aside0.mk (Kd.V_elder' (by (with_reducible repeat (first | apply Kd.V_alloc | apply Kd.V_drewN | apply Kd.V_drew)); exact HO795.out) (Kd.R_base ho54) hb); have n1_ := Aside0.mk (Kd.R_elder' (by (with_reducible repeat (first | apply Kd.R_alloc | apply Kd.R_drewN | apply Kd.R_drew)); exact HO798.out) (Kd.R_base ho54) hb); have n2_ := Aside0.mk (Kd.R_lower (Kd.R_new' ho54 (Kd.R_lt (by (with_reducible repeat (first | apply Kd.R_alloc | apply Kd.R_drewN | apply Kd.R_drew)); exact HO798.out))) (below_size (by repeat (first | (with_reducible first | exact HB.out | apply below_alloc | apply pw_below_drewN | apply below_drew1) | exact HB.out)))); have n3_ := Aside0.mk (below_step (by repeat (first | (with_reducible first | exact HB.out | apply below_alloc | apply pw_below_drewN | apply below_drew1) | exact HB.out)) hb); clear HO795; clear HO798; clear HB; have HO795 := n0_; have HO798 := n1_; have HO801 := n2_; have HB := n3_; clear n0_ n1_ n2_ n3_; clear hb ho54; obtain ⟨Ao55, co55, eo55⟩ := Kd.R_slice HO798.out; subst eo55; obtain ⟨Ao56, co56, eo56⟩ := Kd.R_slice HO801.out; subst eo56) | ((with_reducible refine gate_callee (f := 19) rfl ?_); refine goesL_ (some 82) rfl rfl Tryd.func19 (by kernel_rfl) rfl #[.slice Ao55 t796.length co55, .slice Ao56 y799.length co56] rfl (by (try simp only [List.map_toArray, List.map_cons, List.map_nil]); first | done | rfl | (simp only [List.length_drop, List.length_take]; rfl)) ?_; (with_reducible refine (tapestrierref1_SameTokens.calls kj36 _ _ t796 _ _ y799 true _ ?side1 ?side2 ?side3 ?side4 A43.out).mono ?_); (case side1 => repeat (first | exact (Kd.R_reads' HO798.out).2.2 | (with_reducible refine Kd.C_alloc ?_ _) | (with_reducible refine Kd.C_drewN ?_ _) | (with_reducible refine Kd.C_drew ?_))); (case side2 => exact (Kd.R_reads' HO798.out).2.1); (case side3 => repeat (first | exact (Kd.R_reads' HO801.out).2.2 | (with_reducible refine Kd.C_alloc ?_ _) | (with_reducible refine Kd.C_drewN ?_ _) | (with_reducible refine Kd.C_drew ?_))); (case side4 => exact (Kd.R_reads' HO801.out).2.1); rintro e w' ⟨rfl, ⟨nd, rfl⟩⟩; refine ⟨_, rfl, ?_⟩) | ((with_reducible refine gate_dst (N := 87) rfl ?_); (try (refine gate_guard (by rfl) ?_; dsimp only)); (try (refine gate_guard (by rfl) ?_; dsimp only)); refine conv_goes ?hg (N := 87) ?hd (src := 9) (dst := 25) (e := 5) (s := (((⟨#[34]⟩ : ByteArray) ++ x10_36) ++ (⟨#[34]⟩ : ByteArray))) (x := ?xo13) ?ho Tryd.underlying9 Tryd.underlying25 Tryd.underlying5 ?hx ?_; (case hd => rfl); (case hg => rfl); (case ho => rfl); (case hx => first | rfl | (go_simp; done) | (go_simp; rfl)); (with_reducible refine (bytesConv5.calls (((⟨#[34]⟩ : ByteArray) ++ x10_36) ++ (⟨#[34]⟩ : ByteArray)) t803 _ A47.out).mono ?_); rintro e w57 ⟨v804, rfl, ho0, hb⟩; refine ⟨_, rfl, ?_⟩; have n0_ := Aside0.mk (Kd.V_below (by (with_reducible repeat (first | apply Kd.V_alloc | apply Kd.V_drewN | apply Kd.V_drew)); exact HO795.out) hb); have n1_ := Aside0.mk (Kd.R_below (by (with_reducible repeat (first | apply Kd.R_alloc | apply Kd.R_drewN | apply Kd.R_drew)); exact HO798.out) hb); have n2_ := Aside0.mk (Kd.R_below (by (with_reducible repeat (first | apply Kd.R_alloc | apply Kd.R_drewN | apply Kd.R_drew)); exact HO801.out) hb); have n3_ := Aside0.mk (Kd.V_lower (Kd.V_mono (ok' := fun k_ => some k_ ≠ (.slice Ao55 t796.length co55 : Value).ownBlock ∧ some k_ ≠ (.slice Ao56 y799.length co56 : Value).ownBlock) ho0 (fun k_ hk_ => ⟨(Kd.fresh' (Kd.R_lt (by (with_reducible repeat (first | apply Kd.R_alloc | apply Kd.R_drewN | apply Kd.R_drew)); exact HO798.out)) k_ hk_), (Kd.fresh' (Kd.R_lt (by (with_reducible repeat (first | apply Kd.R_alloc | apply Kd.R_drewN | apply Kd.R_drew)); exact HO801.out)) k_ hk_)⟩)) (below_size (by repeat (first | (with_reducible first | exact HB.out | apply below_alloc | apply pw_below_drewN | apply below_drew1) | exact HB.out)))); have n4_ := Aside0.mk (below_step (by repeat (first | (with_reducible first | exact HB.out | apply below_alloc | apply pw_below_drewN | apply below_drew1) | exact HB.out)) hb); clear HO795; clear HO798; clear HO801; clear HB; have HO795 := n0_; have HO798 := n1_; have HO801 := n2_; have HO805 := n3_; have HB := n4_; clear n0_ n1_ n2_ n3_ n4_; (try clear hb); (try clear hb2); (try clear hk); (try clear hi); (try clear ho0); obtain ⟨Ao58, co58, eo58⟩ := Kd.V_slice HO805.out; subst eo58) | (go_at_call 20; (with_reducible refine (tapestrierlaw4_Of.calls kj36 _ _ t803 t806 _ ?side1 ?side2 ?side3 A48.out).mono ?_); (case side1 => repeat (first | exact (Kd.V_reads' HO805.out).2.2 | (with_reducible refine Kd.C_alloc ?_ _) | (with_reducible refine Kd.C_drewN ?_ _) | (with_reducible refine Kd.C_drew ?_))); (case side2 => exact (Kd.V_reads' HO805.out).2.1); (case side3 => exact TabsIn.below HT.out (by repeat (first | (with_reducible first | exact HB.out | apply below_alloc | apply pw_below_drewN | apply below_drew1) | exact HB.out))); rintro e w59 ⟨v807, rfl, ho0, hb⟩; have n0_ := Aside0.mk (Kd.V_elder' (by (with_reducible repeat (first | apply Kd.V_alloc | apply Kd.V_drewN | apply Kd.V_drew)); exact HO795.out) (Kd.R_base ho0) hb); have n1_ := Aside0.mk (Kd.R_elder' (by (with_reducible repeat (first | apply Kd.R_alloc | apply Kd.R_drewN | apply Kd.R_drew)); exact HO798.out) (Kd.R_base ho0) hb); have n2_ := Aside0.mk (Kd.R_elder' (by (with_reducible repeat (first | apply Kd.R_alloc | apply Kd.R_drewN | apply Kd.R_drew)); exact HO801.out) (Kd.R_base ho0) hb); have n3_ := Aside0.mk (Kd.V_elder' (by (with_reducible repeat (first | apply Kd.V_alloc | apply Kd.V_drewN | apply Kd.V_drew)); exact HO805.out) (Kd.R_base ho0) hb); have n4_ := Aside0.mk (Kd.R_lower (Kd.R_new' (Kd.R_new' ho0 (Kd.R_lt (by (with_reducible repeat (first | apply Kd.R_alloc | apply Kd.R_drewN | apply Kd.R_drew)); exact HO798.out))) (Kd.R_lt (by (with_reducible repeat (first | apply Kd.R_alloc | apply Kd.R_drewN | apply Kd.R_drew)); exact HO801.out))) (below_size (by repeat (first | (with_reducible first | exact HB.out | apply below_alloc | apply pw_below_drewN | apply below_drew1) | exact HB.out)))); have n5_ := Aside0.mk (below_step (by repeat (first | (with_reducible first | exact HB.out | apply below_alloc | apply pw_below_drewN | apply below_drew1) | exact HB.out)) hb); clear HO795; clear HO798; clear HO801; clear HO805; clear HB; have HO795 := n0_; have HO798 := n1_; have HO801 := n2_; have HO805 := n3_; have HO808 := n4_; have HB := n5_; clear n0_ n1_ n2_ n3_ n4_ n5_; (try clear hb); (try clear hb2); (try clear hk); (try clear hi); (try clear ho0)) | ((with_reducible refine gate_dst (N := 93) rfl ?_); (try (refine gate_guard (by rfl) ?_; dsimp only)); refine Kd.R_lit k31 _ 31 ?hg (N := 93) ?hd (xs := ([(⟨4, (strOfNums t790) ++ x11_36, 0, false, 0⟩ : S31)] : List (S31))) (inner := [.int .i64 4, .string ((strOfNums t790) ++ x11_36), .int .i64 0, .bool false, .int .i64 0]) (ok := fun _ => True) (okp := fun _ => True) ?hr ?hp (fun _ hk => hk) trivial (Below.refl _ _) (Nat.le_refl _) (by simp) ?_; (case hd => rfl); (case hg => rfl); (case hr => first | (go_simp; done) | (go_simp; rfl)); (case hp => exact (Reps.c5 (show Kd.M k31 _ _ _ (⟨4, (strOfNums t790) ++ x11_36, 0, false, 0⟩ : S31) [.int .i64 4, .string ((strOfNums t790) ++ x11_36), .int .i64 0, .bool false, .int .i64 0] from (k31_mkM _ _ _ (⟨4, (strOfNums t790) ++ x11_36, 0, false, 0⟩ : S31) )) (Reps.none _ _))); intro v810 w60 ho61 hb hg_ hnew_; clear hg_ hnew_; (first | rw [← Ny809.out] at ho61 | (simp only [Int.reduceToNat] at ho61; rw [← Ny809.out] at ho61)); have n0_ := Aside0.mk (Kd.V_elder' (by (with_reducible repeat (first | apply Kd.V_alloc | apply Kd.V_drewN | apply Kd.V_drew)); exact HO795.out) (Kd.R_base ho61) hb); have n1_ := Aside0.mk (Kd.R_elder' (by (with_reducible repeat (first | apply Kd.R_alloc | apply Kd.R_drewN | apply Kd.R_drew)); exact HO798.out) (Kd.R_base ho61) hb); have n2_ := Aside0.mk (Kd.R_elder' (by (with_reducible repeat (first | apply Kd.R_alloc | apply Kd.R_drewN | apply Kd.R_drew)); exact HO801.out) (Kd.R_base ho61) hb); have n3_ := Aside0.mk (Kd.V_elder' (by (with_reducible repeat (first | apply Kd.V_alloc | apply Kd.V_drewN | apply Kd.V_drew)); exact HO805.out) (Kd.R_base ho61) hb); have n4_ := Aside0.mk (Kd.R_elder' (by (with_reducible repeat (first | apply Kd.R_alloc | apply Kd.R_drewN | apply Kd.R_drew)); exact HO808.out) (Kd.R_base ho61) hb); have n5_ := Aside0.mk (Kd.R_lower (Kd.R_new' (Kd.R_new' (Kd.R_new' ho61 (Kd.R_lt (by (with_reducible repeat (first | apply Kd.R_alloc | apply Kd.R_drewN | apply Kd.R_drew)); exact HO798.out))) (Kd.R_lt (by (with_reducible repeat (first | apply Kd.R_alloc | apply Kd.R_drewN | apply Kd.R_drew)); exact HO801.out))) (Kd.R_lt (by (with_reducible repeat (first | apply Kd.R_alloc | apply Kd.R_drewN | apply Kd.R_drew)); exact HO808.out))) (below_size (by repeat (first | (with_reducible first | exact HB.out | apply below_alloc | apply pw_below_drewN | apply below_drew1) | exact HB.out)))); have n6_ := Aside0.mk (below_step (by repeat (first | (with_reducible first | exact HB.out | apply below_alloc | apply pw_below_drewN | apply below_drew1) | exact HB.out)) hb); clear HO795; clear HO798; clear HO801; clear HO805; clear HO808; clear HB; have HO795 := n0_; have HO798 := n1_; have HO801 := n2_; have HO805 := n3_; have HO808 := n4_; have HO811 := n5_; have HB := n6_; clear n0_ n1_ n2_ n3_ n4_ n5_ n6_; clear hb ho61; obtain ⟨Ao62, co62, eo62⟩ := Kd.R_slice HO808.out; subst eo62; obtain ⟨Ao63, co63, eo63⟩ := Kd.R_slice HO811.out; subst eo63) | (go_at_call 19; (with_reducible refine (tapestrierref1_SameTokens.calls kj36 _ _ t806 _ _ y809 t812 _ ?side1 ?side2 ?side3 ?side4 A49.out).mono ?_); (case side1 => repeat (first | exact (Kd.R_reads' HO808.out).2.2 | (with_reducible refine Kd.C_alloc ?_ _) | (with_reducible refine Kd.C_drewN ?_ _) | (with_reducible refine Kd.C_drew ?_))); (case side2 => exact (Kd.R_reads' HO808.out).2.1); (case side3 => repeat (first | exact (Kd.R_reads' HO811.out).2.2 | (with_reducible refine Kd.C_alloc ?_ _) | (with_reducible refine Kd.C_drewN ?_ _) | (with_reducible refine Kd.C_drew ?_))); (case side4 => exact (Kd.R_reads' HO811.out).2.1); rintro e w' ⟨rfl, ⟨nd, rfl⟩⟩))
                                              go_ret
                                              exact ⟨by first | rfl | (simp [errW_none, errW_some] <;> rfl) | (simp [*, errW_none, errW_some] <;> rfl), by repeat (first | (with_reducible first | exact HB.out | apply below_alloc | apply pw_below_drewN | apply below_drew1) | exact HB.out)⟩
                                            · rw [if_neg c46] at H
                                              exact absurd H (by simp)
                                          · rw [if_neg c45] at H
                                            exact absurd H (by simp)
                                        · replace c44 := Bool.eq_false_iff.mpr c44
                                          subst c44
                                          have H1 : (some false) = some r := by rw [if_neg (show ¬ (false = true) by decide)] at H; exact H
                                          clear H
                                          have H := H1
                                          clear H1
                                          obtain rfl := Option.some.inj H
                                          go_wp2_with (first | ((with_reducible refine gate_dst (N := 75) rfl ?_); (try (refine gate_guard (by rfl) ?_; dsimp only)); (try (refine gate_guard (by rfl) ?_; dsimp only)); refine conv_goes ?hg (N := 75) ?hd (src := 9) (dst := 25) (e := 5) (s := x10_36) (x := ?xo14) ?ho Tryd.underlying9 Tryd.underlying25 Tryd.underlying5 ?hx ?_; (case hd => rfl); (case hg => rfl); (case ho => rfl); (case hx => first | rfl | (go_simp; done) | (go_simp; rfl)); (with_reducible refine (bytesConv5.calls x10_36 t793 _ A40.out).mono ?_); rintro e w64 ⟨v794, rfl, ho0, hb⟩; refine ⟨_, rfl, ?_⟩; have n0_ := Aside0.mk (Kd.V_lower (Kd.V_mono (ok' := fun k_ => True) ho0 (fun k_ hk_ => trivial)) (below_size (by repeat (first | (with_reducible first | exact HB.out | apply below_alloc | apply pw_below_drewN | apply below_drew1) | exact HB.out)))); have n1_ := Aside0.mk (below_step (by repeat (first | (with_reducible first | exact HB.out | apply below_alloc | apply pw_below_drewN | apply below_drew1) | exact HB.out)) hb); clear HB; have HO795 := n0_; have HB := n1_; clear n0_ n1_; (try clear hb); (try clear hb2); (try clear hk); (try clear hi); (try clear ho0); obtain ⟨Ao65, co65, eo65⟩ := Kd.V_slice HO795.out; subst eo65) | ((with_reducible refine gate_callee (f := 20) rfl ?_); refine goesL_ (some 76) rfl rfl Tryd.func20 (by kernel_rfl) rfl #[.slice Ao65 t793.length co65] rfl (by (try simp only [List.map_toArray, List.map_cons, List.map_nil]); first | done | rfl | (simp only [List.length_drop, List.length_take]; rfl)) ?_; (with_reducible refine (tapestrierlaw4_Of.calls kj36 _ _ t793 t796 _ ?side1 ?side2 ?side3 A41.out).mono ?_); (case side1 => repeat (first | exact (Kd.V_reads' HO795.out).2.2 | (with_reducible refine Kd.C_alloc ?_ _) | (with_reducible refine Kd.C_drewN ?_ _) | (with_reducible refine Kd.C_drew ?_))); (case side2 => exact (Kd.V_reads' HO795.out).2.1); (case side3 => exact TabsIn.below HT.out (by repeat (first | (with_reducible first | exact HB.out | apply below_alloc | apply pw_below_drewN | apply below_drew1) | exact HB.out))); rintro e w66 ⟨v797, rfl, ho0, hb⟩; refine ⟨_, rfl, ?_⟩; have n0_ := Aside0.mk (Kd.V_elder' (by (with_reducible repeat (first | apply Kd.V_alloc | apply Kd.V_drewN | apply Kd.V_drew)); exact HO795.out) (Kd.R_base ho0) hb); have n1_ := Aside0.mk (Kd.R_lower ho0 (below_size (by repeat (first | (with_reducible first | exact HB.out | apply below_alloc | apply pw_below_drewN | apply below_drew1) | exact HB.out)))); have n2_ := Aside0.mk (below_step (by repeat (first | (with_reducible first | exact HB.out | apply below_alloc | apply pw_below_drewN | apply below_drew1) | exact HB.out)) hb); clear HO795; clear HB; have HO795 := n0_; have HO798 := n1_; have HB := n2_; clear n0_ n1_ n2_; (try clear hb); (try clear hb2); (try clear hk); (try clear hi); (try clear ho0)) | ((with_reducible refine gate_dst (N := 81) rfl ?_); (try (refine gate_guard (by rfl) ?_; dsimp only)); refine Kd.R_lit k31 _ 31 ?hg (N := 81) ?hd (xs := ([(⟨1, (strOfNums t790) ++ x11_36, 0, false, 0⟩ : S31)] : List (S31))) (inner := [.int .i64 1, .string ((strOfNums t790) ++ x11_36), .int .i64 0, .bool false, .int .i64 0]) (ok := fun _ => True) (okp := fun _ => True) ?hr ?hp (fun _ hk => hk) trivial (Below.refl _ _) (Nat.le_refl _) (by simp) ?_; (case hd => rfl); (case hg => rfl); (case hr => first | (go_simp; done) | (go_simp; rfl)); (case hp => exact (Reps.c5 (show Kd.M k31 _ _ _ (⟨1, (strOfNums t790) ++ x11_36, 0, false, 0⟩ : S31) [.int .i64 1, .string ((strOfNums t790) ++ x11_36), .int .i64 0, .bool false, .int .i64 0] from (k31_mkM _ _ _ (⟨1, (strOfNums t790) ++ x11_36, 0, false, 0⟩ : S31) )) (Reps.none _ _))); intro v800 w67 ho68 hb hg_ hnew_; clear hg_ hnew_; (first | rw [← Ny799.out] at ho68 | (simp only [Int.reduceToNat] at ho68; rw [← Ny799.out] at ho68)); have n0_ := Aside0.mk (Kd.V_elder' (by (with_reducible repeat (first | apply Kd.V_alloc | apply Kd.V_drewN | apply Kd.V_drew)); exact HO795.out) (Kd.R_base ho68) hb); have n1_ := Aside0.mk (Kd.R_elder' (by (with_reducible repeat (first | apply Kd.R_alloc | apply Kd.R_drewN | apply Kd.R_drew)); exact HO798.out) (Kd.R_base ho68) hb); have n2_ := Aside0.mk (Kd.R_lower (Kd.R_new' ho68 (Kd.R_lt (by (with_reducible repeat (first | apply Kd.R_alloc | apply Kd.R_drewN | apply Kd.R_drew)); exact HO798.out))) (below_size (by repeat (first | (with_reducible first | exact HB.out | apply below_alloc | apply pw_below_drewN | apply below_drew1) | exact HB.out)))); have n3_ := Aside0.mk (below_step (by repeat (first | (with_reducible first | exact HB.out | apply below_alloc | apply pw_below_drewN | apply below_drew1) | exact HB.out)) hb); clear HO795; clear HO798; clear HB; have HO795 := n0_; have HO798 := n1_; have HO801 := n2_; have HB := n3_; clear n0_ n1_ n2_ n3_; clear hb ho68; obtain ⟨Ao69, co69, eo69⟩ := Kd.R_slice HO798.out; subst eo69; obtain ⟨Ao70, co70, eo70⟩ := Kd.R_slice HO801.out; subst eo70) | ((with_reducible refine gate_callee (f := 19) rfl ?_); refine goesL_ (some 82) rfl rfl Tryd.func19 (by kernel_rfl) rfl #[.slice Ao69 t796.length co69, .slice Ao70 y799.length co70] rfl (by (try simp only [List.map_toArray, List.map_cons, List.map_nil]); first | done | rfl | (simp only [List.length_drop, List.length_take]; rfl)) ?_; (with_reducible refine (tapestrierref1_SameTokens.calls kj36 _ _ t796 _ _ y799 false _ ?side1 ?side2 ?side3 ?side4 A43.out).mono ?_); (case side1 => repeat (first | exact (Kd.R_reads' HO798.out).2.2 | (with_reducible refine Kd.C_alloc ?_ _) | (with_reducible refine Kd.C_drewN ?_ _) | (with_reducible refine Kd.C_drew ?_))); (case side2 => exact (Kd.R_reads' HO798.out).2.1); (case side3 => repeat (first | exact (Kd.R_reads' HO801.out).2.2 | (with_reducible refine Kd.C_alloc ?_ _) | (with_reducible refine Kd.C_drewN ?_ _) | (with_reducible refine Kd.C_drew ?_))); (case side4 => exact (Kd.R_reads' HO801.out).2.1); rintro e w' ⟨rfl, ⟨nd, rfl⟩⟩; refine ⟨_, rfl, ?_⟩))
                                          go_ret
                                          exact ⟨by first | rfl | (simp [errW_none, errW_some] <;> rfl) | (simp [*, errW_none, errW_some] <;> rfl), by repeat (first | (with_reducible first | exact HB.out | apply below_alloc | apply pw_below_drewN | apply below_drew1) | exact HB.out)⟩
                                      · rw [if_neg c42] at H
                                        exact absurd H (by simp)
                        · rw [if_neg c26] at H
                          exact absurd H (by simp)
def tapestrierlaw4_TokEscapes.Pure : Prop := ∀ (a0 : Int) (a1 : Bool), (Lit.int .i64 a0).wf = true → ∃ k, tapestrierlaw4_TokEscapes.f k a0 a1 = some true
theorem tapestrierlaw4_TokEscapes.walk (P : tapestrierlaw4_TokEscapes.Pure) (a0 : Int) (a1 : Bool) (w : World) (w0 : (Lit.int .i64 a0).wf = true) (hT : TabsIn w) :
    Calls Tryd.prog 8 #[.int .i64 a0, .bool a1] w fun e w' => e = .returned (.bool true) ∧ Below w.heap.size w w' := by
  obtain ⟨k, h⟩ := P a0 a1 w0
  refine (tapestrierlaw4_TokEscapes.calls k a0 a1 true w hT h).mono ?_
  rintro e w' ⟨rfl, hd⟩
  exact ⟨rfl, hd⟩
end Go.Proofs.YtplkkmmojanclaaDoor.Q
