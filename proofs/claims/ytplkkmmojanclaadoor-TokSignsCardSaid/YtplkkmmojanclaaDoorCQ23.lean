/- Part of the proof; printed or typed in this session; unused declarations and remarks struck by a program (wip/prune.py). -/
import Derived.Test.YtplkkmmojanclaaDoorCQ0
import Derived.Test.YtplkkmmojanclaaDoorCQ1
import Derived.Test.YtplkkmmojanclaaDoorCQ16
import Derived.Test.YtplkkmmojanclaaDoorCQ17
import Derived.Test.YtplkkmmojanclaaDoorCConst
namespace Go.Proofs.YtplkkmmojanclaaDoor.Q
open Go.RowKit Go.Proofs.YtplkkmmojanclaaDoor.My Go.Proofs.YtplkkmmojanclaaDoorW.PrintWords Go.Proofs.YtplkkmmojanclaaDoorW.PrintLast Go.Proofs.YtplkkmmojanclaaDoorW.PrintMore
attribute [local go_sem] max2_int min2_int max_two min_two max_three min_three max_four min_four
set_option linter.unusedVariables false
set_option linter.unusedSimpArgs false
attribute [local go_sem high] eqA31
def tapestrierlaw4_TokSigns.l0 : Nat → Int → Bool → List (S31) → List Int → List Int → Int → Option (Bool)
  | 0, _, _, _, _, _, _ => none
  | k + 1, x0, x3, x4, x5, x6, x7 => if x7 < (x5.length : Int) then (if 0 ≤ x7 then (if (rd x5 x7) = x0 then (if x3 = true then (if (x4.length : Int) = 1 then (if 0 < (x4.length : Int) then (if x7 < (x6.length : Int) then (some (((rd_T31 x4 0).f0) == (rd x6 x7) && ((((rd_T31 x4 0).f1).toList) == ([] : List UInt8) && (((rd_T31 x4 0).f2) == 0 && (!((rd_T31 x4 0).f3) && (((rd_T31 x4 0).f4) == 0)))))) else (none)) else (none)) else (some false)) else (some false)) else (tapestrierlaw4_TokSigns.l0 k x0 x3 x4 x5 x6 (wrap64 (x7 + 1)))) else (none)) else (if x0 > 32 then (if x0 < 127 then (if x0 = 34 then (if x3 = true then (some (decide ((x4.length : Int) ≤ 1))) else (some false)) else (if x0 = 39 then (if x3 = true then (some (decide ((x4.length : Int) ≤ 1))) else (some false)) else (if x0 = 95 then (if x3 = true then (some (decide ((x4.length : Int) ≤ 1))) else (some false)) else (if x0 ≥ 48 then (if x0 ≤ 57 then (if x3 = true then (some (decide ((x4.length : Int) ≤ 1))) else (some false)) else (if x0 ≥ 97 then (if x0 ≤ 122 then (if x3 = true then (some (decide ((x4.length : Int) ≤ 1))) else (some false)) else (if x0 ≥ 65 then (if x0 ≤ 90 then (if x3 = true then (some (decide ((x4.length : Int) ≤ 1))) else (some false)) else (if x3 = true then (if (x4.length : Int) = 1 then (if 0 < (x4.length : Int) then (some (((rd_T31 x4 0).f0) == 10 && ((((rd_T31 x4 0).f1).toList) == ([] : List UInt8) && (((rd_T31 x4 0).f2) == 0 && (!((rd_T31 x4 0).f3) && (((rd_T31 x4 0).f4) == (wrap64 (x0)))))))) else (none)) else (some false)) else (some false))) else (if x3 = true then (if (x4.length : Int) = 1 then (if 0 < (x4.length : Int) then (some (((rd_T31 x4 0).f0) == 10 && ((((rd_T31 x4 0).f1).toList) == ([] : List UInt8) && (((rd_T31 x4 0).f2) == 0 && (!((rd_T31 x4 0).f3) && (((rd_T31 x4 0).f4) == (wrap64 (x0)))))))) else (none)) else (some false)) else (some false)))) else (if x0 ≥ 65 then (if x0 ≤ 90 then (if x3 = true then (some (decide ((x4.length : Int) ≤ 1))) else (some false)) else (if x3 = true then (if (x4.length : Int) = 1 then (if 0 < (x4.length : Int) then (some (((rd_T31 x4 0).f0) == 10 && ((((rd_T31 x4 0).f1).toList) == ([] : List UInt8) && (((rd_T31 x4 0).f2) == 0 && (!((rd_T31 x4 0).f3) && (((rd_T31 x4 0).f4) == (wrap64 (x0)))))))) else (none)) else (some false)) else (some false))) else (if x3 = true then (if (x4.length : Int) = 1 then (if 0 < (x4.length : Int) then (some (((rd_T31 x4 0).f0) == 10 && ((((rd_T31 x4 0).f1).toList) == ([] : List UInt8) && (((rd_T31 x4 0).f2) == 0 && (!((rd_T31 x4 0).f3) && (((rd_T31 x4 0).f4) == (wrap64 (x0)))))))) else (none)) else (some false)) else (some false))))) else (if x0 ≥ 97 then (if x0 ≤ 122 then (if x3 = true then (some (decide ((x4.length : Int) ≤ 1))) else (some false)) else (if x0 ≥ 65 then (if x0 ≤ 90 then (if x3 = true then (some (decide ((x4.length : Int) ≤ 1))) else (some false)) else (if x3 = true then (if (x4.length : Int) = 1 then (if 0 < (x4.length : Int) then (some (((rd_T31 x4 0).f0) == 10 && ((((rd_T31 x4 0).f1).toList) == ([] : List UInt8) && (((rd_T31 x4 0).f2) == 0 && (!((rd_T31 x4 0).f3) && (((rd_T31 x4 0).f4) == (wrap64 (x0)))))))) else (none)) else (some false)) else (some false))) else (if x3 = true then (if (x4.length : Int) = 1 then (if 0 < (x4.length : Int) then (some (((rd_T31 x4 0).f0) == 10 && ((((rd_T31 x4 0).f1).toList) == ([] : List UInt8) && (((rd_T31 x4 0).f2) == 0 && (!((rd_T31 x4 0).f3) && (((rd_T31 x4 0).f4) == (wrap64 (x0)))))))) else (none)) else (some false)) else (some false)))) else (if x0 ≥ 65 then (if x0 ≤ 90 then (if x3 = true then (some (decide ((x4.length : Int) ≤ 1))) else (some false)) else (if x3 = true then (if (x4.length : Int) = 1 then (if 0 < (x4.length : Int) then (some (((rd_T31 x4 0).f0) == 10 && ((((rd_T31 x4 0).f1).toList) == ([] : List UInt8) && (((rd_T31 x4 0).f2) == 0 && (!((rd_T31 x4 0).f3) && (((rd_T31 x4 0).f4) == (wrap64 (x0)))))))) else (none)) else (some false)) else (some false))) else (if x3 = true then (if (x4.length : Int) = 1 then (if 0 < (x4.length : Int) then (some (((rd_T31 x4 0).f0) == 10 && ((((rd_T31 x4 0).f1).toList) == ([] : List UInt8) && (((rd_T31 x4 0).f2) == 0 && (!((rd_T31 x4 0).f3) && (((rd_T31 x4 0).f4) == (wrap64 (x0)))))))) else (none)) else (some false)) else (some false)))))))) else (if x3 = true then (some (decide ((x4.length : Int) ≤ 1))) else (some false))) else (if x3 = true then (some (decide ((x4.length : Int) ≤ 1))) else (some false)))
def tapestrierlaw4_TokSigns.f (k : Nat) (a0 : Int) : Option (Bool) := (tapestrierlaw4_alive.f k).bind fun t813 => ((tapestrierlaw4_Of.f k (([a0] : List Int))).bind fun t817 => ((constConv5.f (strOfNums [58, 59, 44, 123, 125, 40, 41, 91, 93])).bind fun t820 => (tapestrierlaw4_TokSigns.l0 k a0 t813 t817 t820 (([11, 12, 13, 14, 15, 16, 17, 18, 19] : List Int)) 0)))
theorem tapestrierlaw4_TokSigns.mono_l : ∀ k, (∀ y0 y1 y2 y3 y4 y5, LeO (tapestrierlaw4_TokSigns.l0 k y0 y1 y2 y3 y4 y5) (tapestrierlaw4_TokSigns.l0 (k + 1) y0 y1 y2 y3 y4 y5))
  | 0 => fun _ _ _ _ _ _ r h => by simp [tapestrierlaw4_TokSigns.l0] at h
  | k + 1 => by
    have ih0 := tapestrierlaw4_TokSigns.mono_l k
    · intro y0 y1 y2 y3 y4 y5
      unfold tapestrierlaw4_TokSigns.l0
      repeat' first
      | (with_reducible exact ih0 _ _ _ _ _ _)
      | (with_reducible exact tapestrierlaw4_Of.mono _ _)
      | (with_reducible exact tapestrierlaw4_alive.mono _)
      | (with_reducible exact LeO.refl _)
      | (with_reducible exact LeO.none _)
      | (with_reducible refine LeO.ite ?_ ?_)
      | (with_reducible refine LeO.bind ?_ (fun _ => ?_))
      | exact ih0 _ _ _ _ _ _
      | exact tapestrierlaw4_Of.mono _ _
      | exact tapestrierlaw4_alive.mono _
      | exact LeO.none _
      | refine LeO.ite ?_ ?_
      | refine LeO.bind ?_ (fun _ => ?_)
theorem tapestrierlaw4_TokSigns.mono : ∀ a0 k, LeO (tapestrierlaw4_TokSigns.f k a0) (tapestrierlaw4_TokSigns.f (k + 1) a0) := by
  intro a0 k
  have ih0 := tapestrierlaw4_TokSigns.mono_l k
  unfold tapestrierlaw4_TokSigns.f
  repeat' first
      | (with_reducible exact ih0 _ _ _ _ _ _)
      | (with_reducible exact tapestrierlaw4_Of.mono _ _)
      | (with_reducible exact tapestrierlaw4_alive.mono _)
      | (with_reducible exact LeO.refl _)
      | (with_reducible exact LeO.none _)
      | (with_reducible refine LeO.ite ?_ ?_)
      | (with_reducible refine LeO.bind ?_ (fun _ => ?_))
      | exact ih0 _ _ _ _ _ _
      | exact tapestrierlaw4_Of.mono _ _
      | exact tapestrierlaw4_alive.mono _
      | exact LeO.none _
      | refine LeO.ite ?_ ?_
      | refine LeO.bind ?_ (fun _ => ?_)
set_option maxHeartbeats 8000000 in
set_option maxRecDepth 100000 in
theorem tapestrierlaw4_TokSigns.calls (k : Nat) (a0 : Int) (r : Bool) (w : World) (hT : TabsIn w) (h : tapestrierlaw4_TokSigns.f k a0 = some r) :
    Calls Tryd.prog 9 #[.int .u8 a0] w fun e w' => e = .returned (.bool r) ∧ Below w.heap.size w w' := by
  have hu31 := Tryd.underlying31
  have HT := Aside0.mk hT
  clear hT
  have HB := Aside0.mk (Below.refl w.heap.size w)
  have H : ((tapestrierlaw4_alive.f k).bind fun t813 => ((tapestrierlaw4_Of.f k (([a0] : List Int))).bind fun t817 => ((constConv5.f (strOfNums [58, 59, 44, 123, 125, 40, 41, 91, 93])).bind fun t820 => (tapestrierlaw4_TokSigns.l0 k a0 t813 t817 t820 (([11, 12, 13, 14, 15, 16, 17, 18, 19] : List Int)) 0)))) = some r := h
  clear h
  replace H := Option.bind_eq_some_iff.mp H
  obtain ⟨t813, A20, H⟩ := H
  replace H : ((tapestrierlaw4_Of.f k (([a0] : List Int))).bind fun t817 => ((constConv5.f (strOfNums [58, 59, 44, 123, 125, 40, 41, 91, 93])).bind fun t820 => (tapestrierlaw4_TokSigns.l0 k a0 t813 t817 t820 (([11, 12, 13, 14, 15, 16, 17, 18, 19] : List Int)) 0))) = some r := H
  have A2 := Aside0.mk A20
  clear A20
  obtain ⟨y814, hy814⟩ : ∃ y_ : List Int, y_ = (([a0] : List Int)) := ⟨_, rfl⟩
  replace H : ((tapestrierlaw4_Of.f k y814).bind fun t817 => ((constConv5.f (strOfNums [58, 59, 44, 123, 125, 40, 41, 91, 93])).bind fun t820 => (tapestrierlaw4_TokSigns.l0 k a0 t813 t817 t820 (([11, 12, 13, 14, 15, 16, 17, 18, 19] : List Int)) 0))) = some r := by first | (rw [hy814]; with_reducible exact H) | (have H2_ := (Option.bind_some _ _).symm.trans H; rw [hy814]; with_reducible exact H2_) | (have H2_ := (Option.bind_some _ _).symm.trans H; with_reducible exact H2_) | with_reducible exact H | (rw [hy814]; exact H) | exact H
  have Ny814 := Aside0.mk hy814
  clear hy814
  replace H := Option.bind_eq_some_iff.mp H
  obtain ⟨t817, A30, H⟩ := H
  replace H : ((constConv5.f (strOfNums [58, 59, 44, 123, 125, 40, 41, 91, 93])).bind fun t820 => (tapestrierlaw4_TokSigns.l0 k a0 t813 t817 t820 (([11, 12, 13, 14, 15, 16, 17, 18, 19] : List Int)) 0)) = some r := H
  have A3 := Aside0.mk A30
  clear A30
  replace H := Option.bind_eq_some_iff.mp H
  obtain ⟨t820, A40, H⟩ := H
  replace H : (tapestrierlaw4_TokSigns.l0 k a0 t813 t817 t820 (([11, 12, 13, 14, 15, 16, 17, 18, 19] : List Int)) 0) = some r := H
  have A4 := Aside0.mk A40
  clear A40
  obtain ⟨y823, hy823⟩ : ∃ y_ : List Int, y_ = (([11, 12, 13, 14, 15, 16, 17, 18, 19] : List Int)) := ⟨_, rfl⟩
  replace H : (tapestrierlaw4_TokSigns.l0 k a0 t813 t817 t820 y823 0) = some r := by first | (rw [hy823]; with_reducible exact H) | (have H2_ := (Option.bind_some _ _).symm.trans H; rw [hy823]; with_reducible exact H2_) | (have H2_ := (Option.bind_some _ _).symm.trans H; with_reducible exact H2_) | with_reducible exact H | (rw [hy823]; exact H) | exact H
  have Ny823 := Aside0.mk hy823
  clear hy823
  have H' := Aside0.mk H
  clear H
  go_enter Tryd.func9, Tryd.ntmps9
  go_wp2_with (first | (go_at_call 17; (with_reducible refine (tapestrierlaw4_alive.calls k  t813 _ ?side1 A2.out).mono ?_); (case side1 => exact TabsIn.below HT.out (by repeat (first | (with_reducible first | exact HB.out | apply below_alloc | apply pw_below_drewN | apply below_drew1) | exact HB.out))); rintro e w5 ⟨rfl, hb⟩; have n0_ := Aside0.mk (below_step (by repeat (first | (with_reducible first | exact HB.out | apply below_alloc | apply pw_below_drewN | apply below_drew1) | exact HB.out)) hb); clear HB; have HB := n0_; clear n0_; (try clear hb); (try clear hb2); (try clear hk); (try clear hi)) | ((with_reducible refine gate_dst (N := 10) rfl ?_); (try (refine gate_guard (by rfl) ?_; dsimp only)); refine Kd.R_lit (Kd.int .u8) _ 5 ?hg (N := 10) ?hd (xs := ([a0] : List Int)) (inner := [.int .u8 a0]) (ok := fun _ => True) (okp := fun _ => True) ?hr ?hp (fun _ hk => hk) trivial (Below.refl _ _) (Nat.le_refl _) (by simp) ?_; (case hd => rfl); (case hg => rfl); (case hr => first | (go_simp; done) | (go_simp; rfl)); (case hp => exact (Reps.one (show Kd.M (Kd.int .u8) _ _ _ a0 [.int .u8 a0] from rfl) (Reps.none _ _))); intro v815 w6 ho7 hb hg_ hnew_; clear hg_ hnew_; (first | rw [← Ny814.out] at ho7 | (simp only [Int.reduceToNat] at ho7; rw [← Ny814.out] at ho7)); have n0_ := Aside0.mk (Kd.R_lower ho7 (below_size (by repeat (first | (with_reducible first | exact HB.out | apply below_alloc | apply pw_below_drewN | apply below_drew1) | exact HB.out)))); have n1_ := Aside0.mk (below_step (by repeat (first | (with_reducible first | exact HB.out | apply below_alloc | apply pw_below_drewN | apply below_drew1) | exact HB.out)) hb); clear HB; have HO816 := n0_; have HB := n1_; clear n0_ n1_; clear hb ho7; obtain ⟨Ao8, co8, eo8⟩ := Kd.R_slice HO816.out; subst eo8) | (go_at_call 20; (with_reducible refine (tapestrierlaw4_Of.calls k _ _ y814 t817 _ ?side1 ?side2 ?side3 A3.out).mono ?_); (case side1 => repeat (first | exact (Kd.R_reads' HO816.out).2.2 | (with_reducible refine Kd.C_alloc ?_ _) | (with_reducible refine Kd.C_drewN ?_ _) | (with_reducible refine Kd.C_drew ?_))); (case side2 => exact (Kd.R_reads' HO816.out).2.1); (case side3 => exact TabsIn.below HT.out (by repeat (first | (with_reducible first | exact HB.out | apply below_alloc | apply pw_below_drewN | apply below_drew1) | exact HB.out))); rintro e w9 ⟨v818, rfl, ho0, hb⟩; have n0_ := Aside0.mk (Kd.R_below (by (with_reducible repeat (first | apply Kd.R_alloc | apply Kd.R_drewN | apply Kd.R_drew)); exact HO816.out) hb); have n1_ := Aside0.mk (Kd.R_lower ho0 (below_size (by repeat (first | (with_reducible first | exact HB.out | apply below_alloc | apply pw_below_drewN | apply below_drew1) | exact HB.out)))); have n2_ := Aside0.mk (below_step (by repeat (first | (with_reducible first | exact HB.out | apply below_alloc | apply pw_below_drewN | apply below_drew1) | exact HB.out)) hb); clear HO816; clear HB; have HO816 := n0_; have HO819 := n1_; have HB := n2_; clear n0_ n1_ n2_; (try clear hb); (try clear hb2); (try clear hk); (try clear hi); (try clear ho0)) | ((with_reducible refine gate_dst (N := 13) rfl ?_); (try (refine gate_guard (by rfl) ?_; dsimp only)); (try (refine gate_guard (by rfl) ?_; dsimp only)); refine const_goes ?hg (N := 13) ?hd (t := 25) (e := 5) (s := (strOfNums [58, 59, 44, 123, 125, 40, 41, 91, 93])) (x := ?xo) (C := ?cc) (n := ?nn) (c := ?kk) (W := ?ww) ?ho Tryd.underlying25 Tryd.underlying5 ?hC ?hn ?hc ?hx ?hW ?_; (case hd => rfl); (case hg => rfl); (case ho => rfl); (case hW => rfl); (case hx => first | rfl | (go_simp; done) | (go_simp; rfl)); (case hn => rfl); (case hc => rfl); (case hC => rfl); (with_reducible refine (constConv5.calls (strOfNums [58, 59, 44, 123, 125, 40, 41, 91, 93]) t820 _ A4.out).mono ?_); rintro e w10 ⟨v821, rfl, ho0, hb⟩; refine ⟨_, rfl, ?_⟩; have n0_ := Aside0.mk (Kd.R_below (by (with_reducible repeat (first | apply Kd.R_alloc | apply Kd.R_drewN | apply Kd.R_drew)); exact HO816.out) hb); have n1_ := Aside0.mk (Kd.R_below (by (with_reducible repeat (first | apply Kd.R_alloc | apply Kd.R_drewN | apply Kd.R_drew)); exact HO819.out) hb); have n2_ := Aside0.mk (Kd.V_lower (Kd.V_mono (ok' := fun k_ => some k_ ≠ (.slice Ao8 y814.length co8 : Value).ownBlock ∧ some k_ ≠ (v818 : Value).ownBlock) ho0 (fun k_ hk_ => ⟨(Kd.fresh' (Kd.R_lt (by (with_reducible repeat (first | apply Kd.R_alloc | apply Kd.R_drewN | apply Kd.R_drew)); exact HO816.out)) k_ hk_), (Kd.fresh' (Kd.R_lt (by (with_reducible repeat (first | apply Kd.R_alloc | apply Kd.R_drewN | apply Kd.R_drew)); exact HO819.out)) k_ hk_)⟩)) (below_size (by repeat (first | (with_reducible first | exact HB.out | apply below_alloc | apply pw_below_drewN | apply below_drew1) | exact HB.out)))); have n3_ := Aside0.mk (below_step (by repeat (first | (with_reducible first | exact HB.out | apply below_alloc | apply pw_below_drewN | apply below_drew1) | exact HB.out)) hb); clear HO816; clear HO819; clear HB; have HO816 := n0_; have HO819 := n1_; have HO822 := n2_; have HB := n3_; clear n0_ n1_ n2_ n3_; (try clear hb); (try clear hb2); (try clear hk); (try clear hi); (try clear ho0)) | ((with_reducible refine gate_dst (N := 14) rfl ?_); (try (refine gate_guard (by rfl) ?_; dsimp only)); refine Kd.R_lit (Kd.int .i64) _ 3 ?hg (N := 14) ?hd (xs := ([11, 12, 13, 14, 15, 16, 17, 18, 19] : List Int)) (inner := [.int .i64 11, .int .i64 12, .int .i64 13, .int .i64 14, .int .i64 15, .int .i64 16, .int .i64 17, .int .i64 18, .int .i64 19]) (ok := fun _ => True) (okp := fun _ => True) ?hr ?hp (fun _ hk => hk) trivial (Below.refl _ _) (Nat.le_refl _) (by simp) ?_; (case hd => rfl); (case hg => rfl); (case hr => first | (go_simp; done) | (go_simp; rfl)); (case hp => exact (Reps.one (show Kd.M (Kd.int .i64) _ _ _ 11 [.int .i64 11] from rfl) (Reps.one (show Kd.M (Kd.int .i64) _ _ _ 12 [.int .i64 12] from rfl) (Reps.one (show Kd.M (Kd.int .i64) _ _ _ 13 [.int .i64 13] from rfl) (Reps.one (show Kd.M (Kd.int .i64) _ _ _ 14 [.int .i64 14] from rfl) (Reps.one (show Kd.M (Kd.int .i64) _ _ _ 15 [.int .i64 15] from rfl) (Reps.one (show Kd.M (Kd.int .i64) _ _ _ 16 [.int .i64 16] from rfl) (Reps.one (show Kd.M (Kd.int .i64) _ _ _ 17 [.int .i64 17] from rfl) (Reps.one (show Kd.M (Kd.int .i64) _ _ _ 18 [.int .i64 18] from rfl) (Reps.one (show Kd.M (Kd.int .i64) _ _ _ 19 [.int .i64 19] from rfl) (Reps.none _ _))))))))))); intro v824 w11 ho12 hb hg_ hnew_; clear hg_ hnew_; (first | rw [← Ny823.out] at ho12 | (simp only [Int.reduceToNat] at ho12; rw [← Ny823.out] at ho12)); have n0_ := Aside0.mk (Kd.R_below (by (with_reducible repeat (first | apply Kd.R_alloc | apply Kd.R_drewN | apply Kd.R_drew)); exact HO816.out) hb); have n1_ := Aside0.mk (Kd.R_below (by (with_reducible repeat (first | apply Kd.R_alloc | apply Kd.R_drewN | apply Kd.R_drew)); exact HO819.out) hb); have n2_ := Aside0.mk (Kd.V_elder' (by (with_reducible repeat (first | apply Kd.V_alloc | apply Kd.V_drewN | apply Kd.V_drew)); exact HO822.out) (Kd.R_base ho12) hb); have n3_ := Aside0.mk (Kd.R_lower ho12 (below_size (by repeat (first | (with_reducible first | exact HB.out | apply below_alloc | apply pw_below_drewN | apply below_drew1) | exact HB.out)))); have n4_ := Aside0.mk (below_step (by repeat (first | (with_reducible first | exact HB.out | apply below_alloc | apply pw_below_drewN | apply below_drew1) | exact HB.out)) hb); clear HO816; clear HO819; clear HO822; clear HB; have HO816 := n0_; have HO819 := n1_; have HO822 := n2_; have HO825 := n3_; have HB := n4_; clear n0_ n1_ n2_ n3_ n4_; clear hb ho12))
  repeat (go_quiet (first | (go_at_call 17; (with_reducible refine (tapestrierlaw4_alive.calls k  t813 _ ?side1 A2.out).mono ?_); (case side1 => exact TabsIn.below HT.out (by repeat (first | (with_reducible first | exact HB.out | apply below_alloc | apply pw_below_drewN | apply below_drew1) | exact HB.out))); rintro e w5 ⟨rfl, hb⟩; have n0_ := Aside0.mk (below_step (by repeat (first | (with_reducible first | exact HB.out | apply below_alloc | apply pw_below_drewN | apply below_drew1) | exact HB.out)) hb); clear HB; have HB := n0_; clear n0_; (try clear hb); (try clear hb2); (try clear hk); (try clear hi)) | ((with_reducible refine gate_dst (N := 10) rfl ?_); (try (refine gate_guard (by rfl) ?_; dsimp only)); refine Kd.R_lit (Kd.int .u8) _ 5 ?hg (N := 10) ?hd (xs := ([a0] : List Int)) (inner := [.int .u8 a0]) (ok := fun _ => True) (okp := fun _ => True) ?hr ?hp (fun _ hk => hk) trivial (Below.refl _ _) (Nat.le_refl _) (by simp) ?_; (case hd => rfl); (case hg => rfl); (case hr => first | (go_simp; done) | (go_simp; rfl)); (case hp => exact (Reps.one (show Kd.M (Kd.int .u8) _ _ _ a0 [.int .u8 a0] from rfl) (Reps.none _ _))); intro v815 w6 ho7 hb hg_ hnew_; clear hg_ hnew_; (first | rw [← Ny814.out] at ho7 | (simp only [Int.reduceToNat] at ho7; rw [← Ny814.out] at ho7)); have n0_ := Aside0.mk (Kd.R_lower ho7 (below_size (by repeat (first | (with_reducible first | exact HB.out | apply below_alloc | apply pw_below_drewN | apply below_drew1) | exact HB.out)))); have n1_ := Aside0.mk (below_step (by repeat (first | (with_reducible first | exact HB.out | apply below_alloc | apply pw_below_drewN | apply below_drew1) | exact HB.out)) hb); clear HB; have HO816 := n0_; have HB := n1_; clear n0_ n1_; clear hb ho7; obtain ⟨Ao8, co8, eo8⟩ := Kd.R_slice HO816.out; subst eo8) | (go_at_call 20; (with_reducible refine (tapestrierlaw4_Of.calls k _ _ y814 t817 _ ?side1 ?side2 ?side3 A3.out).mono ?_); (case side1 => repeat (first | exact (Kd.R_reads' HO816.out).2.2 | (with_reducible refine Kd.C_alloc ?_ _) | (with_reducible refine Kd.C_drewN ?_ _) | (with_reducible refine Kd.C_drew ?_))); (case side2 => exact (Kd.R_reads' HO816.out).2.1); (case side3 => exact TabsIn.below HT.out (by repeat (first | (with_reducible first | exact HB.out | apply below_alloc | apply pw_below_drewN | apply below_drew1) | exact HB.out))); rintro e w9 ⟨v818, rfl, ho0, hb⟩; have n0_ := Aside0.mk (Kd.R_below (by (with_reducible repeat (first | apply Kd.R_alloc | apply Kd.R_drewN | apply Kd.R_drew)); exact HO816.out) hb); have n1_ := Aside0.mk (Kd.R_lower ho0 (below_size (by repeat (first | (with_reducible first | exact HB.out | apply below_alloc | apply pw_below_drewN | apply below_drew1) | exact HB.out)))); have n2_ := Aside0.mk (below_step (by repeat (first | (with_reducible first | exact HB.out | apply below_alloc | apply pw_below_drewN | apply below_drew1) | exact HB.out)) hb); clear HO816; clear HB; have HO816 := n0_; have HO819 := n1_; have HB := n2_; clear n0_ n1_ n2_; (try clear hb); (try clear hb2); (try clear hk); (try clear hi); (try clear ho0)) | ((with_reducible refine gate_dst (N := 13) rfl ?_); (try (refine gate_guard (by rfl) ?_; dsimp only)); (try (refine gate_guard (by rfl) ?_; dsimp only)); refine const_goes ?hg (N := 13) ?hd (t := 25) (e := 5) (s := (strOfNums [58, 59, 44, 123, 125, 40, 41, 91, 93])) (x := ?xo) (C := ?cc) (n := ?nn) (c := ?kk) (W := ?ww) ?ho Tryd.underlying25 Tryd.underlying5 ?hC ?hn ?hc ?hx ?hW ?_; (case hd => rfl); (case hg => rfl); (case ho => rfl); (case hW => rfl); (case hx => first | rfl | (go_simp; done) | (go_simp; rfl)); (case hn => rfl); (case hc => rfl); (case hC => rfl); (with_reducible refine (constConv5.calls (strOfNums [58, 59, 44, 123, 125, 40, 41, 91, 93]) t820 _ A4.out).mono ?_); rintro e w10 ⟨v821, rfl, ho0, hb⟩; refine ⟨_, rfl, ?_⟩; have n0_ := Aside0.mk (Kd.R_below (by (with_reducible repeat (first | apply Kd.R_alloc | apply Kd.R_drewN | apply Kd.R_drew)); exact HO816.out) hb); have n1_ := Aside0.mk (Kd.R_below (by (with_reducible repeat (first | apply Kd.R_alloc | apply Kd.R_drewN | apply Kd.R_drew)); exact HO819.out) hb); have n2_ := Aside0.mk (Kd.V_lower (Kd.V_mono (ok' := fun k_ => some k_ ≠ (.slice Ao8 y814.length co8 : Value).ownBlock ∧ some k_ ≠ (v818 : Value).ownBlock) ho0 (fun k_ hk_ => ⟨(Kd.fresh' (Kd.R_lt (by (with_reducible repeat (first | apply Kd.R_alloc | apply Kd.R_drewN | apply Kd.R_drew)); exact HO816.out)) k_ hk_), (Kd.fresh' (Kd.R_lt (by (with_reducible repeat (first | apply Kd.R_alloc | apply Kd.R_drewN | apply Kd.R_drew)); exact HO819.out)) k_ hk_)⟩)) (below_size (by repeat (first | (with_reducible first | exact HB.out | apply below_alloc | apply pw_below_drewN | apply below_drew1) | exact HB.out)))); have n3_ := Aside0.mk (below_step (by repeat (first | (with_reducible first | exact HB.out | apply below_alloc | apply pw_below_drewN | apply below_drew1) | exact HB.out)) hb); clear HO816; clear HO819; clear HB; have HO816 := n0_; have HO819 := n1_; have HO822 := n2_; have HB := n3_; clear n0_ n1_ n2_ n3_; (try clear hb); (try clear hb2); (try clear hk); (try clear hi); (try clear ho0)) | ((with_reducible refine gate_dst (N := 14) rfl ?_); (try (refine gate_guard (by rfl) ?_; dsimp only)); refine Kd.R_lit (Kd.int .i64) _ 3 ?hg (N := 14) ?hd (xs := ([11, 12, 13, 14, 15, 16, 17, 18, 19] : List Int)) (inner := [.int .i64 11, .int .i64 12, .int .i64 13, .int .i64 14, .int .i64 15, .int .i64 16, .int .i64 17, .int .i64 18, .int .i64 19]) (ok := fun _ => True) (okp := fun _ => True) ?hr ?hp (fun _ hk => hk) trivial (Below.refl _ _) (Nat.le_refl _) (by simp) ?_; (case hd => rfl); (case hg => rfl); (case hr => first | (go_simp; done) | (go_simp; rfl)); (case hp => exact (Reps.one (show Kd.M (Kd.int .i64) _ _ _ 11 [.int .i64 11] from rfl) (Reps.one (show Kd.M (Kd.int .i64) _ _ _ 12 [.int .i64 12] from rfl) (Reps.one (show Kd.M (Kd.int .i64) _ _ _ 13 [.int .i64 13] from rfl) (Reps.one (show Kd.M (Kd.int .i64) _ _ _ 14 [.int .i64 14] from rfl) (Reps.one (show Kd.M (Kd.int .i64) _ _ _ 15 [.int .i64 15] from rfl) (Reps.one (show Kd.M (Kd.int .i64) _ _ _ 16 [.int .i64 16] from rfl) (Reps.one (show Kd.M (Kd.int .i64) _ _ _ 17 [.int .i64 17] from rfl) (Reps.one (show Kd.M (Kd.int .i64) _ _ _ 18 [.int .i64 18] from rfl) (Reps.one (show Kd.M (Kd.int .i64) _ _ _ 19 [.int .i64 19] from rfl) (Reps.none _ _))))))))))); intro v824 w11 ho12 hb hg_ hnew_; clear hg_ hnew_; (first | rw [← Ny823.out] at ho12 | (simp only [Int.reduceToNat] at ho12; rw [← Ny823.out] at ho12)); have n0_ := Aside0.mk (Kd.R_below (by (with_reducible repeat (first | apply Kd.R_alloc | apply Kd.R_drewN | apply Kd.R_drew)); exact HO816.out) hb); have n1_ := Aside0.mk (Kd.R_below (by (with_reducible repeat (first | apply Kd.R_alloc | apply Kd.R_drewN | apply Kd.R_drew)); exact HO819.out) hb); have n2_ := Aside0.mk (Kd.V_elder' (by (with_reducible repeat (first | apply Kd.V_alloc | apply Kd.V_drewN | apply Kd.V_drew)); exact HO822.out) (Kd.R_base ho12) hb); have n3_ := Aside0.mk (Kd.R_lower ho12 (below_size (by repeat (first | (with_reducible first | exact HB.out | apply below_alloc | apply pw_below_drewN | apply below_drew1) | exact HB.out)))); have n4_ := Aside0.mk (below_step (by repeat (first | (with_reducible first | exact HB.out | apply below_alloc | apply pw_below_drewN | apply below_drew1) | exact HB.out)) hb); clear HO816; clear HO819; clear HO822; clear HB; have HO816 := n0_; have HO819 := n1_; have HO822 := n2_; have HO825 := n3_; have HB := n4_; clear n0_ n1_ n2_ n3_ n4_; clear hb ho12)); try go_wp2_with (first | (go_at_call 17; (with_reducible refine (tapestrierlaw4_alive.calls k  t813 _ ?side1 A2.out).mono ?_); (case side1 => exact TabsIn.below HT.out (by repeat (first | (with_reducible first | exact HB.out | apply below_alloc | apply pw_below_drewN | apply below_drew1) | exact HB.out))); rintro e w5 ⟨rfl, hb⟩; have n0_ := Aside0.mk (below_step (by repeat (first | (with_reducible first | exact HB.out | apply below_alloc | apply pw_below_drewN | apply below_drew1) | exact HB.out)) hb); clear HB; have HB := n0_; clear n0_; (try clear hb); (try clear hb2); (try clear hk); (try clear hi)) | ((with_reducible refine gate_dst (N := 10) rfl ?_); (try (refine gate_guard (by rfl) ?_; dsimp only)); refine Kd.R_lit (Kd.int .u8) _ 5 ?hg (N := 10) ?hd (xs := ([a0] : List Int)) (inner := [.int .u8 a0]) (ok := fun _ => True) (okp := fun _ => True) ?hr ?hp (fun _ hk => hk) trivial (Below.refl _ _) (Nat.le_refl _) (by simp) ?_; (case hd => rfl); (case hg => rfl); (case hr => first | (go_simp; done) | (go_simp; rfl)); (case hp => exact (Reps.one (show Kd.M (Kd.int .u8) _ _ _ a0 [.int .u8 a0] from rfl) (Reps.none _ _))); intro v815 w6 ho7 hb hg_ hnew_; clear hg_ hnew_; (first | rw [← Ny814.out] at ho7 | (simp only [Int.reduceToNat] at ho7; rw [← Ny814.out] at ho7)); have n0_ := Aside0.mk (Kd.R_lower ho7 (below_size (by repeat (first | (with_reducible first | exact HB.out | apply below_alloc | apply pw_below_drewN | apply below_drew1) | exact HB.out)))); have n1_ := Aside0.mk (below_step (by repeat (first | (with_reducible first | exact HB.out | apply below_alloc | apply pw_below_drewN | apply below_drew1) | exact HB.out)) hb); clear HB; have HO816 := n0_; have HB := n1_; clear n0_ n1_; clear hb ho7; obtain ⟨Ao8, co8, eo8⟩ := Kd.R_slice HO816.out; subst eo8) | (go_at_call 20; (with_reducible refine (tapestrierlaw4_Of.calls k _ _ y814 t817 _ ?side1 ?side2 ?side3 A3.out).mono ?_); (case side1 => repeat (first | exact (Kd.R_reads' HO816.out).2.2 | (with_reducible refine Kd.C_alloc ?_ _) | (with_reducible refine Kd.C_drewN ?_ _) | (with_reducible refine Kd.C_drew ?_))); (case side2 => exact (Kd.R_reads' HO816.out).2.1); (case side3 => exact TabsIn.below HT.out (by repeat (first | (with_reducible first | exact HB.out | apply below_alloc | apply pw_below_drewN | apply below_drew1) | exact HB.out))); rintro e w9 ⟨v818, rfl, ho0, hb⟩; have n0_ := Aside0.mk (Kd.R_below (by (with_reducible repeat (first | apply Kd.R_alloc | apply Kd.R_drewN | apply Kd.R_drew)); exact HO816.out) hb); have n1_ := Aside0.mk (Kd.R_lower ho0 (below_size (by repeat (first | (with_reducible first | exact HB.out | apply below_alloc | apply pw_below_drewN | apply below_drew1) | exact HB.out)))); have n2_ := Aside0.mk (below_step (by repeat (first | (with_reducible first | exact HB.out | apply below_alloc | apply pw_below_drewN | apply below_drew1) | exact HB.out)) hb); clear HO816; clear HB; have HO816 := n0_; have HO819 := n1_; have HB := n2_; clear n0_ n1_ n2_; (try clear hb); (try clear hb2); (try clear hk); (try clear hi); (try clear ho0)) | ((with_reducible refine gate_dst (N := 13) rfl ?_); (try (refine gate_guard (by rfl) ?_; dsimp only)); (try (refine gate_guard (by rfl) ?_; dsimp only)); refine const_goes ?hg (N := 13) ?hd (t := 25) (e := 5) (s := (strOfNums [58, 59, 44, 123, 125, 40, 41, 91, 93])) (x := ?xo) (C := ?cc) (n := ?nn) (c := ?kk) (W := ?ww) ?ho Tryd.underlying25 Tryd.underlying5 ?hC ?hn ?hc ?hx ?hW ?_; (case hd => rfl); (case hg => rfl); (case ho => rfl); (case hW => rfl); (case hx => first | rfl | (go_simp; done) | (go_simp; rfl)); (case hn => rfl); (case hc => rfl); (case hC => rfl); (with_reducible refine (constConv5.calls (strOfNums [58, 59, 44, 123, 125, 40, 41, 91, 93]) t820 _ A4.out).mono ?_); rintro e w10 ⟨v821, rfl, ho0, hb⟩; refine ⟨_, rfl, ?_⟩; have n0_ := Aside0.mk (Kd.R_below (by (with_reducible repeat (first | apply Kd.R_alloc | apply Kd.R_drewN | apply Kd.R_drew)); exact HO816.out) hb); have n1_ := Aside0.mk (Kd.R_below (by (with_reducible repeat (first | apply Kd.R_alloc | apply Kd.R_drewN | apply Kd.R_drew)); exact HO819.out) hb); have n2_ := Aside0.mk (Kd.V_lower (Kd.V_mono (ok' := fun k_ => some k_ ≠ (.slice Ao8 y814.length co8 : Value).ownBlock ∧ some k_ ≠ (v818 : Value).ownBlock) ho0 (fun k_ hk_ => ⟨(Kd.fresh' (Kd.R_lt (by (with_reducible repeat (first | apply Kd.R_alloc | apply Kd.R_drewN | apply Kd.R_drew)); exact HO816.out)) k_ hk_), (Kd.fresh' (Kd.R_lt (by (with_reducible repeat (first | apply Kd.R_alloc | apply Kd.R_drewN | apply Kd.R_drew)); exact HO819.out)) k_ hk_)⟩)) (below_size (by repeat (first | (with_reducible first | exact HB.out | apply below_alloc | apply pw_below_drewN | apply below_drew1) | exact HB.out)))); have n3_ := Aside0.mk (below_step (by repeat (first | (with_reducible first | exact HB.out | apply below_alloc | apply pw_below_drewN | apply below_drew1) | exact HB.out)) hb); clear HO816; clear HO819; clear HB; have HO816 := n0_; have HO819 := n1_; have HO822 := n2_; have HB := n3_; clear n0_ n1_ n2_ n3_; (try clear hb); (try clear hb2); (try clear hk); (try clear hi); (try clear ho0)) | ((with_reducible refine gate_dst (N := 14) rfl ?_); (try (refine gate_guard (by rfl) ?_; dsimp only)); refine Kd.R_lit (Kd.int .i64) _ 3 ?hg (N := 14) ?hd (xs := ([11, 12, 13, 14, 15, 16, 17, 18, 19] : List Int)) (inner := [.int .i64 11, .int .i64 12, .int .i64 13, .int .i64 14, .int .i64 15, .int .i64 16, .int .i64 17, .int .i64 18, .int .i64 19]) (ok := fun _ => True) (okp := fun _ => True) ?hr ?hp (fun _ hk => hk) trivial (Below.refl _ _) (Nat.le_refl _) (by simp) ?_; (case hd => rfl); (case hg => rfl); (case hr => first | (go_simp; done) | (go_simp; rfl)); (case hp => exact (Reps.one (show Kd.M (Kd.int .i64) _ _ _ 11 [.int .i64 11] from rfl) (Reps.one (show Kd.M (Kd.int .i64) _ _ _ 12 [.int .i64 12] from rfl) (Reps.one (show Kd.M (Kd.int .i64) _ _ _ 13 [.int .i64 13] from rfl) (Reps.one (show Kd.M (Kd.int .i64) _ _ _ 14 [.int .i64 14] from rfl) (Reps.one (show Kd.M (Kd.int .i64) _ _ _ 15 [.int .i64 15] from rfl) (Reps.one (show Kd.M (Kd.int .i64) _ _ _ 16 [.int .i64 16] from rfl) (Reps.one (show Kd.M (Kd.int .i64) _ _ _ 17 [.int .i64 17] from rfl) (Reps.one (show Kd.M (Kd.int .i64) _ _ _ 18 [.int .i64 18] from rfl) (Reps.one (show Kd.M (Kd.int .i64) _ _ _ 19 [.int .i64 19] from rfl) (Reps.none _ _))))))))))); intro v824 w11 ho12 hb hg_ hnew_; clear hg_ hnew_; (first | rw [← Ny823.out] at ho12 | (simp only [Int.reduceToNat] at ho12; rw [← Ny823.out] at ho12)); have n0_ := Aside0.mk (Kd.R_below (by (with_reducible repeat (first | apply Kd.R_alloc | apply Kd.R_drewN | apply Kd.R_drew)); exact HO816.out) hb); have n1_ := Aside0.mk (Kd.R_below (by (with_reducible repeat (first | apply Kd.R_alloc | apply Kd.R_drewN | apply Kd.R_drew)); exact HO819.out) hb); have n2_ := Aside0.mk (Kd.V_elder' (by (with_reducible repeat (first | apply Kd.V_alloc | apply Kd.V_drewN | apply Kd.V_drew)); exact HO822.out) (Kd.R_base ho12) hb); have n3_ := Aside0.mk (Kd.R_lower ho12 (below_size (by repeat (first | (with_reducible first | exact HB.out | apply below_alloc | apply pw_below_drewN | apply below_drew1) | exact HB.out)))); have n4_ := Aside0.mk (below_step (by repeat (first | (with_reducible first | exact HB.out | apply below_alloc | apply pw_below_drewN | apply below_drew1) | exact HB.out)) hb); clear HO816; clear HO819; clear HO822; clear HB; have HO816 := n0_; have HO819 := n1_; have HO822 := n2_; have HO825 := n3_; have HB := n4_; clear n0_ n1_ n2_ n3_ n4_; clear hb ho12)))
  go_loopg [7] k (fun kq v7 w' => ∃ (x7_1 : Int), v7 = .int .i64 x7_1 ∧ Aside0 (tapestrierlaw4_TokSigns.l0 kq a0 t813 t817 t820 y823 x7_1 = some r) ∧ Aside0 (kq ≤ k) ∧ Aside0 (Kd.R k31 31 w' w.heap.size (fun _ => True) v818 t817) ∧ Aside0 (Kd.V (Kd.int .u8) 5 w' w.heap.size (fun k_ => some k_ ≠ (v818 : Value).ownBlock ∧ some k_ ≠ (v824 : Value).ownBlock) v821 t820) ∧ Aside0 (Kd.R (Kd.int .i64) 3 w' w.heap.size (fun _ => True) v824 y823) ∧ Aside0 (Below w.heap.size w w'))
  case atStart => exact ⟨(0), (by first | rfl | (simp; done) | (simp [*]; done) | (simp [wrap64]; done)), H', ⟨Nat.le_refl _⟩, ⟨by (with_reducible repeat (first | apply Kd.R_alloc | apply Kd.R_drewN | apply Kd.R_drew)); exact HO819.out⟩, ⟨by (with_reducible repeat (first | apply Kd.V_alloc | apply Kd.V_drewN | apply Kd.V_drew)); exact Kd.V_mono HO822.out (fun _ hk => ⟨hk.1.2, hk.2⟩)⟩, ⟨by (with_reducible repeat (first | apply Kd.R_alloc | apply Kd.R_drewN | apply Kd.R_drew)); exact HO825.out⟩, ⟨by repeat (first | (with_reducible first | exact HB.out | apply below_alloc | apply pw_below_drewN | apply below_drew1) | exact HB.out)⟩⟩
  case round =>
    clear H'
    try clear p2
    try clear p6
    try clear c9
    obtain ⟨x7_1, rfl, HA, HK1, HO_4, HO_5, HO_6, HB⟩ := hrel
    cases gk with
    | zero => exact absurd HA.out (by simp [tapestrierlaw4_TokSigns.l0])
    | succ k1 =>
      have H := HA.out
      clear HA
      simp only [tapestrierlaw4_TokSigns.l0] at H
      by_cases c13 : x7_1 < (t820.length : Int)
      · rw [if_pos c13] at H
        have c13b0 : decide (x7_1 < (t820.length : Int)) = true := decide_eq_true c13
        clear c13
        by_cases c14 : 0 ≤ x7_1
        · rw [if_pos c14] at H
          have c14b0 : decide (0 ≤ x7_1) = true := decide_eq_true c14
          clear c14
          by_cases c15 : (rd t820 x7_1) = a0
          · rw [if_pos c15] at H
            have c15b0 : ((rd t820 x7_1) == a0) = true := beq_iff_eq.mpr c15
            have c15b1 : ((rd t820 x7_1) != a0) = false := bne_eq_false_iff_eq.mpr c15
            clear c15
            by_cases c16 : t813 = true
            · subst c16
              have H1 : (if (t817.length : Int) = 1 then (if 0 < (t817.length : Int) then (if x7_1 < (y823.length : Int) then (some (((rd_T31 t817 0).f0) == (rd y823 x7_1) && ((((rd_T31 t817 0).f1).toList) == ([] : List UInt8) && (((rd_T31 t817 0).f2) == 0 && (!((rd_T31 t817 0).f3) && (((rd_T31 t817 0).f4) == 0)))))) else (none)) else (none)) else (some false)) = some r := by rw [if_pos rfl] at H; exact H
              clear H
              have H := H1
              clear H1
              by_cases c17 : (t817.length : Int) = 1
              · rw [if_pos c17] at H
                have c17b0 : ((t817.length : Int) == 1) = true := beq_iff_eq.mpr c17
                have c17b1 : ((t817.length : Int) != 1) = false := bne_eq_false_iff_eq.mpr c17
                clear c17
                by_cases c18 : 0 < (t817.length : Int)
                · rw [if_pos c18] at H
                  have c18b0 : decide (0 < (t817.length : Int)) = true := decide_eq_true c18
                  have c18b1 : decide (0 < t817.length) = true := decide_eq_true (by omega)
                  clear c18
                  by_cases c19 : x7_1 < (y823.length : Int)
                  · rw [if_pos c19] at H
                    have c19b0 : decide (x7_1 < (y823.length : Int)) = true := decide_eq_true c19
                    clear c19
                    obtain rfl := Option.some.inj H
                    obtain ⟨Ao20, co20, eo20⟩ := Kd.V_slice HO_5.out
                    subst eo20
                    have p826 : 0 ≤ (x7_1 : Int) := of_decide_eq_true (by first | (with_reducible assumption) | assumption)
                    have q826 : x7_1 < (t820.length : Int) := of_decide_eq_true (by first | (with_reducible assumption) | assumption)
                    obtain ⟨ad826, e826, hx826_0⟩ := Kd.at_int (Kd.V_reads' HO_5.out).2.2 x7_1 p826 q826
                    cases e826
                    replace p826 := eq_true p826
                    replace q826 := eq_true q826
                    obtain ⟨Ao21, co21, eo21⟩ := Kd.R_slice HO_4.out
                    subst eo21
                    have p827 : 0 ≤ (0 : Int) := (by omega)
                    have q827 : 0 < (t817.length : Int) := of_decide_eq_true (by first | (with_reducible assumption) | assumption)
                    obtain ⟨ad827, e827, hx827_0, hx827_1, hx827_2, hx827_3, hx827_4⟩ := at_T31 (Kd.R_reads' HO_4.out).2.2 0 p827 q827
                    cases e827
                    have qi827 : (0 < t817.length) = True := eq_true (by omega)
                    (try rw [show ((0 : Int)).toNat = 0 from rfl] at hx827_0)
                    (try rw [show 0 * 5 = 0 from rfl] at hx827_0)
                    (try rw [Addr.add_zero'] at hx827_0)
                    (try rw [show ((0 : Int)).toNat = 0 from rfl] at hx827_1)
                    (try rw [show 0 * 5 = 0 from rfl] at hx827_1)
                    (try rw [Addr.add_zero'] at hx827_1)
                    (try rw [show ((0 : Int)).toNat = 0 from rfl] at hx827_2)
                    (try rw [show 0 * 5 = 0 from rfl] at hx827_2)
                    (try rw [Addr.add_zero'] at hx827_2)
                    (try rw [show ((0 : Int)).toNat = 0 from rfl] at hx827_3)
                    (try rw [show 0 * 5 = 0 from rfl] at hx827_3)
                    (try rw [Addr.add_zero'] at hx827_3)
                    (try rw [show ((0 : Int)).toNat = 0 from rfl] at hx827_4)
                    (try rw [show 0 * 5 = 0 from rfl] at hx827_4)
                    (try rw [Addr.add_zero'] at hx827_4)
                    replace p827 := eq_true p827
                    replace q827 := eq_true q827
                    obtain ⟨Ao22, co22, eo22⟩ := Kd.R_slice HO_6.out
                    subst eo22
                    have p828 : 0 ≤ (x7_1 : Int) := of_decide_eq_true (by first | (with_reducible assumption) | assumption)
                    have q828 : x7_1 < (y823.length : Int) := of_decide_eq_true (by first | (with_reducible assumption) | assumption)
                    obtain ⟨ad828, e828, hx828_0⟩ := Kd.at_int (Kd.R_reads' HO_6.out).2.2 x7_1 p828 q828
                    cases e828
                    replace p828 := eq_true p828
                    replace q828 := eq_true q828
                    go_wp2
                    repeat (go_quiet (fail); try go_wp2)
                    go_ret
                    exact ⟨by first | rfl | (simp [errW_none, errW_some] <;> rfl) | (simp [*, errW_none, errW_some] <;> rfl), by repeat (first | (with_reducible first | exact HB.out | apply below_alloc | apply pw_below_drewN | apply below_drew1) | exact HB.out)⟩
                  · rw [if_neg c19] at H
                    exact absurd H (by simp)
                · rw [if_neg c18] at H
                  exact absurd H (by simp)
              · rw [if_neg c17] at H
                have c17b0 : ((t817.length : Int) == 1) = false := beq_eq_false_iff_ne.mpr c17
                have c17b1 : ((t817.length : Int) != 1) = true := bne_iff_ne.mpr c17
                obtain rfl := Option.some.inj H
                obtain ⟨Ao23, co23, eo23⟩ := Kd.V_slice HO_5.out
                subst eo23
                have p826 : 0 ≤ (x7_1 : Int) := of_decide_eq_true (by first | (with_reducible assumption) | assumption)
                have q826 : x7_1 < (t820.length : Int) := of_decide_eq_true (by first | (with_reducible assumption) | assumption)
                obtain ⟨ad826, e826, hx826_0⟩ := Kd.at_int (Kd.V_reads' HO_5.out).2.2 x7_1 p826 q826
                cases e826
                replace p826 := eq_true p826
                replace q826 := eq_true q826
                obtain ⟨Ao24, co24, eo24⟩ := Kd.R_slice HO_4.out
                subst eo24
                go_wp2
                repeat (go_quiet (fail); try go_wp2)
                go_ret
                exact ⟨by first | rfl | (simp [errW_none, errW_some] <;> rfl) | (simp [*, errW_none, errW_some] <;> rfl), by repeat (first | (with_reducible first | exact HB.out | apply below_alloc | apply pw_below_drewN | apply below_drew1) | exact HB.out)⟩
            · replace c16 := Bool.eq_false_iff.mpr c16
              subst c16
              have H1 : (some false) = some r := by rw [if_neg (show ¬ (false = true) by decide)] at H; exact H
              clear H
              have H := H1
              clear H1
              obtain rfl := Option.some.inj H
              obtain ⟨Ao25, co25, eo25⟩ := Kd.V_slice HO_5.out
              subst eo25
              have p826 : 0 ≤ (x7_1 : Int) := of_decide_eq_true (by first | (with_reducible assumption) | assumption)
              have q826 : x7_1 < (t820.length : Int) := of_decide_eq_true (by first | (with_reducible assumption) | assumption)
              obtain ⟨ad826, e826, hx826_0⟩ := Kd.at_int (Kd.V_reads' HO_5.out).2.2 x7_1 p826 q826
              cases e826
              replace p826 := eq_true p826
              replace q826 := eq_true q826
              go_wp2
              repeat (go_quiet (fail); try go_wp2)
              go_ret
              exact ⟨by first | rfl | (simp [errW_none, errW_some] <;> rfl) | (simp [*, errW_none, errW_some] <;> rfl), by repeat (first | (with_reducible first | exact HB.out | apply below_alloc | apply pw_below_drewN | apply below_drew1) | exact HB.out)⟩
          · rw [if_neg c15] at H
            have c15b0 : ((rd t820 x7_1) == a0) = false := beq_eq_false_iff_ne.mpr c15
            have c15b1 : ((rd t820 x7_1) != a0) = true := bne_iff_ne.mpr c15
            have H' := Aside0.mk H
            clear H
            obtain ⟨Ao26, co26, eo26⟩ := Kd.V_slice HO_5.out
            subst eo26
            have p826 : 0 ≤ (x7_1 : Int) := of_decide_eq_true (by first | (with_reducible assumption) | assumption)
            have q826 : x7_1 < (t820.length : Int) := of_decide_eq_true (by first | (with_reducible assumption) | assumption)
            obtain ⟨ad826, e826, hx826_0⟩ := Kd.at_int (Kd.V_reads' HO_5.out).2.2 x7_1 p826 q826
            cases e826
            replace p826 := eq_true p826
            replace q826 := eq_true q826
            go_wp2
            repeat (go_quiet (fail); try go_wp2)
            go_roundg k1
            case measure => have := HK1.out; omega
            case rel => exact ⟨(wrap64 (x7_1 + 1)), (by first | rfl | (simp; done) | (simp [*]; done) | (simp [wrap64]; done)), H', ⟨by have := HK1.out; omega⟩, ⟨by (with_reducible repeat (first | apply Kd.R_alloc | apply Kd.R_drewN | apply Kd.R_drew)); exact HO_4.out⟩, ⟨by (with_reducible repeat (first | apply Kd.V_alloc | apply Kd.V_drewN | apply Kd.V_drew)); exact HO_5.out⟩, ⟨by (with_reducible repeat (first | apply Kd.R_alloc | apply Kd.R_drewN | apply Kd.R_drew)); exact HO_6.out⟩, ⟨by repeat (first | (with_reducible first | exact HB.out | apply below_alloc | apply pw_below_drewN | apply below_drew1) | exact HB.out)⟩⟩
        · rw [if_neg c14] at H
          exact absurd H (by simp)
      · rw [if_neg c13] at H
        have c13b0 : decide (x7_1 < (t820.length : Int)) = false := decide_eq_false c13
        clear c13
        by_cases c27 : a0 > 32
        · rw [if_pos c27] at H
          have c27b0 : decide (32 < a0) = true := decide_eq_true c27
          clear c27
          by_cases c28 : a0 < 127
          · rw [if_pos c28] at H
            have c28b0 : decide (a0 < 127) = true := decide_eq_true c28
            clear c28
            by_cases c29 : a0 = 34
            · rw [if_pos c29] at H
              have c29b0 : (a0 == 34) = true := beq_iff_eq.mpr c29
              have c29b1 : (a0 != 34) = false := bne_eq_false_iff_eq.mpr c29
              clear c29
              by_cases c30 : t813 = true
              · subst c30
                have H1 : (some (decide ((t817.length : Int) ≤ 1))) = some r := by rw [if_pos rfl] at H; exact H
                clear H
                have H := H1
                clear H1
                obtain rfl := Option.some.inj H
                obtain ⟨Ao31, co31, eo31⟩ := Kd.V_slice HO_5.out
                subst eo31
                obtain ⟨Ao32, co32, eo32⟩ := Kd.R_slice HO_4.out
                subst eo32
                go_wp2
                repeat (go_quiet (fail); try go_wp2)
                go_ret
                exact ⟨by first | rfl | (simp [errW_none, errW_some] <;> rfl) | (simp [*, errW_none, errW_some] <;> rfl), by repeat (first | (with_reducible first | exact HB.out | apply below_alloc | apply pw_below_drewN | apply below_drew1) | exact HB.out)⟩
              · replace c30 := Bool.eq_false_iff.mpr c30
                subst c30
                have H1 : (some false) = some r := by rw [if_neg (show ¬ (false = true) by decide)] at H; exact H
                clear H
                have H := H1
                clear H1
                obtain rfl := Option.some.inj H
                obtain ⟨Ao33, co33, eo33⟩ := Kd.V_slice HO_5.out
                subst eo33
                go_wp2
                repeat (go_quiet (fail); try go_wp2)
                go_ret
                exact ⟨by first | rfl | (simp [errW_none, errW_some] <;> rfl) | (simp [*, errW_none, errW_some] <;> rfl), by repeat (first | (with_reducible first | exact HB.out | apply below_alloc | apply pw_below_drewN | apply below_drew1) | exact HB.out)⟩
            · rw [if_neg c29] at H
              have c29b0 : (a0 == 34) = false := beq_eq_false_iff_ne.mpr c29
              have c29b1 : (a0 != 34) = true := bne_iff_ne.mpr c29
              by_cases c34 : a0 = 39
              · rw [if_pos c34] at H
                have c34b0 : (a0 == 39) = true := beq_iff_eq.mpr c34
                have c34b1 : (a0 != 39) = false := bne_eq_false_iff_eq.mpr c34
                clear c34
                by_cases c35 : t813 = true
                · subst c35
                  have H1 : (some (decide ((t817.length : Int) ≤ 1))) = some r := by rw [if_pos rfl] at H; exact H
                  clear H
                  have H := H1
                  clear H1
                  obtain rfl := Option.some.inj H
                  obtain ⟨Ao36, co36, eo36⟩ := Kd.V_slice HO_5.out
                  subst eo36
                  obtain ⟨Ao37, co37, eo37⟩ := Kd.R_slice HO_4.out
                  subst eo37
                  go_wp2
                  repeat (go_quiet (fail); try go_wp2)
                  go_ret
                  exact ⟨by first | rfl | (simp [errW_none, errW_some] <;> rfl) | (simp [*, errW_none, errW_some] <;> rfl), by repeat (first | (with_reducible first | exact HB.out | apply below_alloc | apply pw_below_drewN | apply below_drew1) | exact HB.out)⟩
                · replace c35 := Bool.eq_false_iff.mpr c35
                  subst c35
                  have H1 : (some false) = some r := by rw [if_neg (show ¬ (false = true) by decide)] at H; exact H
                  clear H
                  have H := H1
                  clear H1
                  obtain rfl := Option.some.inj H
                  obtain ⟨Ao38, co38, eo38⟩ := Kd.V_slice HO_5.out
                  subst eo38
                  go_wp2
                  repeat (go_quiet (fail); try go_wp2)
                  go_ret
                  exact ⟨by first | rfl | (simp [errW_none, errW_some] <;> rfl) | (simp [*, errW_none, errW_some] <;> rfl), by repeat (first | (with_reducible first | exact HB.out | apply below_alloc | apply pw_below_drewN | apply below_drew1) | exact HB.out)⟩
              · rw [if_neg c34] at H
                have c34b0 : (a0 == 39) = false := beq_eq_false_iff_ne.mpr c34
                have c34b1 : (a0 != 39) = true := bne_iff_ne.mpr c34
                by_cases c39 : a0 = 95
                · rw [if_pos c39] at H
                  have c39b0 : (a0 == 95) = true := beq_iff_eq.mpr c39
                  have c39b1 : (a0 != 95) = false := bne_eq_false_iff_eq.mpr c39
                  clear c39
                  by_cases c40 : t813 = true
                  · subst c40
                    have H1 : (some (decide ((t817.length : Int) ≤ 1))) = some r := by rw [if_pos rfl] at H; exact H
                    clear H
                    have H := H1
                    clear H1
                    obtain rfl := Option.some.inj H
                    obtain ⟨Ao41, co41, eo41⟩ := Kd.V_slice HO_5.out
                    subst eo41
                    obtain ⟨Ao42, co42, eo42⟩ := Kd.R_slice HO_4.out
                    subst eo42
                    go_wp2
                    repeat (go_quiet (fail); try go_wp2)
                    go_ret
                    exact ⟨by first | rfl | (simp [errW_none, errW_some] <;> rfl) | (simp [*, errW_none, errW_some] <;> rfl), by repeat (first | (with_reducible first | exact HB.out | apply below_alloc | apply pw_below_drewN | apply below_drew1) | exact HB.out)⟩
                  · replace c40 := Bool.eq_false_iff.mpr c40
                    subst c40
                    have H1 : (some false) = some r := by rw [if_neg (show ¬ (false = true) by decide)] at H; exact H
                    clear H
                    have H := H1
                    clear H1
                    obtain rfl := Option.some.inj H
                    obtain ⟨Ao43, co43, eo43⟩ := Kd.V_slice HO_5.out
                    subst eo43
                    go_wp2
                    repeat (go_quiet (fail); try go_wp2)
                    go_ret
                    exact ⟨by first | rfl | (simp [errW_none, errW_some] <;> rfl) | (simp [*, errW_none, errW_some] <;> rfl), by repeat (first | (with_reducible first | exact HB.out | apply below_alloc | apply pw_below_drewN | apply below_drew1) | exact HB.out)⟩
                · rw [if_neg c39] at H
                  have c39b0 : (a0 == 95) = false := beq_eq_false_iff_ne.mpr c39
                  have c39b1 : (a0 != 95) = true := bne_iff_ne.mpr c39
                  by_cases c44 : a0 ≥ 48
                  · rw [if_pos c44] at H
                    have c44b0 : decide (48 ≤ a0) = true := decide_eq_true c44
                    clear c44
                    by_cases c45 : a0 ≤ 57
                    · rw [if_pos c45] at H
                      have c45b0 : decide (a0 ≤ 57) = true := decide_eq_true c45
                      clear c45
                      by_cases c46 : t813 = true
                      · subst c46
                        have H1 : (some (decide ((t817.length : Int) ≤ 1))) = some r := by rw [if_pos rfl] at H; exact H
                        clear H
                        have H := H1
                        clear H1
                        obtain rfl := Option.some.inj H
                        obtain ⟨Ao47, co47, eo47⟩ := Kd.V_slice HO_5.out
                        subst eo47
                        obtain ⟨Ao48, co48, eo48⟩ := Kd.R_slice HO_4.out
                        subst eo48
                        go_wp2
                        repeat (go_quiet (fail); try go_wp2)
                        go_ret
                        exact ⟨by first | rfl | (simp [errW_none, errW_some] <;> rfl) | (simp [*, errW_none, errW_some] <;> rfl), by repeat (first | (with_reducible first | exact HB.out | apply below_alloc | apply pw_below_drewN | apply below_drew1) | exact HB.out)⟩
                      · replace c46 := Bool.eq_false_iff.mpr c46
                        subst c46
                        have H1 : (some false) = some r := by rw [if_neg (show ¬ (false = true) by decide)] at H; exact H
                        clear H
                        have H := H1
                        clear H1
                        obtain rfl := Option.some.inj H
                        obtain ⟨Ao49, co49, eo49⟩ := Kd.V_slice HO_5.out
                        subst eo49
                        go_wp2
                        repeat (go_quiet (fail); try go_wp2)
                        go_ret
                        exact ⟨by first | rfl | (simp [errW_none, errW_some] <;> rfl) | (simp [*, errW_none, errW_some] <;> rfl), by repeat (first | (with_reducible first | exact HB.out | apply below_alloc | apply pw_below_drewN | apply below_drew1) | exact HB.out)⟩
                    · rw [if_neg c45] at H
                      have c45b0 : decide (a0 ≤ 57) = false := decide_eq_false c45
                      clear c45
                      by_cases c50 : a0 ≥ 97
                      · rw [if_pos c50] at H
                        have c50b0 : decide (97 ≤ a0) = true := decide_eq_true c50
                        clear c50
                        by_cases c51 : a0 ≤ 122
                        · rw [if_pos c51] at H
                          have c51b0 : decide (a0 ≤ 122) = true := decide_eq_true c51
                          clear c51
                          by_cases c52 : t813 = true
                          · subst c52
                            have H1 : (some (decide ((t817.length : Int) ≤ 1))) = some r := by rw [if_pos rfl] at H; exact H
                            clear H
                            have H := H1
                            clear H1
                            obtain rfl := Option.some.inj H
                            obtain ⟨Ao53, co53, eo53⟩ := Kd.V_slice HO_5.out
                            subst eo53
                            obtain ⟨Ao54, co54, eo54⟩ := Kd.R_slice HO_4.out
                            subst eo54
                            go_wp2
                            repeat (go_quiet (fail); try go_wp2)
                            go_ret
                            exact ⟨by first | rfl | (simp [errW_none, errW_some] <;> rfl) | (simp [*, errW_none, errW_some] <;> rfl), by repeat (first | (with_reducible first | exact HB.out | apply below_alloc | apply pw_below_drewN | apply below_drew1) | exact HB.out)⟩
                          · replace c52 := Bool.eq_false_iff.mpr c52
                            subst c52
                            have H1 : (some false) = some r := by rw [if_neg (show ¬ (false = true) by decide)] at H; exact H
                            clear H
                            have H := H1
                            clear H1
                            obtain rfl := Option.some.inj H
                            obtain ⟨Ao55, co55, eo55⟩ := Kd.V_slice HO_5.out
                            subst eo55
                            go_wp2
                            repeat (go_quiet (fail); try go_wp2)
                            go_ret
                            exact ⟨by first | rfl | (simp [errW_none, errW_some] <;> rfl) | (simp [*, errW_none, errW_some] <;> rfl), by repeat (first | (with_reducible first | exact HB.out | apply below_alloc | apply pw_below_drewN | apply below_drew1) | exact HB.out)⟩
                        · rw [if_neg c51] at H
                          have c51b0 : decide (a0 ≤ 122) = false := decide_eq_false c51
                          clear c51
                          by_cases c56 : a0 ≥ 65
                          · rw [if_pos c56] at H
                            have c56b0 : decide (65 ≤ a0) = true := decide_eq_true c56
                            clear c56
                            by_cases c57 : a0 ≤ 90
                            · rw [if_pos c57] at H
                              have c57b0 : decide (a0 ≤ 90) = true := decide_eq_true c57
                              clear c57
                              by_cases c58 : t813 = true
                              · subst c58
                                have H1 : (some (decide ((t817.length : Int) ≤ 1))) = some r := by rw [if_pos rfl] at H; exact H
                                clear H
                                have H := H1
                                clear H1
                                obtain rfl := Option.some.inj H
                                obtain ⟨Ao59, co59, eo59⟩ := Kd.V_slice HO_5.out
                                subst eo59
                                obtain ⟨Ao60, co60, eo60⟩ := Kd.R_slice HO_4.out
                                subst eo60
                                go_wp2
                                repeat (go_quiet (fail); try go_wp2)
                                go_ret
                                exact ⟨by first | rfl | (simp [errW_none, errW_some] <;> rfl) | (simp [*, errW_none, errW_some] <;> rfl), by repeat (first | (with_reducible first | exact HB.out | apply below_alloc | apply pw_below_drewN | apply below_drew1) | exact HB.out)⟩
                              · replace c58 := Bool.eq_false_iff.mpr c58
                                subst c58
                                have H1 : (some false) = some r := by rw [if_neg (show ¬ (false = true) by decide)] at H; exact H
                                clear H
                                have H := H1
                                clear H1
                                obtain rfl := Option.some.inj H
                                obtain ⟨Ao61, co61, eo61⟩ := Kd.V_slice HO_5.out
                                subst eo61
                                go_wp2
                                repeat (go_quiet (fail); try go_wp2)
                                go_ret
                                exact ⟨by first | rfl | (simp [errW_none, errW_some] <;> rfl) | (simp [*, errW_none, errW_some] <;> rfl), by repeat (first | (with_reducible first | exact HB.out | apply below_alloc | apply pw_below_drewN | apply below_drew1) | exact HB.out)⟩
                            · rw [if_neg c57] at H
                              have c57b0 : decide (a0 ≤ 90) = false := decide_eq_false c57
                              clear c57
                              by_cases c62 : t813 = true
                              · subst c62
                                have H1 : (if (t817.length : Int) = 1 then (if 0 < (t817.length : Int) then (some (((rd_T31 t817 0).f0) == 10 && ((((rd_T31 t817 0).f1).toList) == ([] : List UInt8) && (((rd_T31 t817 0).f2) == 0 && (!((rd_T31 t817 0).f3) && (((rd_T31 t817 0).f4) == (wrap64 (a0)))))))) else (none)) else (some false)) = some r := by rw [if_pos rfl] at H; exact H
                                clear H
                                have H := H1
                                clear H1
                                by_cases c63 : (t817.length : Int) = 1
                                · rw [if_pos c63] at H
                                  have c63b0 : ((t817.length : Int) == 1) = true := beq_iff_eq.mpr c63
                                  have c63b1 : ((t817.length : Int) != 1) = false := bne_eq_false_iff_eq.mpr c63
                                  clear c63
                                  by_cases c64 : 0 < (t817.length : Int)
                                  · rw [if_pos c64] at H
                                    have c64b0 : decide (0 < (t817.length : Int)) = true := decide_eq_true c64
                                    have c64b1 : decide (0 < t817.length) = true := decide_eq_true (by omega)
                                    clear c64
                                    obtain rfl := Option.some.inj H
                                    obtain ⟨Ao65, co65, eo65⟩ := Kd.V_slice HO_5.out
                                    subst eo65
                                    obtain ⟨Ao66, co66, eo66⟩ := Kd.R_slice HO_4.out
                                    subst eo66
                                    have p829 : 0 ≤ (0 : Int) := (by omega)
                                    have q829 : 0 < (t817.length : Int) := of_decide_eq_true (by first | (with_reducible assumption) | assumption)
                                    obtain ⟨ad829, e829, hx829_0, hx829_1, hx829_2, hx829_3, hx829_4⟩ := at_T31 (Kd.R_reads' HO_4.out).2.2 0 p829 q829
                                    cases e829
                                    have qi829 : (0 < t817.length) = True := eq_true (by omega)
                                    (try rw [show ((0 : Int)).toNat = 0 from rfl] at hx829_0)
                                    (try rw [show 0 * 5 = 0 from rfl] at hx829_0)
                                    (try rw [Addr.add_zero'] at hx829_0)
                                    (try rw [show ((0 : Int)).toNat = 0 from rfl] at hx829_1)
                                    (try rw [show 0 * 5 = 0 from rfl] at hx829_1)
                                    (try rw [Addr.add_zero'] at hx829_1)
                                    (try rw [show ((0 : Int)).toNat = 0 from rfl] at hx829_2)
                                    (try rw [show 0 * 5 = 0 from rfl] at hx829_2)
                                    (try rw [Addr.add_zero'] at hx829_2)
                                    (try rw [show ((0 : Int)).toNat = 0 from rfl] at hx829_3)
                                    (try rw [show 0 * 5 = 0 from rfl] at hx829_3)
                                    (try rw [Addr.add_zero'] at hx829_3)
                                    (try rw [show ((0 : Int)).toNat = 0 from rfl] at hx829_4)
                                    (try rw [show 0 * 5 = 0 from rfl] at hx829_4)
                                    (try rw [Addr.add_zero'] at hx829_4)
                                    replace p829 := eq_true p829
                                    replace q829 := eq_true q829
                                    go_wp2
                                    repeat (go_quiet (fail); try go_wp2)
                                    go_ret
                                    exact ⟨by first | rfl | (simp [errW_none, errW_some] <;> rfl) | (simp [*, errW_none, errW_some] <;> rfl), by repeat (first | (with_reducible first | exact HB.out | apply below_alloc | apply pw_below_drewN | apply below_drew1) | exact HB.out)⟩
                                  · rw [if_neg c64] at H
                                    exact absurd H (by simp)
                                · rw [if_neg c63] at H
                                  have c63b0 : ((t817.length : Int) == 1) = false := beq_eq_false_iff_ne.mpr c63
                                  have c63b1 : ((t817.length : Int) != 1) = true := bne_iff_ne.mpr c63
                                  obtain rfl := Option.some.inj H
                                  obtain ⟨Ao67, co67, eo67⟩ := Kd.V_slice HO_5.out
                                  subst eo67
                                  obtain ⟨Ao68, co68, eo68⟩ := Kd.R_slice HO_4.out
                                  subst eo68
                                  go_wp2
                                  repeat (go_quiet (fail); try go_wp2)
                                  go_ret
                                  exact ⟨by first | rfl | (simp [errW_none, errW_some] <;> rfl) | (simp [*, errW_none, errW_some] <;> rfl), by repeat (first | (with_reducible first | exact HB.out | apply below_alloc | apply pw_below_drewN | apply below_drew1) | exact HB.out)⟩
                              · replace c62 := Bool.eq_false_iff.mpr c62
                                subst c62
                                have H1 : (some false) = some r := by rw [if_neg (show ¬ (false = true) by decide)] at H; exact H
                                clear H
                                have H := H1
                                clear H1
                                obtain rfl := Option.some.inj H
                                obtain ⟨Ao69, co69, eo69⟩ := Kd.V_slice HO_5.out
                                subst eo69
                                go_wp2
                                repeat (go_quiet (fail); try go_wp2)
                                go_ret
                                exact ⟨by first | rfl | (simp [errW_none, errW_some] <;> rfl) | (simp [*, errW_none, errW_some] <;> rfl), by repeat (first | (with_reducible first | exact HB.out | apply below_alloc | apply pw_below_drewN | apply below_drew1) | exact HB.out)⟩
                          · rw [if_neg c56] at H
                            have c56b0 : decide (65 ≤ a0) = false := decide_eq_false c56
                            clear c56
                            by_cases c70 : t813 = true
                            · subst c70
                              have H1 : (if (t817.length : Int) = 1 then (if 0 < (t817.length : Int) then (some (((rd_T31 t817 0).f0) == 10 && ((((rd_T31 t817 0).f1).toList) == ([] : List UInt8) && (((rd_T31 t817 0).f2) == 0 && (!((rd_T31 t817 0).f3) && (((rd_T31 t817 0).f4) == (wrap64 (a0)))))))) else (none)) else (some false)) = some r := by rw [if_pos rfl] at H; exact H
                              clear H
                              have H := H1
                              clear H1
                              by_cases c71 : (t817.length : Int) = 1
                              · rw [if_pos c71] at H
                                have c71b0 : ((t817.length : Int) == 1) = true := beq_iff_eq.mpr c71
                                have c71b1 : ((t817.length : Int) != 1) = false := bne_eq_false_iff_eq.mpr c71
                                clear c71
                                by_cases c72 : 0 < (t817.length : Int)
                                · rw [if_pos c72] at H
                                  have c72b0 : decide (0 < (t817.length : Int)) = true := decide_eq_true c72
                                  have c72b1 : decide (0 < t817.length) = true := decide_eq_true (by omega)
                                  clear c72
                                  obtain rfl := Option.some.inj H
                                  obtain ⟨Ao73, co73, eo73⟩ := Kd.V_slice HO_5.out
                                  subst eo73
                                  obtain ⟨Ao74, co74, eo74⟩ := Kd.R_slice HO_4.out
                                  subst eo74
                                  have p830 : 0 ≤ (0 : Int) := (by omega)
                                  have q830 : 0 < (t817.length : Int) := of_decide_eq_true (by first | (with_reducible assumption) | assumption)
                                  obtain ⟨ad830, e830, hx830_0, hx830_1, hx830_2, hx830_3, hx830_4⟩ := at_T31 (Kd.R_reads' HO_4.out).2.2 0 p830 q830
                                  cases e830
                                  have qi830 : (0 < t817.length) = True := eq_true (by omega)
                                  (try rw [show ((0 : Int)).toNat = 0 from rfl] at hx830_0)
                                  (try rw [show 0 * 5 = 0 from rfl] at hx830_0)
                                  (try rw [Addr.add_zero'] at hx830_0)
                                  (try rw [show ((0 : Int)).toNat = 0 from rfl] at hx830_1)
                                  (try rw [show 0 * 5 = 0 from rfl] at hx830_1)
                                  (try rw [Addr.add_zero'] at hx830_1)
                                  (try rw [show ((0 : Int)).toNat = 0 from rfl] at hx830_2)
                                  (try rw [show 0 * 5 = 0 from rfl] at hx830_2)
                                  (try rw [Addr.add_zero'] at hx830_2)
                                  (try rw [show ((0 : Int)).toNat = 0 from rfl] at hx830_3)
                                  (try rw [show 0 * 5 = 0 from rfl] at hx830_3)
                                  (try rw [Addr.add_zero'] at hx830_3)
                                  (try rw [show ((0 : Int)).toNat = 0 from rfl] at hx830_4)
                                  (try rw [show 0 * 5 = 0 from rfl] at hx830_4)
                                  (try rw [Addr.add_zero'] at hx830_4)
                                  replace p830 := eq_true p830
                                  replace q830 := eq_true q830
                                  go_wp2
                                  repeat (go_quiet (fail); try go_wp2)
                                  go_ret
                                  exact ⟨by first | rfl | (simp [errW_none, errW_some] <;> rfl) | (simp [*, errW_none, errW_some] <;> rfl), by repeat (first | (with_reducible first | exact HB.out | apply below_alloc | apply pw_below_drewN | apply below_drew1) | exact HB.out)⟩
                                · rw [if_neg c72] at H
                                  exact absurd H (by simp)
                              · rw [if_neg c71] at H
                                have c71b0 : ((t817.length : Int) == 1) = false := beq_eq_false_iff_ne.mpr c71
                                have c71b1 : ((t817.length : Int) != 1) = true := bne_iff_ne.mpr c71
                                obtain rfl := Option.some.inj H
                                obtain ⟨Ao75, co75, eo75⟩ := Kd.V_slice HO_5.out
                                subst eo75
                                obtain ⟨Ao76, co76, eo76⟩ := Kd.R_slice HO_4.out
                                subst eo76
                                go_wp2
                                repeat (go_quiet (fail); try go_wp2)
                                go_ret
                                exact ⟨by first | rfl | (simp [errW_none, errW_some] <;> rfl) | (simp [*, errW_none, errW_some] <;> rfl), by repeat (first | (with_reducible first | exact HB.out | apply below_alloc | apply pw_below_drewN | apply below_drew1) | exact HB.out)⟩
                            · replace c70 := Bool.eq_false_iff.mpr c70
                              subst c70
                              have H1 : (some false) = some r := by rw [if_neg (show ¬ (false = true) by decide)] at H; exact H
                              clear H
                              have H := H1
                              clear H1
                              obtain rfl := Option.some.inj H
                              obtain ⟨Ao77, co77, eo77⟩ := Kd.V_slice HO_5.out
                              subst eo77
                              go_wp2
                              repeat (go_quiet (fail); try go_wp2)
                              go_ret
                              exact ⟨by first | rfl | (simp [errW_none, errW_some] <;> rfl) | (simp [*, errW_none, errW_some] <;> rfl), by repeat (first | (with_reducible first | exact HB.out | apply below_alloc | apply pw_below_drewN | apply below_drew1) | exact HB.out)⟩
                      · rw [if_neg c50] at H
                        have c50b0 : decide (97 ≤ a0) = false := decide_eq_false c50
                        clear c50
                        by_cases c78 : a0 ≥ 65
                        · rw [if_pos c78] at H
                          have c78b0 : decide (65 ≤ a0) = true := decide_eq_true c78
                          clear c78
                          by_cases c79 : a0 ≤ 90
                          · rw [if_pos c79] at H
                            have c79b0 : decide (a0 ≤ 90) = true := decide_eq_true c79
                            clear c79
                            by_cases c80 : t813 = true
                            · subst c80
                              have H1 : (some (decide ((t817.length : Int) ≤ 1))) = some r := by rw [if_pos rfl] at H; exact H
                              clear H
                              have H := H1
                              clear H1
                              obtain rfl := Option.some.inj H
                              obtain ⟨Ao81, co81, eo81⟩ := Kd.V_slice HO_5.out
                              subst eo81
                              obtain ⟨Ao82, co82, eo82⟩ := Kd.R_slice HO_4.out
                              subst eo82
                              go_wp2
                              repeat (go_quiet (fail); try go_wp2)
                              go_ret
                              exact ⟨by first | rfl | (simp [errW_none, errW_some] <;> rfl) | (simp [*, errW_none, errW_some] <;> rfl), by repeat (first | (with_reducible first | exact HB.out | apply below_alloc | apply pw_below_drewN | apply below_drew1) | exact HB.out)⟩
                            · replace c80 := Bool.eq_false_iff.mpr c80
                              subst c80
                              have H1 : (some false) = some r := by rw [if_neg (show ¬ (false = true) by decide)] at H; exact H
                              clear H
                              have H := H1
                              clear H1
                              obtain rfl := Option.some.inj H
                              obtain ⟨Ao83, co83, eo83⟩ := Kd.V_slice HO_5.out
                              subst eo83
                              go_wp2
                              repeat (go_quiet (fail); try go_wp2)
                              go_ret
                              exact ⟨by first | rfl | (simp [errW_none, errW_some] <;> rfl) | (simp [*, errW_none, errW_some] <;> rfl), by repeat (first | (with_reducible first | exact HB.out | apply below_alloc | apply pw_below_drewN | apply below_drew1) | exact HB.out)⟩
                          · rw [if_neg c79] at H
                            have c79b0 : decide (a0 ≤ 90) = false := decide_eq_false c79
                            clear c79
                            by_cases c84 : t813 = true
                            · subst c84
                              have H1 : (if (t817.length : Int) = 1 then (if 0 < (t817.length : Int) then (some (((rd_T31 t817 0).f0) == 10 && ((((rd_T31 t817 0).f1).toList) == ([] : List UInt8) && (((rd_T31 t817 0).f2) == 0 && (!((rd_T31 t817 0).f3) && (((rd_T31 t817 0).f4) == (wrap64 (a0)))))))) else (none)) else (some false)) = some r := by rw [if_pos rfl] at H; exact H
                              clear H
                              have H := H1
                              clear H1
                              by_cases c85 : (t817.length : Int) = 1
                              · rw [if_pos c85] at H
                                have c85b0 : ((t817.length : Int) == 1) = true := beq_iff_eq.mpr c85
                                have c85b1 : ((t817.length : Int) != 1) = false := bne_eq_false_iff_eq.mpr c85
                                clear c85
                                by_cases c86 : 0 < (t817.length : Int)
                                · rw [if_pos c86] at H
                                  have c86b0 : decide (0 < (t817.length : Int)) = true := decide_eq_true c86
                                  have c86b1 : decide (0 < t817.length) = true := decide_eq_true (by omega)
                                  clear c86
                                  obtain rfl := Option.some.inj H
                                  obtain ⟨Ao87, co87, eo87⟩ := Kd.V_slice HO_5.out
                                  subst eo87
                                  obtain ⟨Ao88, co88, eo88⟩ := Kd.R_slice HO_4.out
                                  subst eo88
                                  have p831 : 0 ≤ (0 : Int) := (by omega)
                                  have q831 : 0 < (t817.length : Int) := of_decide_eq_true (by first | (with_reducible assumption) | assumption)
                                  obtain ⟨ad831, e831, hx831_0, hx831_1, hx831_2, hx831_3, hx831_4⟩ := at_T31 (Kd.R_reads' HO_4.out).2.2 0 p831 q831
                                  cases e831
                                  have qi831 : (0 < t817.length) = True := eq_true (by omega)
                                  (try rw [show ((0 : Int)).toNat = 0 from rfl] at hx831_0)
                                  (try rw [show 0 * 5 = 0 from rfl] at hx831_0)
                                  (try rw [Addr.add_zero'] at hx831_0)
                                  (try rw [show ((0 : Int)).toNat = 0 from rfl] at hx831_1)
                                  (try rw [show 0 * 5 = 0 from rfl] at hx831_1)
                                  (try rw [Addr.add_zero'] at hx831_1)
                                  (try rw [show ((0 : Int)).toNat = 0 from rfl] at hx831_2)
                                  (try rw [show 0 * 5 = 0 from rfl] at hx831_2)
                                  (try rw [Addr.add_zero'] at hx831_2)
                                  (try rw [show ((0 : Int)).toNat = 0 from rfl] at hx831_3)
                                  (try rw [show 0 * 5 = 0 from rfl] at hx831_3)
                                  (try rw [Addr.add_zero'] at hx831_3)
                                  (try rw [show ((0 : Int)).toNat = 0 from rfl] at hx831_4)
                                  (try rw [show 0 * 5 = 0 from rfl] at hx831_4)
                                  (try rw [Addr.add_zero'] at hx831_4)
                                  replace p831 := eq_true p831
                                  replace q831 := eq_true q831
                                  go_wp2
                                  repeat (go_quiet (fail); try go_wp2)
                                  go_ret
                                  exact ⟨by first | rfl | (simp [errW_none, errW_some] <;> rfl) | (simp [*, errW_none, errW_some] <;> rfl), by repeat (first | (with_reducible first | exact HB.out | apply below_alloc | apply pw_below_drewN | apply below_drew1) | exact HB.out)⟩
                                · rw [if_neg c86] at H
                                  exact absurd H (by simp)
                              · rw [if_neg c85] at H
                                have c85b0 : ((t817.length : Int) == 1) = false := beq_eq_false_iff_ne.mpr c85
                                have c85b1 : ((t817.length : Int) != 1) = true := bne_iff_ne.mpr c85
                                obtain rfl := Option.some.inj H
                                obtain ⟨Ao89, co89, eo89⟩ := Kd.V_slice HO_5.out
                                subst eo89
                                obtain ⟨Ao90, co90, eo90⟩ := Kd.R_slice HO_4.out
                                subst eo90
                                go_wp2
                                repeat (go_quiet (fail); try go_wp2)
                                go_ret
                                exact ⟨by first | rfl | (simp [errW_none, errW_some] <;> rfl) | (simp [*, errW_none, errW_some] <;> rfl), by repeat (first | (with_reducible first | exact HB.out | apply below_alloc | apply pw_below_drewN | apply below_drew1) | exact HB.out)⟩
                            · replace c84 := Bool.eq_false_iff.mpr c84
                              subst c84
                              have H1 : (some false) = some r := by rw [if_neg (show ¬ (false = true) by decide)] at H; exact H
                              clear H
                              have H := H1
                              clear H1
                              obtain rfl := Option.some.inj H
                              obtain ⟨Ao91, co91, eo91⟩ := Kd.V_slice HO_5.out
                              subst eo91
                              go_wp2
                              repeat (go_quiet (fail); try go_wp2)
                              go_ret
                              exact ⟨by first | rfl | (simp [errW_none, errW_some] <;> rfl) | (simp [*, errW_none, errW_some] <;> rfl), by repeat (first | (with_reducible first | exact HB.out | apply below_alloc | apply pw_below_drewN | apply below_drew1) | exact HB.out)⟩
                        · rw [if_neg c78] at H
                          have c78b0 : decide (65 ≤ a0) = false := decide_eq_false c78
                          clear c78
                          by_cases c92 : t813 = true
                          · subst c92
                            have H1 : (if (t817.length : Int) = 1 then (if 0 < (t817.length : Int) then (some (((rd_T31 t817 0).f0) == 10 && ((((rd_T31 t817 0).f1).toList) == ([] : List UInt8) && (((rd_T31 t817 0).f2) == 0 && (!((rd_T31 t817 0).f3) && (((rd_T31 t817 0).f4) == (wrap64 (a0)))))))) else (none)) else (some false)) = some r := by rw [if_pos rfl] at H; exact H
                            clear H
                            have H := H1
                            clear H1
                            by_cases c93 : (t817.length : Int) = 1
                            · rw [if_pos c93] at H
                              have c93b0 : ((t817.length : Int) == 1) = true := beq_iff_eq.mpr c93
                              have c93b1 : ((t817.length : Int) != 1) = false := bne_eq_false_iff_eq.mpr c93
                              clear c93
                              by_cases c94 : 0 < (t817.length : Int)
                              · rw [if_pos c94] at H
                                have c94b0 : decide (0 < (t817.length : Int)) = true := decide_eq_true c94
                                have c94b1 : decide (0 < t817.length) = true := decide_eq_true (by omega)
                                clear c94
                                obtain rfl := Option.some.inj H
                                obtain ⟨Ao95, co95, eo95⟩ := Kd.V_slice HO_5.out
                                subst eo95
                                obtain ⟨Ao96, co96, eo96⟩ := Kd.R_slice HO_4.out
                                subst eo96
                                have p832 : 0 ≤ (0 : Int) := (by omega)
                                have q832 : 0 < (t817.length : Int) := of_decide_eq_true (by first | (with_reducible assumption) | assumption)
                                obtain ⟨ad832, e832, hx832_0, hx832_1, hx832_2, hx832_3, hx832_4⟩ := at_T31 (Kd.R_reads' HO_4.out).2.2 0 p832 q832
                                cases e832
                                have qi832 : (0 < t817.length) = True := eq_true (by omega)
                                (try rw [show ((0 : Int)).toNat = 0 from rfl] at hx832_0)
                                (try rw [show 0 * 5 = 0 from rfl] at hx832_0)
                                (try rw [Addr.add_zero'] at hx832_0)
                                (try rw [show ((0 : Int)).toNat = 0 from rfl] at hx832_1)
                                (try rw [show 0 * 5 = 0 from rfl] at hx832_1)
                                (try rw [Addr.add_zero'] at hx832_1)
                                (try rw [show ((0 : Int)).toNat = 0 from rfl] at hx832_2)
                                (try rw [show 0 * 5 = 0 from rfl] at hx832_2)
                                (try rw [Addr.add_zero'] at hx832_2)
                                (try rw [show ((0 : Int)).toNat = 0 from rfl] at hx832_3)
                                (try rw [show 0 * 5 = 0 from rfl] at hx832_3)
                                (try rw [Addr.add_zero'] at hx832_3)
                                (try rw [show ((0 : Int)).toNat = 0 from rfl] at hx832_4)
                                (try rw [show 0 * 5 = 0 from rfl] at hx832_4)
                                (try rw [Addr.add_zero'] at hx832_4)
                                replace p832 := eq_true p832
                                replace q832 := eq_true q832
                                go_wp2
                                repeat (go_quiet (fail); try go_wp2)
                                go_ret
                                exact ⟨by first | rfl | (simp [errW_none, errW_some] <;> rfl) | (simp [*, errW_none, errW_some] <;> rfl), by repeat (first | (with_reducible first | exact HB.out | apply below_alloc | apply pw_below_drewN | apply below_drew1) | exact HB.out)⟩
                              · rw [if_neg c94] at H
                                exact absurd H (by simp)
                            · rw [if_neg c93] at H
                              have c93b0 : ((t817.length : Int) == 1) = false := beq_eq_false_iff_ne.mpr c93
                              have c93b1 : ((t817.length : Int) != 1) = true := bne_iff_ne.mpr c93
                              obtain rfl := Option.some.inj H
                              obtain ⟨Ao97, co97, eo97⟩ := Kd.V_slice HO_5.out
                              subst eo97
                              obtain ⟨Ao98, co98, eo98⟩ := Kd.R_slice HO_4.out
                              subst eo98
                              go_wp2
                              repeat (go_quiet (fail); try go_wp2)
                              go_ret
                              exact ⟨by first | rfl | (simp [errW_none, errW_some] <;> rfl) | (simp [*, errW_none, errW_some] <;> rfl), by repeat (first | (with_reducible first | exact HB.out | apply below_alloc | apply pw_below_drewN | apply below_drew1) | exact HB.out)⟩
                          · replace c92 := Bool.eq_false_iff.mpr c92
                            subst c92
                            have H1 : (some false) = some r := by rw [if_neg (show ¬ (false = true) by decide)] at H; exact H
                            clear H
                            have H := H1
                            clear H1
                            obtain rfl := Option.some.inj H
                            obtain ⟨Ao99, co99, eo99⟩ := Kd.V_slice HO_5.out
                            subst eo99
                            go_wp2
                            repeat (go_quiet (fail); try go_wp2)
                            go_ret
                            exact ⟨by first | rfl | (simp [errW_none, errW_some] <;> rfl) | (simp [*, errW_none, errW_some] <;> rfl), by repeat (first | (with_reducible first | exact HB.out | apply below_alloc | apply pw_below_drewN | apply below_drew1) | exact HB.out)⟩
                  · rw [if_neg c44] at H
                    have c44b0 : decide (48 ≤ a0) = false := decide_eq_false c44
                    clear c44
                    by_cases c100 : a0 ≥ 97
                    · rw [if_pos c100] at H
                      have c100b0 : decide (97 ≤ a0) = true := decide_eq_true c100
                      clear c100
                      by_cases c101 : a0 ≤ 122
                      · rw [if_pos c101] at H
                        have c101b0 : decide (a0 ≤ 122) = true := decide_eq_true c101
                        clear c101
                        by_cases c102 : t813 = true
                        · subst c102
                          have H1 : (some (decide ((t817.length : Int) ≤ 1))) = some r := by rw [if_pos rfl] at H; exact H
                          clear H
                          have H := H1
                          clear H1
                          obtain rfl := Option.some.inj H
                          obtain ⟨Ao103, co103, eo103⟩ := Kd.V_slice HO_5.out
                          subst eo103
                          obtain ⟨Ao104, co104, eo104⟩ := Kd.R_slice HO_4.out
                          subst eo104
                          go_wp2
                          repeat (go_quiet (fail); try go_wp2)
                          go_ret
                          exact ⟨by first | rfl | (simp [errW_none, errW_some] <;> rfl) | (simp [*, errW_none, errW_some] <;> rfl), by repeat (first | (with_reducible first | exact HB.out | apply below_alloc | apply pw_below_drewN | apply below_drew1) | exact HB.out)⟩
                        · replace c102 := Bool.eq_false_iff.mpr c102
                          subst c102
                          have H1 : (some false) = some r := by rw [if_neg (show ¬ (false = true) by decide)] at H; exact H
                          clear H
                          have H := H1
                          clear H1
                          obtain rfl := Option.some.inj H
                          obtain ⟨Ao105, co105, eo105⟩ := Kd.V_slice HO_5.out
                          subst eo105
                          go_wp2
                          repeat (go_quiet (fail); try go_wp2)
                          go_ret
                          exact ⟨by first | rfl | (simp [errW_none, errW_some] <;> rfl) | (simp [*, errW_none, errW_some] <;> rfl), by repeat (first | (with_reducible first | exact HB.out | apply below_alloc | apply pw_below_drewN | apply below_drew1) | exact HB.out)⟩
                      · rw [if_neg c101] at H
                        have c101b0 : decide (a0 ≤ 122) = false := decide_eq_false c101
                        clear c101
                        by_cases c106 : a0 ≥ 65
                        · rw [if_pos c106] at H
                          have c106b0 : decide (65 ≤ a0) = true := decide_eq_true c106
                          clear c106
                          by_cases c107 : a0 ≤ 90
                          · rw [if_pos c107] at H
                            have c107b0 : decide (a0 ≤ 90) = true := decide_eq_true c107
                            clear c107
                            by_cases c108 : t813 = true
                            · subst c108
                              have H1 : (some (decide ((t817.length : Int) ≤ 1))) = some r := by rw [if_pos rfl] at H; exact H
                              clear H
                              have H := H1
                              clear H1
                              obtain rfl := Option.some.inj H
                              obtain ⟨Ao109, co109, eo109⟩ := Kd.V_slice HO_5.out
                              subst eo109
                              obtain ⟨Ao110, co110, eo110⟩ := Kd.R_slice HO_4.out
                              subst eo110
                              go_wp2
                              repeat (go_quiet (fail); try go_wp2)
                              go_ret
                              exact ⟨by first | rfl | (simp [errW_none, errW_some] <;> rfl) | (simp [*, errW_none, errW_some] <;> rfl), by repeat (first | (with_reducible first | exact HB.out | apply below_alloc | apply pw_below_drewN | apply below_drew1) | exact HB.out)⟩
                            · replace c108 := Bool.eq_false_iff.mpr c108
                              subst c108
                              have H1 : (some false) = some r := by rw [if_neg (show ¬ (false = true) by decide)] at H; exact H
                              clear H
                              have H := H1
                              clear H1
                              obtain rfl := Option.some.inj H
                              obtain ⟨Ao111, co111, eo111⟩ := Kd.V_slice HO_5.out
                              subst eo111
                              go_wp2
                              repeat (go_quiet (fail); try go_wp2)
                              go_ret
                              exact ⟨by first | rfl | (simp [errW_none, errW_some] <;> rfl) | (simp [*, errW_none, errW_some] <;> rfl), by repeat (first | (with_reducible first | exact HB.out | apply below_alloc | apply pw_below_drewN | apply below_drew1) | exact HB.out)⟩
                          · rw [if_neg c107] at H
                            have c107b0 : decide (a0 ≤ 90) = false := decide_eq_false c107
                            clear c107
                            by_cases c112 : t813 = true
                            · subst c112
                              have H1 : (if (t817.length : Int) = 1 then (if 0 < (t817.length : Int) then (some (((rd_T31 t817 0).f0) == 10 && ((((rd_T31 t817 0).f1).toList) == ([] : List UInt8) && (((rd_T31 t817 0).f2) == 0 && (!((rd_T31 t817 0).f3) && (((rd_T31 t817 0).f4) == (wrap64 (a0)))))))) else (none)) else (some false)) = some r := by rw [if_pos rfl] at H; exact H
                              clear H
                              have H := H1
                              clear H1
                              by_cases c113 : (t817.length : Int) = 1
                              · rw [if_pos c113] at H
                                have c113b0 : ((t817.length : Int) == 1) = true := beq_iff_eq.mpr c113
                                have c113b1 : ((t817.length : Int) != 1) = false := bne_eq_false_iff_eq.mpr c113
                                clear c113
                                by_cases c114 : 0 < (t817.length : Int)
                                · rw [if_pos c114] at H
                                  have c114b0 : decide (0 < (t817.length : Int)) = true := decide_eq_true c114
                                  have c114b1 : decide (0 < t817.length) = true := decide_eq_true (by omega)
                                  clear c114
                                  obtain rfl := Option.some.inj H
                                  obtain ⟨Ao115, co115, eo115⟩ := Kd.V_slice HO_5.out
                                  subst eo115
                                  obtain ⟨Ao116, co116, eo116⟩ := Kd.R_slice HO_4.out
                                  subst eo116
                                  have p833 : 0 ≤ (0 : Int) := (by omega)
                                  have q833 : 0 < (t817.length : Int) := of_decide_eq_true (by first | (with_reducible assumption) | assumption)
                                  obtain ⟨ad833, e833, hx833_0, hx833_1, hx833_2, hx833_3, hx833_4⟩ := at_T31 (Kd.R_reads' HO_4.out).2.2 0 p833 q833
                                  cases e833
                                  have qi833 : (0 < t817.length) = True := eq_true (by omega)
                                  (try rw [show ((0 : Int)).toNat = 0 from rfl] at hx833_0)
                                  (try rw [show 0 * 5 = 0 from rfl] at hx833_0)
                                  (try rw [Addr.add_zero'] at hx833_0)
                                  (try rw [show ((0 : Int)).toNat = 0 from rfl] at hx833_1)
                                  (try rw [show 0 * 5 = 0 from rfl] at hx833_1)
                                  (try rw [Addr.add_zero'] at hx833_1)
                                  (try rw [show ((0 : Int)).toNat = 0 from rfl] at hx833_2)
                                  (try rw [show 0 * 5 = 0 from rfl] at hx833_2)
                                  (try rw [Addr.add_zero'] at hx833_2)
                                  (try rw [show ((0 : Int)).toNat = 0 from rfl] at hx833_3)
                                  (try rw [show 0 * 5 = 0 from rfl] at hx833_3)
                                  (try rw [Addr.add_zero'] at hx833_3)
                                  (try rw [show ((0 : Int)).toNat = 0 from rfl] at hx833_4)
                                  (try rw [show 0 * 5 = 0 from rfl] at hx833_4)
                                  (try rw [Addr.add_zero'] at hx833_4)
                                  replace p833 := eq_true p833
                                  replace q833 := eq_true q833
                                  go_wp2
                                  repeat (go_quiet (fail); try go_wp2)
                                  go_ret
                                  exact ⟨by first | rfl | (simp [errW_none, errW_some] <;> rfl) | (simp [*, errW_none, errW_some] <;> rfl), by repeat (first | (with_reducible first | exact HB.out | apply below_alloc | apply pw_below_drewN | apply below_drew1) | exact HB.out)⟩
                                · rw [if_neg c114] at H
                                  exact absurd H (by simp)
                              · rw [if_neg c113] at H
                                have c113b0 : ((t817.length : Int) == 1) = false := beq_eq_false_iff_ne.mpr c113
                                have c113b1 : ((t817.length : Int) != 1) = true := bne_iff_ne.mpr c113
                                obtain rfl := Option.some.inj H
                                obtain ⟨Ao117, co117, eo117⟩ := Kd.V_slice HO_5.out
                                subst eo117
                                obtain ⟨Ao118, co118, eo118⟩ := Kd.R_slice HO_4.out
                                subst eo118
                                go_wp2
                                repeat (go_quiet (fail); try go_wp2)
                                go_ret
                                exact ⟨by first | rfl | (simp [errW_none, errW_some] <;> rfl) | (simp [*, errW_none, errW_some] <;> rfl), by repeat (first | (with_reducible first | exact HB.out | apply below_alloc | apply pw_below_drewN | apply below_drew1) | exact HB.out)⟩
                            · replace c112 := Bool.eq_false_iff.mpr c112
                              subst c112
                              have H1 : (some false) = some r := by rw [if_neg (show ¬ (false = true) by decide)] at H; exact H
                              clear H
                              have H := H1
                              clear H1
                              obtain rfl := Option.some.inj H
                              obtain ⟨Ao119, co119, eo119⟩ := Kd.V_slice HO_5.out
                              subst eo119
                              go_wp2
                              repeat (go_quiet (fail); try go_wp2)
                              go_ret
                              exact ⟨by first | rfl | (simp [errW_none, errW_some] <;> rfl) | (simp [*, errW_none, errW_some] <;> rfl), by repeat (first | (with_reducible first | exact HB.out | apply below_alloc | apply pw_below_drewN | apply below_drew1) | exact HB.out)⟩
                        · rw [if_neg c106] at H
                          have c106b0 : decide (65 ≤ a0) = false := decide_eq_false c106
                          clear c106
                          by_cases c120 : t813 = true
                          · subst c120
                            have H1 : (if (t817.length : Int) = 1 then (if 0 < (t817.length : Int) then (some (((rd_T31 t817 0).f0) == 10 && ((((rd_T31 t817 0).f1).toList) == ([] : List UInt8) && (((rd_T31 t817 0).f2) == 0 && (!((rd_T31 t817 0).f3) && (((rd_T31 t817 0).f4) == (wrap64 (a0)))))))) else (none)) else (some false)) = some r := by rw [if_pos rfl] at H; exact H
                            clear H
                            have H := H1
                            clear H1
                            by_cases c121 : (t817.length : Int) = 1
                            · rw [if_pos c121] at H
                              have c121b0 : ((t817.length : Int) == 1) = true := beq_iff_eq.mpr c121
                              have c121b1 : ((t817.length : Int) != 1) = false := bne_eq_false_iff_eq.mpr c121
                              clear c121
                              by_cases c122 : 0 < (t817.length : Int)
                              · rw [if_pos c122] at H
                                have c122b0 : decide (0 < (t817.length : Int)) = true := decide_eq_true c122
                                have c122b1 : decide (0 < t817.length) = true := decide_eq_true (by omega)
                                clear c122
                                obtain rfl := Option.some.inj H
                                obtain ⟨Ao123, co123, eo123⟩ := Kd.V_slice HO_5.out
                                subst eo123
                                obtain ⟨Ao124, co124, eo124⟩ := Kd.R_slice HO_4.out
                                subst eo124
                                have p834 : 0 ≤ (0 : Int) := (by omega)
                                have q834 : 0 < (t817.length : Int) := of_decide_eq_true (by first | (with_reducible assumption) | assumption)
                                obtain ⟨ad834, e834, hx834_0, hx834_1, hx834_2, hx834_3, hx834_4⟩ := at_T31 (Kd.R_reads' HO_4.out).2.2 0 p834 q834
                                cases e834
                                have qi834 : (0 < t817.length) = True := eq_true (by omega)
                                (try rw [show ((0 : Int)).toNat = 0 from rfl] at hx834_0)
                                (try rw [show 0 * 5 = 0 from rfl] at hx834_0)
                                (try rw [Addr.add_zero'] at hx834_0)
                                (try rw [show ((0 : Int)).toNat = 0 from rfl] at hx834_1)
                                (try rw [show 0 * 5 = 0 from rfl] at hx834_1)
                                (try rw [Addr.add_zero'] at hx834_1)
                                (try rw [show ((0 : Int)).toNat = 0 from rfl] at hx834_2)
                                (try rw [show 0 * 5 = 0 from rfl] at hx834_2)
                                (try rw [Addr.add_zero'] at hx834_2)
                                (try rw [show ((0 : Int)).toNat = 0 from rfl] at hx834_3)
                                (try rw [show 0 * 5 = 0 from rfl] at hx834_3)
                                (try rw [Addr.add_zero'] at hx834_3)
                                (try rw [show ((0 : Int)).toNat = 0 from rfl] at hx834_4)
                                (try rw [show 0 * 5 = 0 from rfl] at hx834_4)
                                (try rw [Addr.add_zero'] at hx834_4)
                                replace p834 := eq_true p834
                                replace q834 := eq_true q834
                                go_wp2
                                repeat (go_quiet (fail); try go_wp2)
                                go_ret
                                exact ⟨by first | rfl | (simp [errW_none, errW_some] <;> rfl) | (simp [*, errW_none, errW_some] <;> rfl), by repeat (first | (with_reducible first | exact HB.out | apply below_alloc | apply pw_below_drewN | apply below_drew1) | exact HB.out)⟩
                              · rw [if_neg c122] at H
                                exact absurd H (by simp)
                            · rw [if_neg c121] at H
                              have c121b0 : ((t817.length : Int) == 1) = false := beq_eq_false_iff_ne.mpr c121
                              have c121b1 : ((t817.length : Int) != 1) = true := bne_iff_ne.mpr c121
                              obtain rfl := Option.some.inj H
                              obtain ⟨Ao125, co125, eo125⟩ := Kd.V_slice HO_5.out
                              subst eo125
                              obtain ⟨Ao126, co126, eo126⟩ := Kd.R_slice HO_4.out
                              subst eo126
                              go_wp2
                              repeat (go_quiet (fail); try go_wp2)
                              go_ret
                              exact ⟨by first | rfl | (simp [errW_none, errW_some] <;> rfl) | (simp [*, errW_none, errW_some] <;> rfl), by repeat (first | (with_reducible first | exact HB.out | apply below_alloc | apply pw_below_drewN | apply below_drew1) | exact HB.out)⟩
                          · replace c120 := Bool.eq_false_iff.mpr c120
                            subst c120
                            have H1 : (some false) = some r := by rw [if_neg (show ¬ (false = true) by decide)] at H; exact H
                            clear H
                            have H := H1
                            clear H1
                            obtain rfl := Option.some.inj H
                            obtain ⟨Ao127, co127, eo127⟩ := Kd.V_slice HO_5.out
                            subst eo127
                            go_wp2
                            repeat (go_quiet (fail); try go_wp2)
                            go_ret
                            exact ⟨by first | rfl | (simp [errW_none, errW_some] <;> rfl) | (simp [*, errW_none, errW_some] <;> rfl), by repeat (first | (with_reducible first | exact HB.out | apply below_alloc | apply pw_below_drewN | apply below_drew1) | exact HB.out)⟩
                    · rw [if_neg c100] at H
                      have c100b0 : decide (97 ≤ a0) = false := decide_eq_false c100
                      clear c100
                      by_cases c128 : a0 ≥ 65
                      · rw [if_pos c128] at H
                        have c128b0 : decide (65 ≤ a0) = true := decide_eq_true c128
                        clear c128
                        by_cases c129 : a0 ≤ 90
                        · rw [if_pos c129] at H
                          have c129b0 : decide (a0 ≤ 90) = true := decide_eq_true c129
                          clear c129
                          by_cases c130 : t813 = true
                          · subst c130
                            have H1 : (some (decide ((t817.length : Int) ≤ 1))) = some r := by rw [if_pos rfl] at H; exact H
                            clear H
                            have H := H1
                            clear H1
                            obtain rfl := Option.some.inj H
                            obtain ⟨Ao131, co131, eo131⟩ := Kd.V_slice HO_5.out
                            subst eo131
                            obtain ⟨Ao132, co132, eo132⟩ := Kd.R_slice HO_4.out
                            subst eo132
                            go_wp2
                            repeat (go_quiet (fail); try go_wp2)
                            go_ret
                            exact ⟨by first | rfl | (simp [errW_none, errW_some] <;> rfl) | (simp [*, errW_none, errW_some] <;> rfl), by repeat (first | (with_reducible first | exact HB.out | apply below_alloc | apply pw_below_drewN | apply below_drew1) | exact HB.out)⟩
                          · replace c130 := Bool.eq_false_iff.mpr c130
                            subst c130
                            have H1 : (some false) = some r := by rw [if_neg (show ¬ (false = true) by decide)] at H; exact H
                            clear H
                            have H := H1
                            clear H1
                            obtain rfl := Option.some.inj H
                            obtain ⟨Ao133, co133, eo133⟩ := Kd.V_slice HO_5.out
                            subst eo133
                            go_wp2
                            repeat (go_quiet (fail); try go_wp2)
                            go_ret
                            exact ⟨by first | rfl | (simp [errW_none, errW_some] <;> rfl) | (simp [*, errW_none, errW_some] <;> rfl), by repeat (first | (with_reducible first | exact HB.out | apply below_alloc | apply pw_below_drewN | apply below_drew1) | exact HB.out)⟩
                        · rw [if_neg c129] at H
                          have c129b0 : decide (a0 ≤ 90) = false := decide_eq_false c129
                          clear c129
                          by_cases c134 : t813 = true
                          · subst c134
                            have H1 : (if (t817.length : Int) = 1 then (if 0 < (t817.length : Int) then (some (((rd_T31 t817 0).f0) == 10 && ((((rd_T31 t817 0).f1).toList) == ([] : List UInt8) && (((rd_T31 t817 0).f2) == 0 && (!((rd_T31 t817 0).f3) && (((rd_T31 t817 0).f4) == (wrap64 (a0)))))))) else (none)) else (some false)) = some r := by rw [if_pos rfl] at H; exact H
                            clear H
                            have H := H1
                            clear H1
                            by_cases c135 : (t817.length : Int) = 1
                            · rw [if_pos c135] at H
                              have c135b0 : ((t817.length : Int) == 1) = true := beq_iff_eq.mpr c135
                              have c135b1 : ((t817.length : Int) != 1) = false := bne_eq_false_iff_eq.mpr c135
                              clear c135
                              by_cases c136 : 0 < (t817.length : Int)
                              · rw [if_pos c136] at H
                                have c136b0 : decide (0 < (t817.length : Int)) = true := decide_eq_true c136
                                have c136b1 : decide (0 < t817.length) = true := decide_eq_true (by omega)
                                clear c136
                                obtain rfl := Option.some.inj H
                                obtain ⟨Ao137, co137, eo137⟩ := Kd.V_slice HO_5.out
                                subst eo137
                                obtain ⟨Ao138, co138, eo138⟩ := Kd.R_slice HO_4.out
                                subst eo138
                                have p835 : 0 ≤ (0 : Int) := (by omega)
                                have q835 : 0 < (t817.length : Int) := of_decide_eq_true (by first | (with_reducible assumption) | assumption)
                                obtain ⟨ad835, e835, hx835_0, hx835_1, hx835_2, hx835_3, hx835_4⟩ := at_T31 (Kd.R_reads' HO_4.out).2.2 0 p835 q835
                                cases e835
                                have qi835 : (0 < t817.length) = True := eq_true (by omega)
                                (try rw [show ((0 : Int)).toNat = 0 from rfl] at hx835_0)
                                (try rw [show 0 * 5 = 0 from rfl] at hx835_0)
                                (try rw [Addr.add_zero'] at hx835_0)
                                (try rw [show ((0 : Int)).toNat = 0 from rfl] at hx835_1)
                                (try rw [show 0 * 5 = 0 from rfl] at hx835_1)
                                (try rw [Addr.add_zero'] at hx835_1)
                                (try rw [show ((0 : Int)).toNat = 0 from rfl] at hx835_2)
                                (try rw [show 0 * 5 = 0 from rfl] at hx835_2)
                                (try rw [Addr.add_zero'] at hx835_2)
                                (try rw [show ((0 : Int)).toNat = 0 from rfl] at hx835_3)
                                (try rw [show 0 * 5 = 0 from rfl] at hx835_3)
                                (try rw [Addr.add_zero'] at hx835_3)
                                (try rw [show ((0 : Int)).toNat = 0 from rfl] at hx835_4)
                                (try rw [show 0 * 5 = 0 from rfl] at hx835_4)
                                (try rw [Addr.add_zero'] at hx835_4)
                                replace p835 := eq_true p835
                                replace q835 := eq_true q835
                                go_wp2
                                repeat (go_quiet (fail); try go_wp2)
                                go_ret
                                exact ⟨by first | rfl | (simp [errW_none, errW_some] <;> rfl) | (simp [*, errW_none, errW_some] <;> rfl), by repeat (first | (with_reducible first | exact HB.out | apply below_alloc | apply pw_below_drewN | apply below_drew1) | exact HB.out)⟩
                              · rw [if_neg c136] at H
                                exact absurd H (by simp)
                            · rw [if_neg c135] at H
                              have c135b0 : ((t817.length : Int) == 1) = false := beq_eq_false_iff_ne.mpr c135
                              have c135b1 : ((t817.length : Int) != 1) = true := bne_iff_ne.mpr c135
                              obtain rfl := Option.some.inj H
                              obtain ⟨Ao139, co139, eo139⟩ := Kd.V_slice HO_5.out
                              subst eo139
                              obtain ⟨Ao140, co140, eo140⟩ := Kd.R_slice HO_4.out
                              subst eo140
                              go_wp2
                              repeat (go_quiet (fail); try go_wp2)
                              go_ret
                              exact ⟨by first | rfl | (simp [errW_none, errW_some] <;> rfl) | (simp [*, errW_none, errW_some] <;> rfl), by repeat (first | (with_reducible first | exact HB.out | apply below_alloc | apply pw_below_drewN | apply below_drew1) | exact HB.out)⟩
                          · replace c134 := Bool.eq_false_iff.mpr c134
                            subst c134
                            have H1 : (some false) = some r := by rw [if_neg (show ¬ (false = true) by decide)] at H; exact H
                            clear H
                            have H := H1
                            clear H1
                            obtain rfl := Option.some.inj H
                            obtain ⟨Ao141, co141, eo141⟩ := Kd.V_slice HO_5.out
                            subst eo141
                            go_wp2
                            repeat (go_quiet (fail); try go_wp2)
                            go_ret
                            exact ⟨by first | rfl | (simp [errW_none, errW_some] <;> rfl) | (simp [*, errW_none, errW_some] <;> rfl), by repeat (first | (with_reducible first | exact HB.out | apply below_alloc | apply pw_below_drewN | apply below_drew1) | exact HB.out)⟩
                      · rw [if_neg c128] at H
                        have c128b0 : decide (65 ≤ a0) = false := decide_eq_false c128
                        clear c128
                        by_cases c142 : t813 = true
                        · subst c142
                          have H1 : (if (t817.length : Int) = 1 then (if 0 < (t817.length : Int) then (some (((rd_T31 t817 0).f0) == 10 && ((((rd_T31 t817 0).f1).toList) == ([] : List UInt8) && (((rd_T31 t817 0).f2) == 0 && (!((rd_T31 t817 0).f3) && (((rd_T31 t817 0).f4) == (wrap64 (a0)))))))) else (none)) else (some false)) = some r := by rw [if_pos rfl] at H; exact H
                          clear H
                          have H := H1
                          clear H1
                          by_cases c143 : (t817.length : Int) = 1
                          · rw [if_pos c143] at H
                            have c143b0 : ((t817.length : Int) == 1) = true := beq_iff_eq.mpr c143
                            have c143b1 : ((t817.length : Int) != 1) = false := bne_eq_false_iff_eq.mpr c143
                            clear c143
                            by_cases c144 : 0 < (t817.length : Int)
                            · rw [if_pos c144] at H
                              have c144b0 : decide (0 < (t817.length : Int)) = true := decide_eq_true c144
                              have c144b1 : decide (0 < t817.length) = true := decide_eq_true (by omega)
                              clear c144
                              obtain rfl := Option.some.inj H
                              obtain ⟨Ao145, co145, eo145⟩ := Kd.V_slice HO_5.out
                              subst eo145
                              obtain ⟨Ao146, co146, eo146⟩ := Kd.R_slice HO_4.out
                              subst eo146
                              have p836 : 0 ≤ (0 : Int) := (by omega)
                              have q836 : 0 < (t817.length : Int) := of_decide_eq_true (by first | (with_reducible assumption) | assumption)
                              obtain ⟨ad836, e836, hx836_0, hx836_1, hx836_2, hx836_3, hx836_4⟩ := at_T31 (Kd.R_reads' HO_4.out).2.2 0 p836 q836
                              cases e836
                              have qi836 : (0 < t817.length) = True := eq_true (by omega)
                              (try rw [show ((0 : Int)).toNat = 0 from rfl] at hx836_0)
                              (try rw [show 0 * 5 = 0 from rfl] at hx836_0)
                              (try rw [Addr.add_zero'] at hx836_0)
                              (try rw [show ((0 : Int)).toNat = 0 from rfl] at hx836_1)
                              (try rw [show 0 * 5 = 0 from rfl] at hx836_1)
                              (try rw [Addr.add_zero'] at hx836_1)
                              (try rw [show ((0 : Int)).toNat = 0 from rfl] at hx836_2)
                              (try rw [show 0 * 5 = 0 from rfl] at hx836_2)
                              (try rw [Addr.add_zero'] at hx836_2)
                              (try rw [show ((0 : Int)).toNat = 0 from rfl] at hx836_3)
                              (try rw [show 0 * 5 = 0 from rfl] at hx836_3)
                              (try rw [Addr.add_zero'] at hx836_3)
                              (try rw [show ((0 : Int)).toNat = 0 from rfl] at hx836_4)
                              (try rw [show 0 * 5 = 0 from rfl] at hx836_4)
                              (try rw [Addr.add_zero'] at hx836_4)
                              replace p836 := eq_true p836
                              replace q836 := eq_true q836
                              go_wp2
                              repeat (go_quiet (fail); try go_wp2)
                              go_ret
                              exact ⟨by first | rfl | (simp [errW_none, errW_some] <;> rfl) | (simp [*, errW_none, errW_some] <;> rfl), by repeat (first | (with_reducible first | exact HB.out | apply below_alloc | apply pw_below_drewN | apply below_drew1) | exact HB.out)⟩
                            · rw [if_neg c144] at H
                              exact absurd H (by simp)
                          · rw [if_neg c143] at H
                            have c143b0 : ((t817.length : Int) == 1) = false := beq_eq_false_iff_ne.mpr c143
                            have c143b1 : ((t817.length : Int) != 1) = true := bne_iff_ne.mpr c143
                            obtain rfl := Option.some.inj H
                            obtain ⟨Ao147, co147, eo147⟩ := Kd.V_slice HO_5.out
                            subst eo147
                            obtain ⟨Ao148, co148, eo148⟩ := Kd.R_slice HO_4.out
                            subst eo148
                            go_wp2
                            repeat (go_quiet (fail); try go_wp2)
                            go_ret
                            exact ⟨by first | rfl | (simp [errW_none, errW_some] <;> rfl) | (simp [*, errW_none, errW_some] <;> rfl), by repeat (first | (with_reducible first | exact HB.out | apply below_alloc | apply pw_below_drewN | apply below_drew1) | exact HB.out)⟩
                        · replace c142 := Bool.eq_false_iff.mpr c142
                          subst c142
                          have H1 : (some false) = some r := by rw [if_neg (show ¬ (false = true) by decide)] at H; exact H
                          clear H
                          have H := H1
                          clear H1
                          obtain rfl := Option.some.inj H
                          obtain ⟨Ao149, co149, eo149⟩ := Kd.V_slice HO_5.out
                          subst eo149
                          go_wp2
                          repeat (go_quiet (fail); try go_wp2)
                          go_ret
                          exact ⟨by first | rfl | (simp [errW_none, errW_some] <;> rfl) | (simp [*, errW_none, errW_some] <;> rfl), by repeat (first | (with_reducible first | exact HB.out | apply below_alloc | apply pw_below_drewN | apply below_drew1) | exact HB.out)⟩
          · rw [if_neg c28] at H
            have c28b0 : decide (a0 < 127) = false := decide_eq_false c28
            clear c28
            by_cases c150 : t813 = true
            · subst c150
              have H1 : (some (decide ((t817.length : Int) ≤ 1))) = some r := by rw [if_pos rfl] at H; exact H
              clear H
              have H := H1
              clear H1
              obtain rfl := Option.some.inj H
              obtain ⟨Ao151, co151, eo151⟩ := Kd.V_slice HO_5.out
              subst eo151
              obtain ⟨Ao152, co152, eo152⟩ := Kd.R_slice HO_4.out
              subst eo152
              go_wp2
              repeat (go_quiet (fail); try go_wp2)
              go_ret
              exact ⟨by first | rfl | (simp [errW_none, errW_some] <;> rfl) | (simp [*, errW_none, errW_some] <;> rfl), by repeat (first | (with_reducible first | exact HB.out | apply below_alloc | apply pw_below_drewN | apply below_drew1) | exact HB.out)⟩
            · replace c150 := Bool.eq_false_iff.mpr c150
              subst c150
              have H1 : (some false) = some r := by rw [if_neg (show ¬ (false = true) by decide)] at H; exact H
              clear H
              have H := H1
              clear H1
              obtain rfl := Option.some.inj H
              obtain ⟨Ao153, co153, eo153⟩ := Kd.V_slice HO_5.out
              subst eo153
              go_wp2
              repeat (go_quiet (fail); try go_wp2)
              go_ret
              exact ⟨by first | rfl | (simp [errW_none, errW_some] <;> rfl) | (simp [*, errW_none, errW_some] <;> rfl), by repeat (first | (with_reducible first | exact HB.out | apply below_alloc | apply pw_below_drewN | apply below_drew1) | exact HB.out)⟩
        · rw [if_neg c27] at H
          have c27b0 : decide (32 < a0) = false := decide_eq_false c27
          clear c27
          by_cases c154 : t813 = true
          · subst c154
            have H1 : (some (decide ((t817.length : Int) ≤ 1))) = some r := by rw [if_pos rfl] at H; exact H
            clear H
            have H := H1
            clear H1
            obtain rfl := Option.some.inj H
            obtain ⟨Ao155, co155, eo155⟩ := Kd.V_slice HO_5.out
            subst eo155
            obtain ⟨Ao156, co156, eo156⟩ := Kd.R_slice HO_4.out
            subst eo156
            go_wp2
            repeat (go_quiet (fail); try go_wp2)
            go_ret
            exact ⟨by first | rfl | (simp [errW_none, errW_some] <;> rfl) | (simp [*, errW_none, errW_some] <;> rfl), by repeat (first | (with_reducible first | exact HB.out | apply below_alloc | apply pw_below_drewN | apply below_drew1) | exact HB.out)⟩
          · replace c154 := Bool.eq_false_iff.mpr c154
            subst c154
            have H1 : (some false) = some r := by rw [if_neg (show ¬ (false = true) by decide)] at H; exact H
            clear H
            have H := H1
            clear H1
            obtain rfl := Option.some.inj H
            obtain ⟨Ao157, co157, eo157⟩ := Kd.V_slice HO_5.out
            subst eo157
            go_wp2
            repeat (go_quiet (fail); try go_wp2)
            go_ret
            exact ⟨by first | rfl | (simp [errW_none, errW_some] <;> rfl) | (simp [*, errW_none, errW_some] <;> rfl), by repeat (first | (with_reducible first | exact HB.out | apply below_alloc | apply pw_below_drewN | apply below_drew1) | exact HB.out)⟩
def tapestrierlaw4_TokSigns.Pure : Prop := ∀ (a0 : Int), (Lit.int .u8 a0).wf = true → ∃ k, tapestrierlaw4_TokSigns.f k a0 = some true
theorem tapestrierlaw4_TokSigns.walk (P : tapestrierlaw4_TokSigns.Pure) (a0 : Int) (w : World) (w0 : (Lit.int .u8 a0).wf = true) (hT : TabsIn w) :
    Calls Tryd.prog 9 #[.int .u8 a0] w fun e w' => e = .returned (.bool true) ∧ Below w.heap.size w w' := by
  obtain ⟨k, h⟩ := P a0 w0
  refine (tapestrierlaw4_TokSigns.calls k a0 true w hT h).mono ?_
  rintro e w' ⟨rfl, hd⟩
  exact ⟨rfl, hd⟩
end Go.Proofs.YtplkkmmojanclaaDoor.Q
