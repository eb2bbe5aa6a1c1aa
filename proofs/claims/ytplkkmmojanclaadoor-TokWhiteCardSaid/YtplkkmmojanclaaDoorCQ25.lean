/- Part of the proof; printed or typed in this session; unused declarations and remarks struck by a program (wip/prune.py). -/
import Derived.Test.YtplkkmmojanclaaDoorCQ0
import Derived.Test.YtplkkmmojanclaaDoorCQ1
import Derived.Test.YtplkkmmojanclaaDoorCQ16
import Derived.Test.YtplkkmmojanclaaDoorCQ17
import Derived.Test.YtplkkmmojanclaaDoorCConstApp
set_option linter.all false
namespace Go.Proofs.YtplkkmmojanclaaDoor.Q
open Go.RowKit Go.Proofs.YtplkkmmojanclaaDoor.My Go.Proofs.YtplkkmmojanclaaDoorW.PrintWords Go.Proofs.YtplkkmmojanclaaDoorW.PrintLast Go.Proofs.YtplkkmmojanclaaDoorW.PrintMore
attribute [local go_sem] max2_int min2_int max_two min_two max_three min_three max_four min_four
set_option linter.unusedVariables false
set_option linter.unusedSimpArgs false
attribute [local go_sem high] eqA31
mutual
def tapestrierlaw4_TokWhite.j0 : Nat → List Int → Bool → Bool → Option (Bool)
  | 0, _, _, _ => none
  | k + 1, x0, x3, x19 => if x19 = true then (some x3) else (tapestrierlaw4_TokWhite.l0 k x0 ([] : List Int) 0)
def tapestrierlaw4_TokWhite.l0 : Nat → List Int → List Int → Int → Option (Bool)
  | 0, _, _, _ => none
  | k + 1, x0, x4, x5 => if x5 < (x0.length : Int) then (if 0 ≤ x5 then (if 0 ≤ (Int.tmod (Go.bits .and .i64 (rd x0 x5) 1023) 5) then (if (Int.tmod (Go.bits .and .i64 (rd x0 x5) 1023) 5) < 5 then (if x4.length < 140737488355328 then (tapestrierlaw4_TokWhite.l0 k x0 (x4 ++ [bt (⟨#[32, 9, 10, 13, 12]⟩ : ByteArray) (Int.tmod (Go.bits .and .i64 (rd x0 x5) 1023) 5)]) (wrap64 (x5 + 1))) else (none)) else (none)) else (none)) else (none)) else ((constApp5.f (strOfNums [97]) x4).bind fun t927 => (if t927.length < 140737488355328 then ((tapestrierlaw4_Of.f k (t927 ++ [98])).bind fun t933 => (if (t933.length : Int) = 3 then (if 0 < (t933.length : Int) then (if ((rd_T31 t933 0).f1).toList = ([97] : List UInt8) then (if 1 < (t933.length : Int) then (if (((rd_T31 t933 1).f0) == 9 && ((((rd_T31 t933 1).f1).toList) == ([] : List UInt8) && (((rd_T31 t933 1).f2) == 0 && (!((rd_T31 t933 1).f3) && (((rd_T31 t933 1).f4) == 0))))) = true then (if 2 < (t933.length : Int) then (some (((rd_T31 t933 2).f1).toList == ([98] : List UInt8))) else (none)) else (some false)) else (none)) else (some false)) else (none)) else (some false))) else (none)))
end
def tapestrierlaw4_TokWhite.f (k : Nat) (l0 : List Int) : Option (Bool) := (tapestrierlaw4_alive.f k).bind fun t922 => (if t922 = true then (if (l0.length : Int) < 1 then (tapestrierlaw4_TokWhite.j0 k l0 t922 true) else (tapestrierlaw4_TokWhite.j0 k l0 t922 (decide ((l0.length : Int) > 100)))) else (tapestrierlaw4_TokWhite.j0 k l0 t922 true))
theorem tapestrierlaw4_TokWhite.mono_l : ∀ k, (∀ y0 y1 y2, LeO (tapestrierlaw4_TokWhite.j0 k y0 y1 y2) (tapestrierlaw4_TokWhite.j0 (k + 1) y0 y1 y2)) ∧ (∀ y0 y1 y2, LeO (tapestrierlaw4_TokWhite.l0 k y0 y1 y2) (tapestrierlaw4_TokWhite.l0 (k + 1) y0 y1 y2))
  | 0 => ⟨fun _ _ _ r h => by simp [tapestrierlaw4_TokWhite.j0] at h, fun _ _ _ r h => by simp [tapestrierlaw4_TokWhite.l0] at h⟩
  | k + 1 => by
    obtain ⟨ih0, ih1⟩ := tapestrierlaw4_TokWhite.mono_l k
    refine ⟨?_, ?_⟩
    · intro y0 y1 y2
      unfold tapestrierlaw4_TokWhite.j0
      repeat' first
      | (with_reducible exact ih0 _ _ _)
      | (with_reducible exact ih1 _ _ _)
      | (with_reducible exact tapestrierlaw4_Of.mono _ _)
      | (with_reducible exact tapestrierlaw4_alive.mono _)
      | (with_reducible exact LeO.refl _)
      | (with_reducible exact LeO.none _)
      | (with_reducible refine LeO.ite ?_ ?_)
      | (with_reducible refine LeO.bind ?_ (fun _ => ?_))
      | exact ih0 _ _ _
      | exact ih1 _ _ _
      | exact tapestrierlaw4_Of.mono _ _
      | exact tapestrierlaw4_alive.mono _
      | exact LeO.none _
      | refine LeO.ite ?_ ?_
      | refine LeO.bind ?_ (fun _ => ?_)
    · intro y0 y1 y2
      unfold tapestrierlaw4_TokWhite.l0
      repeat' first
      | (with_reducible exact ih0 _ _ _)
      | (with_reducible exact ih1 _ _ _)
      | (with_reducible exact tapestrierlaw4_Of.mono _ _)
      | (with_reducible exact tapestrierlaw4_alive.mono _)
      | (with_reducible exact LeO.refl _)
      | (with_reducible exact LeO.none _)
      | (with_reducible refine LeO.ite ?_ ?_)
      | (with_reducible refine LeO.bind ?_ (fun _ => ?_))
      | exact ih0 _ _ _
      | exact ih1 _ _ _
      | exact tapestrierlaw4_Of.mono _ _
      | exact tapestrierlaw4_alive.mono _
      | exact LeO.none _
      | refine LeO.ite ?_ ?_
      | refine LeO.bind ?_ (fun _ => ?_)
theorem tapestrierlaw4_TokWhite.mono : ∀ a0 k, LeO (tapestrierlaw4_TokWhite.f k a0) (tapestrierlaw4_TokWhite.f (k + 1) a0) := by
  intro a0 k
  obtain ⟨ih0, ih1⟩ := tapestrierlaw4_TokWhite.mono_l k
  unfold tapestrierlaw4_TokWhite.f
  repeat' first
      | (with_reducible exact ih0 _ _ _)
      | (with_reducible exact ih1 _ _ _)
      | (with_reducible exact tapestrierlaw4_Of.mono _ _)
      | (with_reducible exact tapestrierlaw4_alive.mono _)
      | (with_reducible exact LeO.refl _)
      | (with_reducible exact LeO.none _)
      | (with_reducible refine LeO.ite ?_ ?_)
      | (with_reducible refine LeO.bind ?_ (fun _ => ?_))
      | exact ih0 _ _ _
      | exact ih1 _ _ _
      | exact tapestrierlaw4_Of.mono _ _
      | exact tapestrierlaw4_alive.mono _
      | exact LeO.none _
      | refine LeO.ite ?_ ?_
      | refine LeO.bind ?_ (fun _ => ?_)
set_option maxHeartbeats 8000000 in
set_option maxRecDepth 100000 in
theorem tapestrierlaw4_TokWhite.calls (k : Nat) (A0 : Option Addr) (c0 : Nat) (l0 : List Int) (r : Bool) (w : World) (hr0 : Kd.C (Kd.int .i64) w A0 l0.length l0) (hc0 : l0.length ≤ c0) (hT : TabsIn w) (h : tapestrierlaw4_TokWhite.f k l0 = some r) :
    Calls Tryd.prog 11 #[.slice A0 l0.length c0] w fun e w' => e = .returned (.bool r) ∧ Below w.heap.size w w' := by
  have hu31 := Tryd.underlying31
  have HR0 := Aside0.mk hr0
  have HC0 := Aside0.mk hc0
  clear hr0 hc0
  have HT := Aside0.mk hT
  clear hT
  have kc := fun (w : World) (C : Array Value) (n c : Nat) => Lib.run_convert_bytes_const (P := Tryd.prog) w 25 5 C n c Tryd.underlying25 Tryd.underlying5
  have HB := Aside0.mk (Below.refl w.heap.size w)
  have H : ((tapestrierlaw4_alive.f k).bind fun t922 => (if t922 = true then (if (l0.length : Int) < 1 then (tapestrierlaw4_TokWhite.j0 k l0 t922 true) else (tapestrierlaw4_TokWhite.j0 k l0 t922 (decide ((l0.length : Int) > 100)))) else (tapestrierlaw4_TokWhite.j0 k l0 t922 true))) = some r := h
  clear h
  replace H := Option.bind_eq_some_iff.mp H
  obtain ⟨t922, A20, H⟩ := H
  replace H : (if t922 = true then (if (l0.length : Int) < 1 then (tapestrierlaw4_TokWhite.j0 k l0 t922 true) else (tapestrierlaw4_TokWhite.j0 k l0 t922 (decide ((l0.length : Int) > 100)))) else (tapestrierlaw4_TokWhite.j0 k l0 t922 true)) = some r := H
  have A2 := Aside0.mk A20
  clear A20
  have HC3 := Aside0.mk H
  clear H
  go_enter Tryd.func11, Tryd.ntmps11
  go_upto_region 2 with (first | ((with_reducible refine gate_callee (f := 17) rfl ?_); refine goesL_ (some 7) rfl rfl Tryd.func17 (by kernel_rfl) rfl #[] rfl (by (try simp only [List.map_toArray, List.map_cons, List.map_nil]); first | done | rfl | (simp only [List.length_drop, List.length_take]; rfl)) ?_; (with_reducible refine (tapestrierlaw4_alive.calls k  t922 _ ?side1 A2.out).mono ?_); (case side1 => exact TabsIn.below HT.out (by repeat (first | (with_reducible first | exact HB.out | apply below_alloc | apply pw_below_drewN | apply below_drew1) | exact HB.out))); rintro e w4 ⟨rfl, hb⟩; refine ⟨_, rfl, ?_⟩; have n0_ := Aside0.mk (below_step (by repeat (first | (with_reducible first | exact HB.out | apply below_alloc | apply pw_below_drewN | apply below_drew1) | exact HB.out)) hb); clear HB; have HB := n0_; clear n0_; (try clear hb); (try clear hb2); (try clear hk); (try clear hi)))
  (try simp only [Act.put, List.setIfInBounds_toArray, List.set_cons_zero, List.set_cons_succ])
  go_cut [19] (fun v19 wc => ∃ (kq : Nat) (x19_2 : Bool), v19 = .bool x19_2 ∧ Aside0 (tapestrierlaw4_TokWhite.j0 kq l0 t922 x19_2 = some r) ∧ Aside0 (kq ≤ k) ∧ Aside0 (Below w.heap.size w wc))
  case first =>
    have H := HC3.out
    clear HC3
    by_cases c5 : t922 = true
    · subst c5
      have H1 : (if (l0.length : Int) < 1 then (tapestrierlaw4_TokWhite.j0 k l0 true true) else (tapestrierlaw4_TokWhite.j0 k l0 true (decide ((l0.length : Int) > 100)))) = some r := by rw [if_pos rfl] at H; exact H
      clear H
      have H := H1
      clear H1
      by_cases c6 : (l0.length : Int) < 1
      · rw [if_pos c6] at H
        have c6b0 : decide ((l0.length : Int) < 1) = true := decide_eq_true c6
        have c6b1 : decide (l0.length < 1) = true := decide_eq_true (by omega)
        clear c6
        (first | rw [c6b0] | (simp only [i64_w, i32_w]; rw [c6b0]) | skip)
        have H' := Aside0.mk H
        clear H
        go_wp2
        go_meet
        case rel => exact ⟨_, (true), (by first | rfl | (simp; done) | (simp [*]; done) | (simp [wrap64]; done)), H', ⟨by first | omega | exact Nat.le_refl _⟩, ⟨by repeat (first | (with_reducible first | exact HB.out | apply below_alloc | apply pw_below_drewN | apply below_drew1) | exact HB.out)⟩⟩
      · rw [if_neg c6] at H
        have c6b0 : decide ((l0.length : Int) < 1) = false := decide_eq_false c6
        have c6b1 : decide (l0.length < 1) = false := decide_eq_false (by omega)
        clear c6
        (first | rw [c6b0] | (simp only [i64_w, i32_w]; rw [c6b0]) | skip)
        have H' := Aside0.mk H
        clear H
        go_wp2
        go_meet
        case rel => exact ⟨_, (decide ((l0.length : Int) > 100)), (by first | rfl | (simp; done) | (simp [*]; done) | (simp [wrap64]; done)), H', ⟨by first | omega | exact Nat.le_refl _⟩, ⟨by repeat (first | (with_reducible first | exact HB.out | apply below_alloc | apply pw_below_drewN | apply below_drew1) | exact HB.out)⟩⟩
    · replace c5 := Bool.eq_false_iff.mpr c5
      subst c5
      have H1 : (tapestrierlaw4_TokWhite.j0 k l0 false true) = some r := by rw [if_neg (show ¬ (false = true) by decide)] at H; exact H
      clear H
      have H := H1
      clear H1
      have H' := Aside0.mk H
      clear H
      go_wp2
      go_meet
      case rel => exact ⟨_, (true), (by first | rfl | (simp; done) | (simp [*]; done) | (simp [wrap64]; done)), H', ⟨by first | omega | exact Nat.le_refl _⟩, ⟨by repeat (first | (with_reducible first | exact HB.out | apply below_alloc | apply pw_below_drewN | apply below_drew1) | exact HB.out)⟩⟩
  case rest =>
    clear HC3
    try clear c1
    try clear p2
    try clear c5
    try clear c6
    try clear c6b0
    try clear c6b1
    try clear p6
    obtain ⟨kq, x19_2, rfl, HA, HJ2, HB⟩ := hcut
    cases kq with
    | zero => exact absurd HA.out (by simp [tapestrierlaw4_TokWhite.j0])
    | succ kj2 =>
      have H := HA.out
      clear HA
      simp only [tapestrierlaw4_TokWhite.j0] at H
      by_cases c7 : x19_2 = true
      · subst c7
        have H1 : (some t922) = some r := by rw [if_pos rfl] at H; exact H
        clear H
        have H := H1
        clear H1
        obtain rfl := Option.some.inj H
        go_wp2
        go_ret
        exact ⟨by first | rfl | (simp [errW_none, errW_some] <;> rfl) | (simp [*, errW_none, errW_some] <;> rfl), by repeat (first | (with_reducible first | exact HB.out | apply below_alloc | apply pw_below_drewN | apply below_drew1) | exact HB.out)⟩
      · replace c7 := Bool.eq_false_iff.mpr c7
        subst c7
        have H1 : (tapestrierlaw4_TokWhite.l0 kj2 l0 ([] : List Int) 0) = some r := by rw [if_neg (show ¬ (false = true) by decide)] at H; exact H
        clear H
        have H := H1
        clear H1
        have H' := Aside0.mk H
        clear H
        go_wp2
        go_loopg [4, 5] kj2 (fun kq v4 v5 w' => ∃ (x4_2 : List Int) (x5_2 : Int), v5 = .int .i64 x5_2 ∧ Aside0 (tapestrierlaw4_TokWhite.l0 kq l0 x4_2 x5_2 = some r) ∧ Aside0 (kq ≤ kj2) ∧ Aside0 (Kd.R (Kd.int .u8) 5 w' w.heap.size (fun _ => True) v4 x4_2) ∧ Aside0 (Below w.heap.size w w'))
        case atStart => exact ⟨(([] : List Int)), (0), (by first | rfl | (simp; done) | (simp [*]; done) | (simp [wrap64]; done)), H', ⟨Nat.le_refl _⟩, ⟨by first | exact Kd.R_nil _ _ _ _ _ | exact Kd.N_nil _ _ _ _ _ | exact Kd.V_nil _ _ _ _ _ | exact Kd.Q_nil _ _ _ _ _ | exact Kd.S_nil _ _ _ _ _⟩, ⟨by repeat (first | (with_reducible first | exact HB.out | apply below_alloc | apply pw_below_drewN | apply below_drew1) | exact HB.out)⟩⟩
        case round =>
          clear H'
          try clear c1
          try clear p2
          try clear c5
          try clear c6
          try clear c6b0
          try clear c6b1
          try clear p6
          try clear c7
          try clear p2
          try clear p6
          obtain ⟨x4_2, x5_2, rfl, HA, HK2, HO_4, HB⟩ := hrel
          cases gk with
          | zero => exact absurd HA.out (by simp [tapestrierlaw4_TokWhite.l0])
          | succ k2 =>
            have H := HA.out
            clear HA
            simp only [tapestrierlaw4_TokWhite.l0] at H
            by_cases c8 : x5_2 < (l0.length : Int)
            · rw [if_pos c8] at H
              have c8b0 : decide (x5_2 < (l0.length : Int)) = true := decide_eq_true c8
              clear c8
              by_cases c9 : 0 ≤ x5_2
              · rw [if_pos c9] at H
                have c9b0 : decide (0 ≤ x5_2) = true := decide_eq_true c9
                clear c9
                obtain ⟨ji10, hji10⟩ : ∃ j_ : Int, (Int.tmod (Go.bits .and .i64 (rd l0 x5_2) 1023) 5) = j_ := ⟨_, rfl⟩
                replace H : (if 0 ≤ (ji10) then (if (ji10) < 5 then (if x4_2.length < 140737488355328 then (tapestrierlaw4_TokWhite.l0 k2 l0 (x4_2 ++ [bt (⟨#[32, 9, 10, 13, 12]⟩ : ByteArray) (ji10)]) (wrap64 (x5_2 + 1))) else (none)) else (none)) else (none)) = some r := by first | (rw [hji10] at H; exact H) | (simp only [hji10] at H ⊢; exact H)
                by_cases c11 : 0 ≤ (ji10)
                · rw [if_pos c11] at H
                  have c11b0 : decide (0 ≤ (ji10)) = true := decide_eq_true c11
                  clear c11
                  by_cases c12 : (ji10) < 5
                  · rw [if_pos c12] at H
                    have c12b0 : decide ((ji10) < 5) = true := decide_eq_true c12
                    clear c12
                    by_cases c14 : x4_2.length < 140737488355328
                    · rw [if_pos c14] at H
                      have LMc14 := Aside0.mk c14
                      clear c14
                      obtain ⟨y924, hy924⟩ : ∃ y_ : List Int, y_ = (x4_2 ++ [bt (⟨#[32, 9, 10, 13, 12]⟩ : ByteArray) (ji10)]) := ⟨_, rfl⟩
                      replace H : (tapestrierlaw4_TokWhite.l0 k2 l0 y924 (wrap64 (x5_2 + 1))) = some r := by first | (rw [hy924]; with_reducible exact H) | (have H2_ := (Option.bind_some _ _).symm.trans H; rw [hy924]; with_reducible exact H2_) | (have H2_ := (Option.bind_some _ _).symm.trans H; with_reducible exact H2_) | with_reducible exact H | (rw [hy924]; exact H) | exact H
                      have Ny924 := Aside0.mk hy924
                      clear hy924
                      have H' := Aside0.mk H
                      clear H
                      have p923 : 0 ≤ (x5_2 : Int) := of_decide_eq_true (by first | (with_reducible assumption) | assumption)
                      have q923 : x5_2 < (l0.length : Int) := of_decide_eq_true (by first | (with_reducible assumption) | assumption)
                      obtain ⟨ad923, e923, hx923_0⟩ := Kd.at_int HR0.out x5_2 p923 q923
                      cases e923
                      replace hx923_0 := (HB.out.cell (World.block_lt_of_cell? w _ hx923_0)).trans hx923_0
                      replace p923 := eq_true p923
                      replace q923 := eq_true q923
                      have p13 : 0 ≤ ((ji10) : Int) := of_decide_eq_true (by first | (with_reducible assumption) | assumption)
                      have q13 : (ji10) < (5 : Int) := of_decide_eq_true (by first | (with_reducible assumption) | assumption)
                      have hx13 := bt_at (⟨#[32, 9, 10, 13, 12]⟩ : ByteArray) (ji10)
                      replace p13 := eq_true p13
                      replace q13 := eq_true q13
                      go_wp2_with (first | ((with_reducible refine gate_builtin (b := .append) (xs := #[.tmp 27, .tmp 35]) rfl ?_); (try (refine gate_guard (by rfl) ?_; dsimp only)); at_builtin; refine Kd.R_append (Kd.int .u8) (w0 := w) w.heap.size rfl (.tmp 27) (.tmp 35) 25 5 (.int .u8 0) 1 rfl Tryd.underlying25 info5 rfl (by decide) (by omega) u4 x4_2 (bt (⟨#[32, 9, 10, 13, 12]⟩ : ByteArray) (ji10)) [.int .u8 (bt (⟨#[32, 9, 10, 13, 12]⟩ : ByteArray) (ji10))] (fun _ => True) (fun _ => False) rfl rfl ?aP (fun _ hk => hk.elim) ?aF ?aO ?aB ?aS ?aL ?_; (case aP => exact rfl); (case aB => exact (by repeat (first | (with_reducible first | exact HB.out | apply below_alloc | apply pw_below_drewN | apply below_drew1) | exact HB.out))); (case aF => exact (fun _ _ => trivial)); (case aO => exact (by (with_reducible repeat (first | apply Kd.R_alloc | apply Kd.R_drewN | apply Kd.R_drew)); exact HO_4.out)); (case aS => exact (below_size (by repeat (first | (with_reducible first | exact HB.out | apply below_alloc | apply pw_below_drewN | apply below_drew1) | exact HB.out)))); (case aL => have := LMc14.out; first | omega | exact Nat.le_of_lt this); intro v925 w15 ho hb hg hat; rw [← Ny924.out] at ho; have n0_ := Aside0.mk (hb); have n1_ := Aside0.mk (ho); clear HB; clear HO_4; have HB := n0_; have HO926 := n1_; clear n0_ n1_; clear ho hb hg hat))
                      go_roundg k2
                      case measure => have := HJ2.out; have := HK2.out; omega
                      case rel => exact ⟨(y924), (wrap64 (x5_2 + 1)), (by first | rfl | (simp; done) | (simp [*]; done) | (simp [wrap64]; done)), H', ⟨by have := HJ2.out; have := HK2.out; omega⟩, ⟨by (with_reducible repeat (first | apply Kd.R_alloc | apply Kd.R_drewN | apply Kd.R_drew)); exact HO926.out⟩, ⟨by repeat (first | (with_reducible first | exact HB.out | apply below_alloc | apply pw_below_drewN | apply below_drew1) | exact HB.out)⟩⟩
                    · rw [if_neg c14] at H
                      exact absurd H (by simp)
                  · rw [if_neg c12] at H
                    exact absurd H (by simp)
                · rw [if_neg c11] at H
                  exact absurd H (by simp)
              · rw [if_neg c9] at H
                exact absurd H (by simp)
            · rw [if_neg c8] at H
              have c8b0 : decide (x5_2 < (l0.length : Int)) = false := decide_eq_false c8
              clear c8
              replace H := Option.bind_eq_some_iff.mp H
              obtain ⟨t927, A160, H⟩ := H
              replace H : (if t927.length < 140737488355328 then ((tapestrierlaw4_Of.f k2 (t927 ++ [98])).bind fun t933 => (if (t933.length : Int) = 3 then (if 0 < (t933.length : Int) then (if ((rd_T31 t933 0).f1).toList = ([97] : List UInt8) then (if 1 < (t933.length : Int) then (if (((rd_T31 t933 1).f0) == 9 && ((((rd_T31 t933 1).f1).toList) == ([] : List UInt8) && (((rd_T31 t933 1).f2) == 0 && (!((rd_T31 t933 1).f3) && (((rd_T31 t933 1).f4) == 0))))) = true then (if 2 < (t933.length : Int) then (some (((rd_T31 t933 2).f1).toList == ([98] : List UInt8))) else (none)) else (some false)) else (none)) else (some false)) else (none)) else (some false))) else (none)) = some r := H
              have A16 := Aside0.mk A160
              clear A160
              by_cases c17 : t927.length < 140737488355328
              · rw [if_pos c17] at H
                have LMc17 := Aside0.mk c17
                clear c17
                obtain ⟨y930, hy930⟩ : ∃ y_ : List Int, y_ = (t927 ++ [98]) := ⟨_, rfl⟩
                replace H : ((tapestrierlaw4_Of.f k2 y930).bind fun t933 => (if (t933.length : Int) = 3 then (if 0 < (t933.length : Int) then (if ((rd_T31 t933 0).f1).toList = ([97] : List UInt8) then (if 1 < (t933.length : Int) then (if (((rd_T31 t933 1).f0) == 9 && ((((rd_T31 t933 1).f1).toList) == ([] : List UInt8) && (((rd_T31 t933 1).f2) == 0 && (!((rd_T31 t933 1).f3) && (((rd_T31 t933 1).f4) == 0))))) = true then (if 2 < (t933.length : Int) then (some (((rd_T31 t933 2).f1).toList == ([98] : List UInt8))) else (none)) else (some false)) else (none)) else (some false)) else (none)) else (some false))) = some r := by first | (rw [hy930]; with_reducible exact H) | (have H2_ := (Option.bind_some _ _).symm.trans H; rw [hy930]; with_reducible exact H2_) | (have H2_ := (Option.bind_some _ _).symm.trans H; with_reducible exact H2_) | with_reducible exact H | (rw [hy930]; exact H) | exact H
                have Ny930 := Aside0.mk hy930
                clear hy930
                replace H := Option.bind_eq_some_iff.mp H
                obtain ⟨t933, A180, H⟩ := H
                replace H : (if (t933.length : Int) = 3 then (if 0 < (t933.length : Int) then (if ((rd_T31 t933 0).f1).toList = ([97] : List UInt8) then (if 1 < (t933.length : Int) then (if (((rd_T31 t933 1).f0) == 9 && ((((rd_T31 t933 1).f1).toList) == ([] : List UInt8) && (((rd_T31 t933 1).f2) == 0 && (!((rd_T31 t933 1).f3) && (((rd_T31 t933 1).f4) == 0))))) = true then (if 2 < (t933.length : Int) then (some (((rd_T31 t933 2).f1).toList == ([98] : List UInt8))) else (none)) else (some false)) else (none)) else (some false)) else (none)) else (some false)) = some r := H
                have A18 := Aside0.mk A180
                clear A180
                by_cases c19 : (t933.length : Int) = 3
                · rw [if_pos c19] at H
                  have c19b0 : ((t933.length : Int) == 3) = true := beq_iff_eq.mpr c19
                  have c19b1 : ((t933.length : Int) != 3) = false := bne_eq_false_iff_eq.mpr c19
                  clear c19
                  by_cases c20 : 0 < (t933.length : Int)
                  · rw [if_pos c20] at H
                    have c20b0 : decide (0 < (t933.length : Int)) = true := decide_eq_true c20
                    have c20b1 : decide (0 < t933.length) = true := decide_eq_true (by omega)
                    clear c20
                    by_cases c21 : ((rd_T31 t933 0).f1).toList = ([97] : List UInt8)
                    · rw [if_pos c21] at H
                      have c21b0 : (((rd_T31 t933 0).f1).toList == ([97] : List UInt8)) = true := beq_iff_eq.mpr c21
                      have c21b1 : (((rd_T31 t933 0).f1).toList != ([97] : List UInt8)) = false := bne_eq_false_iff_eq.mpr c21
                      clear c21
                      by_cases c22 : 1 < (t933.length : Int)
                      · rw [if_pos c22] at H
                        have c22b0 : decide (1 < (t933.length : Int)) = true := decide_eq_true c22
                        have c22b1 : decide (1 < t933.length) = true := decide_eq_true (by omega)
                        clear c22
                        by_cases c23 : (((rd_T31 t933 1).f0) == 9 && ((((rd_T31 t933 1).f1).toList) == ([] : List UInt8) && (((rd_T31 t933 1).f2) == 0 && (!((rd_T31 t933 1).f3) && (((rd_T31 t933 1).f4) == 0))))) = true
                        · rw [if_pos c23] at H
                          (try (have c23b8 := c23; simp only [beq_iff_eq, Bool.and_eq_true, Bool.not_eq_true', Bool.not_eq_true] at c23b8))
                          have c23b0 : (((rd_T31 t933 1).f0) == 9 && ((((rd_T31 t933 1).f1).toList) == ([] : List UInt8) && (((rd_T31 t933 1).f2) == 0 && (!((rd_T31 t933 1).f3) && (((rd_T31 t933 1).f4) == 0))))) = true := c23
                          (try (have c23b1 : decide (((rd_T31 t933 1).f0) = 9 && ((((rd_T31 t933 1).f1).toList) == ([] : List UInt8) && (((rd_T31 t933 1).f2) == 0 && (!((rd_T31 t933 1).f3) && (((rd_T31 t933 1).f4) == 0))))) = true := by simpa using c23))
                          (try (have c23b2 : (((rd_T31 t933 1).f0) == 9 && ((((rd_T31 t933 1).f1).toList) == ([] : List UInt8) && (((rd_T31 t933 1).f2) == 0 && (!((rd_T31 t933 1).f3) && (((rd_T31 t933 1).f4) == 0))))) = true := by simpa using c23))
                          clear c23
                          by_cases c24 : 2 < (t933.length : Int)
                          · rw [if_pos c24] at H
                            have c24b0 : decide (2 < (t933.length : Int)) = true := decide_eq_true c24
                            have c24b1 : decide (2 < t933.length) = true := decide_eq_true (by omega)
                            clear c24
                            obtain rfl := Option.some.inj H
                            obtain ⟨Ao25, co25, eo25⟩ := Kd.R_slice HO_4.out
                            subst eo25
                            go_wp2_with (first | ((with_reducible refine gate_dst (N := 40) rfl ?_); (try (refine gate_guard (by rfl) ?_; dsimp only)); (try (refine gate_guard (by rfl) ?_; dsimp only)); refine app1_goes ?hg (N := 40) ?hd (t := 25) (e := 5) (s := (strOfNums [97])) (l := x4_2) (xa := ?xa20) (xb := ?xb20) (A := ?aa20) (c := ?cp20) (n := ?nn20) (cc := ?kk20) (C := ?cc20) (fz := ?fz20) (W := ?ww20) ?ho Tryd.underlying25 info5 ?hn ?hcc ?hxa ?hxb ?hC ?hW ?_; (case hd => rfl); (case hg => rfl); (case ho => rfl); (case hW => rfl); (case hxa => first | rfl | (go_simp; done) | (go_simp; rfl)); (case hxb => first | rfl | (go_simp; done) | (go_simp; rfl)); (case hn => rfl); (case hcc => rfl); (case hC => rfl); (with_reducible refine (constApp5.calls (strOfNums [97]) _ _ x4_2 t927 _ ?side1 ?side2 A16.out).mono ?_); (case side1 => repeat (first | exact (Kd.R_reads' HO_4.out).2.2 | (with_reducible refine Kd.C_alloc ?_ _) | (with_reducible refine Kd.C_drewN ?_ _) | (with_reducible refine Kd.C_drew ?_))); (case side2 => exact (Kd.R_reads' HO_4.out).2.1); rintro e w26 ⟨v928, rfl, ho0, hb⟩; refine ⟨_, rfl, ?_⟩; have n0_ := Aside0.mk (Kd.R_elder' (by (with_reducible repeat (first | apply Kd.R_alloc | apply Kd.R_drewN | apply Kd.R_drew)); exact HO_4.out) (Kd.R_base ho0) hb); have n1_ := Aside0.mk (Kd.R_lower (Kd.R_new' ho0 (Kd.R_lt (by (with_reducible repeat (first | apply Kd.R_alloc | apply Kd.R_drewN | apply Kd.R_drew)); exact HO_4.out))) (below_size (by repeat (first | (with_reducible first | exact HB.out | apply below_alloc | apply pw_below_drewN | apply below_drew1) | exact HB.out)))); have n2_ := Aside0.mk (below_step (by repeat (first | (with_reducible first | exact HB.out | apply below_alloc | apply pw_below_drewN | apply below_drew1) | exact HB.out)) hb); clear HO_4; clear HB; have HO_4 := n0_; have HO929 := n1_; have HB := n2_; clear n0_ n1_ n2_; (try clear hb); (try clear hb2); (try clear hk); (try clear hi); (try clear ho0)) | ((with_reducible refine gate_builtin (b := .append) (xs := #[.tmp 40, .tmp 41]) rfl ?_); (try (refine gate_guard (by rfl) ?_; dsimp only)); at_builtin; refine Kd.R_append (Kd.int .u8) (w0 := w) w.heap.size rfl (.tmp 40) (.tmp 41) 25 5 (.int .u8 0) 1 rfl Tryd.underlying25 info5 rfl (by decide) (by omega) v928 t927 98 [.int .u8 98] (fun k_ => some k_ ≠ (.slice Ao25 x4_2.length co25 : Value).ownBlock) (fun _ => False) rfl rfl ?aP (fun _ hk => hk.elim) ?aF ?aO ?aB ?aS ?aL ?_; (case aP => exact rfl); (case aB => exact (by repeat (first | (with_reducible first | exact HB.out | apply below_alloc | apply pw_below_drewN | apply below_drew1) | exact HB.out))); (case aF => exact (fun k_ hk => Kd.fresh' (Kd.R_lt (by (with_reducible repeat (first | apply Kd.R_alloc | apply Kd.R_drewN | apply Kd.R_drew)); exact HO_4.out)) k_ hk)); (case aO => exact (by (with_reducible repeat (first | apply Kd.R_alloc | apply Kd.R_drewN | apply Kd.R_drew)); exact Kd.R_mono HO929.out (fun _ hk => hk.2))); (case aS => exact (below_size (by repeat (first | (with_reducible first | exact HB.out | apply below_alloc | apply pw_below_drewN | apply below_drew1) | exact HB.out)))); (case aL => have := LMc17.out; first | omega | exact Nat.le_of_lt this); intro v931 w27 ho hb hg hat; rw [← Ny930.out] at ho; have n0_ := Aside0.mk (Kd.R_after (ok := (fun _ => True)) (by (with_reducible repeat (first | apply Kd.R_alloc | apply Kd.R_drewN | apply Kd.R_drew)); exact HO_4.out) hg hat); have n1_ := Aside0.mk (hb); have n2_ := Aside0.mk (ho); clear HO_4; clear HB; clear HO929; have HO_4 := n0_; have HB := n1_; have HO932 := n2_; clear n0_ n1_ n2_; clear ho hb hg hat; obtain ⟨Ao28, co28, eo28⟩ := Kd.R_slice HO932.out; subst eo28) | ((with_reducible refine gate_callee (f := 20) rfl ?_); refine goesL_ (some 43) rfl rfl Tryd.func20 (by kernel_rfl) rfl #[.slice Ao28 y930.length co28] rfl (by (try simp only [List.map_toArray, List.map_cons, List.map_nil]); first | done | rfl | (simp only [List.length_drop, List.length_take]; rfl)) ?_; (with_reducible refine (tapestrierlaw4_Of.calls k2 _ _ y930 t933 _ ?side1 ?side2 ?side3 A18.out).mono ?_); (case side1 => repeat (first | exact (Kd.R_reads' HO932.out).2.2 | (with_reducible refine Kd.C_alloc ?_ _) | (with_reducible refine Kd.C_drewN ?_ _) | (with_reducible refine Kd.C_drew ?_))); (case side2 => exact (Kd.R_reads' HO932.out).2.1); (case side3 => exact TabsIn.below HT.out (by repeat (first | (with_reducible first | exact HB.out | apply below_alloc | apply pw_below_drewN | apply below_drew1) | exact HB.out))); rintro e w29 ⟨v934, rfl, ho0, hb⟩; refine ⟨_, rfl, ?_⟩; have n0_ := Aside0.mk (Kd.R_below (by (with_reducible repeat (first | apply Kd.R_alloc | apply Kd.R_drewN | apply Kd.R_drew)); exact HO_4.out) hb); have n1_ := Aside0.mk (Kd.R_below (by (with_reducible repeat (first | apply Kd.R_alloc | apply Kd.R_drewN | apply Kd.R_drew)); exact HO932.out) hb); have n2_ := Aside0.mk (Kd.R_lower ho0 (below_size (by repeat (first | (with_reducible first | exact HB.out | apply below_alloc | apply pw_below_drewN | apply below_drew1) | exact HB.out)))); have n3_ := Aside0.mk (below_step (by repeat (first | (with_reducible first | exact HB.out | apply below_alloc | apply pw_below_drewN | apply below_drew1) | exact HB.out)) hb); clear HO_4; clear HO932; clear HB; have HO_4 := n0_; have HO932 := n1_; have HO935 := n2_; have HB := n3_; clear n0_ n1_ n2_ n3_; (try clear hb); (try clear hb2); (try clear hk); (try clear hi); (try clear ho0); obtain ⟨Ao30, co30, eo30⟩ := Kd.R_slice HO935.out; subst eo30; have p936 : 0 ≤ (0 : Int) := (by omega); have q936 : 0 < (t933.length : Int) := of_decide_eq_true (by first | (with_reducible assumption) | assumption); obtain ⟨ad936, e936, hx936_0, hx936_1, hx936_2, hx936_3, hx936_4⟩ := at_T31 (Kd.R_reads' HO935.out).2.2 0 p936 q936; cases e936; have qi936 : (0 < t933.length) = True := eq_true (by omega); (try rw [show ((0 : Int)).toNat = 0 from rfl] at hx936_0); (try rw [show 0 * 5 = 0 from rfl] at hx936_0); (try rw [Addr.add_zero'] at hx936_0); (try rw [show ((0 : Int)).toNat = 0 from rfl] at hx936_1); (try rw [show 0 * 5 = 0 from rfl] at hx936_1); (try rw [Addr.add_zero'] at hx936_1); (try rw [show ((0 : Int)).toNat = 0 from rfl] at hx936_2); (try rw [show 0 * 5 = 0 from rfl] at hx936_2); (try rw [Addr.add_zero'] at hx936_2); (try rw [show ((0 : Int)).toNat = 0 from rfl] at hx936_3); (try rw [show 0 * 5 = 0 from rfl] at hx936_3); (try rw [Addr.add_zero'] at hx936_3); (try rw [show ((0 : Int)).toNat = 0 from rfl] at hx936_4); (try rw [show 0 * 5 = 0 from rfl] at hx936_4); (try rw [Addr.add_zero'] at hx936_4); replace p936 := eq_true p936; replace q936 := eq_true q936; have p937 : 0 ≤ (1 : Int) := (by omega); have q937 : 1 < (t933.length : Int) := of_decide_eq_true (by first | (with_reducible assumption) | assumption); obtain ⟨ad937, e937, hx937_0, hx937_1, hx937_2, hx937_3, hx937_4⟩ := at_T31 (Kd.R_reads' HO935.out).2.2 1 p937 q937; obtain rfl : ad936 = ad937 := (by injection e937); (try simp only [show (1 : Int).toNat = 1 from rfl, Nat.reduceMul, Nat.reduceEqDiff, Go.Addr.add, ↓reduceIte] at hx937_0); (try simp only [show (1 : Int).toNat = 1 from rfl, Nat.reduceMul, Nat.reduceEqDiff, Go.Addr.add, ↓reduceIte] at hx937_1); (try simp only [show (1 : Int).toNat = 1 from rfl, Nat.reduceMul, Nat.reduceEqDiff, Go.Addr.add, ↓reduceIte] at hx937_2); (try simp only [show (1 : Int).toNat = 1 from rfl, Nat.reduceMul, Nat.reduceEqDiff, Go.Addr.add, ↓reduceIte] at hx937_3); (try simp only [show (1 : Int).toNat = 1 from rfl, Nat.reduceMul, Nat.reduceEqDiff, Go.Addr.add, ↓reduceIte] at hx937_4); have qi937 : (1 < t933.length) = True := eq_true (by omega); (try rw [show ((1 : Int)).toNat = 1 from rfl] at hx937_0); (try rw [show 1 * 5 = 5 from rfl] at hx937_0); (try rw [show ((1 : Int)).toNat = 1 from rfl] at hx937_1); (try rw [show 1 * 5 = 5 from rfl] at hx937_1); (try rw [show ((1 : Int)).toNat = 1 from rfl] at hx937_2); (try rw [show 1 * 5 = 5 from rfl] at hx937_2); (try rw [show ((1 : Int)).toNat = 1 from rfl] at hx937_3); (try rw [show 1 * 5 = 5 from rfl] at hx937_3); (try rw [show ((1 : Int)).toNat = 1 from rfl] at hx937_4); (try rw [show 1 * 5 = 5 from rfl] at hx937_4); replace p937 := eq_true p937; replace q937 := eq_true q937; have p938 : 0 ≤ (2 : Int) := (by omega); have q938 : 2 < (t933.length : Int) := of_decide_eq_true (by first | (with_reducible assumption) | assumption); obtain ⟨ad938, e938, hx938_0, hx938_1, hx938_2, hx938_3, hx938_4⟩ := at_T31 (Kd.R_reads' HO935.out).2.2 2 p938 q938; obtain rfl : ad936 = ad938 := (by injection e938); (try simp only [show (2 : Int).toNat = 2 from rfl, Nat.reduceMul, Nat.reduceEqDiff, Go.Addr.add, ↓reduceIte] at hx938_0); (try simp only [show (2 : Int).toNat = 2 from rfl, Nat.reduceMul, Nat.reduceEqDiff, Go.Addr.add, ↓reduceIte] at hx938_1); (try simp only [show (2 : Int).toNat = 2 from rfl, Nat.reduceMul, Nat.reduceEqDiff, Go.Addr.add, ↓reduceIte] at hx938_2); (try simp only [show (2 : Int).toNat = 2 from rfl, Nat.reduceMul, Nat.reduceEqDiff, Go.Addr.add, ↓reduceIte] at hx938_3); (try simp only [show (2 : Int).toNat = 2 from rfl, Nat.reduceMul, Nat.reduceEqDiff, Go.Addr.add, ↓reduceIte] at hx938_4); have qi938 : (2 < t933.length) = True := eq_true (by omega); (try rw [show ((2 : Int)).toNat = 2 from rfl] at hx938_0); (try rw [show 2 * 5 = 10 from rfl] at hx938_0); (try rw [show ((2 : Int)).toNat = 2 from rfl] at hx938_1); (try rw [show 2 * 5 = 10 from rfl] at hx938_1); (try rw [show ((2 : Int)).toNat = 2 from rfl] at hx938_2); (try rw [show 2 * 5 = 10 from rfl] at hx938_2); (try rw [show ((2 : Int)).toNat = 2 from rfl] at hx938_3); (try rw [show 2 * 5 = 10 from rfl] at hx938_3); (try rw [show ((2 : Int)).toNat = 2 from rfl] at hx938_4); (try rw [show 2 * 5 = 10 from rfl] at hx938_4); replace p938 := eq_true p938; replace q938 := eq_true q938))
                            go_ret
                            exact ⟨by first | rfl | (simp [errW_none, errW_some] <;> rfl) | (simp [*, errW_none, errW_some] <;> rfl), by repeat (first | (with_reducible first | exact HB.out | apply below_alloc | apply pw_below_drewN | apply below_drew1) | exact HB.out)⟩
                          · rw [if_neg c24] at H
                            exact absurd H (by simp)
                        · rw [if_neg c23] at H
                          (try (have c23b8 := c23; simp only [beq_iff_eq, Bool.and_eq_true, Bool.not_eq_true', Bool.not_eq_true] at c23b8))
                          have c23b0 : (((rd_T31 t933 1).f0) == 9 && ((((rd_T31 t933 1).f1).toList) == ([] : List UInt8) && (((rd_T31 t933 1).f2) == 0 && (!((rd_T31 t933 1).f3) && (((rd_T31 t933 1).f4) == 0))))) = false := by simpa using c23
                          (try (have c23b1 : decide (((rd_T31 t933 1).f0) = 9 && ((((rd_T31 t933 1).f1).toList) == ([] : List UInt8) && (((rd_T31 t933 1).f2) == 0 && (!((rd_T31 t933 1).f3) && (((rd_T31 t933 1).f4) == 0))))) = false := by simpa using c23))
                          (try (have c23b2 : (((rd_T31 t933 1).f0) == 9 && ((((rd_T31 t933 1).f1).toList) == ([] : List UInt8) && (((rd_T31 t933 1).f2) == 0 && (!((rd_T31 t933 1).f3) && (((rd_T31 t933 1).f4) == 0))))) = false := by simpa using c23))
                          (try (have c23b3 : ¬ (((rd_T31 t933 1).f0) = 9 && ((((rd_T31 t933 1).f1).toList) == ([] : List UInt8) && (((rd_T31 t933 1).f2) == 0 && (!((rd_T31 t933 1).f3) && (((rd_T31 t933 1).f4) == 0))))) := by simpa using c23))
                          clear c23
                          obtain rfl := Option.some.inj H
                          obtain ⟨Ao31, co31, eo31⟩ := Kd.R_slice HO_4.out
                          subst eo31
                          go_wp2_with (first | ((with_reducible refine gate_dst (N := 40) rfl ?_); (try (refine gate_guard (by rfl) ?_; dsimp only)); (try (refine gate_guard (by rfl) ?_; dsimp only)); refine app1_goes ?hg (N := 40) ?hd (t := 25) (e := 5) (s := (strOfNums [97])) (l := x4_2) (xa := ?xa21) (xb := ?xb21) (A := ?aa21) (c := ?cp21) (n := ?nn21) (cc := ?kk21) (C := ?cc21) (fz := ?fz21) (W := ?ww21) ?ho Tryd.underlying25 info5 ?hn ?hcc ?hxa ?hxb ?hC ?hW ?_; (case hd => rfl); (case hg => rfl); (case ho => rfl); (case hW => rfl); (case hxa => first | rfl | (go_simp; done) | (go_simp; rfl)); (case hxb => first | rfl | (go_simp; done) | (go_simp; rfl)); (case hn => rfl); (case hcc => rfl); (case hC => rfl); (with_reducible refine (constApp5.calls (strOfNums [97]) _ _ x4_2 t927 _ ?side1 ?side2 A16.out).mono ?_); (case side1 => repeat (first | exact (Kd.R_reads' HO_4.out).2.2 | (with_reducible refine Kd.C_alloc ?_ _) | (with_reducible refine Kd.C_drewN ?_ _) | (with_reducible refine Kd.C_drew ?_))); (case side2 => exact (Kd.R_reads' HO_4.out).2.1); rintro e w32 ⟨v928, rfl, ho0, hb⟩; refine ⟨_, rfl, ?_⟩; have n0_ := Aside0.mk (Kd.R_elder' (by (with_reducible repeat (first | apply Kd.R_alloc | apply Kd.R_drewN | apply Kd.R_drew)); exact HO_4.out) (Kd.R_base ho0) hb); have n1_ := Aside0.mk (Kd.R_lower (Kd.R_new' ho0 (Kd.R_lt (by (with_reducible repeat (first | apply Kd.R_alloc | apply Kd.R_drewN | apply Kd.R_drew)); exact HO_4.out))) (below_size (by repeat (first | (with_reducible first | exact HB.out | apply below_alloc | apply pw_below_drewN | apply below_drew1) | exact HB.out)))); have n2_ := Aside0.mk (below_step (by repeat (first | (with_reducible first | exact HB.out | apply below_alloc | apply pw_below_drewN | apply below_drew1) | exact HB.out)) hb); clear HO_4; clear HB; have HO_4 := n0_; have HO929 := n1_; have HB := n2_; clear n0_ n1_ n2_; (try clear hb); (try clear hb2); (try clear hk); (try clear hi); (try clear ho0)) | ((with_reducible refine gate_builtin (b := .append) (xs := #[.tmp 40, .tmp 41]) rfl ?_); (try (refine gate_guard (by rfl) ?_; dsimp only)); at_builtin; refine Kd.R_append (Kd.int .u8) (w0 := w) w.heap.size rfl (.tmp 40) (.tmp 41) 25 5 (.int .u8 0) 1 rfl Tryd.underlying25 info5 rfl (by decide) (by omega) v928 t927 98 [.int .u8 98] (fun k_ => some k_ ≠ (.slice Ao31 x4_2.length co31 : Value).ownBlock) (fun _ => False) rfl rfl ?aP (fun _ hk => hk.elim) ?aF ?aO ?aB ?aS ?aL ?_; (case aP => exact rfl); (case aB => exact (by repeat (first | (with_reducible first | exact HB.out | apply below_alloc | apply pw_below_drewN | apply below_drew1) | exact HB.out))); (case aF => exact (fun k_ hk => Kd.fresh' (Kd.R_lt (by (with_reducible repeat (first | apply Kd.R_alloc | apply Kd.R_drewN | apply Kd.R_drew)); exact HO_4.out)) k_ hk)); (case aO => exact (by (with_reducible repeat (first | apply Kd.R_alloc | apply Kd.R_drewN | apply Kd.R_drew)); exact Kd.R_mono HO929.out (fun _ hk => hk.2))); (case aS => exact (below_size (by repeat (first | (with_reducible first | exact HB.out | apply below_alloc | apply pw_below_drewN | apply below_drew1) | exact HB.out)))); (case aL => have := LMc17.out; first | omega | exact Nat.le_of_lt this); intro v931 w33 ho hb hg hat; rw [← Ny930.out] at ho; have n0_ := Aside0.mk (Kd.R_after (ok := (fun _ => True)) (by (with_reducible repeat (first | apply Kd.R_alloc | apply Kd.R_drewN | apply Kd.R_drew)); exact HO_4.out) hg hat); have n1_ := Aside0.mk (hb); have n2_ := Aside0.mk (ho); clear HO_4; clear HB; clear HO929; have HO_4 := n0_; have HB := n1_; have HO932 := n2_; clear n0_ n1_ n2_; clear ho hb hg hat; obtain ⟨Ao34, co34, eo34⟩ := Kd.R_slice HO932.out; subst eo34) | ((with_reducible refine gate_callee (f := 20) rfl ?_); refine goesL_ (some 43) rfl rfl Tryd.func20 (by kernel_rfl) rfl #[.slice Ao34 y930.length co34] rfl (by (try simp only [List.map_toArray, List.map_cons, List.map_nil]); first | done | rfl | (simp only [List.length_drop, List.length_take]; rfl)) ?_; (with_reducible refine (tapestrierlaw4_Of.calls k2 _ _ y930 t933 _ ?side1 ?side2 ?side3 A18.out).mono ?_); (case side1 => repeat (first | exact (Kd.R_reads' HO932.out).2.2 | (with_reducible refine Kd.C_alloc ?_ _) | (with_reducible refine Kd.C_drewN ?_ _) | (with_reducible refine Kd.C_drew ?_))); (case side2 => exact (Kd.R_reads' HO932.out).2.1); (case side3 => exact TabsIn.below HT.out (by repeat (first | (with_reducible first | exact HB.out | apply below_alloc | apply pw_below_drewN | apply below_drew1) | exact HB.out))); rintro e w35 ⟨v934, rfl, ho0, hb⟩; refine ⟨_, rfl, ?_⟩; have n0_ := Aside0.mk (Kd.R_below (by (with_reducible repeat (first | apply Kd.R_alloc | apply Kd.R_drewN | apply Kd.R_drew)); exact HO_4.out) hb); have n1_ := Aside0.mk (Kd.R_below (by (with_reducible repeat (first | apply Kd.R_alloc | apply Kd.R_drewN | apply Kd.R_drew)); exact HO932.out) hb); have n2_ := Aside0.mk (Kd.R_lower ho0 (below_size (by repeat (first | (with_reducible first | exact HB.out | apply below_alloc | apply pw_below_drewN | apply below_drew1) | exact HB.out)))); have n3_ := Aside0.mk (below_step (by repeat (first | (with_reducible first | exact HB.out | apply below_alloc | apply pw_below_drewN | apply below_drew1) | exact HB.out)) hb); clear HO_4; clear HO932; clear HB; have HO_4 := n0_; have HO932 := n1_; have HO935 := n2_; have HB := n3_; clear n0_ n1_ n2_ n3_; (try clear hb); (try clear hb2); (try clear hk); (try clear hi); (try clear ho0); obtain ⟨Ao36, co36, eo36⟩ := Kd.R_slice HO935.out; subst eo36; have p936 : 0 ≤ (0 : Int) := (by omega); have q936 : 0 < (t933.length : Int) := of_decide_eq_true (by first | (with_reducible assumption) | assumption); obtain ⟨ad936, e936, hx936_0, hx936_1, hx936_2, hx936_3, hx936_4⟩ := at_T31 (Kd.R_reads' HO935.out).2.2 0 p936 q936; cases e936; have qi936 : (0 < t933.length) = True := eq_true (by omega); (try rw [show ((0 : Int)).toNat = 0 from rfl] at hx936_0); (try rw [show 0 * 5 = 0 from rfl] at hx936_0); (try rw [Addr.add_zero'] at hx936_0); (try rw [show ((0 : Int)).toNat = 0 from rfl] at hx936_1); (try rw [show 0 * 5 = 0 from rfl] at hx936_1); (try rw [Addr.add_zero'] at hx936_1); (try rw [show ((0 : Int)).toNat = 0 from rfl] at hx936_2); (try rw [show 0 * 5 = 0 from rfl] at hx936_2); (try rw [Addr.add_zero'] at hx936_2); (try rw [show ((0 : Int)).toNat = 0 from rfl] at hx936_3); (try rw [show 0 * 5 = 0 from rfl] at hx936_3); (try rw [Addr.add_zero'] at hx936_3); (try rw [show ((0 : Int)).toNat = 0 from rfl] at hx936_4); (try rw [show 0 * 5 = 0 from rfl] at hx936_4); (try rw [Addr.add_zero'] at hx936_4); replace p936 := eq_true p936; replace q936 := eq_true q936; have p937 : 0 ≤ (1 : Int) := (by omega); have q937 : 1 < (t933.length : Int) := of_decide_eq_true (by first | (with_reducible assumption) | assumption); obtain ⟨ad937, e937, hx937_0, hx937_1, hx937_2, hx937_3, hx937_4⟩ := at_T31 (Kd.R_reads' HO935.out).2.2 1 p937 q937; obtain rfl : ad936 = ad937 := (by injection e937); (try simp only [show (1 : Int).toNat = 1 from rfl, Nat.reduceMul, Nat.reduceEqDiff, Go.Addr.add, ↓reduceIte] at hx937_0); (try simp only [show (1 : Int).toNat = 1 from rfl, Nat.reduceMul, Nat.reduceEqDiff, Go.Addr.add, ↓reduceIte] at hx937_1); (try simp only [show (1 : Int).toNat = 1 from rfl, Nat.reduceMul, Nat.reduceEqDiff, Go.Addr.add, ↓reduceIte] at hx937_2); (try simp only [show (1 : Int).toNat = 1 from rfl, Nat.reduceMul, Nat.reduceEqDiff, Go.Addr.add, ↓reduceIte] at hx937_3); (try simp only [show (1 : Int).toNat = 1 from rfl, Nat.reduceMul, Nat.reduceEqDiff, Go.Addr.add, ↓reduceIte] at hx937_4); have qi937 : (1 < t933.length) = True := eq_true (by omega); (try rw [show ((1 : Int)).toNat = 1 from rfl] at hx937_0); (try rw [show 1 * 5 = 5 from rfl] at hx937_0); (try rw [show ((1 : Int)).toNat = 1 from rfl] at hx937_1); (try rw [show 1 * 5 = 5 from rfl] at hx937_1); (try rw [show ((1 : Int)).toNat = 1 from rfl] at hx937_2); (try rw [show 1 * 5 = 5 from rfl] at hx937_2); (try rw [show ((1 : Int)).toNat = 1 from rfl] at hx937_3); (try rw [show 1 * 5 = 5 from rfl] at hx937_3); (try rw [show ((1 : Int)).toNat = 1 from rfl] at hx937_4); (try rw [show 1 * 5 = 5 from rfl] at hx937_4); replace p937 := eq_true p937; replace q937 := eq_true q937))
                          go_ret
                          exact ⟨by first | rfl | (simp [errW_none, errW_some] <;> rfl) | (simp [*, errW_none, errW_some] <;> rfl), by repeat (first | (with_reducible first | exact HB.out | apply below_alloc | apply pw_below_drewN | apply below_drew1) | exact HB.out)⟩
                      · rw [if_neg c22] at H
                        exact absurd H (by simp)
                    · rw [if_neg c21] at H
                      have c21b0 : (((rd_T31 t933 0).f1).toList == ([97] : List UInt8)) = false := beq_eq_false_iff_ne.mpr c21
                      have c21b1 : (((rd_T31 t933 0).f1).toList != ([97] : List UInt8)) = true := bne_iff_ne.mpr c21
                      obtain rfl := Option.some.inj H
                      obtain ⟨Ao37, co37, eo37⟩ := Kd.R_slice HO_4.out
                      subst eo37
                      go_wp2_with (first | ((with_reducible refine gate_dst (N := 40) rfl ?_); (try (refine gate_guard (by rfl) ?_; dsimp only)); (try (refine gate_guard (by rfl) ?_; dsimp only)); refine app1_goes ?hg (N := 40) ?hd (t := 25) (e := 5) (s := (strOfNums [97])) (l := x4_2) (xa := ?xa22) (xb := ?xb22) (A := ?aa22) (c := ?cp22) (n := ?nn22) (cc := ?kk22) (C := ?cc22) (fz := ?fz22) (W := ?ww22) ?ho Tryd.underlying25 info5 ?hn ?hcc ?hxa ?hxb ?hC ?hW ?_; (case hd => rfl); (case hg => rfl); (case ho => rfl); (case hW => rfl); (case hxa => first | rfl | (go_simp; done) | (go_simp; rfl)); (case hxb => first | rfl | (go_simp; done) | (go_simp; rfl)); (case hn => rfl); (case hcc => rfl); (case hC => rfl); (with_reducible refine (constApp5.calls (strOfNums [97]) _ _ x4_2 t927 _ ?side1 ?side2 A16.out).mono ?_); (case side1 => repeat (first | exact (Kd.R_reads' HO_4.out).2.2 | (with_reducible refine Kd.C_alloc ?_ _) | (with_reducible refine Kd.C_drewN ?_ _) | (with_reducible refine Kd.C_drew ?_))); (case side2 => exact (Kd.R_reads' HO_4.out).2.1); rintro e w38 ⟨v928, rfl, ho0, hb⟩; refine ⟨_, rfl, ?_⟩; have n0_ := Aside0.mk (Kd.R_elder' (by (with_reducible repeat (first | apply Kd.R_alloc | apply Kd.R_drewN | apply Kd.R_drew)); exact HO_4.out) (Kd.R_base ho0) hb); have n1_ := Aside0.mk (Kd.R_lower (Kd.R_new' ho0 (Kd.R_lt (by (with_reducible repeat (first | apply Kd.R_alloc | apply Kd.R_drewN | apply Kd.R_drew)); exact HO_4.out))) (below_size (by repeat (first | (with_reducible first | exact HB.out | apply below_alloc | apply pw_below_drewN | apply below_drew1) | exact HB.out)))); have n2_ := Aside0.mk (below_step (by repeat (first | (with_reducible first | exact HB.out | apply below_alloc | apply pw_below_drewN | apply below_drew1) | exact HB.out)) hb); clear HO_4; clear HB; have HO_4 := n0_; have HO929 := n1_; have HB := n2_; clear n0_ n1_ n2_; (try clear hb); (try clear hb2); (try clear hk); (try clear hi); (try clear ho0)) | ((with_reducible refine gate_builtin (b := .append) (xs := #[.tmp 40, .tmp 41]) rfl ?_); (try (refine gate_guard (by rfl) ?_; dsimp only)); at_builtin; refine Kd.R_append (Kd.int .u8) (w0 := w) w.heap.size rfl (.tmp 40) (.tmp 41) 25 5 (.int .u8 0) 1 rfl Tryd.underlying25 info5 rfl (by decide) (by omega) v928 t927 98 [.int .u8 98] (fun k_ => some k_ ≠ (.slice Ao37 x4_2.length co37 : Value).ownBlock) (fun _ => False) rfl rfl ?aP (fun _ hk => hk.elim) ?aF ?aO ?aB ?aS ?aL ?_; (case aP => exact rfl); (case aB => exact (by repeat (first | (with_reducible first | exact HB.out | apply below_alloc | apply pw_below_drewN | apply below_drew1) | exact HB.out))); (case aF => exact (fun k_ hk => Kd.fresh' (Kd.R_lt (by (with_reducible repeat (first | apply Kd.R_alloc | apply Kd.R_drewN | apply Kd.R_drew)); exact HO_4.out)) k_ hk)); (case aO => exact (by (with_reducible repeat (first | apply Kd.R_alloc | apply Kd.R_drewN | apply Kd.R_drew)); exact Kd.R_mono HO929.out (fun _ hk => hk.2))); (case aS => exact (below_size (by repeat (first | (with_reducible first | exact HB.out | apply below_alloc | apply pw_below_drewN | apply below_drew1) | exact HB.out)))); (case aL => have := LMc17.out; first | omega | exact Nat.le_of_lt this); intro v931 w39 ho hb hg hat; rw [← Ny930.out] at ho; have n0_ := Aside0.mk (Kd.R_after (ok := (fun _ => True)) (by (with_reducible repeat (first | apply Kd.R_alloc | apply Kd.R_drewN | apply Kd.R_drew)); exact HO_4.out) hg hat); have n1_ := Aside0.mk (hb); have n2_ := Aside0.mk (ho); clear HO_4; clear HB; clear HO929; have HO_4 := n0_; have HB := n1_; have HO932 := n2_; clear n0_ n1_ n2_; clear ho hb hg hat; obtain ⟨Ao40, co40, eo40⟩ := Kd.R_slice HO932.out; subst eo40) | ((with_reducible refine gate_callee (f := 20) rfl ?_); refine goesL_ (some 43) rfl rfl Tryd.func20 (by kernel_rfl) rfl #[.slice Ao40 y930.length co40] rfl (by (try simp only [List.map_toArray, List.map_cons, List.map_nil]); first | done | rfl | (simp only [List.length_drop, List.length_take]; rfl)) ?_; (with_reducible refine (tapestrierlaw4_Of.calls k2 _ _ y930 t933 _ ?side1 ?side2 ?side3 A18.out).mono ?_); (case side1 => repeat (first | exact (Kd.R_reads' HO932.out).2.2 | (with_reducible refine Kd.C_alloc ?_ _) | (with_reducible refine Kd.C_drewN ?_ _) | (with_reducible refine Kd.C_drew ?_))); (case side2 => exact (Kd.R_reads' HO932.out).2.1); (case side3 => exact TabsIn.below HT.out (by repeat (first | (with_reducible first | exact HB.out | apply below_alloc | apply pw_below_drewN | apply below_drew1) | exact HB.out))); rintro e w41 ⟨v934, rfl, ho0, hb⟩; refine ⟨_, rfl, ?_⟩; have n0_ := Aside0.mk (Kd.R_below (by (with_reducible repeat (first | apply Kd.R_alloc | apply Kd.R_drewN | apply Kd.R_drew)); exact HO_4.out) hb); have n1_ := Aside0.mk (Kd.R_below (by (with_reducible repeat (first | apply Kd.R_alloc | apply Kd.R_drewN | apply Kd.R_drew)); exact HO932.out) hb); have n2_ := Aside0.mk (Kd.R_lower ho0 (below_size (by repeat (first | (with_reducible first | exact HB.out | apply below_alloc | apply pw_below_drewN | apply below_drew1) | exact HB.out)))); have n3_ := Aside0.mk (below_step (by repeat (first | (with_reducible first | exact HB.out | apply below_alloc | apply pw_below_drewN | apply below_drew1) | exact HB.out)) hb); clear HO_4; clear HO932; clear HB; have HO_4 := n0_; have HO932 := n1_; have HO935 := n2_; have HB := n3_; clear n0_ n1_ n2_ n3_; (try clear hb); (try clear hb2); (try clear hk); (try clear hi); (try clear ho0); obtain ⟨Ao42, co42, eo42⟩ := Kd.R_slice HO935.out; subst eo42; have p936 : 0 ≤ (0 : Int) := (by omega); have q936 : 0 < (t933.length : Int) := of_decide_eq_true (by first | (with_reducible assumption) | assumption); obtain ⟨ad936, e936, hx936_0, hx936_1, hx936_2, hx936_3, hx936_4⟩ := at_T31 (Kd.R_reads' HO935.out).2.2 0 p936 q936; cases e936; have qi936 : (0 < t933.length) = True := eq_true (by omega); (try rw [show ((0 : Int)).toNat = 0 from rfl] at hx936_0); (try rw [show 0 * 5 = 0 from rfl] at hx936_0); (try rw [Addr.add_zero'] at hx936_0); (try rw [show ((0 : Int)).toNat = 0 from rfl] at hx936_1); (try rw [show 0 * 5 = 0 from rfl] at hx936_1); (try rw [Addr.add_zero'] at hx936_1); (try rw [show ((0 : Int)).toNat = 0 from rfl] at hx936_2); (try rw [show 0 * 5 = 0 from rfl] at hx936_2); (try rw [Addr.add_zero'] at hx936_2); (try rw [show ((0 : Int)).toNat = 0 from rfl] at hx936_3); (try rw [show 0 * 5 = 0 from rfl] at hx936_3); (try rw [Addr.add_zero'] at hx936_3); (try rw [show ((0 : Int)).toNat = 0 from rfl] at hx936_4); (try rw [show 0 * 5 = 0 from rfl] at hx936_4); (try rw [Addr.add_zero'] at hx936_4); replace p936 := eq_true p936; replace q936 := eq_true q936))
                      go_ret
                      exact ⟨by first | rfl | (simp [errW_none, errW_some] <;> rfl) | (simp [*, errW_none, errW_some] <;> rfl), by repeat (first | (with_reducible first | exact HB.out | apply below_alloc | apply pw_below_drewN | apply below_drew1) | exact HB.out)⟩
                  · rw [if_neg c20] at H
                    exact absurd H (by simp)
                · rw [if_neg c19] at H
                  have c19b0 : ((t933.length : Int) == 3) = false := beq_eq_false_iff_ne.mpr c19
                  have c19b1 : ((t933.length : Int) != 3) = true := bne_iff_ne.mpr c19
                  obtain rfl := Option.some.inj H
                  obtain ⟨Ao43, co43, eo43⟩ := Kd.R_slice HO_4.out
                  subst eo43
                  go_wp2_with (first | ((with_reducible refine gate_dst (N := 40) rfl ?_); (try (refine gate_guard (by rfl) ?_; dsimp only)); (try (refine gate_guard (by rfl) ?_; dsimp only)); refine app1_goes ?hg (N := 40) ?hd (t := 25) (e := 5) (s := (strOfNums [97])) (l := x4_2) (xa := ?xa23) (xb := ?xb23) (A := ?aa23) (c := ?cp23) (n := ?nn23) (cc := ?kk23) (C := ?cc23) (fz := ?fz23) (W := ?ww23) ?ho Tryd.underlying25 info5 ?hn ?hcc ?hxa ?hxb ?hC ?hW ?_; (case hd => rfl); (case hg => rfl); (case ho => rfl); (case hW => rfl); (case hxa => first | rfl | (go_simp; done) | (go_simp; rfl)); (case hxb => first | rfl | (go_simp; done) | (go_simp; rfl)); (case hn => rfl); (case hcc => rfl); (case hC => rfl); (with_reducible refine (constApp5.calls (strOfNums [97]) _ _ x4_2 t927 _ ?side1 ?side2 A16.out).mono ?_); (case side1 => repeat (first | exact (Kd.R_reads' HO_4.out).2.2 | (with_reducible refine Kd.C_alloc ?_ _) | (with_reducible refine Kd.C_drewN ?_ _) | (with_reducible refine Kd.C_drew ?_))); (case side2 => exact (Kd.R_reads' HO_4.out).2.1); rintro e w44 ⟨v928, rfl, ho0, hb⟩; refine ⟨_, rfl, ?_⟩; have n0_ := Aside0.mk (Kd.R_elder' (by (with_reducible repeat (first | apply Kd.R_alloc | apply Kd.R_drewN | apply Kd.R_drew)); exact HO_4.out) (Kd.R_base ho0) hb); have n1_ := Aside0.mk (Kd.R_lower (Kd.R_new' ho0 (Kd.R_lt (by (with_reducible repeat (first | apply Kd.R_alloc | apply Kd.R_drewN | apply Kd.R_drew)); exact HO_4.out))) (below_size (by repeat (first | (with_reducible first | exact HB.out | apply below_alloc | apply pw_below_drewN | apply below_drew1) | exact HB.out)))); have n2_ := Aside0.mk (below_step (by repeat (first | (with_reducible first | exact HB.out | apply below_alloc | apply pw_below_drewN | apply below_drew1) | exact HB.out)) hb); clear HO_4; clear HB; have HO_4 := n0_; have HO929 := n1_; have HB := n2_; clear n0_ n1_ n2_; (try clear hb); (try clear hb2); (try clear hk); (try clear hi); (try clear ho0)) | ((with_reducible refine gate_builtin (b := .append) (xs := #[.tmp 40, .tmp 41]) rfl ?_); (try (refine gate_guard (by rfl) ?_; dsimp only)); at_builtin; refine Kd.R_append (Kd.int .u8) (w0 := w) w.heap.size rfl (.tmp 40) (.tmp 41) 25 5 (.int .u8 0) 1 rfl Tryd.underlying25 info5 rfl (by decide) (by omega) v928 t927 98 [.int .u8 98] (fun k_ => some k_ ≠ (.slice Ao43 x4_2.length co43 : Value).ownBlock) (fun _ => False) rfl rfl ?aP (fun _ hk => hk.elim) ?aF ?aO ?aB ?aS ?aL ?_; (case aP => exact rfl); (case aB => exact (by repeat (first | (with_reducible first | exact HB.out | apply below_alloc | apply pw_below_drewN | apply below_drew1) | exact HB.out))); (case aF => exact (fun k_ hk => Kd.fresh' (Kd.R_lt (by (with_reducible repeat (first | apply Kd.R_alloc | apply Kd.R_drewN | apply Kd.R_drew)); exact HO_4.out)) k_ hk)); (case aO => exact (by (with_reducible repeat (first | apply Kd.R_alloc | apply Kd.R_drewN | apply Kd.R_drew)); exact Kd.R_mono HO929.out (fun _ hk => hk.2))); (case aS => exact (below_size (by repeat (first | (with_reducible first | exact HB.out | apply below_alloc | apply pw_below_drewN | apply below_drew1) | exact HB.out)))); (case aL => have := LMc17.out; first | omega | exact Nat.le_of_lt this); intro v931 w45 ho hb hg hat; rw [← Ny930.out] at ho; have n0_ := Aside0.mk (Kd.R_after (ok := (fun _ => True)) (by (with_reducible repeat (first | apply Kd.R_alloc | apply Kd.R_drewN | apply Kd.R_drew)); exact HO_4.out) hg hat); have n1_ := Aside0.mk (hb); have n2_ := Aside0.mk (ho); clear HO_4; clear HB; clear HO929; have HO_4 := n0_; have HB := n1_; have HO932 := n2_; clear n0_ n1_ n2_; clear ho hb hg hat; obtain ⟨Ao46, co46, eo46⟩ := Kd.R_slice HO932.out; subst eo46) | ((with_reducible refine gate_callee (f := 20) rfl ?_); refine goesL_ (some 43) rfl rfl Tryd.func20 (by kernel_rfl) rfl #[.slice Ao46 y930.length co46] rfl (by (try simp only [List.map_toArray, List.map_cons, List.map_nil]); first | done | rfl | (simp only [List.length_drop, List.length_take]; rfl)) ?_; (with_reducible refine (tapestrierlaw4_Of.calls k2 _ _ y930 t933 _ ?side1 ?side2 ?side3 A18.out).mono ?_); (case side1 => repeat (first | exact (Kd.R_reads' HO932.out).2.2 | (with_reducible refine Kd.C_alloc ?_ _) | (with_reducible refine Kd.C_drewN ?_ _) | (with_reducible refine Kd.C_drew ?_))); (case side2 => exact (Kd.R_reads' HO932.out).2.1); (case side3 => exact TabsIn.below HT.out (by repeat (first | (with_reducible first | exact HB.out | apply below_alloc | apply pw_below_drewN | apply below_drew1) | exact HB.out))); rintro e w47 ⟨v934, rfl, ho0, hb⟩; refine ⟨_, rfl, ?_⟩; have n0_ := Aside0.mk (Kd.R_below (by (with_reducible repeat (first | apply Kd.R_alloc | apply Kd.R_drewN | apply Kd.R_drew)); exact HO_4.out) hb); have n1_ := Aside0.mk (Kd.R_below (by (with_reducible repeat (first | apply Kd.R_alloc | apply Kd.R_drewN | apply Kd.R_drew)); exact HO932.out) hb); have n2_ := Aside0.mk (Kd.R_lower ho0 (below_size (by repeat (first | (with_reducible first | exact HB.out | apply below_alloc | apply pw_below_drewN | apply below_drew1) | exact HB.out)))); have n3_ := Aside0.mk (below_step (by repeat (first | (with_reducible first | exact HB.out | apply below_alloc | apply pw_below_drewN | apply below_drew1) | exact HB.out)) hb); clear HO_4; clear HO932; clear HB; have HO_4 := n0_; have HO932 := n1_; have HO935 := n2_; have HB := n3_; clear n0_ n1_ n2_ n3_; (try clear hb); (try clear hb2); (try clear hk); (try clear hi); (try clear ho0); obtain ⟨Ao48, co48, eo48⟩ := Kd.R_slice HO935.out; subst eo48))
                  go_ret
                  exact ⟨by first | rfl | (simp [errW_none, errW_some] <;> rfl) | (simp [*, errW_none, errW_some] <;> rfl), by repeat (first | (with_reducible first | exact HB.out | apply below_alloc | apply pw_below_drewN | apply below_drew1) | exact HB.out)⟩
              · rw [if_neg c17] at H
                exact absurd H (by simp)
def tapestrierlaw4_TokWhite.Pure : Prop := ∀ (l0 : List Int), l0.length ≤ maxLen → l0.length * 8 ≤ 140737488351232 → (∀ x ∈ l0, (Lit.int .i64 x).wf = true) → ∃ k, tapestrierlaw4_TokWhite.f k l0 = some true
theorem tapestrierlaw4_TokWhite.walk (P : tapestrierlaw4_TokWhite.Pure) (a0 : Option Addr) (len0 cap0 : Nat) (z0 : List Int) (w : World) (w0 : (a0 = none ∧ len0 = 0 ∧ cap0 = 0 ∧ z0 = []) ∨ ∃ x, a0 = some x ∧ len0 ≤ cap0 ∧ cap0 ≤ maxLen ∧ z0.length = cap0 ∧ (∀ i, i < z0.length → w.cell? (x.add i) = some (.int .i64 (z0.getD i 0))) ∧ ∀ n ∈ z0, (Lit.int .i64 n).wf = true) (y0 : len0 * 8 ≤ 140737488351232) (hT : TabsIn w) :
    Calls Tryd.prog 11 #[.slice a0 len0 cap0] w fun e w' => e = .returned (.bool true) ∧ Below w.heap.size w w' := by
  obtain ⟨l0, rfl, hr0, hm0, hw0, hc0⟩ := ReadsInt.ofRowC w0
  obtain ⟨k, h⟩ := P l0 hm0 y0 hw0
  refine (tapestrierlaw4_TokWhite.calls k _ _ l0 true w (Kd.C_of_reads (d := (0 : Int)) (h1 := fun _ => rfl) hr0) hc0 hT h).mono ?_
  rintro e w' ⟨rfl, hd⟩
  exact ⟨rfl, hd⟩
end Go.Proofs.YtplkkmmojanclaaDoor.Q
