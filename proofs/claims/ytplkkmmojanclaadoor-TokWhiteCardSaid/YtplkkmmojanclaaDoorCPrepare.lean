/- Part of the proof; printed or typed in this session; unused declarations and remarks struck by a program (wip/prune.py). -/
import Derived.Maps.AppendAt
import Derived.RangeFuncLeaves
import Derived.Test.YtplkkmmojanclaaDoorCEach
import Derived.Test.YtplkkmmojanclaaDoorCQ0
set_option linter.all false
namespace Go.Proofs.YtplkkmmojanclaaDoor.My
open Go.RowKit Go.Shelf Go.Proofs.YtplkkmmojanclaaDoorW.PrintWords
attribute [local go_sem] Oper.semAt_some
theorem reps_ints {R : Int → List Value → Prop} (hR : ∀ x, R x [.int .i64 x]) (ps : List Int) : Reps R 1 ps (ps.map (Value.int .i64)) := by
  refine ⟨by simp, fun j p hj => ?_⟩
  rw [Nat.mul_one]
  have : ((ps.map (Value.int .i64)).drop j).take 1 = [.int .i64 p] := by
    apply List.ext_getElem?
    intro i
    cases i with
    | zero => simp [hj]
    | succ i => simp; omega
  rw [this]
  exact hR p
theorem ownsRow_same {W W' : World} {base : Nat} {e : TypeId} {size : Nat} {v : Value} {k : Nat} {xs : List Value} (h : W.ownsRow base e size v k xs)
    (hs : ∀ g, base ≤ g → g < W.heap.size → W'.heap[g]? = W.heap[g]?) : W'.ownsRow base e size v k xs := by
  refine ⟨h.1, ?_⟩
  rcases h.2 with ⟨e1, e2⟩ | ⟨g, cap, cur, e1, e2, e3, e4⟩
  · exact .inl ⟨e1, e2⟩
  · exact .inr ⟨g, cap, cur, e1, e2, (hs g e2 (Array.getElem?_eq_some_iff.1 e3).1).trans e3, e4⟩
theorem ownsRow_base {W : World} {base : Nat} {e : TypeId} {size : Nat} {v : Value} {k : Nat} {xs : List Value} (h : W.ownsRow base e size v k xs) (j : Nat) (hj : v.ownBlock = some j) : base ≤ j := by
  rcases h.2 with ⟨rfl, _⟩ | ⟨g, cap, cur, rfl, hg, _⟩
  · simp [Value.ownBlock] at hj
  · simp [Value.ownBlock] at hj; omega
structure Low (m : Nat) (Ks : Nat → Prop) (W W' : World) : Prop where
  os : W'.os = W.os
  tape : W'.tape = W.tape
  output : W'.output = W.output
  size : W.heap.size ≤ W'.heap.size
  same : ∀ k, k < m → Ks k → k < W.heap.size → W'.heap[k]? = W.heap[k]?
theorem Low.refl (m : Nat) (Ks : Nat → Prop) (W : World) : Low m Ks W W := ⟨rfl, rfl, rfl, Nat.le_refl _, fun _ _ _ _ => rfl⟩
theorem Low.grown {m : Nat} {Ks : Nat → Prop} {A W W' : World} {row : Option Nat} (h : Low m Ks A W) (hg : W.grownBy W' row) (hr : ∀ k, row = some k → m ≤ k ∨ ¬ Ks k) : Low m Ks A W' := by
  obtain ⟨h1, h2, h3, h4, h5⟩ := hg
  exact ⟨h1.trans h.os, h2.trans h.tape, h3.trans h.output, Nat.le_trans h.size h4, fun k hk hK hlt => (h5 k (Nat.lt_of_lt_of_le hlt h.size) (fun e => (hr k e.symm).elim (fun h => absurd h (by omega)) (fun h => h hK))).trans (h.same k hk hK hlt)⟩
theorem Low.alloc {m : Nat} {Ks : Nat → Prop} {A W : World} (h : Low m Ks A W) (o : Obj) : Low m Ks A (W.alloc o) :=
  ⟨h.os, h.tape, h.output, by simpa using Nat.le_succ_of_le h.size, fun k hk hK hlt => (Below.heap_alloc W o k (Nat.lt_of_lt_of_le hlt h.size)).trans (h.same k hk hK hlt)⟩
theorem Low.set {m : Nat} {Ks : Nat → Prop} {A W : World} (h : Low m Ks A W) (b : Nat) (v : Value) (hb : ¬ Ks b) : Low m Ks A (W.setCell ⟨b, 0, none⟩ v) :=
  h.grown (grownBy_setCell' W b v) (fun k e => .inr (by cases e; exact hb))
theorem each_calls (A0 : Option Addr) (n c0 : Nat) (w : World) :
    Calls Tryd.prog 54 #[.slice A0 n c0] w fun e w' => e = .returned (.func (.func 72) #[] #[.pointer (some ⟨w.heap.size, 0, none⟩)]) ∧ Below w.heap.size w w' ∧ w'.heap.size = w.heap.size + 1 ∧ w'.heap[w.heap.size]? = some (.cells #[.slice A0 n c0] 25 (0, 0)) := by
  have hmf : ∀ W : World, (Instr.makeFunc (.func 72) #[] #[.pointer (some ⟨w.heap.size, 0, none⟩)]).run Tryd.prog W = .ok (.func (.func 72) #[] #[.pointer (some ⟨w.heap.size, 0, none⟩)]) W := fun W => by
    simp [go_sem]
  go_enter Tryd.func54, Tryd.ntmps54
  go_wp2
  go_ret
  exact ⟨rfl, (Below.refl _ w).alloc (Nat.le_refl _) _, by simp, World.alloc_heap_new w _⟩
def PrepI (w : World) (pre : List Int) (W : World) : Prop :=
  (∃ v, Boxed W w.heap.size 45 v ∧ W.ownsRow (w.heap.size + 5) 3 1 v (prepF 0 pre).length ((prepF 0 pre).map (Value.int .i64))) ∧ Boxed W (w.heap.size + 1) 3 (.int .i64 (lastOf pre)) ∧ Below w.heap.size w W
theorem PrepI.same {w W W' : World} {pre : List Int} (h : PrepI w pre W) (hs : ∀ g, g < W.heap.size → g ≠ w.heap.size + 2 → g ≠ w.heap.size + 4 → W'.heap[g]? = W.heap[g]?) (hb : Below w.heap.size w W') : PrepI w pre W' := by
  obtain ⟨⟨v, h1, h2⟩, h3, h4⟩ := h
  exact ⟨⟨v, (hs _ h1.lt (by omega) (by omega)).trans h1, ownsRow_same h2 (fun g hg hlt => hs g hlt (by omega) (by omega))⟩, (hs _ h3.lt (by omega) (by omega)).trans h3, hb⟩
theorem grownBy_put (W : World) (l : Nat) (o : Obj) : W.grownBy (W.putObj l o) (some l) :=
  ⟨rfl, rfl, rfl, by simp, fun k _ hk => World.putObj_heap_other (fun e => hk (by rw [e]))⟩
theorem C_block {k : IntKind} {w : World} {A : Option Addr} {n : Nat} {xs : List Int} (h : (Kd.int k).C w A n xs) (ad : Addr) (e : A = some ad) (hn : 0 < xs.length) (hx : xs.length = n) : ad.block < w.heap.size := by
  obtain ⟨ad', e', hc⟩ := h.2.2 (by omega)
  obtain rfl : ad' = ad := by rw [e] at e'; injection e' with e'; exact e'.symm
  obtain ⟨cs, _, hr, hcell⟩ := hc 0 xs[0] (List.getElem?_eq_getElem hn)
  have hr' : cs = [.int k xs[0]] := hr
  subst hr'
  have := World.block_lt_of_cell? _ _ (hcell 0 _ rfl)
  rwa [add_block] at this
theorem goes_low {w W W' : World} {l : List Int} {a : Act} (hW : w.heap.size + 5 ≤ W.heap.size) (h : Low (w.heap.size + 5) (fun k => k ≠ w.heap.size ∧ k ≠ w.heap.size + 1) W W') (hI : PrepI w l W') :
    goesPost (w.heap.size + 3 + 1) (w.heap.size + 3) (fun k => k < w.heap.size ∨ k = w.heap.size + 1 + 1) (PrepI w) l W .normal a W' :=
  ⟨h.same _ (by omega) ⟨by omega, by omega⟩ (by omega), h.same _ (by omega) ⟨by omega, by omega⟩ (by omega), ⟨h.size, fun k hk hlt => h.same k (by omega) ⟨by omega, by omega⟩ hlt⟩, hI⟩
theorem prep_grow {w W2 w1 : World} {v lv : Value} {k : Nat} {xs : List Value} {tmp : Obj} (hv : Boxed W2 w.heap.size 45 v) (hl : Boxed W2 (w.heap.size + 1) 3 lv) (hrow : W2.ownsRow (w.heap.size + 5) 3 1 v k xs) (hg : (W2.alloc tmp).grownBy w1 v.ownBlock) :
    Boxed w1 w.heap.size 45 v ∧ Boxed w1 (w.heap.size + 1) 3 lv ∧ Low (w.heap.size + 5) (fun k => k ≠ w.heap.size ∧ k ≠ w.heap.size + 1) W2 w1 := by
  have hb := fun j hj => ownsRow_base hrow j hj
  refine ⟨(hv.alloc tmp).kept hg (fun e => by have := hb _ e.symm; omega), (hl.alloc tmp).kept hg (fun e => by have := hb _ e.symm; omega), ((Low.refl _ _ W2).alloc tmp).grown hg (fun k e => .inl (hb k e))⟩
theorem prep_last {w1 : World} {n0 : Nat} {lv : Value} (hl : Boxed w1 (n0 + 1) 3 lv) (v' : Value) : (w1.setCell ⟨n0, 0, none⟩ v').cell? ⟨n0 + 1, 0, none⟩ = some lv ∧ (w1.setCell ⟨n0, 0, none⟩ v').frozen? ⟨n0 + 1, 0, none⟩ = false := by
  have h : Boxed (w1.setCell ⟨n0, 0, none⟩ v') (n0 + 1) 3 lv := hl.kept (grownBy_setCell' w1 n0 v') (by simp)
  exact ⟨h.cell, h.frozen⟩
theorem below_of_low {w W2 w1 : World} (hB : Below w.heap.size w W2) (hs : w.heap.size + 5 ≤ W2.heap.size) (h : Low (w.heap.size + 5) (fun k => k ≠ w.heap.size ∧ k ≠ w.heap.size + 1) W2 w1) : Below w.heap.size w w1 :=
  ⟨h.os.trans hB.os, h.tape.trans hB.tape, h.output.trans hB.output, Nat.le_trans hB.size h.size, fun k hk => (h.same k (by omega) ⟨by omega, by omega⟩ (by omega)).trans (hB.block k hk)⟩
theorem prep_app {w w1 : World} {v v' lv : Value} {pre : List Int} {x y : Int} {k : Nat} (hv : Boxed w1 w.heap.size 45 v) (hl : Boxed w1 (w.heap.size + 1) 3 lv)
    (hown : w1.ownsRow (w.heap.size + 5) 3 1 v' k ((prepF 0 pre).map (Value.int .i64) ++ [.int .i64 y])) (hB : Below w.heap.size w w1) (hk : prepStep (lastOf pre) x = [y]) :
    PrepI w (pre ++ [x]) ((w1.setCell ⟨w.heap.size, 0, none⟩ v').setCell ⟨w.heap.size + 1, 0, none⟩ (.int .i64 x)) := by
  have e : prepF 0 (pre ++ [x]) = prepF 0 pre ++ [y] := by rw [prepF_snoc, hk]
  have hkk : k = (prepF 0 (pre ++ [x])).length := by have := hown.1; rw [e]; simp at this ⊢; omega
  subst hkk
  have g1 := grownBy_setCell' w1 w.heap.size v'
  have g2 := grownBy_setCell' (w1.setCell ⟨w.heap.size, 0, none⟩ v') (w.heap.size + 1) (.int .i64 x)
  refine ⟨⟨v', (hv.set v').kept g2 (by simp), ?_⟩, ?_, ?_⟩
  · rw [e] at hown ⊢
    rw [List.map_append]
    exact ownsRow_same (ownsRow_same hown (fun g hg hlt => g1.block g hlt (by simp; omega))) (fun g hg hlt => g2.block g hlt (by simp; omega))
  · rw [lastOf_snoc]
    exact (hl.kept g1 (by simp)).set _
  · exact (hB.grown g1 hB.size (fun k e => by cases e; omega)).grown g2 (hB.grown g1 hB.size (fun k e => by cases e; omega)).size (fun k e => by cases e; omega)
theorem prep_skip {w W2 : World} {v lv : Value} {pre : List Int} {x : Int} (hv : Boxed W2 w.heap.size 45 v) (hl : Boxed W2 (w.heap.size + 1) 3 lv)
    (hrow : W2.ownsRow (w.heap.size + 5) 3 1 v (prepF 0 pre).length ((prepF 0 pre).map (Value.int .i64))) (hB : Below w.heap.size w W2) (hk : prepStep (lastOf pre) x = []) :
    PrepI w (pre ++ [x]) (W2.setCell ⟨w.heap.size + 1, 0, none⟩ (.int .i64 x)) := by
  have e : prepF 0 (pre ++ [x]) = prepF 0 pre := by rw [prepF_snoc, hk, List.append_nil]
  have g2 := grownBy_setCell' W2 (w.heap.size + 1) (.int .i64 x)
  refine ⟨⟨v, hv.kept g2 (by simp), ?_⟩, ?_, hB.grown g2 hB.size (fun k e => by cases e; omega)⟩
  · rw [e]; exact ownsRow_same hrow (fun g hg hlt => g2.block g hlt (by simp; omega))
  · rw [lastOf_snoc]; exact hl.set _
set_option maxRecDepth 100000 in
set_option maxHeartbeats 4000000 in
theorem prepare_calls (A0 : Option Addr) (c0 : Nat) (l0 : List Int) (w : World) (hr0 : Kd.C (Kd.int .u8) w A0 l0.length l0) (hc0 : l0.length ≤ c0) (hT : TabsIn w) (hb : ∀ x ∈ l0, 0 ≤ x ∧ x < 256) (hl : l0.length ≤ 17592186044416) :
    Calls Tryd.prog 33 #[.slice A0 l0.length c0] w fun e w' => ∃ v0_ : Value, e = .returned (v0_) ∧ Kd.R (Kd.int .i64) 3 w' w.heap.size (fun _ => True) v0_ (prepF 0 (pts l0)) ∧ Below w.heap.size w w' := by
  refine (callsIn_wide (n := 3)).1 ?_
  refine callsIn_of_wp_marks Tryd.func33 rfl trivial ?_ rfl
  simp only [Tryd.ntmps33, List.size_toArray, List.length_cons, List.length_nil, Nat.reduceAdd, Nat.reduceSub, Array.replicate_succ, Array.replicate_zero, List.push_toArray, List.append_toArray, List.nil_append, List.cons_append]
  have HR0 := Lib.hid hr0
  have HT := Lib.hid hT
  have HB := Lib.hid hb
  clear hr0 hT hb
  gi_wp2_with (first | (refine ⟨trivial, ?_⟩; gi_at_call 54; refine (callsIn_wide.2 (each_calls A0 l0.length c0 _)).mono ?_; rintro e w5 ⟨rfl, hb5, hs5, hx5⟩))
  have hn5 : w5.heap.size = w.heap.size + 3 := by simp only [World.size_alloc] at hs5; omega
  have hB5 : Below w.heap.size w w5 := below_step (((Below.refl _ w).alloc (Nat.le_refl _) _).alloc (by simp) _) hb5
  have hbx1 : Boxed w5 w.heap.size 45 (.slice none 0 0) := (hb5.block w.heap.size (by simp only [World.size_alloc]; omega)).trans ((Below.heap_alloc _ _ _ (by simp)).trans (World.alloc_heap_new w _))
  have hbx2 : Boxed w5 (w.heap.size + 1) 3 (.int .i64 0) := (hb5.block (w.heap.size + 1) (by simp only [World.size_alloc]; omega)).trans (by
    have := World.alloc_heap_new (w.alloc (.cells #[.slice none 0 0] 45)) (.cells #[.int .i64 0] 3)
    rwa [World.size_alloc] at this)
  have hx5' : w5.heap[w.heap.size + 1 + 1]? = some (.cells #[.slice A0 l0.length c0] 25 (0, 0)) := by simpa only [World.size_alloc] using hx5
  clear hx5 hb5 hs5
  have hHI : ∀ s W W', PrepI w s W → Turn (w.heap.size + 1 + 1) W W' → PrepI w s W' := fun s W W' h ht =>
    h.same (fun g hlt h1 h2 => ht.keep.2 g hlt (by omega) (by simp)) (Turn.below h.2.2 ht (by omega) h.2.2.size)
  have hHIp : ∀ s W o, PrepI w s W → PrepI w s (W.putObj (w.heap.size + 3 + 1) o) := fun s W o h =>
    h.same (fun g hlt h1 h2 => World.putObj_heap_other (by omega)) (h.2.2.grown (grownBy_put W _ o) h.2.2.size (fun k e => by cases e; omega))
  obtain ⟨i0, hi, hz0, hz1, hz2⟩ := info_parts (P := Tryd.prog) (e := 3) (z := .int .i64 0) (size := 1) (bytes := 8) (by kernel_rfl)
  refine range_goes (α := Int) (gf := 72) (lb := #[.pointer (some ⟨w.heap.size + 1 + 1, 0, none⟩)]) rfl ?eg (fun x => #[.int .i64 x]) (fun _ => rfl) (fun k => k < w.heap.size ∨ k = w.heap.size + 1 + 1) (w.heap.size + 1 + 1) (by omega) (by omega) (by omega) (fun xs => xs = pts l0) (fun pre x => (pre ++ [x]) <+: pts l0) (PrepI w) ?iter hHI ?hIp ?h0 ?round ?done
  case eg => intro args W; simp [callFunc, go_sem, Tryd.func72, Tryd.f72]
  case hIp => intro s W o h _; rw [hn5]; exact hHIp s W o h
  case iter =>
    intro J W1 _ hW1 hsz hJ hY h0
    have hB1 := below_step hB5 hW1
    have hlt := HT.out.lt
    refine (callsIn_wide (n := 2)).2 ((callsIn_wide (n := 3)).1 ?_)
    exact each1_in 2 (w5.heap.size + 1) (w.heap.size + 1 + 1) w.heap.size l0 HB.out J hJ hlt.1 hlt.2 (by omega) hY W1 (HT.out.below hB1) hB1.size
      ⟨A0, c0, (hW1.block _ (by omega)).trans hx5', hc0, Kd.C_below HR0.out hB1, fun ad e hn => C_block HR0.out ad e hn rfl⟩ h0
  case h0 =>
    intro W1 hW1 _
    exact ⟨⟨_, (hW1.block _ (by omega)).trans hbx1, World.ownsRow_nil _ _ _ _⟩, (hW1.block _ (by omega)).trans hbx2, below_step hB5 hW1⟩
  case round =>
    intro pre x W K hI hM hW hK
    rw [hn5] at hK hW ⊢
    gi_wp2
    refine hK _ _ rfl rfl (KeepsAt.refl _ _) ?_
    clear hK
    rintro W2 ⟨o, hW2⟩
    have hI2 : PrepI w pre W2 := by rw [hW2]; exact hHIp _ _ _ hI
    have hs2 : w.heap.size + 5 ≤ W2.heap.size := by rw [hW2]; simpa using hW
    clear hW2 hI hW
    obtain ⟨⟨v, hv, hrow⟩, hlast, hB⟩ := hI2
    have hcv := hv.cell
    have hfv := hv.frozen
    have hcl := hlast.cell
    have hfl := hlast.frozen
    have hlen : (prepF 0 pre).length + 1 ≤ 17592186044416 := by
      have h1 := hM.length_le
      have h2 := pts_length l0.length l0 (Nat.le_refl _)
      have h3 := prepF_length pre 0
      simp only [List.length_append, List.length_singleton] at h1
      omega
    by_cases c1 : x = 10
    · subst c1
      by_cases c2 : lastOf pre = 13
      · have b2 : (lastOf pre == 13) = true := beq_iff_eq.mpr c2
        gi_wp2
        exact goes_low hs2 ((Low.refl _ _ _).set _ _ (by simp)) (prep_skip (x := 10) hv hlast hrow hB (by simp [prepStep, c2]))
      · have b2 : (lastOf pre == 13) = false := beq_eq_false_iff_ne.mpr c2
        gi_wp2_with (first | (gi_at_builtin; refine wpListIn_append_own _ rfl _ _ 45 rfl (w.heap.size + 5) 3 i0 (.int .i64 0) 1 8 (by kernel_rfl) hi hz0 hz1 hz2 rfl (by decide) _ _ _ rfl (hrow.alloc _) ⟨W2.heap.size, 0, none⟩ 1 1 [.int .i64 (10)] rfl rfl (cell_one_new _ _ _) (by simp [Value.oneCell']) (by simp only [maxLen]; omega) (by omega) (by simp; omega) ?_; intro v' w1 hown' hgrow _; obtain ⟨g', cap', rfl⟩ := ownsRow_succ hown'; obtain ⟨hv1, hl1, hlow1⟩ := prep_grow hv hlast hrow hgrow; have hc1 := hv1.cell; have hf1 := hv1.frozen; obtain ⟨hcl1, hfl1⟩ := prep_last hl1 (.slice (some ⟨g', 0, none⟩) ((prepF 0 pre).length + 1) cap')))
        exact goes_low hs2 ((hlow1.set _ _ (by simp)).set _ _ (by simp)) (prep_app (x := 10) hv1 hl1 hown' (below_of_low hB hs2 hlow1) (by simp [prepStep, c2]))
    · have b1 : (x == 10) = false := beq_eq_false_iff_ne.mpr c1
      by_cases c3 : x = 13
      · subst c3
        gi_wp2_with (first | (gi_at_builtin; refine wpListIn_append_own _ rfl _ _ 45 rfl (w.heap.size + 5) 3 i0 (.int .i64 0) 1 8 (by kernel_rfl) hi hz0 hz1 hz2 rfl (by decide) _ _ _ rfl (hrow.alloc _) ⟨W2.heap.size, 0, none⟩ 1 1 [.int .i64 (10)] rfl rfl (cell_one_new _ _ _) (by simp [Value.oneCell']) (by simp only [maxLen]; omega) (by omega) (by simp; omega) ?_; intro v' w1 hown' hgrow _; obtain ⟨g', cap', rfl⟩ := ownsRow_succ hown'; obtain ⟨hv1, hl1, hlow1⟩ := prep_grow hv hlast hrow hgrow; have hc1 := hv1.cell; have hf1 := hv1.frozen; obtain ⟨hcl1, hfl1⟩ := prep_last hl1 (.slice (some ⟨g', 0, none⟩) ((prepF 0 pre).length + 1) cap')))
        exact goes_low hs2 ((hlow1.set _ _ (by simp)).set _ _ (by simp)) (prep_app (x := 13) hv1 hl1 hown' (below_of_low hB hs2 hlow1) (by simp [prepStep]))
      · have b3 : (x == 13) = false := beq_eq_false_iff_ne.mpr c3
        by_cases c4 : x = 12
        · subst c4
          gi_wp2_with (first | (gi_at_builtin; refine wpListIn_append_own _ rfl _ _ 45 rfl (w.heap.size + 5) 3 i0 (.int .i64 0) 1 8 (by kernel_rfl) hi hz0 hz1 hz2 rfl (by decide) _ _ _ rfl (hrow.alloc _) ⟨W2.heap.size, 0, none⟩ 1 1 [.int .i64 (10)] rfl rfl (cell_one_new _ _ _) (by simp [Value.oneCell']) (by simp only [maxLen]; omega) (by omega) (by simp; omega) ?_; intro v' w1 hown' hgrow _; obtain ⟨g', cap', rfl⟩ := ownsRow_succ hown'; obtain ⟨hv1, hl1, hlow1⟩ := prep_grow hv hlast hrow hgrow; have hc1 := hv1.cell; have hf1 := hv1.frozen; obtain ⟨hcl1, hfl1⟩ := prep_last hl1 (.slice (some ⟨g', 0, none⟩) ((prepF 0 pre).length + 1) cap')))
          exact goes_low hs2 ((hlow1.set _ _ (by simp)).set _ _ (by simp)) (prep_app (x := 12) hv1 hl1 hown' (below_of_low hB hs2 hlow1) (by simp [prepStep]))
        · have b4 : (x == 12) = false := beq_eq_false_iff_ne.mpr c4
          by_cases c5 : x = 0
          · subst c5
            gi_wp2_with (first | (gi_at_builtin; refine wpListIn_append_own _ rfl _ _ 45 rfl (w.heap.size + 5) 3 i0 (.int .i64 0) 1 8 (by kernel_rfl) hi hz0 hz1 hz2 rfl (by decide) _ _ _ rfl (hrow.alloc _) ⟨W2.heap.size, 0, none⟩ 1 1 [.int .i64 (65533)] rfl rfl (cell_one_new _ _ _) (by simp [Value.oneCell']) (by simp only [maxLen]; omega) (by omega) (by simp; omega) ?_; intro v' w1 hown' hgrow _; obtain ⟨g', cap', rfl⟩ := ownsRow_succ hown'; obtain ⟨hv1, hl1, hlow1⟩ := prep_grow hv hlast hrow hgrow; have hc1 := hv1.cell; have hf1 := hv1.frozen; obtain ⟨hcl1, hfl1⟩ := prep_last hl1 (.slice (some ⟨g', 0, none⟩) ((prepF 0 pre).length + 1) cap')))
            exact goes_low hs2 ((hlow1.set _ _ (by simp)).set _ _ (by simp)) (prep_app (x := 0) hv1 hl1 hown' (below_of_low hB hs2 hlow1) (by simp [prepStep]))
          · have b5 : (x == 0) = false := beq_eq_false_iff_ne.mpr c5
            gi_wp2_with (first | (gi_at_builtin; refine wpListIn_append_own _ rfl _ _ 45 rfl (w.heap.size + 5) 3 i0 (.int .i64 0) 1 8 (by kernel_rfl) hi hz0 hz1 hz2 rfl (by decide) _ _ _ rfl (hrow.alloc _) ⟨W2.heap.size, 0, none⟩ 1 1 [.int .i64 (x)] rfl rfl (cell_one_new _ _ _) (by simp [Value.oneCell']) (by simp only [maxLen]; omega) (by omega) (by simp; omega) ?_; intro v' w1 hown' hgrow _; obtain ⟨g', cap', rfl⟩ := ownsRow_succ hown'; obtain ⟨hv1, hl1, hlow1⟩ := prep_grow hv hlast hrow hgrow; have hc1 := hv1.cell; have hf1 := hv1.frozen; obtain ⟨hcl1, hfl1⟩ := prep_last hl1 (.slice (some ⟨g', 0, none⟩) ((prepF 0 pre).length + 1) cap')))
            exact goes_low hs2 ((hlow1.set _ _ (by simp)).set _ _ (by simp)) (prep_app (x := x) hv1 hl1 hown' (below_of_low hB hs2 hlow1) (by simp [prepStep, c1, c3, c4, c5]))
  case done =>
    intro xs W hxs hI hK
    subst hxs
    rw [hn5] at hK ⊢
    obtain ⟨⟨v, hv, hrow⟩, hlast, hB⟩ := hI
    have hcv := hv.cell
    gi_wp2
    refine ⟨by simp, .inl ⟨_, _, rfl, run_takeDeferred hK, ?_⟩⟩
    have hR : OwnRow ((Kd.int .i64).M (W.putObj (w.heap.size + 3) (.deferred none)) w.heap.size (fun k => True ∧ some k ≠ v.ownBlock)) 3 1 (W.putObj (w.heap.size + 3) (.deferred none)) (w.heap.size + 5) v (prepF 0 (pts l0)) :=
      ⟨_, ownsRow_same hrow (fun g hg hlt => World.putObj_heap_other (by omega)), reps_ints (R := (Kd.int .i64).M _ _ _) (fun x => rfl) _⟩
    exact ⟨_, results_tmp rfl _ _ _, v, rfl, ⟨fun _ _ => trivial, hR.lower (by omega)⟩, hB.grown (grownBy_put _ _ _) hB.size (fun k e => by cases e; omega)⟩
def text_Prepare.f (l0 : List Int) : Option (List Int) := if (∀ x ∈ l0, 0 ≤ x ∧ x < 256) ∧ l0.length ≤ 17592186044416 then some (prepF 0 (pts l0)) else none
theorem text_Prepare.calls (A0 : Option Addr) (c0 : Nat) (l0 : List Int) (r : List Int) (w : World) (hr0 : Kd.C (Kd.int .u8) w A0 l0.length l0) (hc0 : l0.length ≤ c0) (hT : TabsIn w) (h : text_Prepare.f l0 = some r) :
    Calls Tryd.prog 33 #[.slice A0 l0.length c0] w fun e w' => ∃ v0_ : Value, e = .returned (v0_) ∧ Kd.R (Kd.int .i64) 3 w' w.heap.size (fun _ => True) v0_ r ∧ Below w.heap.size w w' := by
  unfold text_Prepare.f at h
  split at h
  · next hh =>
    injection h with h
    subst h
    exact prepare_calls A0 c0 l0 w hr0 hc0 hT hh.1 hh.2
  · cases h
end Go.Proofs.YtplkkmmojanclaaDoor.My
