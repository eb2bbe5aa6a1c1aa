/- Part of the proof; printed or typed in this session; unused declarations and remarks struck by a program (wip/prune.py). -/
import Derived.Test.YtplkkmmojanclaaDoorCEachTok
import Derived.Test.YtplkkmmojanclaaDoorCQ0
import Derived.Test.YtplkkmmojanclaaDoorCQ7
import Derived.Test.YtplkkmmojanclaaDoorCQ8
import Derived.Test.YtplkkmmojanclaaDoorCShelf
set_option linter.all false
namespace Go.Proofs.YtplkkmmojanclaaDoor.My
open Go.RowKit Go.Shelf Go.Proofs.YtplkkmmojanclaaDoorW.PrintWords Go.Proofs.YtplkkmmojanclaaDoor.Q
attribute [local go_sem] Oper.semAt_some
theorem C_empty {k : IntKind} {w : World} {A : Option Addr} : (Kd.int k).C w A 0 ([] : List Int) := ⟨rfl, by decide, fun h => absurd h (by decide)⟩
theorem C_spot {k : IntKind} {w : World} {A : Option Addr} {xs : List Int} (h : (Kd.int k).C w A xs.length xs) (h0 : 0 < xs.length) : ∃ b off, A = some ⟨b, off, none⟩ ∧ ∀ j, j < xs.length → w.cell? ⟨b, off + j, none⟩ = some (.int k (xs.getD j 0)) := by
  obtain ⟨ad, rfl, hc⟩ := h.2.2 h0
  have hcell : ∀ j, (hj : j < xs.length) → w.cell? (ad.add j) = some (.int k xs[j]) := fun j hj => by
    obtain ⟨cs, hl, hr, hcell⟩ := hc j xs[j] (List.getElem?_eq_getElem hj)
    have hr' : cs = [.int k xs[j]] := hr
    subst hr'
    have := hcell 0 _ rfl
    rwa [show j * (Kd.int k).sz + 0 = j by show j * 1 + 0 = j; omega] at this
  have hspot : ad.spot = none := by
    have h := hcell 0 h0
    rw [show ad.add 0 = ad from rfl] at h
    cases hs : ad.spot with
    | none => rfl
    | some q =>
      unfold World.cell? at h
      rw [hs] at h
      split at h <;> simp at h
  obtain ⟨b, off, sp⟩ := ad
  subst hspot
  refine ⟨b, off, rfl, fun j hj => ?_⟩
  have h1 := hcell j hj
  have e1 : (⟨b, off, none⟩ : Addr).add j = ⟨b, off + j, none⟩ := by
    unfold Addr.add
    split
    · next e => subst e; rfl
    · rfl
  rw [e1] at h1
  rw [h1]
  simp [List.getD_eq_getElem?_getD, List.getElem?_eq_getElem hj]
theorem C_of_owns {w : World} {base : Nat} {e : TypeId} {v : Value} {xs : List Int} (h : w.ownsRow base e 1 v xs.length (xs.map (Value.int .i64))) : ∃ A c, v = .slice A xs.length c ∧ (Kd.int .i64).C w A xs.length xs ∧ (∀ ad, A = some ad → 0 < xs.length → base ≤ ad.block) := by
  rcases h.2 with ⟨rfl, hn⟩ | ⟨g, cap, cur, rfl, hb, hg, hcap, hmax, hsz, htk⟩
  · have : xs = [] := List.eq_nil_of_length_eq_zero hn
    subst this
    exact ⟨none, 0, rfl, C_empty, fun ad e => by cases e⟩
  · refine ⟨_, cap, rfl, ?_, fun ad e _ => by cases e; exact hb⟩
    have hR2 : (Kd.int .i64).R e w base (fun _ => True) (.slice (some ⟨g, 0, none⟩) xs.length cap) xs := ⟨fun _ _ => trivial, ⟨_, h, reps_ints (R := (Kd.int .i64).M _ _ _) (fun x => rfl) _⟩⟩
    exact (Kd.R_reads' hR2).2.2
theorem clone_calls (A0 : Option Addr) (c0 : Nat) (l0 : List Int) (w : World) (hC : (Kd.int .i64).C w A0 l0.length l0) (hl : l0.length ≤ 17592186044416) :
    Calls Tryd.prog 50 #[.slice A0 l0.length c0] w fun e w' => ∃ A c, e = .returned (.slice A l0.length c) ∧ (Kd.int .i64).C w' A l0.length l0 ∧ (∀ ad, A = some ad → 0 < l0.length → w.heap.size ≤ ad.block) ∧ Below w.heap.size w w' := by
  by_cases h0 : 0 < l0.length
  · obtain ⟨b, off, rfl, hc⟩ := C_spot hC h0
    refine (Tryd.slices_Clone_int b off l0.length c0 l0 w (Nat.le_refl _) (by omega) hc).mono ?_
    rintro e w' ⟨v', rfl, ho, _, hb⟩
    rw [List.take_length] at ho
    obtain ⟨A, c, rfl, h1, h2⟩ := C_of_owns ho
    exact ⟨A, c, rfl, h1, h2, hb⟩
  · have : l0 = [] := List.eq_nil_of_length_eq_zero (by omega)
    subst this
    cases A0 with
    | none =>
      refine (Tryd.slices_Clone_int_nil 0 c0 w).mono ?_
      rintro e w' ⟨rfl, rfl⟩
      exact ⟨none, 0, rfl, C_empty, (fun ad e => by cases e), Below.refl _ _⟩
    | some a =>
      refine (Tryd.slices_Clone_int_zero a c0 w).mono ?_
      rintro e w' ⟨v', rfl, ho, _, hb⟩
      obtain ⟨A, c, rfl, h1, h2⟩ := C_of_owns (xs := []) ho
      exact ⟨A, c, rfl, h1, (fun ad e h => by simp at h), hb⟩
theorem tokeach_calls (A0 : Option Addr) (n c0 : Nat) (w : World) :
    Calls Tryd.prog 49 #[.slice A0 n c0] w fun e w' => e = .returned (.func (.func 65) #[] #[.pointer (some ⟨w.heap.size, 0, none⟩)]) ∧ Below w.heap.size w w' ∧ w'.heap.size = w.heap.size + 1 ∧ w'.heap[w.heap.size]? = some (.cells #[.slice A0 n c0] 45 (0, 0)) := by
  have hmf : ∀ W : World, (Instr.makeFunc (.func 65) #[] #[.pointer (some ⟨w.heap.size, 0, none⟩)]).run Tryd.prog W = .ok (.func (.func 65) #[] #[.pointer (some ⟨w.heap.size, 0, none⟩)]) W := fun W => by
    simp [go_sem]
  go_enter Tryd.func49, Tryd.ntmps49
  go_wp2
  go_ret
  exact ⟨rfl, (Below.refl _ w).alloc (Nat.le_refl _) _, by simp, World.alloc_heap_new w _⟩
def cells31 (x : S31) : List Value := [.int .i64 x.f0, .string x.f1, .int .i64 x.f2, .bool x.f3, .int .i64 x.f4]
def TokI (w : World) (m : Nat) (pre : List S31) (W : World) : Prop :=
  (∃ v cs, Boxed W w.heap.size 32 v ∧ W.ownsRow m 31 5 v pre.length cs ∧ Reps (fun x c => c = cells31 x) 5 pre cs) ∧ Below w.heap.size w W
theorem TokI.same {w W W' : World} {m : Nat} {pre : List S31} (h : TokI w m pre W) (hs : ∀ g, g < W.heap.size → (g = w.heap.size ∨ m ≤ g) → W'.heap[g]? = W.heap[g]?) (hb : Below w.heap.size w W') : TokI w m pre W' := by
  obtain ⟨⟨v, cs, h1, h2, h3⟩, h4⟩ := h
  exact ⟨⟨v, cs, (hs _ h1.lt (.inl rfl)).trans h1, ownsRow_same h2 (fun g hg hlt => hs g hlt (.inr hg)), h3⟩, hb⟩
theorem TokI.no {w W : World} {m : Nat} {pre : List S31} (h : TokI w m pre W) (ad : Addr) (x : Int) (ha : ad.block = w.heap.size) : W.cell? ad ≠ some (.int .i64 x) := by
  obtain ⟨⟨v, cs, h1, h2, _⟩, _⟩ := h
  intro hc
  obtain ⟨b, off, sp⟩ := ad
  subst ha
  have h1' : W.heap[w.heap.size]? = some (.cells #[v] 32 (0, 0)) := h1
  have hv : ∃ A n c, v = .slice A n c := by
    rcases h2.2 with ⟨rfl, _⟩ | ⟨g, cap, cur, rfl, _⟩
    · exact ⟨_, _, _, rfl⟩
    · exact ⟨_, _, _, rfl⟩
  obtain ⟨A, n, c, rfl⟩ := hv
  unfold World.cell? at hc
  simp only [h1'] at hc
  cases off with
  | zero => cases sp <;> simp at hc
  | succ k => cases sp <;> simp at hc
theorem cells_new (W : World) (x : S31) : ∀ j u, (cells31 x)[j]? = some u → (W.alloc (.cells #[.int .i64 x.f0, .string x.f1, .int .i64 x.f2, .bool x.f3, .int .i64 x.f4] 31)).cell? ((⟨W.heap.size, 0, none⟩ : Addr).add j) = some u := by
  intro j u h
  have hb := World.alloc_heap_new W (.cells #[.int .i64 x.f0, .string x.f1, .int .i64 x.f2, .bool x.f3, .int .i64 x.f4] 31)
  have e1 : (⟨W.heap.size, 0, none⟩ : Addr).add j = ⟨W.heap.size, j, none⟩ := by
    unfold Addr.add
    split
    · next e => subst e; rfl
    · simp
  rw [e1]
  refine (blk_cell hb j).trans ?_
  simpa [cells31] using h
theorem toks_grow {w W2 w1 : World} {m : Nat} {v : Value} {k : Nat} {xs : List Value} {tmp : Obj} (hv : Boxed W2 w.heap.size 32 v) (hrow : W2.ownsRow m 31 5 v k xs) (hm : w.heap.size < m) (hg : (W2.alloc tmp).grownBy w1 v.ownBlock) :
    Boxed w1 w.heap.size 32 v ∧ Low m (fun k => k ≠ w.heap.size) W2 w1 := by
  have hb := fun j hj => ownsRow_base hrow j hj
  exact ⟨(hv.alloc tmp).kept hg (fun e => by have := hb _ e.symm; omega), ((Low.refl _ _ W2).alloc tmp).grown hg (fun k e => .inl (hb k e))⟩
theorem toks_app {w w1 : World} {m : Nat} {v v' : Value} {pre : List S31} {x : S31} {cs : List Value} (hv : Boxed w1 w.heap.size 32 v)
    (hown : w1.ownsRow m 31 5 v' (pre.length + 1) (cs ++ cells31 x)) (hR : Reps (fun x c => c = cells31 x) 5 pre cs) (hB : Below w.heap.size w w1) (hm : w.heap.size < m) :
    TokI w m (pre ++ [x]) (w1.setCell ⟨w.heap.size, 0, none⟩ v') := by
  have g1 := grownBy_setCell' w1 w.heap.size v'
  refine ⟨⟨v', cs ++ cells31 x, hv.set v', ?_, hR.snoc rfl rfl⟩, hB.grown g1 hB.size (fun k e => by cases e; omega)⟩
  rw [List.length_append, List.length_singleton]
  exact ownsRow_same hown (fun g hg hlt => g1.block g hlt (by simp; omega))
theorem toks_goes {w W W' : World} {b0 : Nat} {l : List S31} {a : Act} (hn : w.heap.size < b0) (hW : b0 + 2 ≤ W.heap.size) (h : Low (b0 + 3) (fun k => k ≠ w.heap.size) W W') (hI : TokI w (b0 + 3) l W') :
    goesPost (b0 + 1) b0 (fun k => (k < b0 ∧ k ≠ w.heap.size) ∨ k = b0 + 2) (TokI w (b0 + 3)) l W .normal a W' :=
  ⟨h.same _ (by omega) (by omega) (by omega), h.same _ (by omega) (by omega) (by omega), ⟨h.size, fun k hk hlt => h.same k (by omega) (by omega) hlt⟩, hI⟩
def comF (k : Nat) (l : List Int) (i : Int) : Option (Bool × Int) := tok_scanner_comment.f k l i
def tokF (k : Nat) (l : List Int) (i : Int) : Option (S31 × Int) := (tok_scanner_token.f k l i).map fun t => (⟨t.1, t.2.1, t.2.2.1, t.2.2.2.1, t.2.2.2.2.1⟩, t.2.2.2.2.2)
set_option maxRecDepth 100000 in
set_option maxHeartbeats 4000000 in
theorem tokens_calls (k : Nat) (A0 : Option Addr) (c0 : Nat) (l0 : List Int) (ts : List S31) (w : World) (hr0 : Kd.C (Kd.int .i64) w A0 l0.length l0) (hl : l0.length ≤ 17592186044416) (hts : toksL (comF k l0) (tokF k l0) l0.length k 0 = some ts) (hn : ts.length ≤ 2000000000000) :
    Calls Tryd.prog 26 #[.slice A0 l0.length c0] w fun e w' => ∃ v0_ : Value, e = .returned (v0_) ∧ Kd.R k31 31 w' w.heap.size (fun _ => True) v0_ ts ∧ Below w.heap.size w w' := by
  refine (callsIn_wide (n := 3)).1 ?_
  refine callsIn_of_wp_marks Tryd.func26 rfl trivial ?_ rfl
  simp only [Tryd.ntmps26, List.size_toArray, List.length_cons, List.length_nil, Nat.reduceAdd, Nat.reduceSub, Array.replicate_succ, Array.replicate_zero, List.push_toArray, List.append_toArray, List.nil_append, List.cons_append]
  have HR0 := Lib.hid hr0
  have HTS := Lib.hid hts
  clear hr0 hts
  have HC1 := Lib.hid (clone_calls A0 c0 l0 (w.alloc (.cells #[.slice none 0 0] 32)) (Kd.C_below HR0.out (below_alloc (Below.refl _ _) _)) hl)
  gi_wp2_with (first
    | (refine ⟨trivial, ?_⟩; gi_at_call 50; refine (callsIn_wide.2 HC1.out).mono ?_; rintro e w2 ⟨A1, c1, rfl, hC1, hA1, hb1⟩)
    | (refine ⟨trivial, ?_⟩; gi_at_call 49; refine (callsIn_wide.2 (tokeach_calls A1 l0.length c1 _)).mono ?_; rintro e w5 ⟨rfl, hb5, hs5, hx5⟩))
  simp only [World.size_alloc] at hA1
  have hbox0 : Boxed (w.alloc (.cells #[.slice none 0 0] 32)) w.heap.size 32 (.slice none 0 0) := World.alloc_heap_new w _
  have hB1 : Below w.heap.size w w2 := below_step ((Below.refl _ w).alloc (Nat.le_refl _) _) hb1
  have hs1 : w.heap.size + 1 ≤ w2.heap.size := by have := hb1.size; rwa [World.size_alloc] at this
  have hB5 : Below w.heap.size w w5 := below_step hB1 hb5
  have hbx1 : Boxed w5 w.heap.size 32 (.slice none 0 0) := (hb5.block _ (by omega)).trans ((hb1.block _ (by simp)).trans hbox0)
  have hC5 := Lib.hid (Kd.C_below hC1 hb5)
  have hA5 : ∀ ad, A1 = some ad → 0 < l0.length → ad.block < w5.heap.size ∧ ad.block ≠ w.heap.size := fun ad e h => by
    have h1 := C_block hC1 ad e h rfl
    have h2 := hA1 ad e h
    omega
  obtain ⟨b0, hb0⟩ : ∃ b0, b0 = w5.heap.size := ⟨_, rfl⟩
  have hn0 : w.heap.size < b0 := by omega
  have hHI : ∀ s W W', TokI w (b0 + 3) s W → Turn (b0 + 2) W W' → TokI w (b0 + 3) s W' := fun s W W' h ht =>
    h.same (fun g hlt h1 => ht.keep.2 g hlt (by omega) (by simp)) (Turn.below h.2 ht (by omega) h.2.size)
  have hHIp : ∀ s W o, TokI w (b0 + 3) s W → TokI w (b0 + 3) s (W.putObj (b0 + 1) o) := fun s W o h =>
    h.same (fun g hlt h1 => World.putObj_heap_other (by omega)) (h.2.grown (grownBy_put W _ o) h.2.size (fun k e => by cases e; omega))
  obtain ⟨i0, hi, hz0, hz1, hz2⟩ := info_parts info31
  refine range_goes (α := S31) (gf := 65) (lb := #[.pointer (some ⟨w2.heap.size, 0, none⟩)]) rfl ?eg (fun x => #[agg31 x]) (fun _ => rfl) (fun k => (k < b0 ∧ k ≠ w.heap.size) ∨ k = b0 + 2) (b0 + 2) (by omega) (by omega) (by omega) (fun xs => xs = ts) (fun pre x => (pre ++ [x]) <+: ts) (TokI w (b0 + 3)) ?iter hHI ?hIp ?h0 ?round ?done
  case eg => intro args W; simp [callFunc, go_sem, Tryd.func65, Tryd.f65]
  case hIp => intro s W o h _; rw [← hb0]; exact hHIp s W o h
  case iter =>
    intro J W1 hJI hW1 hsz hJ hY h0
    refine (callsIn_wide (n := 2)).2 ((callsIn_wide (n := 3)).1 ?_)
    rw [← hb0] at hsz hY ⊢
    exact eachTok_in 2 (b0 + 1) w2.heap.size b0 (b0 + 2) w.heap.size l0 k ts (comF k l0) (tokF k l0) J
      (fun i b i' w0 w hI hB h => tok_scanner_comment.calls k (b0 + 2) l0 i b i' w0 w hI hB h)
      (fun i t i' w0 w hI hB h => by
        obtain ⟨⟨r1, r2, r3, r4, r5, r6⟩, h1, h2⟩ := Option.map_eq_some_iff.1 h
        injection h2 with h2 h3
        subst h2; subst h3
        exact tok_scanner_token.calls k (b0 + 2) l0 i r1 r2 r3 r4 r5 r6 w0 w hI hB h1)
      HTS.out hJ (fun s W hs ad x ha => (hJI s W hs).no ad x ha) (by omega) (fun pre x W hj hp => hY pre x W hj hp) W1 hsz A1 c1
      ((hW1.cell (p := ⟨w2.heap.size, 0, none⟩) (by show w2.heap.size < _; omega)).trans ((blk_cell hx5 0).trans rfl)) (Kd.C_below hC5.out hW1) (by rw [hb0]; exact hA5) h0
  case h0 =>
    intro W1 hW1 _
    exact ⟨⟨_, [], (hW1.block _ (by omega)).trans hbx1, World.ownsRow_nil _ _ _ _, Reps.none _ _⟩, below_step hB5 hW1⟩
  case round =>
    intro pre x W K hI hM hW hK
    rw [← hb0] at hK hW ⊢
    clear hb0 hs5
    simp only [agg31]
    gi_wp2
    refine hK _ _ (Below.heap_alloc W _ _ (by omega)) (Below.heap_alloc W _ _ (by omega)) ⟨by simp, fun k _ hlt => Below.heap_alloc W _ k hlt⟩ ?_
    clear hK
    rintro W2 ⟨o, hW2⟩
    have hq := (World.alloc_heap_new W (.cells #[.int .i64 x.f0, .string x.f1, .int .i64 x.f2, .bool x.f3, .int .i64 x.f4] 31))
    have hq2 : W2.heap[W.heap.size]? = some (.cells #[.int .i64 x.f0, .string x.f1, .int .i64 x.f2, .bool x.f3, .int .i64 x.f4] 31 (0, 0)) := by rw [hW2]; exact (World.putObj_heap_other (by omega)).trans hq
    have hI2 : TokI w (b0 + 3) pre W2 := by rw [hW2]; exact hHIp _ _ _ (hI.same (fun g hlt _ => Below.heap_alloc W _ g hlt) (below_alloc hI.2 _))
    have hs2 : b0 + 3 ≤ W2.heap.size := by rw [hW2]; simp; omega
    obtain ⟨q, hqq⟩ : ∃ q, q = W.heap.size := ⟨_, rfl⟩
    rw [← hqq] at hq2 ⊢
    clear hW2 hI hq hqq
    obtain ⟨⟨v, cs, hv, hrow, hR⟩, hB⟩ := hI2
    have hcv := hv.cell
    have hfv := hv.frozen
    have hx0 := (blk_cell hq2 0).trans (show _ = some _ from rfl)
    have hx1 := (blk_cell hq2 1).trans (show _ = some _ from rfl)
    have hx2 := (blk_cell hq2 2).trans (show _ = some _ from rfl)
    have hx3 := (blk_cell hq2 3).trans (show _ = some _ from rfl)
    have hx4 := (blk_cell hq2 4).trans (show _ = some _ from rfl)
    have hlen : pre.length + 1 ≤ 2000000000000 := by
      have h1 := hM.length_le
      simp only [List.length_append, List.length_singleton] at h1
      omega
    gi_wp2_with (first | (gi_at_builtin; refine wpListIn_append_own _ rfl _ _ 32 rfl (b0 + 3) 31 i0 _ 5 48 (by kernel_rfl) hi hz0 hz1 hz2 rfl (by decide) _ _ _ rfl (hrow.alloc _) ⟨W2.heap.size, 0, none⟩ 1 1 (cells31 x) rfl rfl (cells_new W2 x) (by simp [cells31, Value.oneCell']) (by simp only [maxLen]; omega) (by omega) (by simp; omega) ?_; intro v' w1 hown' hgrow _; obtain ⟨g', cap', rfl⟩ := ownsRow_succ hown'; obtain ⟨hv1, hlow1⟩ := toks_grow hv hrow (by omega) hgrow; have hc1 := hv1.cell; have hf1 := hv1.frozen))
    exact toks_goes hn0 (by omega) (hlow1.set _ _ (by simp)) (toks_app hv1 hown' hR ⟨hlow1.os.trans hB.os, hlow1.tape.trans hB.tape, hlow1.output.trans hB.output, Nat.le_trans hB.size hlow1.size, fun k hk => (hlow1.same k (by omega) (by omega) (by omega)).trans (hB.block k hk)⟩ (by omega))
  case done =>
    intro xs W hxs hI hK
    subst hxs
    rw [← hb0] at hK ⊢
    obtain ⟨⟨v, cs, hv, hrow, hR⟩, hB⟩ := hI
    have hcv := hv.cell
    gi_wp2
    refine ⟨by simp, .inl ⟨_, _, rfl, run_takeDeferred hK, ?_⟩⟩
    have hR2 : OwnRow (k31.M (W.putObj b0 (.deferred none)) w.heap.size (fun k => True ∧ some k ≠ v.ownBlock)) 31 5 (W.putObj b0 (.deferred none)) (b0 + 3) v xs :=
      ⟨_, ownsRow_same hrow (fun g hg hlt => World.putObj_heap_other (by omega)), hR.imp_ (fun p c e => by subst e; exact k31_mkM _ _ _ p)⟩
    exact ⟨_, results_tmp rfl _ _ _, v, rfl, ⟨fun _ _ => trivial, hR2.lower (by omega)⟩, hB.grown (grownBy_put _ _ _) hB.size (fun k e => by cases e; omega)⟩
def tok_Tokens.f (k : Nat) (l : List Int) : Option (List S31) := if l.length ≤ 17592186044416 then (toksL (comF k l) (tokF k l) l.length k 0).bind fun ts => if ts.length ≤ 2000000000000 then some ts else none else none
theorem tok_Tokens.calls (k : Nat) (A0 : Option Addr) (c0 : Nat) (l0 : List Int) (r : List S31) (w : World) (hr0 : Kd.C (Kd.int .i64) w A0 l0.length l0) (_hc0 : l0.length ≤ c0) (h : tok_Tokens.f k l0 = some r) :
    Calls Tryd.prog 26 #[.slice A0 l0.length c0] w fun e w' => ∃ v0_ : Value, e = .returned (v0_) ∧ Kd.R k31 31 w' w.heap.size (fun _ => True) v0_ r ∧ Below w.heap.size w w' := by
  unfold tok_Tokens.f at h
  split at h
  · next hl =>
    obtain ⟨ts, h1, h2⟩ := Option.bind_eq_some_iff.1 h
    split at h2
    · next hn =>
      injection h2 with h2
      subst h2
      exact tokens_calls k A0 c0 l0 ts w hr0 hl h1 hn
    · cases h2
  · cases h
theorem toksL_le {com com' : Int → Option (Bool × Int)} {tok tok' : Int → Option (S31 × Int)} {n : Int} (hc : ∀ i, LeO (com i) (com' i)) (ht : ∀ i, LeO (tok i) (tok' i)) : ∀ (f f' : Nat), f ≤ f' → ∀ i, LeO (toksL com tok n f i) (toksL com' tok' n f' i) := by
  intro f
  induction f with
  | zero => intro f' _ i r h; simp [toksL] at h
  | succ f ih =>
    intro f' hf i r h
    cases f' with
    | zero => omega
    | succ f' =>
      simp only [toksL] at h ⊢
      split at h
      · next hi =>
        rw [if_pos hi]
        obtain ⟨b, hb, h⟩ := Option.bind_eq_some_iff.1 h
        rw [hc i b hb]
        simp only [Option.bind_some]
        split at h
        · next hb1 => rw [if_pos hb1]; exact ih f' (by omega) _ _ h
        · next hb1 =>
          rw [if_neg hb1]
          obtain ⟨t, ht1, h⟩ := Option.bind_eq_some_iff.1 h
          obtain ⟨rest, hr, hrr⟩ := Option.map_eq_some_iff.1 h
          rw [ht b.2 t ht1]
          simp only [Option.bind_some]
          rw [ih f' (by omega) _ _ hr]
          exact congrArg some hrr
      · next hi => rw [if_neg hi]; exact h
theorem tok_Tokens.mono : ∀ a0 k, LeO (tok_Tokens.f k a0) (tok_Tokens.f (k + 1) a0) := by
  intro l k r h
  unfold tok_Tokens.f at h ⊢
  split at h
  · next hl =>
    rw [if_pos hl]
    obtain ⟨ts, h1, h2⟩ := Option.bind_eq_some_iff.1 h
    have hc : ∀ i, LeO (comF k l i) (comF (k + 1) l i) := fun i => tok_scanner_comment.mono l i k
    have ht : ∀ i, LeO (tokF k l i) (tokF (k + 1) l i) := fun i r hr => by
      obtain ⟨t, h3, h4⟩ := Option.map_eq_some_iff.1 hr
      unfold tokF
      rw [tok_scanner_token.mono l i k t h3]
      exact congrArg some h4
    rw [toksL_le hc ht k (k + 1) (by omega) 0 ts h1]
    exact h2
  · cases h
end Go.Proofs.YtplkkmmojanclaaDoor.My
