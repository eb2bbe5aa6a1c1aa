/- Part of the proof; printed or typed in this session; unused declarations and remarks struck by a program (wip/prune.py). -/
import Derived.RangeFuncNested
import Derived.RangeFuncBound
import Derived.RangeFuncCalls
import Derived.RangeFuncLeaves
import Derived.Shelf.Abstract
import Derived.Shelf.RegionOpen
import Derived.WalkKit
import Derived.OwnWalkIn
import Derived.TacticsInMore
import Derived.LoopNIn
import Derived.LoopIn
import Derived.Test.YtplkkmmojanclaaDoorCMy
set_option linter.all false
namespace Go.Proofs.YtplkkmmojanclaaDoor.My
open Go.RowKit Go.Shelf Go.Proofs.YtplkkmmojanclaaDoorW.PrintWords
theorem grown_set (W : World) (b j : Nat) (v : Value) : W.grownBy (W.setCell ⟨b, j, none⟩ v) (some b) :=
  ⟨rfl, rfl, rfl, (KeepsWalks.setCell W _ v).size, fun k _ hne => Below.heap_setCell W ⟨b, j, none⟩ v k (fun e => hne (by rw [e]))⟩
structure Turn (bx : Nat) (W W' : World) : Prop where
  keep : KeepBut W W' bx none
  os : W'.os = W.os
  tape : W'.tape = W.tape
  output : W'.output = W.output
theorem Turn.of_below {bx : Nat} {W W' : World} (h : Below W.heap.size W W') : Turn bx W W' := ⟨KeepBut.of_below h bx none, h.os, h.tape, h.output⟩
theorem Turn.trans {bx : Nat} {A B C : World} (h : Turn bx A B) (k : Turn bx B C) : Turn bx A C := ⟨KeepBut.trans h.keep k.keep (.inl rfl), k.os.trans h.os, k.tape.trans h.tape, k.output.trans h.output⟩
theorem Turn.setCell {bx : Nat} (W : World) (j : Nat) (v : Value) : Turn bx W (W.setCell ⟨bx, j, none⟩ v) :=
  have h := grown_set W bx j v
  ⟨⟨h.size, fun i hi hne _ => h.block i hi (fun e => hne (by injection e))⟩, h.os, h.tape, h.output⟩
theorem Turn.block {bx : Nat} {W W' : World} (h : Turn bx W W') {k : Nat} {o : Obj} (hk : k ≠ bx) (ho : W.heap[k]? = some o) : W'.heap[k]? = some o :=
  (h.keep.2 k (Array.getElem?_eq_some_iff.1 ho).1 hk (by simp)).trans ho
theorem Turn.below {bx n0 : Nat} {w W W' : World} (hb : Below n0 w W) (h : Turn bx W W') (hn : n0 ≤ bx) (hs : n0 ≤ W.heap.size) : Below n0 w W' :=
  ⟨h.os.trans hb.os, h.tape.trans hb.tape, h.output.trans hb.output, Nat.le_trans hb.size h.keep.1, fun i hi => (h.keep.2 i (Nat.lt_of_lt_of_le hi hs) (by omega) (by simp)).trans (hb.block i hi)⟩
structure KeepsAt (Ks : Nat → Prop) (W W' : World) : Prop where
  size : W.heap.size ≤ W'.heap.size
  same : ∀ k, Ks k → k < W.heap.size → W'.heap[k]? = W.heap[k]?
theorem KeepsAt.refl (Ks : Nat → Prop) (W : World) : KeepsAt Ks W W := ⟨Nat.le_refl _, fun _ _ _ => rfl⟩
theorem KeepsAt.trans {Ks : Nat → Prop} {A B C : World} (h : KeepsAt Ks A B) (k : KeepsAt Ks B C) : KeepsAt Ks A C :=
  ⟨Nat.le_trans h.size k.size, fun i hi hlt => (k.same i hi (Nat.lt_of_lt_of_le hlt h.size)).trans (h.same i hi hlt)⟩
theorem KeepsAt.putObj {Ks : Nat → Prop} (W : World) {l : Nat} (o : Obj) (h : ¬ Ks l) : KeepsAt Ks W (W.putObj l o) :=
  ⟨by simp, fun k hk _ => World.putObj_heap_other (fun e => h (e ▸ hk))⟩
def goesPost {α : Type} (L D : Nat) (Ks : Nat → Prop) (I : List α → World → Prop) (xs : List α) (W : World) : Exit → Act → World → Prop
  | .normal, _, W' => W'.heap[L]? = W.heap[L]? ∧ W'.heap[D]? = W.heap[D]? ∧ KeepsAt Ks W W' ∧ I xs W'
  | .ret, _, _ => False
  | .exit _, _, _ => False
  | .goto _, _, _ => False
  | .panic _, _, _ => False
  | .outgrown, _, _ => False
theorem range_goes {α : Type} {P : Program} {n : Nat} {g : Operand} {ps : Array Tmp} {assign body : Code} {Q : Exit → Act → World → Prop} {a : Act} {w : World}
    {gf : Nat} {lb : Array Value} (hg : a.eval g = .func (.func gf) #[] lb) (eg : ∀ args w, (callFunc gf args).run P w = .ok (.enter gf args) w)
    (encs : α → Array Value) (hps : ∀ x, (encs x).size = ps.size) (Ks : Nat → Prop) (bx : Nat) (hKs : ¬ Ks (w.heap.size + 1)) (hb1 : bx ≠ w.heap.size) (hb2 : bx ≠ w.heap.size + 1)
    (S : List α → Prop) (M : List α → α → Prop) (I : List α → World → Prop)
    (hiter : ∀ (J : List α → World → Prop) (W1 : World), (∀ s W, J s W → I s W) → Below w.heap.size w W1 → W1.heap.size = w.heap.size + 2 →
      (∀ s W W', J s W → Turn bx W W' → J s W') →
      (∀ pre x W, J pre W → M pre x → YieldAt Fence.wide n P (w.heap.size + 1) (encs x) W fun e W' => e = .returned (.bool true) ∧ J (pre ++ [x]) W' ∧ KeepsAt Ks W W') →
      J [] W1 → CallsIn Fence.wide n P gf (#[.func (.yield (w.heap.size + 1)) #[] #[]] ++ lb) W1 fun e W' => (∃ v, e = .returned v) ∧ ∃ xs, S xs ∧ J xs W')
    (hI : ∀ s W W', I s W → Turn bx W W' → I s W')
    (hIp : ∀ s W o, I s W → W.heap.size ≥ w.heap.size + 2 → I s (W.putObj (w.heap.size + 1) o))
    (h0 : ∀ W1, Below w.heap.size w W1 → W1.heap.size = w.heap.size + 2 → I [] W1)
    (hround : ∀ (pre : List α) (x : α) (W : World) (K : Act → World → Prop), I pre W → M pre x → w.heap.size + 2 ≤ W.heap.size →
      (∀ a1 W1, W1.heap[w.heap.size + 1]? = W.heap[w.heap.size + 1]? → W1.heap[w.heap.size]? = W.heap[w.heap.size]? → KeepsAt Ks W W1 →
        (∀ W2, (∃ o, W2 = W1.putObj (w.heap.size + 1) o) → body.wpIn (Fence.wide.inRound (w.heap.size + 1)) n P (goesPost (w.heap.size + 1) w.heap.size Ks I (pre ++ [x]) W2) a1 W2) → K a1 W1) →
      assign.wpIn (Fence.wide.inRound (w.heap.size + 1)) n P (Exit.then K (fun _ _ _ => False)) { tmps := (ps.zip (encs x)).foldl (fun t (p, v) => t.setIfInBounds p v) a.tmps, defers := [] } W)
    (hdone : ∀ (xs : List α) (W : World), S xs → I xs W → W.heap[w.heap.size]? = some (.deferred (some [])) → Q .normal { a with defers := { target := .collected w.heap.size, args := #[] } :: a.defers } W) :
    (Code.rangeFunc g ps assign body).wpIn Fence.wide (n + 1) P Q a w := by
  refine wpIn_rangeFunc ?_
  intro fn hfn
  rw [show Fence.wide.round = none from rfl]
  obtain ⟨rec, hrec⟩ : ∃ rec : LoopState → Option Code → Loop, rec = fun st pe => { state := st, pending := pe, fn, tmps := a.tmps, params := ps, assign, body, defers := w.heap.size } := ⟨_, rfl⟩
  obtain ⟨W1, hW1⟩ : ∃ W1, (w.alloc (.deferred (some []))).alloc (.loop (rec .ready none)) = W1 := ⟨_, rfl⟩
  have hL1 : W1.heap[w.heap.size + 1]? = some (.loop (rec .ready none)) := by
    rw [← hW1]; have := World.alloc_heap_new (w.alloc (.deferred (some []))) (.loop (rec .ready none)); rwa [World.size_alloc] at this
  have hK1 : W1.heap[w.heap.size]? = some (.deferred (some [])) := by
    rw [← hW1]; exact (Below.heap_alloc _ _ _ (by simp)).trans (World.alloc_heap_new w _)
  have hB1 : Below w.heap.size w W1 := by rw [← hW1]; exact ((Below.refl _ w).alloc (Nat.le_refl _) _).alloc (by simp) _
  have hS1 : W1.heap.size = w.heap.size + 2 := by rw [← hW1]; simp
  refine ⟨w.heap.size + 1, [{ target := .collected w.heap.size, args := #[] }], W1, { target := .fn (.func gf) lb, args := #[.func (.yield (w.heap.size + 1)) #[] #[]] }, W1, gf,
    #[.func (.yield (w.heap.size + 1)) #[] #[]] ++ lb, W1, ?_, ?_, ?_, ?_, fun _ => by omega, ?_⟩
  · rw [← hW1, hrec]; exact run_enterLoop_outer _ _ _ _ _
  · simp only [resolve, hg]
    simp [go_sem]
  · intro f' _; trivial
  · simp [invoke, go_sem, eg]
  · have hturn : ∀ {W W' : World} (k : Nat) (o : Obj), k ≠ bx → W.heap[k]? = some o → Turn bx W W' → W'.heap[k]? = some o := fun k o hk h hkb => hkb.block hk h
    refine (hiter (fun pre W => I pre W ∧ W.heap[w.heap.size + 1]? = some (.loop (rec .ready none)) ∧ W.heap[w.heap.size]? = some (.deferred (some []))) W1 (fun s W h => h.1) hB1 hS1
      (fun s W W' hs hk => ⟨hI s W W' hs.1 hk, hturn _ _ (Ne.symm hb2) hs.2.1 hk, hturn _ _ (Ne.symm hb1) hs.2.2 hk⟩) ?_ ⟨h0 W1 hB1 hS1, hL1, hK1⟩).mono ?_
    · rintro pre x W ⟨hi, hl, hk⟩ hm
      have hlt : w.heap.size + 1 < W.heap.size := (Array.getElem?_eq_some_iff.1 hl).1
      have hy := run_yield (P := P) (args := encs x) hl (by rw [hrec]; exact hps x)
      rw [hrec] at hy
      refine ⟨fn, _, assign, body, hy, roundIn_of_wpIn trivial (hround pre x W _ hi hm (by omega) ?_)⟩
      clear hy
      intro a1 Wa hla hka hkpa hbody
      replace hl := hla.trans hl
      replace hk := hka.trans hk
      have hlt2 : w.heap.size + 1 < Wa.heap.size := (Array.getElem?_eq_some_iff.1 hl).1
      refine ⟨_, run_beginRound hl (by rw [hrec]), ?_⟩
      have hl2 : (Wa.putObj (w.heap.size + 1) (.loop { rec .ready none with state := .busy })).heap[w.heap.size + 1]? = some (.loop { rec .ready none with state := .busy }) := World.putObj_heap_same hlt2
      have hk2 : (Wa.putObj (w.heap.size + 1) (.loop { rec .ready none with state := .busy })).heap[w.heap.size]? = some (.deferred (some [])) := (World.putObj_heap_other (by omega)).trans hk
      refine wpIn_mono (hbody _ ⟨_, rfl⟩) ?_
      rintro e a3 W3 hp
      cases e with
      | normal =>
        obtain ⟨hl3, hd3, hkp3, hi3⟩ := hp
        have hl4 := hl3.trans hl2
        have hd4 := hd3.trans hk2
        have hlt3 : w.heap.size + 1 < W3.heap.size := (Array.getElem?_eq_some_iff.1 hl4).1
        have hr := run_endRound (P := P) none hl4
        rw [hrec] at hr
        refine ⟨_, _, hr, rfl, ⟨hIp _ _ _ hi3 (by omega), ?_, (World.putObj_heap_other (by omega)).trans hd4⟩, ?_⟩
        · rw [hrec]; exact World.putObj_heap_same hlt3
        · exact hkpa.trans ((KeepsAt.putObj _ _ hKs).trans (hkp3.trans (KeepsAt.putObj _ _ hKs)))
      | ret => exact hp.elim
      | exit id => exact hp.elim
      | goto t => exact hp.elim
      | panic ch => exact hp.elim
      | outgrown => exact hp.elim
    · rintro e W2 ⟨⟨v, rfl⟩, xs, hS, hi, hl, hk⟩
      have hlt : w.heap.size + 1 < W2.heap.size := (Array.getElem?_eq_some_iff.1 hl).1
      exact ⟨none, _, by have := run_endLoop (P := P) hl (by rw [hrec]; simp); rw [hrec] at this; exact this, hdone xs _ hS (hIp _ _ _ hi (by omega)) ((World.putObj_heap_other (by omega)).trans hk)⟩
end Go.Proofs.YtplkkmmojanclaaDoor.My
