/- Part of the proof; printed or typed in this session; unused declarations and remarks struck by a program (wip/prune.py). -/
import Derived.Lib.Hide
import Derived.Outline
import Derived.Sort.LoopGhostIn
import Derived.Test.YtplkkmmojanclaaDoorCPrepare
import Derived.Test.YtplkkmmojanclaaDoorCQ2
set_option linter.all false
namespace Go.Proofs.YtplkkmmojanclaaDoor.My
open Go.RowKit Go.Shelf Go.Proofs.YtplkkmmojanclaaDoorW.PrintWords Go.Proofs.YtplkkmmojanclaaDoor.Q
attribute [local go_sem] Oper.semAt_some
def cutW (b : Nat) (W : World) : World := { W with heap := W.heap.extract 0 b }
theorem cutW_size {b : Nat} {W : World} (h : b ≤ W.heap.size) : (cutW b W).heap.size = b := by
  simp only [cutW, Array.size_extract]; omega
theorem cutW_block {b k : Nat} {W : World} (h : k < b) : (cutW b W).heap[k]? = W.heap[k]? := by
  simp only [cutW, Array.getElem?_extract]
  split
  · simp
  · next hn => rw [Array.getElem?_eq_none]; omega
theorem cutW_below {b : Nat} {W : World} (h : b ≤ W.heap.size) : Below (cutW b W).heap.size (cutW b W) W :=
  ⟨rfl, rfl, rfl, by rw [cutW_size h]; exact h, fun k hk => (cutW_block (by rw [cutW_size h] at hk; exact hk)).symm⟩
def ScanI (b0 g o : Nat) (s : List Int) (i : Int) (W : World) : Prop :=
  ∃ A c, W.heap[g]? = some (.cells #[.slice A s.length c, .int .i64 i] 95 (0, 0)) ∧ (Kd.int .i64).C W A s.length s ∧ (∀ ad, A = some ad → 0 < s.length → ad.block < b0 ∧ ad.block ≠ o)
variable {b0 g o : Nat} {s : List Int} {i : Int} {W W' : World}
theorem ScanI.is (h : ScanI b0 g o s i W) (hb : b0 ≤ g) (hs : b0 ≤ W.heap.size) : IsS95 (cutW b0 W) W g s i := by
  obtain ⟨A, c, h1, h2, h3⟩ := h
  exact ⟨A, c, h1, by rw [cutW_size hs]; exact hb, C_same h2 (fun ad e hn => cutW_block (h3 ad e hn).1)⟩
theorem ScanI.of (h : IsS95 (cutW b0 W) W' g s i) (hB : Below (cutW b0 W).heap.size (cutW b0 W) W') (hs : b0 ≤ W.heap.size) (hno : ∀ (ad : Addr) (x : Int), ad.block = o → W.cell? ad ≠ some (.int .i64 x)) : ScanI b0 g o s i W' := by
  obtain ⟨A, c, h1, h2, h3⟩ := h
  have hlt : ∀ ad, A = some ad → 0 < s.length → ad.block < b0 := fun ad e hn => by
    have := C_block h3 ad e hn rfl
    rwa [cutW_size hs] at this
  refine ⟨A, c, h1, C_same h3 (fun ad e hn => hB.block _ (by rw [cutW_size hs]; exact hlt ad e hn)), fun ad e hn => ⟨hlt ad e hn, fun eo => ?_⟩⟩
  obtain ⟨ad', e', hc⟩ := h3.2.2 hn
  obtain rfl : ad' = ad := by rw [e] at e'; injection e' with e'; exact e'.symm
  obtain ⟨cs, _, hr, hcell⟩ := hc 0 s[0] (List.getElem?_eq_getElem hn)
  have hr' : cs = [.int .i64 s[0]] := hr
  subst hr'
  have h4 := hcell 0 _ rfl
  have e5 : (cutW b0 W).cell? ((ad'.add (0 * (Kd.int IntKind.i64).sz)).add 0) = W.cell? ((ad'.add (0 * (Kd.int IntKind.i64).sz)).add 0) :=
    (World.cell?_of_block (by rw [add_block, add_block]; exact (cutW_block (hlt _ e hn)).symm)).symm
  first
    | exact hno _ _ (by rw [add_block, add_block]; exact eo) (e5.symm.trans h4)
    | exact hno _ _ (by rw [add_block]; exact eo) ((World.cell?_of_block (by rw [add_block]; exact (cutW_block (hlt _ e hn)).symm)).trans h4)
theorem ScanI.keep (h : ScanI b0 g o s i W) (hs : b0 ≤ W.heap.size) (hk : KeepsAt (fun k => (k < b0 ∧ k ≠ o) ∨ k = g) W W') : ScanI b0 g o s i W' := by
  obtain ⟨A, c, h1, h2, h3⟩ := h
  exact ⟨A, c, (hk.same _ (.inr rfl) (Array.getElem?_eq_some_iff.1 h1).1).trans h1, C_same h2 (fun ad e hn => hk.same _ (.inl (h3 ad e hn)) (Nat.lt_of_lt_of_le (h3 ad e hn).1 hs)), h3⟩
theorem turn_of (_hs : b0 ≤ W.heap.size) (hB : Below (cutW b0 W).heap.size (cutW b0 W) W') (hK : KeepBut W W' g none) : Turn g W W' := ⟨hK, hB.os, hB.tape, hB.output⟩
theorem turn_drew (g : Nat) (W : World) : Turn g W W.drew := Turn.of_below (below_drew1 (Below.refl _ _))
theorem scan_drew (h : ScanI b0 g o s i W) : ScanI b0 g o s i W.drew := by
  obtain ⟨A, c, h1, h2, h3⟩ := h
  exact ⟨A, c, h1, C_same h2 (fun _ _ _ => rfl), h3⟩
def toksL (com : Int → Option (Bool × Int)) (tok : Int → Option (S31 × Int)) (n : Int) : Nat → Int → Option (List S31)
  | 0, _ => none
  | f + 1, i => if i < n then (com i).bind fun b => if b.1 = true then toksL com tok n f b.2 else (tok b.2).bind fun t => (toksL com tok n f t.2).map (t.1 :: ·) else some []
def agg31 (x : S31) : Value := .agg #[.int .i64 x.f0, .string x.f1, .int .i64 x.f2, .bool x.f3, .int .i64 x.f4]
set_option maxRecDepth 100000 in
set_option maxHeartbeats 4000000 in
theorem eachTok_in (n l Bx b0 g o : Nat) (s : List Int) (k : Nat) (ts : List S31) (com : Int → Option (Bool × Int)) (tok : Int → Option (S31 × Int)) (J : List S31 → World → Prop)
    (hcom : ∀ (i : Int) (b : Bool) (i' : Int) (w0 w : World), IsS95 w0 w g s i → Below w0.heap.size w0 w → com i = some (b, i') →
      Calls Tryd.prog 66 #[.pointer (some ⟨g, 0, none⟩)] w fun e w' => e = .returned (.bool b) ∧ IsS95 w0 w' g s i' ∧ Below w0.heap.size w0 w' ∧ KeepBut w w' g none)
    (htok : ∀ (i : Int) (t : S31) (i' : Int) (w0 w : World), IsS95 w0 w g s i → Below w0.heap.size w0 w → tok i = some (t, i') →
      Calls Tryd.prog 67 #[.pointer (some ⟨g, 0, none⟩)] w fun e w' => e = .returned (agg31 t) ∧ IsS95 w0 w' g s i' ∧ Below w0.heap.size w0 w' ∧ KeepBut w w' g none)
    (hts : toksL com tok s.length k 0 = some ts)
    (hJ : ∀ s W W', J s W → Turn g W W' → J s W') (hno : ∀ s W, J s W → ∀ (ad : Addr) (x : Int), ad.block = o → W.cell? ad ≠ some (.int .i64 x))
    (hbg : b0 ≤ g)
    (hY : ∀ pre x W, J pre W → (pre ++ [x]) <+: ts → YieldAt Fence.wide n Tryd.prog l #[agg31 x] W fun e W' => e = .returned (.bool true) ∧ J (pre ++ [x]) W' ∧ KeepsAt (fun k => (k < b0 ∧ k ≠ o) ∨ k = g) W W')
    (W : World) (hg : W.heap.size = g) (A : Option Addr) (c : Nat) (hcap : W.cell? ⟨Bx, 0, none⟩ = some (.slice A s.length c)) (hC : (Kd.int .i64).C W A s.length s) (hA : ∀ ad, A = some ad → 0 < s.length → ad.block < b0 ∧ ad.block ≠ o) (h0 : J [] W) :
    CallsIn Fence.wide (n + 1) Tryd.prog 65 #[.func (.yield l) #[] #[], .pointer (some ⟨Bx, 0, none⟩)] W fun e W' => (∃ v, e = .returned v) ∧ ∃ xs, xs = ts ∧ J xs W' := by
  refine callsIn_of_wp Tryd.func65 rfl trivial ?_ rfl
  simp only [Tryd.ntmps65, List.size_toArray, List.length_cons, List.length_nil, Nat.reduceAdd, Nat.reduceSub, Array.replicate_succ, Array.replicate_zero, List.push_toArray, List.append_toArray, List.nil_append, List.cons_append]
  have HC := Lib.hid hC
  have HA := Lib.hid hA
  have H0 := Lib.hid h0
  have HTS := Lib.hid hts
  clear hC hA h0 hts
  gi_wp2
  gi_loopg [7] k (fun kq _ wr => ∃ pre i rest, J pre wr ∧ ScanI b0 g o s i wr ∧ b0 ≤ wr.heap.size ∧ toksL com tok s.length kq i = some rest ∧ ts = pre ++ rest)
  case atStart =>
    exact ⟨[], 0, ts, hJ _ _ _ H0.out (Turn.of_below (below_alloc (Below.refl _ _) _)), ⟨A, c, by rw [← hg]; exact World.alloc_heap_new W _, C_same HC.out (fun ad e hn => Below.heap_alloc W _ _ (by have := (HA.out ad e hn).1; omega)), HA.out⟩, by simp; omega, HTS.out, by simp⟩
  case round =>
    obtain ⟨pre, i, rest, hj, hsc, hsz, ht, hp⟩ := hrel
    cases gk with
    | zero => simp [toksL] at ht
    | succ kq =>
    have HS := Lib.hid hsc
    have HJ := Lib.hid hj
    have HP := Lib.hid hp
    have HN := Lib.hid (hno _ _ hj)
    obtain ⟨A1, c1, hb1, _, _⟩ := hsc
    have hc0 : wr.cell? ⟨g, 0, none⟩ = some (.slice A1 s.length c1) := (blk_cell hb1 0).trans rfl
    have hc1 : wr.cell? ⟨g, 1, none⟩ = some (.int .i64 i) := (blk_cell hb1 1).trans rfl
    clear hb1 hj hp
    simp only [toksL] at ht
    by_cases hi : i < (s.length : Int)
    · rw [if_pos hi] at ht
      obtain ⟨⟨b, i1⟩, hb, ht⟩ := Option.bind_eq_some_iff.1 ht
      dsimp only at ht
      have HT := Lib.hid ht
      have HB := Lib.hid hb
      clear ht hb
      have HS1 := Lib.hid (scan_drew HS.out)
      have HJ1 := Lib.hid (hJ _ _ _ HJ.out (turn_drew g wr))
      have hsz1 : b0 ≤ wr.drew.heap.size := hsz
      have HC1 := Lib.hid (hcom i b i1 _ _ (HS1.out.is hbg hsz1) (cutW_below hsz1) HB.out)
      gi_wp2
      gi_region
      generalize wr.drew = wd at HS1 HJ1 hsz1 HC1 ⊢
      cases b with
      | true =>
        have HT1 : Hid (toksL com tok s.length kq i1 = some rest) := Lib.hid (by simpa using HT.out)
        gi_wp2_with (first | (refine ⟨trivial, ?_⟩; gi_at_call 66; refine (callsIn_wide.2 HC1.out).mono ?_; rintro e w1 ⟨rfl, hI1, hB1, hK1⟩))
        gi_roundg kq
        case measure => omega
        case rel => exact ⟨pre, i1, rest, hJ _ _ _ HJ1.out (turn_of hsz1 hB1 hK1), ScanI.of hI1 hB1 hsz1 (hno _ _ HJ1.out), Nat.le_trans hsz1 hK1.1, HT1.out, HP.out⟩
      | false =>
        have HT1 := HT.out
        simp only [Bool.false_eq_true, if_false] at HT1
        obtain ⟨⟨t, i2⟩, htk, hm⟩ := Option.bind_eq_some_iff.1 HT1
        obtain ⟨rest2, hr2, hrr⟩ := Option.map_eq_some_iff.1 hm
        have HTK := Lib.hid htk
        have HR2 := Lib.hid hr2
        have HRR := Lib.hid hrr
        clear HT1 HT htk hm hr2 hrr
        gi_wp2_with (first
          | (refine ⟨trivial, ?_⟩; gi_at_call 66; refine (callsIn_wide.2 HC1.out).mono ?_; rintro e w1 ⟨rfl, hI1, hB1, hK1⟩; have HJ2 := Lib.hid (hJ _ _ _ HJ1.out (turn_of hsz1 hB1 hK1)); have HS2 := Lib.hid (ScanI.of hI1 hB1 hsz1 (hno _ _ HJ1.out)); have hsz2 := Nat.le_trans hsz1 hK1.1; have HC2 := Lib.hid (htok i1 t i2 _ _ (HS2.out.is hbg hsz2) (cutW_below hsz2) HTK.out))
          | (refine ⟨trivial, ?_⟩; gi_at_call 67; refine (callsIn_wide.2 HC2.out).mono ?_; rintro e w2 ⟨rfl, hI2, hB2, hK2⟩))
        have HJ3 := Lib.hid (hJ _ _ _ HJ2.out (turn_of hsz2 hB2 hK2))
        have HS3 := Lib.hid (ScanI.of hI2 hB2 hsz2 (hno _ _ HJ2.out))
        have hsz3 := Nat.le_trans hsz2 hK2.1
        obtain ⟨fn, tmps, assign, body, hy, hRd⟩ := hY pre t w2 HJ3.out ⟨rest2, by rw [HP.out, ← HRR.out]; simp⟩
        rw [show Sem.run Tryd.prog (Instr.yield l #[agg31 t]) w2 = Result.ok (Next.round l fn tmps assign body) w2 from hy]
        refine ⟨fun _ => by omega, hRd.mono ?_⟩
        rintro e W3 ⟨rfl, hJ4, hk4⟩
        have HJ4 := Lib.hid hJ4
        clear hy hRd hJ4
        gi_wp2
        gi_roundg kq
        case measure => omega
        case rel => exact ⟨pre ++ [t], i2, rest2, HJ4.out, HS3.out.keep hsz3 hk4, Nat.le_trans hsz3 hk4.size, HR2.out, by rw [HP.out, ← HRR.out]; simp⟩
    · rw [if_neg hi] at ht
      injection ht with ht
      have HJ1 := Lib.hid (hJ _ _ _ HJ.out (turn_drew g wr))
      gi_wp2
      gi_region
      gi_wp2
      go_end0
      refine ⟨⟨_, rfl⟩, _, rfl, ?_⟩
      rw [HP.out, ← ht, List.append_nil]
      exact HJ1.out
end Go.Proofs.YtplkkmmojanclaaDoor.My
