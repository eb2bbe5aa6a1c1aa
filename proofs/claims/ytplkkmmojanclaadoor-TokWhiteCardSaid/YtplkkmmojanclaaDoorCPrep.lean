/- Part of the proof; printed or typed in this session; unused declarations and remarks struck by a program (wip/prune.py). -/
import Derived.RangeFuncBox
import Derived.Test.YtplkkmmojanclaaDoorCTwoShelf
import Derived.Test.YtplkkmmojanclaaDoorCRange
set_option linter.all false
namespace Go.Proofs.YtplkkmmojanclaaDoor.My
open Go.RowKit Go.Shelf Go.Proofs.YtplkkmmojanclaaDoorW.PrintWords
attribute [local go_sem] Oper.semAt_some
def TabsIn (w : World) : Prop := Lib.Utf8Tabs 2 3 w
theorem TabsIn.below {w W : World} (h : TabsIn w) (hb : Below w.heap.size w W) : TabsIn W :=
  ⟨fun c hc => pw_cell_below hb (h.1 c hc), fun i hi => ⟨pw_cell_below hb (h.2 i hi).1, pw_cell_below hb (h.2 i hi).2⟩⟩
theorem TabsIn.keep {w W : World} (h : TabsIn w) (h2 : W.heap[2]? = w.heap[2]?) (h3 : W.heap[3]? = w.heap[3]?) : TabsIn W :=
  ⟨fun c hc => (World.cell?_of_block (a := ⟨2, c, none⟩) h2).trans (h.1 c hc), fun i hi => ⟨(World.cell?_of_block (a := ⟨3, 2 * i, none⟩) h3).trans (h.2 i hi).1, (World.cell?_of_block (a := ⟨3, 2 * i + 1, none⟩) h3).trans (h.2 i hi).2⟩⟩
theorem TabsIn.lt {w : World} (h : TabsIn w) : 2 < w.heap.size ∧ 3 < w.heap.size :=
  ⟨World.block_lt_of_cell? w ⟨2, 0, none⟩ (h.1 0 (by omega)), World.block_lt_of_cell? w ⟨3, 0, none⟩ (h.2 0 (by omega)).1⟩
def dec (l : List Int) : Nat × Nat := Lib.decodeGo (strOfNums l)
def ptsL : Nat → List Int → List Int
  | 0, _ => []
  | _ + 1, [] => []
  | f + 1, x :: l => ((dec (x :: l)).1 : Int) :: ptsL f ((x :: l).drop (dec (x :: l)).2)
def pts (l : List Int) : List Int := ptsL l.length l
theorem strOfNums_size (l : List Int) : (strOfNums l).size = l.length := by simp [strOfNums, ByteArray.size]
theorem decN_ge1 (n b0 b1 b2 b3 : Nat) : 1 ≤ (Lib.decodeN n b0 b1 b2 b3).2 := by
  unfold Lib.decodeN
  repeat' split
  all_goals simp
theorem dec_width (x : Int) (l : List Int) : 1 ≤ (dec (x :: l)).2 := by
  have h : (strOfNums (x :: l)).size ≠ 0 := by rw [strOfNums_size]; simp
  simp only [dec, Lib.decodeGo, h, if_false]
  rw [Lib.decode_at]
  exact decN_ge1 _ _ _ _ _
theorem ptsL_more (f : Nat) : ∀ (f' : Nat) (l : List Int), l.length ≤ f → l.length ≤ f' → ptsL f l = ptsL f' l := by
  induction f with
  | zero =>
    intro f' l h _
    have : l = [] := List.eq_nil_of_length_eq_zero (by omega)
    subst this
    cases f' <;> rfl
  | succ f ih =>
    intro f' l h h'
    cases l with
    | nil => cases f' <;> rfl
    | cons x l =>
      cases f' with
      | zero => simp at h'
      | succ f' =>
        have hw := dec_width x l
        simp only [ptsL]
        rw [ih f' _ (by simp only [List.length_drop, List.length_cons] at *; omega) (by simp only [List.length_drop, List.length_cons] at *; omega)]
theorem pts_nil : pts [] = [] := rfl
theorem pts_cons (x : Int) (l : List Int) : pts (x :: l) = ((dec (x :: l)).1 : Int) :: pts ((x :: l).drop (dec (x :: l)).2) := by
  have hw := dec_width x l
  show ptsL (l.length + 1) (x :: l) = _
  simp only [ptsL, pts]
  rw [ptsL_more _ _ _ (by simp only [List.length_drop, List.length_cons]; omega) (Nat.le_refl _)]
theorem pts_length (n : Nat) : ∀ l : List Int, l.length ≤ n → (pts l).length ≤ l.length := by
  induction n with
  | zero => intro l h; rw [List.eq_nil_of_length_eq_zero (show l.length = 0 by omega)]; simp [pts_nil]
  | succ n ih =>
    intro l h
    cases l with
    | nil => simp [pts_nil]
    | cons x l =>
      have hw := dec_width x l
      rw [pts_cons]
      have := ih ((x :: l).drop (dec (x :: l)).2) (by simp only [List.length_drop, List.length_cons] at *; omega)
      simp only [List.length_cons, List.length_drop] at *
      omega
def prepStep (last c : Int) : List Int := if c = 10 ∧ last = 13 then [] else if c = 13 ∨ c = 12 then [10] else if c = 0 then [65533] else [c]
def prepF : Int → List Int → List Int
  | _, [] => []
  | last, c :: l => prepStep last c ++ prepF c l
def lastOf (l : List Int) : Int := l.getLast?.getD 0
theorem lastOf_snoc (l : List Int) (c : Int) : lastOf (l ++ [c]) = c := by simp [lastOf]
theorem prepF_append (l : List Int) : ∀ (last : Int) (m : List Int), prepF last (l ++ m) = prepF last l ++ prepF ((l.getLast?).getD last) m := by
  induction l with
  | nil => intro last m; simp [prepF]
  | cons c l ih =>
    intro last m
    simp only [List.cons_append, prepF, ih, List.append_assoc]
    congr 2
    cases l with
    | nil => simp
    | cons d l => simp [List.getLast?_cons]
theorem prepF_snoc (l : List Int) (c : Int) : prepF 0 (l ++ [c]) = prepF 0 l ++ prepStep (lastOf l) c := by
  rw [prepF_append]
  simp [prepF, lastOf]
theorem prepStep_length (last c : Int) : (prepStep last c).length ≤ 1 := by
  unfold prepStep
  split
  · simp
  · split
    · simp
    · split <;> simp
theorem prepF_length (l : List Int) : ∀ last, (prepF last l).length ≤ l.length := by
  induction l with
  | nil => intro last; simp [prepF]
  | cons c l ih => intro last; have := ih c; have := prepStep_length last c; simp only [prepF, List.length_append, List.length_cons]; omega
def RemB (n0 Bb : Nat) (r : List Int) (W : World) : Prop :=
  ∃ A c, W.heap[Bb]? = some (.cells #[.slice A r.length c] 25 (0, 0)) ∧ r.length ≤ c ∧ (Kd.int .u8).C W A r.length r ∧ (∀ ad, A = some ad → 0 < r.length → ad.block < n0)
theorem C_same {k : IntKind} {W W' : World} {A : Option Addr} {n : Nat} {xs : List Int} (h : (Kd.int k).C W A n xs) (hb : ∀ ad, A = some ad → 0 < n → W'.heap[ad.block]? = W.heap[ad.block]?) : (Kd.int k).C W' A n xs :=
  ⟨h.1, h.2.1, fun hn => by
    obtain ⟨ad, e, hc⟩ := h.2.2 hn
    refine ⟨ad, e, fun j p hj => ?_⟩
    obtain ⟨c, hs, hr, hcell⟩ := hc j p hj
    refine ⟨c, hs, hr, fun i u hu => ?_⟩
    have := hcell i u hu
    rw [← this]
    exact World.cell?_of_block (by rw [add_block]; exact hb ad e hn)⟩
theorem RemB.keep {n0 Bb : Nat} {r : List Int} {W W' : World} (h : RemB n0 Bb r W) (hn : n0 ≤ W.heap.size) (hk : KeepsAt (fun k => k < n0 ∨ k = Bb) W W') : RemB n0 Bb r W' := by
  obtain ⟨A, c, hb, hl, hC, hA⟩ := h
  exact ⟨A, c, (hk.same Bb (.inr rfl) (Array.getElem?_eq_some_iff.1 hb).1).trans hb, hl, C_same hC (fun ad e hr => hk.same _ (.inl (hA ad e hr)) (Nat.lt_of_lt_of_le (hA ad e hr) hn)), hA⟩
theorem RemB.below {n0 Bb : Nat} {r : List Int} {W W' : World} (h : RemB n0 Bb r W) (hn : n0 ≤ W.heap.size) (hk : Below W.heap.size W W') : RemB n0 Bb r W' :=
  h.keep hn ⟨hk.size, fun k _ hlt => hk.block k hlt⟩
theorem strOfNums_get (l : List Int) (j : Nat) (hj : j < l.length) : ((strOfNums l).get! j).toNat = (UInt8.ofNat (l.getD j 0).toNat).toNat := by
  simp [strOfNums, ByteArray.get!, hj]
def lenOfS : Value → Nat
  | .slice _ n _ => n
  | _ => 0
def lenAt (Bb : Nat) (W : World) : Nat := ((W.cell? ⟨Bb, 0, none⟩).map lenOfS).getD 0
theorem RemB.cell {n0 Bb : Nat} {r : List Int} {W : World} (h : RemB n0 Bb r W) : ∃ A c, W.cell? ⟨Bb, 0, none⟩ = some (.slice A r.length c) ∧ W.frozen? ⟨Bb, 0, none⟩ = false ∧ r.length ≤ c ∧ (Kd.int .u8).C W A r.length r ∧ (∀ ad, A = some ad → 0 < r.length → ad.block < n0) := by
  obtain ⟨A, c, hb, hl, hC, hA⟩ := h
  exact ⟨A, c, (blk_cell hb 0).trans rfl, blk_frozen hb 0, hl, hC, hA⟩
theorem RemB.len {n0 Bb : Nat} {r : List Int} {W : World} (h : RemB n0 Bb r W) : lenAt Bb W = r.length := by
  obtain ⟨A, c, hc, _⟩ := h.cell
  simp [lenAt, hc, lenOfS]
end Go.Proofs.YtplkkmmojanclaaDoor.My
