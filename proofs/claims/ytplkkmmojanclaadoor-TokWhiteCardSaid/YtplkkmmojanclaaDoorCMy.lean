/- Part of the proof; printed or typed in this session; unused declarations and remarks struck by a program (wip/prune.py). -/
import Derived.Test.YtplkkmmojanclaaDoorProg
import Derived.Test.YtplkkmmojanclaaDoorCWWords
import Derived.Test.YtplkkmmojanclaaDoorCWMore
import Derived.Test.YtplkkmmojanclaaDoorCWShare
import Derived.Lib.ConvBytes
import Derived.Lib.AppendStr
set_option linter.all false
namespace Go.Proofs.YtplkkmmojanclaaDoor.My
open Go.RowKit Go.Proofs.YtplkkmmojanclaaDoorW.PrintWords Go.Proofs.YtplkkmmojanclaaDoorW.PrintLast Go.Proofs.YtplkkmmojanclaaDoorW.PrintMore
def ConvRuns (e : TypeId) (s : ByteArray) (w : World) (R : Ending → World → Prop) : Prop :=
  R (.returned (.slice (some ⟨w.heap.size, 0, none⟩) s.size (grownCap w s.size 0 e))) (Lib.bytesWorld w e s)
theorem ConvRuns.mono {e : TypeId} {s : ByteArray} {w : World} {R R' : Ending → World → Prop} (h : ConvRuns e s w R) (hr : ∀ e w', R e w' → R' e w') : ConvRuns e s w R' := hr _ _ h
theorem conv_goes {P : Program} {ops : Array Oper} {rest : List Oper} {o : Oper} {a : Act} {Q : Exit → Act → World → Prop} {W : World} (hgd : o.guard = none) {N : Tmp} (hd : o.dst = some N) {src dst e : TypeId} {s : ByteArray} {x : Operand} {u : TypeDesc}
    (ho : o.op = .convert src dst x) (hs : P.underlying src = some u) (hdt : P.underlying dst = some (.slice e)) (he : P.underlying e = some (.int .u8)) (hx : a.eval x = .string s)
    (h : ConvRuns e s W fun e' w' => ∃ v, e' = .returned v ∧ wpList P ops Q rest (a.put (some N) v) w') : wpList P ops Q (o :: rest) a W := by
  obtain ⟨v, hv, h⟩ := h
  injection hv with hv
  subst hv
  refine wpList_plain hgd fun K hK => ?_
  unfold Oper.wp
  have hrun : (execOp a.eval o).run P W = .ok (.value (.slice (some ⟨W.heap.size, 0, none⟩) s.size (grownCap W s.size 0 e))) (Lib.bytesWorld W e s) := by
    simp only [execOp, ho, hx, Sem.run_bind, Lib.run_convert_string_bytes W src dst e s hs hdt he, Result.andThen, Sem.run_pure]
  rw [hrun]
  show K (a.put o.dst _) _
  rw [hd]
  exact hK _ _ h
theorem bytesOf_length (s : ByteArray) : (bytesOf s).length = s.size := by simp [bytesOf]
theorem below_bytes (w : World) (e : TypeId) (s : ByteArray) : Below w.heap.size w (Lib.bytesWorld w e s) :=
  ⟨rfl, rfl, rfl, by rw [Lib.bytesWorld_size]; omega, fun i hi => Lib.bytesWorld_at_old w e s i hi⟩
theorem reads_bytes (e : TypeId) (s : ByteArray) (hs : s.size ≤ 9223372036854775807) (w W : World) (hW : W.heap[w.heap.size]? = (Lib.bytesWorld w e s).heap[w.heap.size]?) :
    (Kd.int .u8).C W (some ⟨w.heap.size, 0, none⟩) (bytesOf s).length (bytesOf s) := by
  refine ⟨rfl, by rw [bytesOf_length]; exact hs, fun _ => ⟨_, rfl, fun j p hj => ⟨[.int .u8 p], rfl, rfl, fun i u hu => ?_⟩⟩⟩
  cases i with
  | succ i => simp at hu
  | zero =>
    have hu' : Value.int .u8 p = u := by simpa using hu
    subst hu'
    obtain ⟨hl, hp⟩ := List.getElem?_eq_some_iff.1 hj
    rw [bytesOf_length] at hl
    have hc := Lib.bytesWorld_cell w e s j hl
    have e1 : (⟨w.heap.size, 0, none⟩ : Addr).add (j * (Kd.int IntKind.u8).sz + 0) = ⟨w.heap.size, j, none⟩ := by
      have : (Kd.int IntKind.u8).sz = 1 := rfl
      rw [this, Nat.mul_one, Nat.add_zero]
      exact add_plain _ _
    rw [e1]
    have e2 : W.cell? ⟨w.heap.size, j, none⟩ = (Lib.bytesWorld w e s).cell? ⟨w.heap.size, j, none⟩ := by simp only [World.cell?, hW]
    rw [e2, hc]
    have : p = ((s.data.toList.getD j 0).toNat : Int) := by
      rw [← hp]
      simp only [bytesOf, List.getElem_map, List.getD_eq_getElem?_getD]
      rw [List.getElem?_eq_getElem (by simpa using hl)]
      rfl
    rw [this]
def bytesConv5.f (s : ByteArray) : Option (List Int) := if s.size ≤ 9223372036854775807 then some (bytesOf s) else none
theorem bytesConv5.calls (a0 : ByteArray) (r : List Int) (w : World) (h : bytesConv5.f a0 = some r) :
    ConvRuns 5 a0 w fun e' w' => ∃ v0_ : Value, e' = .returned v0_ ∧ Kd.V (Kd.int .u8) 5 w' w.heap.size (fun k_ => w.heap.size ≤ k_) v0_ r ∧ Below w.heap.size w w' := by
  unfold bytesConv5.f at h
  split at h
  · rename_i hs
    injection h with h
    subst h
    refine ⟨_, rfl, ?_, below_bytes w _ a0⟩
    rw [← bytesOf_length]
    exact Kd.V_mk (by rw [bytesOf_length]; exact grownCap_ge _ _ _ _) (fun W' hW => reads_bytes _ a0 hs w W' (hW _ (Nat.le_refl _) (by rw [Lib.bytesWorld_size]; omega)))
  · cases h
end Go.Proofs.YtplkkmmojanclaaDoor.My
