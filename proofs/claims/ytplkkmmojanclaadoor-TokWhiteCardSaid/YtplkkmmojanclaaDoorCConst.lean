/- Part of the proof; printed or typed in this session; unused declarations and remarks struck by a program (wip/prune.py). -/
import Derived.Lib.SlBytesConst
import Derived.RangeFuncRecord
import Derived.Test.YtplkkmmojanclaaDoorCMy
set_option linter.all false
namespace Go.Proofs.YtplkkmmojanclaaDoor.My
open Go.RowKit Go.Proofs.YtplkkmmojanclaaDoorW.PrintWords Go.Proofs.YtplkkmmojanclaaDoorW.PrintLast Go.Proofs.YtplkkmmojanclaaDoorW.PrintMore
def constWorld (e : TypeId) (s : ByteArray) (w : World) : World := w.alloc (.cells ((bytesOf s).map (Value.int .u8)).toArray e (s.size, s.size + 1))
def ConstRuns (e : TypeId) (s : ByteArray) (w : World) (R : Ending → World → Prop) : Prop :=
  R (.returned (.slice (some ⟨w.heap.size, 0, none⟩) s.size s.size)) (constWorld e s w)
theorem ConstRuns.mono {e : TypeId} {s : ByteArray} {w : World} {R R' : Ending → World → Prop} (h : ConstRuns e s w R) (hr : ∀ e w', R e w' → R' e w') : ConstRuns e s w R' := hr _ _ h
theorem const_goes {P : Program} {ops : Array Oper} {rest : List Oper} {o : Oper} {a : Act} {Q : Exit → Act → World → Prop} {W W1 : World} (hgd : o.guard = none) {N : Tmp} (hd : o.dst = some N) {t e : TypeId} {s : ByteArray} {x : Operand} {C : Array Value}
    (ho : o.op = .convert t t x) (ht : P.underlying t = some (.slice e)) (he : P.underlying e = some (.int .u8)) (hC : C = ((bytesOf s).map (Value.int .u8)).toArray) {n c : Nat} (hn : n = s.size) (hc : c = s.size) (hx : a.eval x = .slice (some ⟨W.heap.size, 0, none⟩) n c)
    (hW : W1 = W.alloc (.cells C e)) (h : ConstRuns e s W fun e' w' => ∃ v, e' = .returned v ∧ wpList P ops Q rest (a.put (some N) v) w') : wpList P ops Q (o :: rest) a W1 := by
  subst hW
  obtain ⟨v, hv, h⟩ := h
  injection hv with hv
  subst hv; subst hn; subst hc; subst hC
  have hsz : (((bytesOf s).map (Value.int .u8)).toArray).size = s.size := by simp [bytesOf_length]
  refine wpList_plain hgd fun K hK => ?_
  unfold Oper.wp
  have hrun : (execOp a.eval o).run P (W.alloc (.cells ((bytesOf s).map (Value.int .u8)).toArray e)) = .ok (.value (.slice (some ⟨W.heap.size, 0, none⟩) s.size s.size)) (constWorld e s W) := by
    have h1 := Lib.run_convert_bytes_const W t e ((bytesOf s).map (Value.int .u8)).toArray s.size s.size ht he
    rw [hsz] at h1
    simp only [execOp, ho, hx, Sem.run_bind, h1, Result.andThen, Sem.run_pure, constWorld]
  rw [hrun]
  show K (a.put o.dst _) _
  rw [hd]
  exact hK _ _ h
theorem below_const (w : World) (e : TypeId) (s : ByteArray) : Below w.heap.size w (constWorld e s w) := (Below.refl _ w).alloc (Nat.le_refl _) _
theorem reads_const (e : TypeId) (s : ByteArray) (hs : s.size ≤ 9223372036854775807) (w W : World) (hW : W.heap[w.heap.size]? = (constWorld e s w).heap[w.heap.size]?) :
    (Kd.int .u8).C W (some ⟨w.heap.size, 0, none⟩) (bytesOf s).length (bytesOf s) := by
  have hb : W.heap[w.heap.size]? = some (.cells ((bytesOf s).map (Value.int .u8)).toArray e (s.size, s.size + 1)) := hW.trans (World.alloc_heap_new w _)
  refine ⟨rfl, by rw [bytesOf_length]; exact hs, fun _ => ⟨_, rfl, fun j p hj => ⟨[.int .u8 p], rfl, rfl, fun i u hu => ?_⟩⟩⟩
  cases i with
  | succ i => simp at hu
  | zero =>
    have hu' : Value.int .u8 p = u := by simpa using hu
    subst hu'
    have e1 : (⟨w.heap.size, 0, none⟩ : Addr).add (j * (Kd.int IntKind.u8).sz + 0) = ⟨w.heap.size, j, none⟩ := by
      have : (Kd.int IntKind.u8).sz = 1 := rfl
      rw [this, Nat.mul_one, Nat.add_zero]
      exact add_plain _ _
    rw [e1, World.cell?, hb]
    simp [hj]
def constConv5.f (s : ByteArray) : Option (List Int) := if s.size ≤ 9223372036854775807 then some (bytesOf s) else none
theorem constConv5.calls (a0 : ByteArray) (r : List Int) (w : World) (h : constConv5.f a0 = some r) :
    ConstRuns 5 a0 w fun e' w' => ∃ v0_ : Value, e' = .returned v0_ ∧ Kd.V (Kd.int .u8) 5 w' w.heap.size (fun k_ => w.heap.size ≤ k_) v0_ r ∧ Below w.heap.size w w' := by
  unfold constConv5.f at h
  split at h
  · rename_i hs
    injection h with h
    subst h
    refine ⟨_, rfl, ?_, below_const w _ a0⟩
    rw [← bytesOf_length]
    exact Kd.V_mk (Nat.le_refl _) (fun W' hW => reads_const _ a0 hs w W' (hW _ (Nat.le_refl _) (by simp [constWorld])))
  · cases h
end Go.Proofs.YtplkkmmojanclaaDoor.My
