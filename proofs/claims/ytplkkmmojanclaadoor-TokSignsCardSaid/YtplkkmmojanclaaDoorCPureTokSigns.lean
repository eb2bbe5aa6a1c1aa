/- Part of the proof; printed or typed in this session; unused declarations and remarks struck by a program (wip/prune.py). -/
import Derived.Test.YtplkkmmojanclaaDoorCQ23
import Derived.Test.YtplkkmmojanclaaDoorCAlive
namespace Go.Proofs.YtplkkmmojanclaaDoor.Pure
open Go.RowKit Go.Proofs.YtplkkmmojanclaaDoor.My Go.Proofs.YtplkkmmojanclaaDoor.Q Go.Proofs.YtplkkmmojanclaaDoorW.PrintWords Go.Proofs.YtplkkmmojanclaaDoorW.PrintLast
def signsOk (n : Nat) : Bool :=
  ((tapestrierlaw4_Of.f 20 [(n : Int)]).bind fun t => (constConv5.f (strOfNums [58, 59, 44, 123, 125, 40, 41, 91, 93])).bind fun l => tapestrierlaw4_TokSigns.l0 20 n true t l [11, 12, 13, 14, 15, 16, 17, 18, 19] 0) == some true
theorem signs_all : (List.range 256).all signsOk = true := by decide +kernel
theorem TokSigns : tapestrierlaw4_TokSigns.Pure := by
  intro a0 h
  have hb : 0 ≤ a0 ∧ a0 < 256 := by
    simp [Lit.wf, IntKind.min, IntKind.max, IntKind.bits, IntKind.signed] at h
    omega
  obtain ⟨n, rfl⟩ := Int.eq_ofNat_of_zero_le hb.1
  have hn := List.all_eq_true.1 signs_all n (List.mem_range.2 (by omega))
  refine ⟨20, ?_⟩
  unfold tapestrierlaw4_TokSigns.f
  rw [alive20]
  simp only [Option.bind_some]
  unfold signsOk at hn
  exact eq_of_beq hn
end Go.Proofs.YtplkkmmojanclaaDoor.Pure
