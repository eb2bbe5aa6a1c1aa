/- Part of the proof; printed or typed in this session; unused declarations and remarks struck by a program (wip/prune.py). -/
import Derived.Test.YtplkkmmojanclaaDoorCQ16
set_option linter.all false
namespace Go.Proofs.YtplkkmmojanclaaDoor.Pure
open Go.RowKit Go.Proofs.YtplkkmmojanclaaDoor.Q Go.Proofs.YtplkkmmojanclaaDoorW.PrintWords Go.Proofs.YtplkkmmojanclaaDoorW.PrintLast
theorem alive20 : tapestrierlaw4_alive.f 20 = some true := by decide +kernel
theorem alive_at (k : Nat) (h : 20 ≤ k) : tapestrierlaw4_alive.f k = some true := by
  obtain ⟨d, rfl⟩ : ∃ d, k = 20 + d := ⟨k - 20, by omega⟩
  clear h
  induction d with
  | zero => exact alive20
  | succ d ih => exact tapestrierlaw4_alive.mono (20 + d) _ ih
end Go.Proofs.YtplkkmmojanclaaDoor.Pure
