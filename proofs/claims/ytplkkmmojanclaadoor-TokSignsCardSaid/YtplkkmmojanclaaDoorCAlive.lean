/- Part of the proof; printed or typed in this session; unused declarations and remarks struck by a program (wip/prune.py). -/
import Derived.Test.YtplkkmmojanclaaDoorCQ16
namespace Go.Proofs.YtplkkmmojanclaaDoor.Pure
open Go.RowKit Go.Proofs.YtplkkmmojanclaaDoor.Q Go.Proofs.YtplkkmmojanclaaDoorW.PrintWords Go.Proofs.YtplkkmmojanclaaDoorW.PrintLast
theorem alive20 : tapestrierlaw4_alive.f 20 = some true := by decide +kernel
end Go.Proofs.YtplkkmmojanclaaDoor.Pure
