/- The law SpecWindows answers true for every list of numbers, every depth and every rate: both sides find the same first end of a window in which there is too much. -/
import Derived.Test.YtcmcgjjhbjlkpaaSpx6
import Derived.Test.YtcmcgjjhbjlkpaaSpPure
namespace Go.Proofs.Ytcmcgjjhbjlkpaa.Pure
open Go.RowKit Go.Proofs.Ytcmcgjjhbjlkpaa.Sp Go.Proofs.YtcmcgjjhbjlkpaaW.PrintWords Go.Proofs.YtcmcgjjhbjlkpaaW.PrintLast

theorem SpecWindows : aeriallaw30_SpecWindows.Pure := fun l0 a1 a2 _ _ _ _ _ => windows_law l0 a1 a2

end Go.Proofs.Ytcmcgjjhbjlkpaa.Pure
