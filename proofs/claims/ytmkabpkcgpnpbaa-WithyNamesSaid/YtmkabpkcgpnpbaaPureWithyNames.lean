/-
The statement WithyNames: every error, limit and kind of the program is the document's; a closed sentence, no condition.
-/
import Derived.Test.YtmkabpkcgpnpbaaPWithyNamesx2
namespace Go.Proofs.Ytmkabpkcgpnpbaa.Pure
open Go.RowKit Go.Proofs.Ytmkabpkcgpnpbaa.PWithyNames Go.Proofs.YtmkabpkcgpnpbaaW.PrintWords Go.Proofs.YtmkabpkcgpnpbaaW.PrintLast

theorem WithyNames : withylaw0_WithyNames.Pure := by
  unfold withylaw0_WithyNames.Pure
  decide +kernel

end Go.Proofs.Ytmkabpkcgpnpbaa.Pure
