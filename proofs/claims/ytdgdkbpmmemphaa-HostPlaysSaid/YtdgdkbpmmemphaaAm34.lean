/- A machine of values, part 34: a row that a call hands back, from the kit's word on it. -/
import Derived.Test.YtdgdkbpmmemphaaAm27
namespace Go.Proofs.Ytdgdkbpmmemphaa
open Go Go.RowKit
set_option linter.unusedVariables false

end Go.Proofs.Ytdgdkbpmmemphaa
