import Derived.Test.YtdgdkbpmmemphaaAm27
import Derived.Lib.AppendStr
namespace Go.Proofs.Ytdgdkbpmmemphaa
open Go Go.RowKit
set_option linter.unusedVariables false
end Go.Proofs.Ytdgdkbpmmemphaa
