import Derived.Test.YtdgdkbpmmemphaaAm27
namespace Go.Proofs.Ytdgdkbpmmemphaa
open Go Go.RowKit
set_option linter.unusedVariables false
end Go.Proofs.Ytdgdkbpmmemphaa
