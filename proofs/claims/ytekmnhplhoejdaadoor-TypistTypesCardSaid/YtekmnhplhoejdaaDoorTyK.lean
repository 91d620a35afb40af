/- What the texts on sets of keys want, where keys are not gone through. -/
import Derived.Test.YtekmnhplhoejdaaDoorFty
namespace Go.Proofs.YtekmnhplhoejdaaDoor
abbrev BitsL := List Int
end Go.Proofs.YtekmnhplhoejdaaDoor
