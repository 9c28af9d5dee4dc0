import Derived.Test.YtpidhcogaoehhaaMgf

/- The walks of what says whether two programs are the same: 'Same'. No condition but that rows are not too long. -/
namespace Go.Proofs.Ytpidhcogaoehhaa
open Go.RowKit Cd
set_option linter.unusedVariables false
end Go.Proofs.Ytpidhcogaoehhaa
