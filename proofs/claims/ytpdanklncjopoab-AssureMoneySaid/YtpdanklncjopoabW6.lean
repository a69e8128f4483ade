import Derived.Test.YtpdanklncjopoabW5
set_option linter.unusedSimpArgs false
set_option linter.unusedVariables false
namespace Go.Proofs.Ytpdanklncjopoab
open Go.RowKit Go.Abs


end Go.Proofs.Ytpdanklncjopoab
