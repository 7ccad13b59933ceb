-- Gathered by bundle.py, this session's own program.
import Derived.Test.YtnmalfbjdhgicaaDoorBNO1
/- Plain laws that FnExactNumberOf stands on, gathered from this session's own texts. -/
set_option linter.unusedSimpArgs false
set_option linter.unusedVariables false
namespace Go.Proofs.YtnmalfbjdhgicaaDoor.Q



end Go.Proofs.YtnmalfbjdhgicaaDoor.Q
