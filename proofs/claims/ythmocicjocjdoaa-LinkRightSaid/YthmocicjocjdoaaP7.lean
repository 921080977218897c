/- Printed by the evaluator. -/
import Derived.Test.YthmocicjocjdoaaP6
namespace Go.Proofs.Ythmocicjocjdoaa.V
open Go
open AV (int lst agg str bool ref clo)
open List (map)
set_option linter.unusedVariables false
set_option linter.unusedSimpArgs false


end Go.Proofs.Ythmocicjocjdoaa.V
