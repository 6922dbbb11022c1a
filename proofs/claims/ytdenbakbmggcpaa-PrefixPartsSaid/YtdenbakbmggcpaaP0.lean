/- Printed by a program of mine: kinds -/
import Derived.Test.YtdenbakbmggcpaaSnd27
import Derived.Test.YtdenbakbmggcpaaProg
import Derived.KernelRfl
set_option linter.unusedVariables false
set_option maxRecDepth 100000
namespace Go.Tw
noncomputable section
@[reducible] def tSpan : Ty := (.pair (.int .i64) (.int .i64))
abbrev Span : Type := (Int × Int)
@[reducible] def tRecord : Ty := (.pair (.int .i64) tSpan)
abbrev Record : Type := (Int × Span)
@[reducible] def tRow : Ty := (.pair (.int .i64) (.pair tSpan tSpan))
abbrev Row : Type := (Int × (Span × Span))
@[reducible] def tOutputs : Ty := (.pair (.sl tRow) (.sl tRecord))
abbrev Outputs : Type := ((List Row) × (List Record))
end
end Go.Tw
