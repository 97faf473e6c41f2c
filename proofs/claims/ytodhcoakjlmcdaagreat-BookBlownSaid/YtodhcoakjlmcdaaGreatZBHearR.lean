/- Layer 1: ways, tables that are tried, houses, in plain Lean. No program is in sight. -/
import Derived.Test.YtodhcoakjlmcdaaGreatZBHearQ
namespace Go.Hear
end Go.Hear
