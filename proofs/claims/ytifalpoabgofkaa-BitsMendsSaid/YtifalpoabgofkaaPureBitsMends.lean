/- The statement BitsMends in plain Lean: the check that a check becomes is that of the reference, for all numbers. No condition beyond the kinds of the numbers. -/
import Derived.Test.YtifalpoabgofkaaQ1
