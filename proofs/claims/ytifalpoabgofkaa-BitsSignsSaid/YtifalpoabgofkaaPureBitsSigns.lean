/- The statement BitsSigns in plain Lean: the number with a sign that has the same bits is that of the reference, for all numbers. No condition beyond the kinds of the numbers. -/
import Derived.Test.YtifalpoabgofkaaQ1
