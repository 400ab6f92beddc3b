/- The statement BitsPuts in plain Lean: that what the program puts into bits is what the reference puts there, for all bytes, places, sizes and numbers. No condition beyond the kinds of the numbers. -/
import Derived.Test.YtifalpoabgofkaaQ11
