/- The statement BitsBack in plain Lean: that a number put into bits is taken out again, and no other bit is turned, for all bytes, places, sizes and numbers. No condition beyond the kinds of the numbers. -/
import Derived.Test.YtifalpoabgofkaaQ12
