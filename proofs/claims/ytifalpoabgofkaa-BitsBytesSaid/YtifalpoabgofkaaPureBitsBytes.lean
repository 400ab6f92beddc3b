/- The statement BitsBytes in plain Lean: that the bytes which the program takes out of bits are those of the reference, for all bytes, places and sizes. No condition beyond the kinds of the numbers. -/
import Derived.Test.YtifalpoabgofkaaQ7
