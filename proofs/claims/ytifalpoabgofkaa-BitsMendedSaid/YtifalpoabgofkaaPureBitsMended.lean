/- The statement BitsMended in plain Lean: that the mended check of bytes is that of the bytes with another number at an even place, for all bytes, places and numbers. No condition beyond the kinds of the numbers. -/
import Derived.Test.YtifalpoabgofkaaQ4
