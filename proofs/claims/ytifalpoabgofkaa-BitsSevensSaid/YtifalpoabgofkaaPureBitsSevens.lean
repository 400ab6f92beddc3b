/- The statement BitsSevens in plain Lean: that numbers in bytes of seven bits are told as the reference tells them, and read back, for all numbers and bytes. No condition beyond the kinds of the numbers. -/
import Derived.Test.YtifalpoabgofkaaQ8
