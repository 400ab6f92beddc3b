/- The statement BitsGets in plain Lean: that what the program's Get takes from bytes is what the reference's takes, for all bytes, places and widths. No condition beyond the kinds of the numbers. -/
import Derived.Test.YtifalpoabgofkaaQ6
