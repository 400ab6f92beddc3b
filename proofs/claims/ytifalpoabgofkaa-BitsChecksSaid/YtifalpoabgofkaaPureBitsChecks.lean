/- The statement BitsChecks in plain Lean: the checks of bytes are those of the reference, for all bytes. No condition beyond the kinds of the numbers. -/
import Derived.Test.YtifalpoabgofkaaQ3
