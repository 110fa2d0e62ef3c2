/-
  The document's Legal; the laws' own functions over lists of whole numbers: SameInts.
-/
import Derived.Test.YtomehdepjenilaaGreatL5
import Derived.Test.YtomehdepjenilaaGreatK8

