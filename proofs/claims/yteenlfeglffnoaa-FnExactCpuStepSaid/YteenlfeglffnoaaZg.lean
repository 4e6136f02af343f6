/-
  THE OPENING of a law's arguments, gathered with what the laws' functions compute.
-/
import Derived.Test.YteenlfeglffnoaaBg
import Derived.Test.YteenlfeglffnoaaRxZd
