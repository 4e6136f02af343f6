/-
  THE OPENING of a law's arguments, gathered with what the laws' functions compute.
-/
import Derived.Test.YtaolhoohjnbfkaaBf
import Derived.Test.YtaolhoohjnbfkaaRxZd
