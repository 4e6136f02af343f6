/-
  THE OPENING of a law's arguments, gathered with what the laws' functions compute.
-/
import Derived.Test.YtaolhoohjnbfkaaBd
import Derived.Test.YtaolhoohjnbfkaaRxZd
