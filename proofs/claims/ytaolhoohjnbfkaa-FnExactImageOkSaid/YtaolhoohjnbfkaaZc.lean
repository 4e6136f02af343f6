/-
  THE OPENING of a law's arguments, gathered with what the laws' functions compute.
-/
import Derived.Test.YtaolhoohjnbfkaaBc
import Derived.Test.YtaolhoohjnbfkaaRxZd
