/- The shallow texts, together. -/
import Derived.Test.YtnigfiljenfgjaaDkAa
import Derived.Test.YtnigfiljenfgjaaDkAb
