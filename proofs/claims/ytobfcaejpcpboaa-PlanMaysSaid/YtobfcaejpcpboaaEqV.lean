/- What the functions do: all texts. No conditions. -/
import Derived.Test.YtobfcaejpcpboaaEqVx0
