/- The smoothest way home, as a function of the evaluator: see the text that it imports. -/
import Derived.Test.YtigkpbnhdkdliaaXFnExactSmH
