/- PROVED: for every input that reads as data, the law usherlaw.LinesReads returns true and leaves its argument as it was. CONDITIONS: none of ours; the eight listed package-level variables hold what the program's own text lays in them (the card ties them to the text; one of them is a table of the standard library that the form pins); the form's own reach (no string that is read takes more than 2^47 - 4096 bytes). -/
import Derived.Test.YtkcjomglcjhkgaaDoorD37
set_option linter.unusedVariables false
set_option linter.unusedSimpArgs false
namespace Go.Proofs.YtkcjomglcjhkgaaDoor
theorem linesReads_holds : Rows.LinesReadsCardSaid := Go.Uw.D.reads_card
#print axioms linesReads_holds
end Go.Proofs.YtkcjomglcjhkgaaDoor
