/- PROVED: for every input that reads as data, the law usherlaw.LinesShows returns true and leaves its argument as it was. CONDITIONS: none of ours; the four listed package-level tables hold what the program's own text lays in them (the card ties them to the text); the form's own reach (no string or slice that is read takes more than 2^47 - 4096 bytes). -/
import Derived.Test.YtkcjomglcjhkgaaDoorD17
set_option linter.unusedVariables false
set_option linter.unusedSimpArgs false
namespace Go.Proofs.YtkcjomglcjhkgaaDoor
theorem linesShows_holds : Rows.LinesShowsCardSaid := Go.Uw.D.shows_card
#print axioms linesShows_holds
end Go.Proofs.YtkcjomglcjhkgaaDoor
