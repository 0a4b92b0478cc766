/- Contracts of the package dots, told as the sets of both packages. No statement of the seat is proved here. -/
import Derived.Test.YtfbkolkkpkonfaaDots5
import Derived.Test.YtfbkolkkpkonfaaR74
namespace Go.Proofs.Ytfbkolkkpkonfaa.Eng
open Go
set_option linter.unusedVariables false
set_option linter.unusedSimpArgs false

theorem dots_Of_is (l : List Dot) (hs : Sm l) : Pr 16 [.c (dotsC l)] (.c (runsC (dotsL l))) := dots_Of_ok l hs
theorem dots_Union_is (a b : List Rn) (hs : a.length + b.length ≤ 1000000) (ha : ∀ r ∈ a, r.Right) (hb : ∀ r ∈ b, r.Right) : Pr 20 [.c (runsC a), .c (runsC b)] (.c (runsC (unionL a b))) := dots_Union_ok a b hs ha hb
theorem dots_Minus_is (a b : List Rn) (hs : a.length + b.length ≤ 1000000) (ha : Norm a) (hb : ∀ r ∈ b, r.Right) : Pr 23 [.c (runsC a), .c (runsC b)] (.c (runsC (diffL a b))) := dots_Minus_ok a b (by unfold Sm; omega) hs ha hb
theorem dots_Le_is (a b : List Rn) (hs : a.length + b.length ≤ 1000000) (ha : Norm a) (hb : ∀ r ∈ b, r.Right) : Pr 25 [.c (runsC a), .c (runsC b)] (bC (decide ((diffL a b).length = 0))) := dots_Le_ok a b (by unfold Sm; omega) hs ha hb

end Go.Proofs.Ytfbkolkkpkonfaa.Eng
