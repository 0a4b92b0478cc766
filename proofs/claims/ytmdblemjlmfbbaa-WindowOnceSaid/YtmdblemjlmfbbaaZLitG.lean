/- The slim code of functions of the seat, as told by the program's form, with marks. No statement of the seat is proved here. -/
import Derived.Test.YtmdblemjlmfbbaaZLitD
import Derived.Test.YtmdblemjlmfbbaaZPartC
import Derived.Test.YtmdblemjlmfbbaaProg
import Derived.Test.YtmdblemjlmfbbaaChecked
namespace Go.Proofs.Ytmdblemjlmfbbaa.Eng
open Go

end Go.Proofs.Ytmdblemjlmfbbaa.Eng
