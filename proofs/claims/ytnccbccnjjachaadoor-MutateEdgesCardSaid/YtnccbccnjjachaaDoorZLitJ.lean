/- The slim code of functions of the seat, as told by the program's form, with marks. No statement of the seat is proved here. -/
import Derived.Test.YtnccbccnjjachaaDoorZLitD
import Derived.Test.YtnccbccnjjachaaDoorZPartC
import Derived.Test.YtnccbccnjjachaaDoorProg
import Derived.Test.YtnccbccnjjachaaDoorChecked
namespace Go.Proofs.YtnccbccnjjachaaDoor.Eng
open Go

end Go.Proofs.YtnccbccnjjachaaDoor.Eng
