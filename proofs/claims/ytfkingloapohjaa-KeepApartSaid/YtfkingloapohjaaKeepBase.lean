/-
  What chapter 4 stands on: disks and records.
-/
import Derived.Test.YtfkingloapohjaaDiskPlain
import Derived.Test.YtfkingloapohjaaDiskLit
import Derived.Test.YtfkingloapohjaaDiskRename
import Derived.Test.YtfkingloapohjaaDiskList
import Derived.Test.YtfkingloapohjaaFrameOne
import Derived.Test.YtfkingloapohjaaTexts
namespace Go.Proofs.Ytfkingloapohjaa.Kp
open Go.RowKit L Oct Dsk
end Go.Proofs.Ytfkingloapohjaa.Kp
