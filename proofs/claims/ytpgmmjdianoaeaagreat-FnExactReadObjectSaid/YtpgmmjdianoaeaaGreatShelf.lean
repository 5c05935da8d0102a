/- The library's contracts of sort, clone and compact, laid at this program. -/
import Derived.Shelf.Lay
import Derived.Shelf.LaySoft
import Derived.Ground.NamesProg
import Derived.Ground.Names2Prog
import Derived.Shelf.Slices.Clone
import Derived.Shelf.Slices.CompactS
import Derived.Shelf.Sort.Plain
import Derived.Test.YtpgmmjdianoaeaaGreatProg
namespace Go.Proofs.YtpgmmjdianoaeaaGreat
open Go.Shelf
shelf_try shelf_lay Lays.n190 Nm 190 at Tryz as Tryz.lays190
shelf_try shelf_lay Lays2.n16 Nm2 16 at Tryz as Tryz.lays16
shelf_try shelf_lay Lays.n194 Nm 194 at Tryz as Tryz.lays194
shelf_tried
end Go.Proofs.YtpgmmjdianoaeaaGreat
