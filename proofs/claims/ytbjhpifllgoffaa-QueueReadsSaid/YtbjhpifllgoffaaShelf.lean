/- The library's functions over this seat's program, by the shelf. -/
import Derived.Test.YtbjhpifllgoffaaProg
import Derived.Shelf.Lay
import Derived.Shelf.LaySoft
import Derived.Shelf.Slices.In.SortNone
import Derived.Shelf.Sort.Plain
import Derived.Shelf.SlicesG.CompactI
import Derived.Ground.NamesProg
import Derived.Ground.SlgnProg
namespace Go.Proofs.Ytbjhpifllgoffaa
open Go.Shelf
shelf_lay Lays.n189 Nm 189 at Try as Try.laysSort
shelf_lay_g SlLaysN.n43 Slgn 43 at Try 35 as Try.laysCompact
end Go.Proofs.Ytbjhpifllgoffaa
