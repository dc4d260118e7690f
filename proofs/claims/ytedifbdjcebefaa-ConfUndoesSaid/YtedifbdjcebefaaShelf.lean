/- The library's functions over this seat's program, by the shelf. -/
import Derived.Test.YtedifbdjcebefaaProg
import Derived.Shelf.Lay
import Derived.Shelf.LaySoft
import Derived.Shelf.Slices.Clone
import Derived.Shelf.Slices.In.SortNone
import Derived.Shelf.Sort.Plain
import Derived.Shelf.SlicesG.SearchI
import Derived.Shelf.Spec.SlicesInsertGrow
import Derived.Shelf.SlicesE.IndexFunc
import Derived.Shelf.SlicesE.DeleteFunc
import Derived.Ground.NamesProg
import Derived.Ground.Names2Prog
import Derived.Ground.SlgnProg
import Derived.Ground.SlgfProg
namespace Go.Proofs.Ytedifbdjcebefaa
open Go.Shelf
shelf_try shelf_lay Lays.n189 Nm 189 at Try as Try.laysSort
shelf_try shelf_lay Lays2.n15 Nm2 15 at Try as Try.laysClone
shelf_try shelf_lay Lays2.n21 Nm2 21 at Try as Try.laysInsert
shelf_try shelf_lay_g SlLaysN.n49 Slgn 49 at Try 40 as Try.laysBin
shelf_try shelf_lay_g SlLaysH.n8 Slgf 8 at Try 36 as Try.laysCF
shelf_try shelf_lay_g SlLaysH.n10 Slgf 10 at Try 37 as Try.laysDF
end Go.Proofs.Ytedifbdjcebefaa
