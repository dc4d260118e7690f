/- slices.Sort at this seat's program, by the shelf. -/
import Derived.Test.YtlcdidmhokbkfaaProg
import Derived.Shelf.Lay
import Derived.Shelf.Slices.In.SortNone
import Derived.Shelf.Sort.Plain
import Derived.Ground.NamesProg
import Derived.Lib.SortBridge
namespace Go.Proofs.Ytlcdidmhokbkfaa
open Go.Shelf
shelf_lay Lays.n189 Nm 189 at Try as Try.laysSort
open Go.Sort Go.RowKit in
theorem sort_any (blk off cap : Nat) (zs : List Int) (w : World) (hH : Holds (Value.int .i64) w blk off zs.toArray) (hblk : blk < w.heap.size) (hsz : zs.length < 4611686018427387904) :
    Calls Try.prog 20 #[.slice (some ⟨blk, off, none⟩) zs.length cap] w fun e w' =>
      e = .returned (.tuple #[]) ∧ ∃ n os, w' = grow (putRow (Value.int .i64) (Sort.ahead w n) blk off (zs.mergeSort fun x y => decide (x ≤ y)).toArray) os := Any.slices_Sort_int Try.laysSort blk off cap zs w hH hblk hsz
#print axioms sort_any
end Go.Proofs.Ytlcdidmhokbkfaa
