/- The library's Delete of numbers, as this program bears it. -/
import Derived.Test.YtehbalkhboedeaaEngGt
import Derived.Test.YtehbalkhboedeaaSorts
import Derived.Test.YtehbalkhboedeaaTab
import Derived.Shelf.Slices.Delete
namespace Go.Proofs
open Go.Shelf
shelf_lay Lays2.n23 Nm2 23 at Try as Try.lays2n23
end Go.Proofs
namespace Go.Proofs.Ytehbalkhboedeaa
open Go Go.Eng Go.RowKit Go.Sort
theorem delI_fn (zs : List Int) (i j : Nat) (hij : i < j) (hj : j ≤ zs.length) : FnM Try.prog 57 [.c (.ow 0), .c (.i .i64 i), .c (.i .i64 j)] [rowI 3 zs] [] (.c (.ow 0)) [rowI 3 (zs.take i ++ zs.drop j)] :=
  delete_m ⟨_, Try.func57, by kernel_rfl, by kernel_rfl⟩ i j (fun blk cap zs w h1 h2 h3 h4 h5 => Any.slices_Delete_int Try.lays2n23 blk 0 cap i j zs w h1 h2 h3 h4 h5) zs hij hj
end Go.Proofs.Ytehbalkhboedeaa
