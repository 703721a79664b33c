/- The library's sort of numbers, as this program bears it. -/
import Derived.Shelf.Lay
import Derived.Shelf.Sort.Plain
import Derived.Shelf.Slices.In.SortNone
import Derived.Shelf.Slices.Clone
import Derived.Shelf.Slices.In.Clone
import Derived.Ground.Names2Prog
import Derived.Test.YtehbalkhboedeaaEngGi
import Derived.Test.YtehbalkhboedeaaEnc
import Derived.Test.YtehbalkhboedeaaProg
namespace Go.Proofs
open Go.Shelf
shelf_lay Lays.n189 Nm 189 at Try as Try.lays189
shelf_lay Lays2.n15 Nm2 15 at Try as Try.lays2n15
end Go.Proofs
namespace Go.Proofs.Ytehbalkhboedeaa
open Go Go.Eng Go.RowKit Go.Sort
theorem sortI_fn (zs : List Int) (hz : zs.length < 4611686018427387904) (fx : List XC) : FnM Try.prog 63 [.c (.ow 0)] [rowI 3 zs] fx (.t []) [rowI 3 (sortL zs)] :=
  sort_m ⟨_, Try.func63, by kernel_rfl, by kernel_rfl⟩ (fun blk cap zs w hH hb hz => Any.slices_Sort_int Try.lays189 blk 0 cap zs w hH hb hz) (fun p cap w => Any.slices_Sort_int_none Try.lays189 p cap w) zs hz fx
theorem cloneI_fn (zs : List Int) (hz : zs.length ≤ 1000000) (fx : List XC) : FnM Try.prog 58 [.c (.ow 0)] [rowI 3 zs] fx (.c (.ow 1)) [rowI 3 zs, rowI 3 zs] :=
  clone_m ⟨_, Try.func58, by kernel_rfl, by kernel_rfl⟩ (fun b n c zs w h1 h2 h3 => Any.slices_Clone_int Try.lays2n15 b 0 n c zs w h1 h2 h3) (fun n c w => Any.slices_Clone_int_nil Try.lays2n15 n c w) zs hz fx
theorem cloneF_fn (zs : List Int) (hz : zs.length ≤ 1000000) (fx : List XC) : FnM Try.prog 58 [.c (intsX zs)] [] fx (.c (.ow 0)) [rowI 3 zs] :=
  clone_f ⟨_, Try.func58, by kernel_rfl, by kernel_rfl⟩ (fun b off n c zs w h1 h2 h3 => Any.slices_Clone_int Try.lays2n15 b off n c zs w h1 h2 h3) (fun a c w => calls_of_every_depth fun D => AnyS.slices_Clone_int_zero_in Try.lays2n15 D a c w) (fun n c w => Any.slices_Clone_int_nil Try.lays2n15 n c w) zs hz fx
end Go.Proofs.Ytehbalkhboedeaa
