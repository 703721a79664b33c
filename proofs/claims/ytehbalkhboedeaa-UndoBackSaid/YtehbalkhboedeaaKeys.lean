/- The library's keys of a map, in order, as this program bears them. -/
import Derived.Test.YtehbalkhboedeaaEngGq
import Derived.Test.YtehbalkhboedeaaSorts
import Derived.Test.YtehbalkhboedeaaTab
import Derived.Shelf.SlIterI.Nil
import Derived.Ground.GgzProg
namespace Go.Proofs
open Go.RowKit Go.Maps Go.Sort Go.Shelf
shelf_lay_g SlLaysZI.n6 Ggz 6 at Try 43 as Try.sortedInt
theorem Try.sortsInt (m : Nat) : AnyZI.SortsIn Try.prog Try.sortedInt_ren Fence.wide m :=
  ⟨fun blk off cap ss W hH hblk hsz => callsIn_wide.2 (Any.slices_Sort_int Try.lays189 blk off cap ss W hH hblk hsz),
   fun p cap W => callsIn_wide.2 (Any.slices_Sort_int_none Try.lays189 p cap W)⟩
end Go.Proofs
namespace Go.Proofs
open Go.RowKit Go.Maps Go.Sort Go.Shelf
shelf_lay_g SlLaysZI.n7 Ggz 7 at Try 49 as Try.keysMet
end Go.Proofs
namespace Go.Proofs.Ytehbalkhboedeaa
open Go Go.Eng Go.RowKit Go.Maps Go.Sort Go.Shelf Go.Proofs
set_option maxRecDepth 100000
set_option maxHeartbeats 4000000
theorem keysMet_m {va : Bool} {vz : Nat} {val : List Int → List XC} {dom : List (List Int)} (hdl : dom.length ≤ 1000000) (hwf : ∀ k ∈ dom, (Lit.int .i64 (k.headD 0)).wf = true) (fx : List XC) (bt : TypeId) :
    FnM Try.prog 43 [.c (.fn 70 1 (nthC [.p 1 0]))] [.abs (MapA false [.i64] va vz dom val), .cells bt [.ow 0]] fx (.c (.ow 2)) [.abs (MapA false [.i64] va vz dom val), .cells bt [.ow 0], rowI 3 (sortL (dom.map fun k => k.headD 0))] := by
  refine keysSorted_m (kt := 3) ⟨_, Try.func43, by kernel_rfl, by kernel_rfl⟩ Try.underlying3 (fun bx b w D nn hbx hcell hown hsz => ?_) hdl hwf fx
  refine (callsIn_wide (n := 5)).1 ?_
  have hseq : SeqGives Fence.wide 2 Try.prog 70 #[.pointer (some ⟨bx, 0, none⟩)] encZ (fun ss => ss.Perm (intKeys D)) (Maps.size D) w :=
    AnyZI.keys_gives (ρ := Try.keysMet_ren) { Try.keysMet with } Fence.wide _ trivial rfl (by omega) bx b nn D _ hbx hcell hown
  have hM : (1000000 : Nat) ≤ maxLen := by unfold maxLen; omega
  exact AnyZI.sorted_in Try.sortedInt Fence.wide 5 trivial trivial trivial trivial rfl (by omega) (Try.sortsInt _) (enters_of Try.func63 (by kernel_rfl) rfl) 70 #[.pointer (some ⟨bx, 0, none⟩)] trivial (enters_of Try.func70 (by kernel_rfl) rfl) _ _ (Nat.le_trans hsz hM) (by omega) _ hseq
end Go.Proofs.Ytehbalkhboedeaa
