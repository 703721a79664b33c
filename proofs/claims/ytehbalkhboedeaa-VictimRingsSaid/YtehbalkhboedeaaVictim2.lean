/- Victims: the document's list of all who give way; the law's own words. -/
import Derived.Test.YtehbalkhboedeaaVictim
import Derived.Test.YtehbalkhboedeaaEngY
namespace Go.Proofs.Ytehbalkhboedeaa
open Go Go.Eng Go.RowKit
set_option maxRecDepth 100000
set_option maxHeartbeats 4000000
set_option linter.unusedVariables false
set_option linter.unusedSimpArgs false
def atRow (st : List Int) : List (List XC) := st.map (fun n => [.i .i64 n]) ++ [[.il .i64 0]]
theorem rowsOf_intsV (k : IntKind) (st : List Int) : rowsOf st.length 1 (fun i _ => .i k (st.getD i 0)) = st.map fun n => [.i k n] := by
  apply List.ext_getElem
  · simp [rowsOf]
  · intro i h1 h2
    have h3 : i < st.length := by simpa using h2
    simp [rowsOf, List.range_succ, h3]
theorem atRow_eq (st : List Int) (m : Int) (hm : m = st.length + 1) : (rowsOf st.length 1 fun i _ => .i .i64 (st.getD i 0)).take (List.replicate m.toNat [XC.il .i64 0]).length ++ (List.replicate m.toNat [XC.il .i64 0]).drop (rowsOf st.length 1 fun i _ => XC.i .i64 (st.getD i 0)).length = atRow st := by
  have h1 : m.toNat = st.length + 1 := by omega
  rw [h1, rowsOf_intsV, List.length_replicate, List.length_map, List.take_of_length_le (by simp), List.drop_replicate, atRow]
  rw [show st.length + 1 - st.length = 1 by omega]; rfl
theorem atRow_at {st : List Int} {i : Nat} (h : i < st.length) : (atRow st)[i]? = some [.i .i64 (st.getD i 0)] := by
  rw [atRow, List.getElem?_append_left (by simpa using h)]
  simp [h]
end Go.Proofs.Ytehbalkhboedeaa
