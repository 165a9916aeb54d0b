import Derived.Test.YtlmphggfokoeiaaDoorShelf
import Derived.Test.YtlmphggfokoeiaaDoorL3
import Derived.Test.YtlmphggfokoeiaaDoorD22
import Derived.Sort.OwnSortedInts
/- The library's slices.Sort, slices.Reverse and slices.Contains at []int64, on plain data. -/
namespace Go.Proofs.YtlmphggfokoeiaaDoor
open Go.RowKit DM Go.Sort
set_option linter.unusedSimpArgs false
set_option linter.unusedVariables false
set_option maxRecDepth 100000
set_option maxHeartbeats 1000000

def zI (zs : List Int) (j : Nat) : Int := zs.getD j 0
def srt (zs : List Int) : List Int := zs.mergeSort fun x y => decide (x ≤ y)

theorem map_zI (zs : List Int) : (List.range zs.length).map (fun j => Value.int .i64 (zI zs j)) = zs.map (Value.int .i64) := by
  apply List.ext_getElem (by simp)
  intro i h1 h2
  simp at h1
  simp [zI, List.getD_eq_getElem?_getD, List.getElem?_eq_getElem h1]

theorem srt_len (zs : List Int) : (srt zs).length = zs.length := (List.mergeSort_perm _ _).length_eq

theorem slicesSort_fn (zs : List Int) (hl : zs.length ≤ 65536) : FnS Tryd.prog 65 [.sl 0 0 zs.length 1] [.row 2 zs.length 1 (intD (zI zs))] (fun r m' => r = .tup 0 (fun _ => .un) ∧ m' = [.row 2 zs.length 1 (intD (zI (srt zs)))]) := by
  refine FnS.turner (callFunc_run Tryd.func65 rfl rfl) fun w b cap cur hb hcap hmax hsz htk => ?_
  rw [map_zI] at htk
  have hlt : b < w.heap.size := (Array.getElem?_eq_some_iff.1 hb).1
  have hcall := AnyG.slices_Sort_int Tryd.lays53 b 0 cap zs w (holds_of_blockI hb htk) hlt (by omega)
  change Calls Tryd.prog 65 _ _ _ at hcall
  refine hcall.mono ?_
  rintro e' w' ⟨rfl, n, os, rfl⟩
  have e := srt_len zs
  have h2 := take_putCellsI cur (srt zs) (by omega)
  have h3 := map_zI (srt zs)
  rw [e] at h2 h3
  exact ⟨rfl, grownBy_sortedI _, _, heap_sortedI _ hb, by simp [Sort.putCells], by rw [h3]; exact h2⟩

theorem slicesReverse_fn (zs : List Int) (hl : zs.length ≤ 65536) : FnS Tryd.prog 66 [.sl 0 0 zs.length 1] [.row 2 zs.length 1 (intD (zI zs))] (fun r m' => r = .tup 0 (fun _ => .un) ∧ m' = [.row 2 zs.length 1 (intD (zI zs.reverse))]) := by
  refine FnS.turner (callFunc_run Tryd.func66 rfl rfl) fun w b cap cur hb hcap hmax hsz htk => ?_
  rw [map_zI] at htk
  have hlt : b < w.heap.size := (Array.getElem?_eq_some_iff.1 hb).1
  have hcall := AnyG.slices_Reverse_int Tryd.lays35 b 0 cap zs w (holds_of_blockI hb htk) (by omega)
  change Calls Tryd.prog 66 _ _ _ at hcall
  refine hcall.mono ?_
  rintro e' w' ⟨rfl, n, rfl⟩
  have h2 := take_putCellsI cur zs.reverse (by simp; omega)
  have h3 := map_zI zs.reverse
  rw [List.length_reverse] at h2 h3
  have h4 := heap_sortedI (n := n) (os := #[]) zs.reverse.toArray hb
  have h5 := grownBy_sortedI (w := w) (g := b) (n := n) (os := #[]) zs.reverse.toArray
  rw [Sort.grow_empty] at h4 h5
  exact ⟨rfl, h5, _, h4, by simp [Sort.putCells], by rw [h3]; exact h2⟩

end Go.Proofs.YtlmphggfokoeiaaDoor
