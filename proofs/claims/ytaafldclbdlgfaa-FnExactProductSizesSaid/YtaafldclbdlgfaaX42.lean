import Derived.Test.YtaafldclbdlgfaaShelf
import Derived.Test.YtaafldclbdlgfaaL3
import Derived.Test.YtaafldclbdlgfaaD22
import Derived.Sort.OwnSortedInts
import Derived.Test.YtaafldclbdlgfaaL11
import Derived.Test.YtaafldclbdlgfaaL9
import Derived.Test.YtaafldclbdlgfaaX3
/- The library's slices.Sort, slices.Reverse and slices.Contains at []int64, on plain data. -/
namespace Go.Proofs.Ytaafldclbdlgfaa
open Go.RowKit DM Go.Sort
set_option linter.unusedSimpArgs false
set_option linter.unusedVariables false
set_option maxRecDepth 100000
set_option maxHeartbeats 1000000

def zI (zs : List Int) (j : Nat) : Int := zs.getD j 0
def srt (zs : List Int) : List Int := zs.mergeSort fun x y => decide (x ≤ y)

theorem map_zI (zs : List Int) : (List.range zs.length).map (fun j => Value.int .i64 (zI zs j)) = zs.map (Value.int .i64) := by
  apply List.ext_getElem (by simp)
  intro i h1 h2
  simp at h1
  simp [zI, List.getD_eq_getElem?_getD, List.getElem?_eq_getElem h1]

theorem srt_len (zs : List Int) : (srt zs).length = zs.length := (List.mergeSort_perm _ _).length_eq

theorem slicesSort_fn (zs : List Int) (hl : zs.length ≤ 65536) : FnS Try.prog 55 [.sl 0 0 zs.length 1] [.row 2 zs.length 1 (intD (zI zs))] (fun r m' => r = .tup 0 (fun _ => .un) ∧ m' = [.row 2 zs.length 1 (intD (zI (srt zs)))]) := by
  refine FnS.turner (callFunc_run Try.func55 rfl rfl) fun w b cap cur hb hcap hmax hsz htk => ?_
  rw [map_zI] at htk
  have hlt : b < w.heap.size := (Array.getElem?_eq_some_iff.1 hb).1
  have hcall := AnyG.slices_Sort_int Try.lays53 b 0 cap zs w (holds_of_blockI hb htk) hlt (by omega)
  change Calls Try.prog 55 _ _ _ at hcall
  refine hcall.mono ?_
  rintro e' w' ⟨rfl, n, os, rfl⟩
  have e := srt_len zs
  have h2 := take_putCellsI cur (srt zs) (by omega)
  have h3 := map_zI (srt zs)
  rw [e] at h2 h3
  exact ⟨rfl, grownBy_sortedI _, Nat.le_add_right _ _, _, heap_sortedI _ hb, by simp [Sort.putCells], by rw [h3]; exact h2⟩

end Go.Proofs.Ytaafldclbdlgfaa

/- Types of permutations: both sides. -/
namespace Go.Proofs.Ytaafldclbdlgfaa
open Go.RowKit DM
set_option linter.unusedSimpArgs false
set_option linter.unusedVariables false
set_option maxRecDepth 100000
set_option maxHeartbeats 1000000

theorem numsF_int (l : List Nat) : intD (zI (l.map fun x : Nat => (x : Int))) = numsF l := by
  funext j
  unfold intD zI numsF
  congr 1
  simp only [List.getD_eq_getElem?_getD, List.getElem?_map]
  cases l[j]? <;> rfl

theorem srt_nat (l : List Nat) : srt (l.map fun x : Nat => (x : Int)) = (srtN l).map fun x : Nat => (x : Int) := by
  unfold srt srtN
  rw [List.map_mergeSort (s := fun x y : Int => decide (x ≤ y))]
  intro a _ b _
  simp

theorem sortN_fn (l : List Nat) (hl : l.length ≤ 65536) : FnS Try.prog 55 [.sl 0 0 l.length 1] [.row 2 l.length 1 (numsF l)] (fun r m' => r = .tup 0 (fun _ => .un) ∧ m' = [.row 2 l.length 1 (numsF (srtN l))]) := by
  have h := slicesSort_fn (l.map fun x : Nat => (x : Int)) (by simpa using hl)
  rw [numsF_int, srt_nat, numsF_int, List.length_map] at h
  exact h

end Go.Proofs.Ytaafldclbdlgfaa

/- Types of permutations: the reference's side. -/
namespace Go.Proofs.Ytaafldclbdlgfaa
open Go.RowKit DM
set_option linter.unusedSimpArgs false
set_option linter.unusedVariables false
set_option maxRecDepth 100000
set_option maxHeartbeats 1000000

end Go.Proofs.Ytaafldclbdlgfaa
