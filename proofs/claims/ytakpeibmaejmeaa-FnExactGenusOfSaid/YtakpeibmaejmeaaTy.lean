/- The types that the functions use, for the data machine (printed by a program of this work). -/
import Derived.Test.YtakpeibmaejmeaaD12
import Derived.Test.YtakpeibmaejmeaaProg
import Derived.KernelRfl
namespace Go.Proofs.Ytakpeibmaejmeaa.DM
open Go.RowKit

/-- int64 -/
def ti2 : TI := ⟨.int .i64, 1, 8, .i .i64 0⟩
/-- int -/
def ti3 : TI := ⟨.int .i64, 1, 8, .i .i64 0⟩
/-- bool -/
def ti4 : TI := ⟨.bool, 1, 1, .b false⟩
/-- uint8 -/
def ti5 : TI := ⟨.int .u8, 1, 1, .i .u8 0⟩
/-- string -/
def ti9 : TI := ⟨.str, 1, 16, .s ⟨#[]⟩⟩
/-- int32 -/
def ti21 : TI := ⟨.int .i32, 1, 4, .i .i32 0⟩
/-- [16]uint8 -/
def ti22 : TI := ⟨.arr 16 5, 16, 16, .ar 16 1 (fun _ => .i .u8 0)⟩
/-- []int64 -/
def ti23 : TI := ⟨.slice 2, 1, 24, .ns⟩
/-- impl.Places -/
def ti26 : TI := ⟨.arr 16 5, 16, 16, .ar 16 1 (fun _ => .i .u8 0)⟩
/-- struct ( Darts int64; Black [16]uint8; White [16]uint8 ) -/
def ti33 : TI := ⟨.st [(2, 0), (22, 1), (22, 17)], 33, 40, .st 3 (fun i => match i with | 0 => .i .i64 0 | 1 => .ar 16 1 (fun _ => .i .u8 0) | 2 => .ar 16 1 (fun _ => .i .u8 0) | _ => .un)⟩
/-- laws.Dessin -/
def ti34 : TI := ⟨.st [(2, 0), (22, 1), (22, 17)], 33, 40, .st 3 (fun i => match i with | 0 => .i .i64 0 | 1 => .ar 16 1 (fun _ => .i .u8 0) | 2 => .ar 16 1 (fun _ => .i .u8 0) | _ => .un)⟩
/-- struct ( Darts int64; Black impl.Places; White impl.Places ) -/
def ti36 : TI := ⟨.st [(2, 0), (26, 1), (26, 17)], 33, 40, .st 3 (fun i => match i with | 0 => .i .i64 0 | 1 => .ar 16 1 (fun _ => .i .u8 0) | 2 => .ar 16 1 (fun _ => .i .u8 0) | _ => .un)⟩
/-- impl.Dessin -/
def ti37 : TI := ⟨.st [(2, 0), (26, 1), (26, 17)], 33, 40, .st 3 (fun i => match i with | 0 => .i .i64 0 | 1 => .ar 16 1 (fun _ => .i .u8 0) | 2 => .ar 16 1 (fun _ => .i .u8 0) | _ => .un)⟩
/-- [][]int64 -/
def ti40 : TI := ⟨.slice 23, 1, 24, .ns⟩
/-- []impl.Places -/
def ti53 : TI := ⟨.slice 26, 1, 24, .ns⟩
/-- [16]int64 -/
def ti71 : TI := ⟨.arr 16 2, 16, 128, .ar 16 1 (fun _ => .i .i64 0)⟩
/-- [16]bool -/
def ti80 : TI := ⟨.arr 16 4, 16, 16, .ar 16 1 (fun _ => .b false)⟩
/-- [17]int64 -/
def ti81 : TI := ⟨.arr 17 2, 17, 136, .ar 17 1 (fun _ => .i .i64 0)⟩
/-- []uint8 -/
def ti92 : TI := ⟨.slice 5, 1, 24, .ns⟩
/-- [2]uint8 -/
def ti97 : TI := ⟨.arr 2 5, 2, 2, .ar 2 1 (fun _ => .i .u8 0)⟩
/-- [][2]uint8 -/
def ti98 : TI := ⟨.slice 97, 1, 24, .ns⟩
/-- uint -/
def ti101 : TI := ⟨.int .u64, 1, 8, .i .u64 0⟩
/-- slices.sortedHint -/
def ti105 : TI := ⟨.int .i64, 1, 8, .i .i64 0⟩
/-- uint32 -/
def ti114 : TI := ⟨.int .u32, 1, 4, .i .u32 0⟩
/-- uint64 -/
def ti116 : TI := ⟨.int .u64, 1, 8, .i .u64 0⟩
/-- slices.xorshift -/
def ti121 : TI := ⟨.int .u64, 1, 8, .i .u64 0⟩
/-- *int -/
def ti125 : TI := ⟨.ptr 3, 1, 8, .np⟩
/-- *slices.xorshift -/
def ti127 : TI := ⟨.ptr 121, 1, 8, .np⟩
/-- *uint8 -/
def ti140 : TI := ⟨.ptr 5, 1, 8, .np⟩

def T : TyEnv := fun t => match t with
  | 2 => some ti2
  | 3 => some ti3
  | 4 => some ti4
  | 5 => some ti5
  | 9 => some ti9
  | 21 => some ti21
  | 22 => some ti22
  | 23 => some ti23
  | 26 => some ti26
  | 33 => some ti33
  | 34 => some ti34
  | 36 => some ti36
  | 37 => some ti37
  | 40 => some ti40
  | 53 => some ti53
  | 71 => some ti71
  | 80 => some ti80
  | 81 => some ti81
  | 92 => some ti92
  | 97 => some ti97
  | 98 => some ti98
  | 101 => some ti101
  | 105 => some ti105
  | 114 => some ti114
  | 116 => some ti116
  | 121 => some ti121
  | 125 => some ti125
  | 127 => some ti127
  | 140 => some ti140
  | _ => none

theorem ti2_ok : ti2.ok Go.Proofs.Try.prog 2 := ⟨(by kernel_rfl : Go.Proofs.Try.prog.underlying 2 = some (.int .i64)), by kernel_rfl, trivial, trivial, trivial, by rfl, by decide, by rfl, fun h => by cases h⟩
theorem ti3_ok : ti3.ok Go.Proofs.Try.prog 3 := ⟨(by kernel_rfl : Go.Proofs.Try.prog.underlying 3 = some (.int .i64)), by kernel_rfl, trivial, trivial, trivial, by rfl, by decide, by rfl, fun h => by cases h⟩
theorem ti4_ok : ti4.ok Go.Proofs.Try.prog 4 := ⟨(by kernel_rfl : Go.Proofs.Try.prog.underlying 4 = some (.bool)), by kernel_rfl, trivial, trivial, trivial, by rfl, by decide, by rfl, fun h => by cases h⟩
theorem ti5_ok : ti5.ok Go.Proofs.Try.prog 5 := ⟨(by kernel_rfl : Go.Proofs.Try.prog.underlying 5 = some (.int .u8)), by kernel_rfl, trivial, trivial, trivial, by rfl, by decide, by rfl, fun h => by cases h⟩
theorem ti9_ok : ti9.ok Go.Proofs.Try.prog 9 := ⟨(by kernel_rfl : Go.Proofs.Try.prog.underlying 9 = some (.string)), by kernel_rfl, trivial, trivial, trivial, by rfl, by decide, by rfl, fun h => by cases h⟩
theorem ti21_ok : ti21.ok Go.Proofs.Try.prog 21 := ⟨(by kernel_rfl : Go.Proofs.Try.prog.underlying 21 = some (.int .i32)), by kernel_rfl, trivial, trivial, trivial, by rfl, by decide, by rfl, fun h => by cases h⟩
theorem ti22_ok : ti22.ok Go.Proofs.Try.prog 22 := ⟨(by kernel_rfl : Go.Proofs.Try.prog.underlying 22 = some (.array 16 5)), by kernel_rfl, fun _ _ => ⟨rfl, trivial⟩, fun _ _ => trivial, fun _ _ => trivial, by rfl, by decide, by rfl, fun _ => by kernel_rfl⟩
theorem ti23_ok : ti23.ok Go.Proofs.Try.prog 23 := ⟨(by kernel_rfl : Go.Proofs.Try.prog.underlying 23 = some (.slice 2)), by kernel_rfl, trivial, trivial, trivial, by rfl, by decide, by rfl, fun h => by cases h⟩
theorem ti26_ok : ti26.ok Go.Proofs.Try.prog 26 := ⟨(by kernel_rfl : Go.Proofs.Try.prog.underlying 26 = some (.array 16 5)), by kernel_rfl, fun _ _ => ⟨rfl, trivial⟩, fun _ _ => trivial, fun _ _ => trivial, by rfl, by decide, by rfl, fun _ => by kernel_rfl⟩
theorem ti33_ok : ti33.ok Go.Proofs.Try.prog 33 := ⟨fits_st (by kernel_rfl : (Go.Proofs.Try.prog.underlying 33).map stOf = some [(2, 0), (22, 1), (22, 17)]) (by simp), by kernel_rfl, (fun i h => match i, h with | 0, _ => trivial | 1, _ => fun _ _ => ⟨rfl, trivial⟩ | 2, _ => fun _ _ => ⟨rfl, trivial⟩ | j + 3, h => absurd h (by omega)), (fun i h => match i, h with | 0, _ => trivial | 1, _ => fun _ _ => trivial | 2, _ => fun _ _ => trivial | j + 3, h => absurd h (by omega)), (fun i h => match i, h with | 0, _ => trivial | 1, _ => fun _ _ => trivial | 2, _ => fun _ _ => trivial | j + 3, h => absurd h (by omega)), by rfl, by decide, by rfl, fun _ => by kernel_rfl⟩
theorem ti34_ok : ti34.ok Go.Proofs.Try.prog 34 := ⟨fits_st (by kernel_rfl : (Go.Proofs.Try.prog.underlying 34).map stOf = some [(2, 0), (22, 1), (22, 17)]) (by simp), by kernel_rfl, (fun i h => match i, h with | 0, _ => trivial | 1, _ => fun _ _ => ⟨rfl, trivial⟩ | 2, _ => fun _ _ => ⟨rfl, trivial⟩ | j + 3, h => absurd h (by omega)), (fun i h => match i, h with | 0, _ => trivial | 1, _ => fun _ _ => trivial | 2, _ => fun _ _ => trivial | j + 3, h => absurd h (by omega)), (fun i h => match i, h with | 0, _ => trivial | 1, _ => fun _ _ => trivial | 2, _ => fun _ _ => trivial | j + 3, h => absurd h (by omega)), by rfl, by decide, by rfl, fun _ => by kernel_rfl⟩
theorem ti36_ok : ti36.ok Go.Proofs.Try.prog 36 := ⟨fits_st (by kernel_rfl : (Go.Proofs.Try.prog.underlying 36).map stOf = some [(2, 0), (26, 1), (26, 17)]) (by simp), by kernel_rfl, (fun i h => match i, h with | 0, _ => trivial | 1, _ => fun _ _ => ⟨rfl, trivial⟩ | 2, _ => fun _ _ => ⟨rfl, trivial⟩ | j + 3, h => absurd h (by omega)), (fun i h => match i, h with | 0, _ => trivial | 1, _ => fun _ _ => trivial | 2, _ => fun _ _ => trivial | j + 3, h => absurd h (by omega)), (fun i h => match i, h with | 0, _ => trivial | 1, _ => fun _ _ => trivial | 2, _ => fun _ _ => trivial | j + 3, h => absurd h (by omega)), by rfl, by decide, by rfl, fun _ => by kernel_rfl⟩
theorem ti37_ok : ti37.ok Go.Proofs.Try.prog 37 := ⟨fits_st (by kernel_rfl : (Go.Proofs.Try.prog.underlying 37).map stOf = some [(2, 0), (26, 1), (26, 17)]) (by simp), by kernel_rfl, (fun i h => match i, h with | 0, _ => trivial | 1, _ => fun _ _ => ⟨rfl, trivial⟩ | 2, _ => fun _ _ => ⟨rfl, trivial⟩ | j + 3, h => absurd h (by omega)), (fun i h => match i, h with | 0, _ => trivial | 1, _ => fun _ _ => trivial | 2, _ => fun _ _ => trivial | j + 3, h => absurd h (by omega)), (fun i h => match i, h with | 0, _ => trivial | 1, _ => fun _ _ => trivial | 2, _ => fun _ _ => trivial | j + 3, h => absurd h (by omega)), by rfl, by decide, by rfl, fun _ => by kernel_rfl⟩
theorem ti40_ok : ti40.ok Go.Proofs.Try.prog 40 := ⟨(by kernel_rfl : Go.Proofs.Try.prog.underlying 40 = some (.slice 23)), by kernel_rfl, trivial, trivial, trivial, by rfl, by decide, by rfl, fun h => by cases h⟩
theorem ti53_ok : ti53.ok Go.Proofs.Try.prog 53 := ⟨(by kernel_rfl : Go.Proofs.Try.prog.underlying 53 = some (.slice 26)), by kernel_rfl, trivial, trivial, trivial, by rfl, by decide, by rfl, fun h => by cases h⟩
theorem ti71_ok : ti71.ok Go.Proofs.Try.prog 71 := ⟨(by kernel_rfl : Go.Proofs.Try.prog.underlying 71 = some (.array 16 2)), by kernel_rfl, fun _ _ => ⟨rfl, trivial⟩, fun _ _ => trivial, fun _ _ => trivial, by rfl, by decide, by rfl, fun _ => by kernel_rfl⟩
theorem ti80_ok : ti80.ok Go.Proofs.Try.prog 80 := ⟨(by kernel_rfl : Go.Proofs.Try.prog.underlying 80 = some (.array 16 4)), by kernel_rfl, fun _ _ => ⟨rfl, trivial⟩, fun _ _ => trivial, fun _ _ => trivial, by rfl, by decide, by rfl, fun _ => by kernel_rfl⟩
theorem ti81_ok : ti81.ok Go.Proofs.Try.prog 81 := ⟨(by kernel_rfl : Go.Proofs.Try.prog.underlying 81 = some (.array 17 2)), by kernel_rfl, fun _ _ => ⟨rfl, trivial⟩, fun _ _ => trivial, fun _ _ => trivial, by rfl, by decide, by rfl, fun _ => by kernel_rfl⟩
theorem ti92_ok : ti92.ok Go.Proofs.Try.prog 92 := ⟨(by kernel_rfl : Go.Proofs.Try.prog.underlying 92 = some (.slice 5)), by kernel_rfl, trivial, trivial, trivial, by rfl, by decide, by rfl, fun h => by cases h⟩
theorem ti97_ok : ti97.ok Go.Proofs.Try.prog 97 := ⟨(by kernel_rfl : Go.Proofs.Try.prog.underlying 97 = some (.array 2 5)), by kernel_rfl, fun _ _ => ⟨rfl, trivial⟩, fun _ _ => trivial, fun _ _ => trivial, by rfl, by decide, by rfl, fun _ => by kernel_rfl⟩
theorem ti98_ok : ti98.ok Go.Proofs.Try.prog 98 := ⟨(by kernel_rfl : Go.Proofs.Try.prog.underlying 98 = some (.slice 97)), by kernel_rfl, trivial, trivial, trivial, by rfl, by decide, by rfl, fun h => by cases h⟩
theorem ti101_ok : ti101.ok Go.Proofs.Try.prog 101 := ⟨(by kernel_rfl : Go.Proofs.Try.prog.underlying 101 = some (.int .u64)), by kernel_rfl, trivial, trivial, trivial, by rfl, by decide, by rfl, fun h => by cases h⟩
theorem ti105_ok : ti105.ok Go.Proofs.Try.prog 105 := ⟨(by kernel_rfl : Go.Proofs.Try.prog.underlying 105 = some (.int .i64)), by kernel_rfl, trivial, trivial, trivial, by rfl, by decide, by rfl, fun h => by cases h⟩
theorem ti114_ok : ti114.ok Go.Proofs.Try.prog 114 := ⟨(by kernel_rfl : Go.Proofs.Try.prog.underlying 114 = some (.int .u32)), by kernel_rfl, trivial, trivial, trivial, by rfl, by decide, by rfl, fun h => by cases h⟩
theorem ti116_ok : ti116.ok Go.Proofs.Try.prog 116 := ⟨(by kernel_rfl : Go.Proofs.Try.prog.underlying 116 = some (.int .u64)), by kernel_rfl, trivial, trivial, trivial, by rfl, by decide, by rfl, fun h => by cases h⟩
theorem ti121_ok : ti121.ok Go.Proofs.Try.prog 121 := ⟨(by kernel_rfl : Go.Proofs.Try.prog.underlying 121 = some (.int .u64)), by kernel_rfl, trivial, trivial, trivial, by rfl, by decide, by rfl, fun h => by cases h⟩
theorem ti125_ok : ti125.ok Go.Proofs.Try.prog 125 := ⟨(by kernel_rfl : Go.Proofs.Try.prog.underlying 125 = some (.pointer 3)), by kernel_rfl, trivial, trivial, trivial, by rfl, by decide, by rfl, fun h => by cases h⟩
theorem ti127_ok : ti127.ok Go.Proofs.Try.prog 127 := ⟨(by kernel_rfl : Go.Proofs.Try.prog.underlying 127 = some (.pointer 121)), by kernel_rfl, trivial, trivial, trivial, by rfl, by decide, by rfl, fun h => by cases h⟩
theorem ti140_ok : ti140.ok Go.Proofs.Try.prog 140 := ⟨(by kernel_rfl : Go.Proofs.Try.prog.underlying 140 = some (.pointer 5)), by kernel_rfl, trivial, trivial, trivial, by rfl, by decide, by rfl, fun h => by cases h⟩

theorem tok : TOK Go.Proofs.Try.prog T := by
  intro t i h
  unfold T at h
  split at h
  · cases h; exact ti2_ok
  · cases h; exact ti3_ok
  · cases h; exact ti4_ok
  · cases h; exact ti5_ok
  · cases h; exact ti9_ok
  · cases h; exact ti21_ok
  · cases h; exact ti22_ok
  · cases h; exact ti23_ok
  · cases h; exact ti26_ok
  · cases h; exact ti33_ok
  · cases h; exact ti34_ok
  · cases h; exact ti36_ok
  · cases h; exact ti37_ok
  · cases h; exact ti40_ok
  · cases h; exact ti53_ok
  · cases h; exact ti71_ok
  · cases h; exact ti80_ok
  · cases h; exact ti81_ok
  · cases h; exact ti92_ok
  · cases h; exact ti97_ok
  · cases h; exact ti98_ok
  · cases h; exact ti101_ok
  · cases h; exact ti105_ok
  · cases h; exact ti114_ok
  · cases h; exact ti116_ok
  · cases h; exact ti121_ok
  · cases h; exact ti125_ok
  · cases h; exact ti127_ok
  · cases h; exact ti140_ok
  · cases h

end Go.Proofs.Ytakpeibmaejmeaa.DM
