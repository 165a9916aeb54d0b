/- The types that the functions use, for the data machine (printed by a program of this work). -/
import Derived.Test.YthjnmlpibafbnaaD12
import Derived.Test.YthjnmlpibafbnaaProg
import Derived.KernelRfl
namespace Go.Proofs.Ythjnmlpibafbnaa.DM
open Go.RowKit

/-- int64 -/
def ti2 : TI := ⟨.int .i64, 1, 8, .i .i64 0⟩
/-- int -/
def ti3 : TI := ⟨.int .i64, 1, 8, .i .i64 0⟩
/-- bool -/
def ti4 : TI := ⟨.bool, 1, 1, .b false⟩
/-- uint8 -/
def ti5 : TI := ⟨.int .u8, 1, 1, .i .u8 0⟩
/-- string -/
def ti9 : TI := ⟨.str, 1, 16, .s ⟨#[]⟩⟩
/-- int32 -/
def ti21 : TI := ⟨.int .i32, 1, 4, .i .i32 0⟩
/-- []uint8 -/
def ti22 : TI := ⟨.slice 5, 1, 24, .ns⟩
/-- [16]uint8 -/
def ti24 : TI := ⟨.arr 16 5, 16, 16, .ar 16 1 (fun _ => .i .u8 0)⟩
/-- impl.Places -/
def ti25 : TI := ⟨.arr 16 5, 16, 16, .ar 16 1 (fun _ => .i .u8 0)⟩
/-- struct ( Darts int64; Black impl.Places; White impl.Places ) -/
def ti26 : TI := ⟨.st [(2, 0), (25, 1), (25, 17)], 33, 40, .st 3 (fun i => match i with | 0 => .i .i64 0 | 1 => .ar 16 1 (fun _ => .i .u8 0) | 2 => .ar 16 1 (fun _ => .i .u8 0) | _ => .un)⟩
/-- impl.Dessin -/
def ti27 : TI := ⟨.st [(2, 0), (25, 1), (25, 17)], 33, 40, .st 3 (fun i => match i with | 0 => .i .i64 0 | 1 => .ar 16 1 (fun _ => .i .u8 0) | 2 => .ar 16 1 (fun _ => .i .u8 0) | _ => .un)⟩
/-- [][]int64 -/
def ti30 : TI := ⟨.slice 36, 1, 24, .ns⟩
/-- []int64 -/
def ti36 : TI := ⟨.slice 2, 1, 24, .ns⟩
/-- *spec.l01Source -/
def ti52 : TI := ⟨.ptr 86, 1, 8, .np⟩
/-- []impl.Places -/
def ti56 : TI := ⟨.slice 25, 1, 24, .ns⟩
/-- []impl.pair -/
def ti64 : TI := ⟨.slice 67, 1, 24, .ns⟩
/-- [2]uint8 -/
def ti66 : TI := ⟨.arr 2 5, 2, 2, .ar 2 1 (fun _ => .i .u8 0)⟩
/-- impl.pair -/
def ti67 : TI := ⟨.arr 2 5, 2, 2, .ar 2 1 (fun _ => .i .u8 0)⟩
/-- [2]impl.pair -/
def ti68 : TI := ⟨.arr 2 67, 4, 4, .ar 2 2 (fun _ => .ar 2 1 (fun _ => .i .u8 0))⟩
/-- [][2]uint8 -/
def ti72 : TI := ⟨.slice 66, 1, 24, .ns⟩
/-- [16]int64 -/
def ti73 : TI := ⟨.arr 16 2, 16, 128, .ar 16 1 (fun _ => .i .i64 0)⟩
/-- [16][16]int64 -/
def ti74 : TI := ⟨.arr 16 73, 256, 2048, .ar 16 16 (fun _ => .ar 16 1 (fun _ => .i .i64 0))⟩
/-- [16]bool -/
def ti79 : TI := ⟨.arr 16 4, 16, 16, .ar 16 1 (fun _ => .b false)⟩
/-- [16][16]bool -/
def ti80 : TI := ⟨.arr 16 79, 256, 256, .ar 16 16 (fun _ => .ar 16 1 (fun _ => .b false))⟩
/-- uint64 -/
def ti84 : TI := ⟨.int .u64, 1, 8, .i .u64 0⟩
/-- struct ( code []uint8; at int; hash uint64 ) -/
def ti85 : TI := ⟨.st [(22, 0), (3, 1), (84, 2)], 3, 40, .st 3 (fun i => match i with | 0 => .ns | 1 => .i .i64 0 | 2 => .i .u64 0 | _ => .un)⟩
/-- spec.l01Source -/
def ti86 : TI := ⟨.st [(22, 0), (3, 1), (84, 2)], 3, 40, .st 3 (fun i => match i with | 0 => .ns | 1 => .i .i64 0 | 2 => .i .u64 0 | _ => .un)⟩
/-- uint -/
def ti90 : TI := ⟨.int .u64, 1, 8, .i .u64 0⟩
/-- slices.sortedHint -/
def ti101 : TI := ⟨.int .i64, 1, 8, .i .i64 0⟩
/-- uint32 -/
def ti110 : TI := ⟨.int .u32, 1, 4, .i .u32 0⟩
/-- slices.xorshift -/
def ti116 : TI := ⟨.int .u64, 1, 8, .i .u64 0⟩
/-- *int -/
def ti120 : TI := ⟨.ptr 3, 1, 8, .np⟩
/-- *slices.xorshift -/
def ti126 : TI := ⟨.ptr 116, 1, 8, .np⟩
/-- *uint8 -/
def ti139 : TI := ⟨.ptr 5, 1, 8, .np⟩

def T : TyEnv := fun t => match t with
  | 2 => some ti2
  | 3 => some ti3
  | 4 => some ti4
  | 5 => some ti5
  | 9 => some ti9
  | 21 => some ti21
  | 22 => some ti22
  | 24 => some ti24
  | 25 => some ti25
  | 26 => some ti26
  | 27 => some ti27
  | 30 => some ti30
  | 36 => some ti36
  | 52 => some ti52
  | 56 => some ti56
  | 64 => some ti64
  | 66 => some ti66
  | 67 => some ti67
  | 68 => some ti68
  | 72 => some ti72
  | 73 => some ti73
  | 74 => some ti74
  | 79 => some ti79
  | 80 => some ti80
  | 84 => some ti84
  | 85 => some ti85
  | 86 => some ti86
  | 90 => some ti90
  | 101 => some ti101
  | 110 => some ti110
  | 116 => some ti116
  | 120 => some ti120
  | 126 => some ti126
  | 139 => some ti139
  | _ => none

theorem ti2_ok : ti2.ok Go.Proofs.Try.prog 2 := ⟨(by kernel_rfl : Go.Proofs.Try.prog.underlying 2 = some (.int .i64)), by kernel_rfl, trivial, trivial, trivial, by rfl, by decide, by rfl, fun h => by cases h⟩
theorem ti3_ok : ti3.ok Go.Proofs.Try.prog 3 := ⟨(by kernel_rfl : Go.Proofs.Try.prog.underlying 3 = some (.int .i64)), by kernel_rfl, trivial, trivial, trivial, by rfl, by decide, by rfl, fun h => by cases h⟩
theorem ti4_ok : ti4.ok Go.Proofs.Try.prog 4 := ⟨(by kernel_rfl : Go.Proofs.Try.prog.underlying 4 = some (.bool)), by kernel_rfl, trivial, trivial, trivial, by rfl, by decide, by rfl, fun h => by cases h⟩
theorem ti5_ok : ti5.ok Go.Proofs.Try.prog 5 := ⟨(by kernel_rfl : Go.Proofs.Try.prog.underlying 5 = some (.int .u8)), by kernel_rfl, trivial, trivial, trivial, by rfl, by decide, by rfl, fun h => by cases h⟩
theorem ti9_ok : ti9.ok Go.Proofs.Try.prog 9 := ⟨(by kernel_rfl : Go.Proofs.Try.prog.underlying 9 = some (.string)), by kernel_rfl, trivial, trivial, trivial, by rfl, by decide, by rfl, fun h => by cases h⟩
theorem ti21_ok : ti21.ok Go.Proofs.Try.prog 21 := ⟨(by kernel_rfl : Go.Proofs.Try.prog.underlying 21 = some (.int .i32)), by kernel_rfl, trivial, trivial, trivial, by rfl, by decide, by rfl, fun h => by cases h⟩
theorem ti22_ok : ti22.ok Go.Proofs.Try.prog 22 := ⟨(by kernel_rfl : Go.Proofs.Try.prog.underlying 22 = some (.slice 5)), by kernel_rfl, trivial, trivial, trivial, by rfl, by decide, by rfl, fun h => by cases h⟩
theorem ti24_ok : ti24.ok Go.Proofs.Try.prog 24 := ⟨(by kernel_rfl : Go.Proofs.Try.prog.underlying 24 = some (.array 16 5)), by kernel_rfl, fun _ _ => ⟨rfl, trivial⟩, fun _ _ => trivial, fun _ _ => trivial, by rfl, by decide, by rfl, fun _ => by kernel_rfl⟩
theorem ti25_ok : ti25.ok Go.Proofs.Try.prog 25 := ⟨(by kernel_rfl : Go.Proofs.Try.prog.underlying 25 = some (.array 16 5)), by kernel_rfl, fun _ _ => ⟨rfl, trivial⟩, fun _ _ => trivial, fun _ _ => trivial, by rfl, by decide, by rfl, fun _ => by kernel_rfl⟩
theorem ti26_ok : ti26.ok Go.Proofs.Try.prog 26 := ⟨fits_st (by kernel_rfl : (Go.Proofs.Try.prog.underlying 26).map stOf = some [(2, 0), (25, 1), (25, 17)]) (by simp), by kernel_rfl, (fun i h => match i, h with | 0, _ => trivial | 1, _ => fun _ _ => ⟨rfl, trivial⟩ | 2, _ => fun _ _ => ⟨rfl, trivial⟩ | j + 3, h => absurd h (by omega)), (fun i h => match i, h with | 0, _ => trivial | 1, _ => fun _ _ => trivial | 2, _ => fun _ _ => trivial | j + 3, h => absurd h (by omega)), (fun i h => match i, h with | 0, _ => trivial | 1, _ => fun _ _ => trivial | 2, _ => fun _ _ => trivial | j + 3, h => absurd h (by omega)), by rfl, by decide, by rfl, fun _ => by kernel_rfl⟩
theorem ti27_ok : ti27.ok Go.Proofs.Try.prog 27 := ⟨fits_st (by kernel_rfl : (Go.Proofs.Try.prog.underlying 27).map stOf = some [(2, 0), (25, 1), (25, 17)]) (by simp), by kernel_rfl, (fun i h => match i, h with | 0, _ => trivial | 1, _ => fun _ _ => ⟨rfl, trivial⟩ | 2, _ => fun _ _ => ⟨rfl, trivial⟩ | j + 3, h => absurd h (by omega)), (fun i h => match i, h with | 0, _ => trivial | 1, _ => fun _ _ => trivial | 2, _ => fun _ _ => trivial | j + 3, h => absurd h (by omega)), (fun i h => match i, h with | 0, _ => trivial | 1, _ => fun _ _ => trivial | 2, _ => fun _ _ => trivial | j + 3, h => absurd h (by omega)), by rfl, by decide, by rfl, fun _ => by kernel_rfl⟩
theorem ti30_ok : ti30.ok Go.Proofs.Try.prog 30 := ⟨(by kernel_rfl : Go.Proofs.Try.prog.underlying 30 = some (.slice 36)), by kernel_rfl, trivial, trivial, trivial, by rfl, by decide, by rfl, fun h => by cases h⟩
theorem ti36_ok : ti36.ok Go.Proofs.Try.prog 36 := ⟨(by kernel_rfl : Go.Proofs.Try.prog.underlying 36 = some (.slice 2)), by kernel_rfl, trivial, trivial, trivial, by rfl, by decide, by rfl, fun h => by cases h⟩
theorem ti52_ok : ti52.ok Go.Proofs.Try.prog 52 := ⟨(by kernel_rfl : Go.Proofs.Try.prog.underlying 52 = some (.pointer 86)), by kernel_rfl, trivial, trivial, trivial, by rfl, by decide, by rfl, fun h => by cases h⟩
theorem ti56_ok : ti56.ok Go.Proofs.Try.prog 56 := ⟨(by kernel_rfl : Go.Proofs.Try.prog.underlying 56 = some (.slice 25)), by kernel_rfl, trivial, trivial, trivial, by rfl, by decide, by rfl, fun h => by cases h⟩
theorem ti64_ok : ti64.ok Go.Proofs.Try.prog 64 := ⟨(by kernel_rfl : Go.Proofs.Try.prog.underlying 64 = some (.slice 67)), by kernel_rfl, trivial, trivial, trivial, by rfl, by decide, by rfl, fun h => by cases h⟩
theorem ti66_ok : ti66.ok Go.Proofs.Try.prog 66 := ⟨(by kernel_rfl : Go.Proofs.Try.prog.underlying 66 = some (.array 2 5)), by kernel_rfl, fun _ _ => ⟨rfl, trivial⟩, fun _ _ => trivial, fun _ _ => trivial, by rfl, by decide, by rfl, fun _ => by kernel_rfl⟩
theorem ti67_ok : ti67.ok Go.Proofs.Try.prog 67 := ⟨(by kernel_rfl : Go.Proofs.Try.prog.underlying 67 = some (.array 2 5)), by kernel_rfl, fun _ _ => ⟨rfl, trivial⟩, fun _ _ => trivial, fun _ _ => trivial, by rfl, by decide, by rfl, fun _ => by kernel_rfl⟩
theorem ti68_ok : ti68.ok Go.Proofs.Try.prog 68 := ⟨(by kernel_rfl : Go.Proofs.Try.prog.underlying 68 = some (.array 2 67)), by kernel_rfl, fun _ _ => ⟨rfl, fun _ _ => ⟨rfl, trivial⟩⟩, fun _ _ => fun _ _ => trivial, fun _ _ => fun _ _ => trivial, by rfl, by decide, by rfl, fun _ => by kernel_rfl⟩
theorem ti72_ok : ti72.ok Go.Proofs.Try.prog 72 := ⟨(by kernel_rfl : Go.Proofs.Try.prog.underlying 72 = some (.slice 66)), by kernel_rfl, trivial, trivial, trivial, by rfl, by decide, by rfl, fun h => by cases h⟩
theorem ti73_ok : ti73.ok Go.Proofs.Try.prog 73 := ⟨(by kernel_rfl : Go.Proofs.Try.prog.underlying 73 = some (.array 16 2)), by kernel_rfl, fun _ _ => ⟨rfl, trivial⟩, fun _ _ => trivial, fun _ _ => trivial, by rfl, by decide, by rfl, fun _ => by kernel_rfl⟩
theorem ti74_ok : ti74.ok Go.Proofs.Try.prog 74 := ⟨(by kernel_rfl : Go.Proofs.Try.prog.underlying 74 = some (.array 16 73)), by kernel_rfl, fun _ _ => ⟨rfl, fun _ _ => ⟨rfl, trivial⟩⟩, fun _ _ => fun _ _ => trivial, fun _ _ => fun _ _ => trivial, by rfl, by decide, by rfl, fun _ => by kernel_rfl⟩
theorem ti79_ok : ti79.ok Go.Proofs.Try.prog 79 := ⟨(by kernel_rfl : Go.Proofs.Try.prog.underlying 79 = some (.array 16 4)), by kernel_rfl, fun _ _ => ⟨rfl, trivial⟩, fun _ _ => trivial, fun _ _ => trivial, by rfl, by decide, by rfl, fun _ => by kernel_rfl⟩
theorem ti80_ok : ti80.ok Go.Proofs.Try.prog 80 := ⟨(by kernel_rfl : Go.Proofs.Try.prog.underlying 80 = some (.array 16 79)), by kernel_rfl, fun _ _ => ⟨rfl, fun _ _ => ⟨rfl, trivial⟩⟩, fun _ _ => fun _ _ => trivial, fun _ _ => fun _ _ => trivial, by rfl, by decide, by rfl, fun _ => by kernel_rfl⟩
theorem ti84_ok : ti84.ok Go.Proofs.Try.prog 84 := ⟨(by kernel_rfl : Go.Proofs.Try.prog.underlying 84 = some (.int .u64)), by kernel_rfl, trivial, trivial, trivial, by rfl, by decide, by rfl, fun h => by cases h⟩
theorem ti85_ok : ti85.ok Go.Proofs.Try.prog 85 := ⟨fits_st (by kernel_rfl : (Go.Proofs.Try.prog.underlying 85).map stOf = some [(22, 0), (3, 1), (84, 2)]) (by simp), by kernel_rfl, (fun i h => match i, h with | 0, _ => trivial | 1, _ => trivial | 2, _ => trivial | j + 3, h => absurd h (by omega)), (fun i h => match i, h with | 0, _ => trivial | 1, _ => trivial | 2, _ => trivial | j + 3, h => absurd h (by omega)), (fun i h => match i, h with | 0, _ => trivial | 1, _ => trivial | 2, _ => trivial | j + 3, h => absurd h (by omega)), by rfl, by decide, by rfl, fun _ => by kernel_rfl⟩
theorem ti86_ok : ti86.ok Go.Proofs.Try.prog 86 := ⟨fits_st (by kernel_rfl : (Go.Proofs.Try.prog.underlying 86).map stOf = some [(22, 0), (3, 1), (84, 2)]) (by simp), by kernel_rfl, (fun i h => match i, h with | 0, _ => trivial | 1, _ => trivial | 2, _ => trivial | j + 3, h => absurd h (by omega)), (fun i h => match i, h with | 0, _ => trivial | 1, _ => trivial | 2, _ => trivial | j + 3, h => absurd h (by omega)), (fun i h => match i, h with | 0, _ => trivial | 1, _ => trivial | 2, _ => trivial | j + 3, h => absurd h (by omega)), by rfl, by decide, by rfl, fun _ => by kernel_rfl⟩
theorem ti90_ok : ti90.ok Go.Proofs.Try.prog 90 := ⟨(by kernel_rfl : Go.Proofs.Try.prog.underlying 90 = some (.int .u64)), by kernel_rfl, trivial, trivial, trivial, by rfl, by decide, by rfl, fun h => by cases h⟩
theorem ti101_ok : ti101.ok Go.Proofs.Try.prog 101 := ⟨(by kernel_rfl : Go.Proofs.Try.prog.underlying 101 = some (.int .i64)), by kernel_rfl, trivial, trivial, trivial, by rfl, by decide, by rfl, fun h => by cases h⟩
theorem ti110_ok : ti110.ok Go.Proofs.Try.prog 110 := ⟨(by kernel_rfl : Go.Proofs.Try.prog.underlying 110 = some (.int .u32)), by kernel_rfl, trivial, trivial, trivial, by rfl, by decide, by rfl, fun h => by cases h⟩
theorem ti116_ok : ti116.ok Go.Proofs.Try.prog 116 := ⟨(by kernel_rfl : Go.Proofs.Try.prog.underlying 116 = some (.int .u64)), by kernel_rfl, trivial, trivial, trivial, by rfl, by decide, by rfl, fun h => by cases h⟩
theorem ti120_ok : ti120.ok Go.Proofs.Try.prog 120 := ⟨(by kernel_rfl : Go.Proofs.Try.prog.underlying 120 = some (.pointer 3)), by kernel_rfl, trivial, trivial, trivial, by rfl, by decide, by rfl, fun h => by cases h⟩
theorem ti126_ok : ti126.ok Go.Proofs.Try.prog 126 := ⟨(by kernel_rfl : Go.Proofs.Try.prog.underlying 126 = some (.pointer 116)), by kernel_rfl, trivial, trivial, trivial, by rfl, by decide, by rfl, fun h => by cases h⟩
theorem ti139_ok : ti139.ok Go.Proofs.Try.prog 139 := ⟨(by kernel_rfl : Go.Proofs.Try.prog.underlying 139 = some (.pointer 5)), by kernel_rfl, trivial, trivial, trivial, by rfl, by decide, by rfl, fun h => by cases h⟩

theorem tok : TOK Go.Proofs.Try.prog T := by
  intro t i h
  unfold T at h
  split at h
  · cases h; exact ti2_ok
  · cases h; exact ti3_ok
  · cases h; exact ti4_ok
  · cases h; exact ti5_ok
  · cases h; exact ti9_ok
  · cases h; exact ti21_ok
  · cases h; exact ti22_ok
  · cases h; exact ti24_ok
  · cases h; exact ti25_ok
  · cases h; exact ti26_ok
  · cases h; exact ti27_ok
  · cases h; exact ti30_ok
  · cases h; exact ti36_ok
  · cases h; exact ti52_ok
  · cases h; exact ti56_ok
  · cases h; exact ti64_ok
  · cases h; exact ti66_ok
  · cases h; exact ti67_ok
  · cases h; exact ti68_ok
  · cases h; exact ti72_ok
  · cases h; exact ti73_ok
  · cases h; exact ti74_ok
  · cases h; exact ti79_ok
  · cases h; exact ti80_ok
  · cases h; exact ti84_ok
  · cases h; exact ti85_ok
  · cases h; exact ti86_ok
  · cases h; exact ti90_ok
  · cases h; exact ti101_ok
  · cases h; exact ti110_ok
  · cases h; exact ti116_ok
  · cases h; exact ti120_ok
  · cases h; exact ti126_ok
  · cases h; exact ti139_ok
  · cases h

end Go.Proofs.Ythjnmlpibafbnaa.DM
