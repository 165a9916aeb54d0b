/- The types that the functions use, for the data machine (printed by a program of this work). -/
import Derived.Test.YtmidlaiibknjjaaD10
import Derived.Test.YtmidlaiibknjjaaProg
import Derived.KernelRfl
namespace Go.Proofs.Ytmidlaiibknjjaa.DM
open Go.RowKit

/-- int64 -/
def ti2 : TI := ⟨.int .i64, 1, 8, .i .i64 0⟩
/-- int -/
def ti3 : TI := ⟨.int .i64, 1, 8, .i .i64 0⟩
/-- bool -/
def ti4 : TI := ⟨.bool, 1, 1, .b false⟩
/-- uint8 -/
def ti5 : TI := ⟨.int .u8, 1, 1, .i .u8 0⟩
/-- string -/
def ti9 : TI := ⟨.str, 1, 16, .s ⟨#[]⟩⟩
/-- int32 -/
def ti21 : TI := ⟨.int .i32, 1, 4, .i .i32 0⟩
/-- [16]uint8 -/
def ti22 : TI := ⟨.arr 16 5, 16, 16, .ar 16 1 (fun _ => .i .u8 0)⟩
/-- struct ( Darts int64; Black [16]uint8; White [16]uint8 ) -/
def ti23 : TI := ⟨.st [(2, 0), (22, 1), (22, 17)], 33, 40, .st 3 (fun i => match i with | 0 => .i .i64 0 | 1 => .ar 16 1 (fun _ => .i .u8 0) | 2 => .ar 16 1 (fun _ => .i .u8 0) | _ => .un)⟩
/-- laws.Dessin -/
def ti24 : TI := ⟨.st [(2, 0), (22, 1), (22, 17)], 33, 40, .st 3 (fun i => match i with | 0 => .i .i64 0 | 1 => .ar 16 1 (fun _ => .i .u8 0) | 2 => .ar 16 1 (fun _ => .i .u8 0) | _ => .un)⟩
/-- impl.Places -/
def ti25 : TI := ⟨.arr 16 5, 16, 16, .ar 16 1 (fun _ => .i .u8 0)⟩
/-- struct ( Darts int64; Black impl.Places; White impl.Places ) -/
def ti26 : TI := ⟨.st [(2, 0), (25, 1), (25, 17)], 33, 40, .st 3 (fun i => match i with | 0 => .i .i64 0 | 1 => .ar 16 1 (fun _ => .i .u8 0) | 2 => .ar 16 1 (fun _ => .i .u8 0) | _ => .un)⟩
/-- impl.Dessin -/
def ti27 : TI := ⟨.st [(2, 0), (25, 1), (25, 17)], 33, 40, .st 3 (fun i => match i with | 0 => .i .i64 0 | 1 => .ar 16 1 (fun _ => .i .u8 0) | 2 => .ar 16 1 (fun _ => .i .u8 0) | _ => .un)⟩
/-- []int64 -/
def ti33 : TI := ⟨.slice 2, 1, 24, .ns⟩
/-- [][2]uint8 -/
def ti53 : TI := ⟨.slice 58, 1, 24, .ns⟩
/-- [16]int64 -/
def ti54 : TI := ⟨.arr 16 2, 16, 128, .ar 16 1 (fun _ => .i .i64 0)⟩
/-- [16][16]int64 -/
def ti55 : TI := ⟨.arr 16 54, 256, 2048, .ar 16 16 (fun _ => .ar 16 1 (fun _ => .i .i64 0))⟩
/-- [2]uint8 -/
def ti58 : TI := ⟨.arr 2 5, 2, 2, .ar 2 1 (fun _ => .i .u8 0)⟩
/-- []impl.pair -/
def ti61 : TI := ⟨.slice 63, 1, 24, .ns⟩
/-- impl.pair -/
def ti63 : TI := ⟨.arr 2 5, 2, 2, .ar 2 1 (fun _ => .i .u8 0)⟩
/-- [2]impl.pair -/
def ti64 : TI := ⟨.arr 2 63, 4, 4, .ar 2 2 (fun _ => .ar 2 1 (fun _ => .i .u8 0))⟩
/-- uint32 -/
def ti71 : TI := ⟨.int .u32, 1, 4, .i .u32 0⟩
/-- []uint32 -/
def ti72 : TI := ⟨.slice 71, 1, 24, .ns⟩
/-- []impl.Places -/
def ti73 : TI := ⟨.slice 25, 1, 24, .ns⟩
/-- *spec.l03Chain -/
def ti78 : TI := ⟨.ptr 109, 1, 8, .np⟩
/-- *impl.group -/
def ti80 : TI := ⟨.ptr 112, 1, 8, .np⟩
/-- [2]int64 -/
def ti92 : TI := ⟨.arr 2 2, 2, 16, .ar 2 1 (fun _ => .i .i64 0)⟩
/-- [][2]int64 -/
def ti93 : TI := ⟨.slice 92, 1, 24, .ns⟩
/-- impl.classes -/
def ti94 : TI := ⟨.slice 2, 1, 24, .ns⟩
/-- [][]int64 -/
def ti97 : TI := ⟨.slice 33, 1, 24, .ns⟩
/-- uint -/
def ti100 : TI := ⟨.int .u64, 1, 8, .i .u64 0⟩
/-- [16][]impl.Places -/
def ti103 : TI := ⟨.arr 16 73, 16, 384, .ar 16 1 (fun _ => .ns)⟩
/-- [16]bool -/
def ti104 : TI := ⟨.arr 16 4, 16, 16, .ar 16 1 (fun _ => .b false)⟩
/-- [16][16]bool -/
def ti105 : TI := ⟨.arr 16 104, 256, 256, .ar 16 16 (fun _ => .ar 16 1 (fun _ => .b false))⟩
/-- [16]impl.Places -/
def ti106 : TI := ⟨.arr 16 25, 256, 256, .ar 16 16 (fun _ => .ar 16 1 (fun _ => .i .u8 0))⟩
/-- [16][16]impl.Places -/
def ti107 : TI := ⟨.arr 16 106, 4096, 4096, .ar 16 256 (fun _ => .ar 16 16 (fun _ => .ar 16 1 (fun _ => .i .u8 0)))⟩
/-- struct ( size int64; gens [16][]impl.Places; has [16][16]bool; by [16][16]impl.Places ) -/
def ti108 : TI := ⟨.st [(2, 0), (103, 1), (105, 17), (107, 273)], 4369, 4744, .st 4 (fun i => match i with | 0 => .i .i64 0 | 1 => .ar 16 1 (fun _ => .ns) | 2 => .ar 16 16 (fun _ => .ar 16 1 (fun _ => .b false)) | 3 => .ar 16 256 (fun _ => .ar 16 16 (fun _ => .ar 16 1 (fun _ => .i .u8 0))) | _ => .un)⟩
/-- spec.l03Chain -/
def ti109 : TI := ⟨.st [(2, 0), (103, 1), (105, 17), (107, 273)], 4369, 4744, .st 4 (fun i => match i with | 0 => .i .i64 0 | 1 => .ar 16 1 (fun _ => .ns) | 2 => .ar 16 16 (fun _ => .ar 16 1 (fun _ => .b false)) | 3 => .ar 16 256 (fun _ => .ar 16 16 (fun _ => .ar 16 1 (fun _ => .i .u8 0))) | _ => .un)⟩
/-- struct ( n int64; table [16][16]impl.Places; has [16][16]bool ) -/
def ti111 : TI := ⟨.st [(2, 0), (107, 1), (105, 4097)], 4353, 4360, .st 3 (fun i => match i with | 0 => .i .i64 0 | 1 => .ar 16 256 (fun _ => .ar 16 16 (fun _ => .ar 16 1 (fun _ => .i .u8 0))) | 2 => .ar 16 16 (fun _ => .ar 16 1 (fun _ => .b false)) | _ => .un)⟩
/-- impl.group -/
def ti112 : TI := ⟨.st [(2, 0), (107, 1), (105, 4097)], 4353, 4360, .st 3 (fun i => match i with | 0 => .i .i64 0 | 1 => .ar 16 256 (fun _ => .ar 16 16 (fun _ => .ar 16 1 (fun _ => .i .u8 0))) | 2 => .ar 16 16 (fun _ => .ar 16 1 (fun _ => .b false)) | _ => .un)⟩
/-- []uint8 -/
def ti122 : TI := ⟨.slice 5, 1, 24, .ns⟩
/-- uint64 -/
def ti125 : TI := ⟨.int .u64, 1, 8, .i .u64 0⟩
/-- *uint8 -/
def ti140 : TI := ⟨.ptr 5, 1, 8, .np⟩

def T : TyEnv := fun t => match t with
  | 2 => some ti2
  | 3 => some ti3
  | 4 => some ti4
  | 5 => some ti5
  | 9 => some ti9
  | 21 => some ti21
  | 22 => some ti22
  | 23 => some ti23
  | 24 => some ti24
  | 25 => some ti25
  | 26 => some ti26
  | 27 => some ti27
  | 33 => some ti33
  | 53 => some ti53
  | 54 => some ti54
  | 55 => some ti55
  | 58 => some ti58
  | 61 => some ti61
  | 63 => some ti63
  | 64 => some ti64
  | 71 => some ti71
  | 72 => some ti72
  | 73 => some ti73
  | 78 => some ti78
  | 80 => some ti80
  | 92 => some ti92
  | 93 => some ti93
  | 94 => some ti94
  | 97 => some ti97
  | 100 => some ti100
  | 103 => some ti103
  | 104 => some ti104
  | 105 => some ti105
  | 106 => some ti106
  | 107 => some ti107
  | 108 => some ti108
  | 109 => some ti109
  | 111 => some ti111
  | 112 => some ti112
  | 122 => some ti122
  | 125 => some ti125
  | 140 => some ti140
  | _ => none

theorem ti2_ok : ti2.ok Go.Proofs.Try.prog 2 := ⟨(by kernel_rfl : Go.Proofs.Try.prog.underlying 2 = some (.int .i64)), by kernel_rfl, trivial, trivial, trivial, by rfl, by decide, by rfl, fun h => by cases h⟩
theorem ti3_ok : ti3.ok Go.Proofs.Try.prog 3 := ⟨(by kernel_rfl : Go.Proofs.Try.prog.underlying 3 = some (.int .i64)), by kernel_rfl, trivial, trivial, trivial, by rfl, by decide, by rfl, fun h => by cases h⟩
theorem ti4_ok : ti4.ok Go.Proofs.Try.prog 4 := ⟨(by kernel_rfl : Go.Proofs.Try.prog.underlying 4 = some (.bool)), by kernel_rfl, trivial, trivial, trivial, by rfl, by decide, by rfl, fun h => by cases h⟩
theorem ti5_ok : ti5.ok Go.Proofs.Try.prog 5 := ⟨(by kernel_rfl : Go.Proofs.Try.prog.underlying 5 = some (.int .u8)), by kernel_rfl, trivial, trivial, trivial, by rfl, by decide, by rfl, fun h => by cases h⟩
theorem ti9_ok : ti9.ok Go.Proofs.Try.prog 9 := ⟨(by kernel_rfl : Go.Proofs.Try.prog.underlying 9 = some (.string)), by kernel_rfl, trivial, trivial, trivial, by rfl, by decide, by rfl, fun h => by cases h⟩
theorem ti21_ok : ti21.ok Go.Proofs.Try.prog 21 := ⟨(by kernel_rfl : Go.Proofs.Try.prog.underlying 21 = some (.int .i32)), by kernel_rfl, trivial, trivial, trivial, by rfl, by decide, by rfl, fun h => by cases h⟩
theorem ti22_ok : ti22.ok Go.Proofs.Try.prog 22 := ⟨(by kernel_rfl : Go.Proofs.Try.prog.underlying 22 = some (.array 16 5)), by kernel_rfl, fun _ _ => ⟨rfl, trivial⟩, fun _ _ => trivial, fun _ _ => trivial, by rfl, by decide, by rfl, fun _ => by kernel_rfl⟩
theorem ti23_ok : ti23.ok Go.Proofs.Try.prog 23 := ⟨fits_st (by kernel_rfl : (Go.Proofs.Try.prog.underlying 23).map stOf = some [(2, 0), (22, 1), (22, 17)]) (by simp), by kernel_rfl, (fun i h => match i, h with | 0, _ => trivial | 1, _ => fun _ _ => ⟨rfl, trivial⟩ | 2, _ => fun _ _ => ⟨rfl, trivial⟩ | j + 3, h => absurd h (by omega)), (fun i h => match i, h with | 0, _ => trivial | 1, _ => fun _ _ => trivial | 2, _ => fun _ _ => trivial | j + 3, h => absurd h (by omega)), (fun i h => match i, h with | 0, _ => trivial | 1, _ => fun _ _ => trivial | 2, _ => fun _ _ => trivial | j + 3, h => absurd h (by omega)), by rfl, by decide, by rfl, fun _ => by kernel_rfl⟩
theorem ti24_ok : ti24.ok Go.Proofs.Try.prog 24 := ⟨fits_st (by kernel_rfl : (Go.Proofs.Try.prog.underlying 24).map stOf = some [(2, 0), (22, 1), (22, 17)]) (by simp), by kernel_rfl, (fun i h => match i, h with | 0, _ => trivial | 1, _ => fun _ _ => ⟨rfl, trivial⟩ | 2, _ => fun _ _ => ⟨rfl, trivial⟩ | j + 3, h => absurd h (by omega)), (fun i h => match i, h with | 0, _ => trivial | 1, _ => fun _ _ => trivial | 2, _ => fun _ _ => trivial | j + 3, h => absurd h (by omega)), (fun i h => match i, h with | 0, _ => trivial | 1, _ => fun _ _ => trivial | 2, _ => fun _ _ => trivial | j + 3, h => absurd h (by omega)), by rfl, by decide, by rfl, fun _ => by kernel_rfl⟩
theorem ti25_ok : ti25.ok Go.Proofs.Try.prog 25 := ⟨(by kernel_rfl : Go.Proofs.Try.prog.underlying 25 = some (.array 16 5)), by kernel_rfl, fun _ _ => ⟨rfl, trivial⟩, fun _ _ => trivial, fun _ _ => trivial, by rfl, by decide, by rfl, fun _ => by kernel_rfl⟩
theorem ti26_ok : ti26.ok Go.Proofs.Try.prog 26 := ⟨fits_st (by kernel_rfl : (Go.Proofs.Try.prog.underlying 26).map stOf = some [(2, 0), (25, 1), (25, 17)]) (by simp), by kernel_rfl, (fun i h => match i, h with | 0, _ => trivial | 1, _ => fun _ _ => ⟨rfl, trivial⟩ | 2, _ => fun _ _ => ⟨rfl, trivial⟩ | j + 3, h => absurd h (by omega)), (fun i h => match i, h with | 0, _ => trivial | 1, _ => fun _ _ => trivial | 2, _ => fun _ _ => trivial | j + 3, h => absurd h (by omega)), (fun i h => match i, h with | 0, _ => trivial | 1, _ => fun _ _ => trivial | 2, _ => fun _ _ => trivial | j + 3, h => absurd h (by omega)), by rfl, by decide, by rfl, fun _ => by kernel_rfl⟩
theorem ti27_ok : ti27.ok Go.Proofs.Try.prog 27 := ⟨fits_st (by kernel_rfl : (Go.Proofs.Try.prog.underlying 27).map stOf = some [(2, 0), (25, 1), (25, 17)]) (by simp), by kernel_rfl, (fun i h => match i, h with | 0, _ => trivial | 1, _ => fun _ _ => ⟨rfl, trivial⟩ | 2, _ => fun _ _ => ⟨rfl, trivial⟩ | j + 3, h => absurd h (by omega)), (fun i h => match i, h with | 0, _ => trivial | 1, _ => fun _ _ => trivial | 2, _ => fun _ _ => trivial | j + 3, h => absurd h (by omega)), (fun i h => match i, h with | 0, _ => trivial | 1, _ => fun _ _ => trivial | 2, _ => fun _ _ => trivial | j + 3, h => absurd h (by omega)), by rfl, by decide, by rfl, fun _ => by kernel_rfl⟩
theorem ti33_ok : ti33.ok Go.Proofs.Try.prog 33 := ⟨(by kernel_rfl : Go.Proofs.Try.prog.underlying 33 = some (.slice 2)), by kernel_rfl, trivial, trivial, trivial, by rfl, by decide, by rfl, fun h => by cases h⟩
theorem ti53_ok : ti53.ok Go.Proofs.Try.prog 53 := ⟨(by kernel_rfl : Go.Proofs.Try.prog.underlying 53 = some (.slice 58)), by kernel_rfl, trivial, trivial, trivial, by rfl, by decide, by rfl, fun h => by cases h⟩
theorem ti54_ok : ti54.ok Go.Proofs.Try.prog 54 := ⟨(by kernel_rfl : Go.Proofs.Try.prog.underlying 54 = some (.array 16 2)), by kernel_rfl, fun _ _ => ⟨rfl, trivial⟩, fun _ _ => trivial, fun _ _ => trivial, by rfl, by decide, by rfl, fun _ => by kernel_rfl⟩
theorem ti55_ok : ti55.ok Go.Proofs.Try.prog 55 := ⟨(by kernel_rfl : Go.Proofs.Try.prog.underlying 55 = some (.array 16 54)), by kernel_rfl, fun _ _ => ⟨rfl, fun _ _ => ⟨rfl, trivial⟩⟩, fun _ _ => fun _ _ => trivial, fun _ _ => fun _ _ => trivial, by rfl, by decide, by rfl, fun _ => by kernel_rfl⟩
theorem ti58_ok : ti58.ok Go.Proofs.Try.prog 58 := ⟨(by kernel_rfl : Go.Proofs.Try.prog.underlying 58 = some (.array 2 5)), by kernel_rfl, fun _ _ => ⟨rfl, trivial⟩, fun _ _ => trivial, fun _ _ => trivial, by rfl, by decide, by rfl, fun _ => by kernel_rfl⟩
theorem ti61_ok : ti61.ok Go.Proofs.Try.prog 61 := ⟨(by kernel_rfl : Go.Proofs.Try.prog.underlying 61 = some (.slice 63)), by kernel_rfl, trivial, trivial, trivial, by rfl, by decide, by rfl, fun h => by cases h⟩
theorem ti63_ok : ti63.ok Go.Proofs.Try.prog 63 := ⟨(by kernel_rfl : Go.Proofs.Try.prog.underlying 63 = some (.array 2 5)), by kernel_rfl, fun _ _ => ⟨rfl, trivial⟩, fun _ _ => trivial, fun _ _ => trivial, by rfl, by decide, by rfl, fun _ => by kernel_rfl⟩
theorem ti64_ok : ti64.ok Go.Proofs.Try.prog 64 := ⟨(by kernel_rfl : Go.Proofs.Try.prog.underlying 64 = some (.array 2 63)), by kernel_rfl, fun _ _ => ⟨rfl, fun _ _ => ⟨rfl, trivial⟩⟩, fun _ _ => fun _ _ => trivial, fun _ _ => fun _ _ => trivial, by rfl, by decide, by rfl, fun _ => by kernel_rfl⟩
theorem ti71_ok : ti71.ok Go.Proofs.Try.prog 71 := ⟨(by kernel_rfl : Go.Proofs.Try.prog.underlying 71 = some (.int .u32)), by kernel_rfl, trivial, trivial, trivial, by rfl, by decide, by rfl, fun h => by cases h⟩
theorem ti72_ok : ti72.ok Go.Proofs.Try.prog 72 := ⟨(by kernel_rfl : Go.Proofs.Try.prog.underlying 72 = some (.slice 71)), by kernel_rfl, trivial, trivial, trivial, by rfl, by decide, by rfl, fun h => by cases h⟩
theorem ti73_ok : ti73.ok Go.Proofs.Try.prog 73 := ⟨(by kernel_rfl : Go.Proofs.Try.prog.underlying 73 = some (.slice 25)), by kernel_rfl, trivial, trivial, trivial, by rfl, by decide, by rfl, fun h => by cases h⟩
theorem ti78_ok : ti78.ok Go.Proofs.Try.prog 78 := ⟨(by kernel_rfl : Go.Proofs.Try.prog.underlying 78 = some (.pointer 109)), by kernel_rfl, trivial, trivial, trivial, by rfl, by decide, by rfl, fun h => by cases h⟩
theorem ti80_ok : ti80.ok Go.Proofs.Try.prog 80 := ⟨(by kernel_rfl : Go.Proofs.Try.prog.underlying 80 = some (.pointer 112)), by kernel_rfl, trivial, trivial, trivial, by rfl, by decide, by rfl, fun h => by cases h⟩
theorem ti92_ok : ti92.ok Go.Proofs.Try.prog 92 := ⟨(by kernel_rfl : Go.Proofs.Try.prog.underlying 92 = some (.array 2 2)), by kernel_rfl, fun _ _ => ⟨rfl, trivial⟩, fun _ _ => trivial, fun _ _ => trivial, by rfl, by decide, by rfl, fun _ => by kernel_rfl⟩
theorem ti93_ok : ti93.ok Go.Proofs.Try.prog 93 := ⟨(by kernel_rfl : Go.Proofs.Try.prog.underlying 93 = some (.slice 92)), by kernel_rfl, trivial, trivial, trivial, by rfl, by decide, by rfl, fun h => by cases h⟩
theorem ti94_ok : ti94.ok Go.Proofs.Try.prog 94 := ⟨(by kernel_rfl : Go.Proofs.Try.prog.underlying 94 = some (.slice 2)), by kernel_rfl, trivial, trivial, trivial, by rfl, by decide, by rfl, fun h => by cases h⟩
theorem ti97_ok : ti97.ok Go.Proofs.Try.prog 97 := ⟨(by kernel_rfl : Go.Proofs.Try.prog.underlying 97 = some (.slice 33)), by kernel_rfl, trivial, trivial, trivial, by rfl, by decide, by rfl, fun h => by cases h⟩
theorem ti100_ok : ti100.ok Go.Proofs.Try.prog 100 := ⟨(by kernel_rfl : Go.Proofs.Try.prog.underlying 100 = some (.int .u64)), by kernel_rfl, trivial, trivial, trivial, by rfl, by decide, by rfl, fun h => by cases h⟩
theorem ti103_ok : ti103.ok Go.Proofs.Try.prog 103 := ⟨(by kernel_rfl : Go.Proofs.Try.prog.underlying 103 = some (.array 16 73)), by kernel_rfl, fun _ _ => ⟨rfl, trivial⟩, fun _ _ => trivial, fun _ _ => trivial, by rfl, by decide, by rfl, fun _ => by kernel_rfl⟩
theorem ti104_ok : ti104.ok Go.Proofs.Try.prog 104 := ⟨(by kernel_rfl : Go.Proofs.Try.prog.underlying 104 = some (.array 16 4)), by kernel_rfl, fun _ _ => ⟨rfl, trivial⟩, fun _ _ => trivial, fun _ _ => trivial, by rfl, by decide, by rfl, fun _ => by kernel_rfl⟩
theorem ti105_ok : ti105.ok Go.Proofs.Try.prog 105 := ⟨(by kernel_rfl : Go.Proofs.Try.prog.underlying 105 = some (.array 16 104)), by kernel_rfl, fun _ _ => ⟨rfl, fun _ _ => ⟨rfl, trivial⟩⟩, fun _ _ => fun _ _ => trivial, fun _ _ => fun _ _ => trivial, by rfl, by decide, by rfl, fun _ => by kernel_rfl⟩
theorem ti106_ok : ti106.ok Go.Proofs.Try.prog 106 := ⟨(by kernel_rfl : Go.Proofs.Try.prog.underlying 106 = some (.array 16 25)), by kernel_rfl, fun _ _ => ⟨rfl, fun _ _ => ⟨rfl, trivial⟩⟩, fun _ _ => fun _ _ => trivial, fun _ _ => fun _ _ => trivial, by rfl, by decide, by rfl, fun _ => by kernel_rfl⟩
theorem ti107_ok : ti107.ok Go.Proofs.Try.prog 107 := ⟨(by kernel_rfl : Go.Proofs.Try.prog.underlying 107 = some (.array 16 106)), by kernel_rfl, fun _ _ => ⟨rfl, fun _ _ => ⟨rfl, fun _ _ => ⟨rfl, trivial⟩⟩⟩, fun _ _ => fun _ _ => fun _ _ => trivial, fun _ _ => fun _ _ => fun _ _ => trivial, by rfl, by decide, by rfl, fun _ => by kernel_rfl⟩
theorem ti108_ok : ti108.ok Go.Proofs.Try.prog 108 := ⟨fits_st (by kernel_rfl : (Go.Proofs.Try.prog.underlying 108).map stOf = some [(2, 0), (103, 1), (105, 17), (107, 273)]) (by simp), by kernel_rfl, (fun i h => match i, h with | 0, _ => trivial | 1, _ => fun _ _ => ⟨rfl, trivial⟩ | 2, _ => fun _ _ => ⟨rfl, fun _ _ => ⟨rfl, trivial⟩⟩ | 3, _ => fun _ _ => ⟨rfl, fun _ _ => ⟨rfl, fun _ _ => ⟨rfl, trivial⟩⟩⟩ | j + 4, h => absurd h (by omega)), (fun i h => match i, h with | 0, _ => trivial | 1, _ => fun _ _ => trivial | 2, _ => fun _ _ => fun _ _ => trivial | 3, _ => fun _ _ => fun _ _ => fun _ _ => trivial | j + 4, h => absurd h (by omega)), (fun i h => match i, h with | 0, _ => trivial | 1, _ => fun _ _ => trivial | 2, _ => fun _ _ => fun _ _ => trivial | 3, _ => fun _ _ => fun _ _ => fun _ _ => trivial | j + 4, h => absurd h (by omega)), by rfl, by decide, by rfl, fun _ => by kernel_rfl⟩
theorem ti109_ok : ti109.ok Go.Proofs.Try.prog 109 := ⟨fits_st (by kernel_rfl : (Go.Proofs.Try.prog.underlying 109).map stOf = some [(2, 0), (103, 1), (105, 17), (107, 273)]) (by simp), by kernel_rfl, (fun i h => match i, h with | 0, _ => trivial | 1, _ => fun _ _ => ⟨rfl, trivial⟩ | 2, _ => fun _ _ => ⟨rfl, fun _ _ => ⟨rfl, trivial⟩⟩ | 3, _ => fun _ _ => ⟨rfl, fun _ _ => ⟨rfl, fun _ _ => ⟨rfl, trivial⟩⟩⟩ | j + 4, h => absurd h (by omega)), (fun i h => match i, h with | 0, _ => trivial | 1, _ => fun _ _ => trivial | 2, _ => fun _ _ => fun _ _ => trivial | 3, _ => fun _ _ => fun _ _ => fun _ _ => trivial | j + 4, h => absurd h (by omega)), (fun i h => match i, h with | 0, _ => trivial | 1, _ => fun _ _ => trivial | 2, _ => fun _ _ => fun _ _ => trivial | 3, _ => fun _ _ => fun _ _ => fun _ _ => trivial | j + 4, h => absurd h (by omega)), by rfl, by decide, by rfl, fun _ => by kernel_rfl⟩
theorem ti111_ok : ti111.ok Go.Proofs.Try.prog 111 := ⟨fits_st (by kernel_rfl : (Go.Proofs.Try.prog.underlying 111).map stOf = some [(2, 0), (107, 1), (105, 4097)]) (by simp), by kernel_rfl, (fun i h => match i, h with | 0, _ => trivial | 1, _ => fun _ _ => ⟨rfl, fun _ _ => ⟨rfl, fun _ _ => ⟨rfl, trivial⟩⟩⟩ | 2, _ => fun _ _ => ⟨rfl, fun _ _ => ⟨rfl, trivial⟩⟩ | j + 3, h => absurd h (by omega)), (fun i h => match i, h with | 0, _ => trivial | 1, _ => fun _ _ => fun _ _ => fun _ _ => trivial | 2, _ => fun _ _ => fun _ _ => trivial | j + 3, h => absurd h (by omega)), (fun i h => match i, h with | 0, _ => trivial | 1, _ => fun _ _ => fun _ _ => fun _ _ => trivial | 2, _ => fun _ _ => fun _ _ => trivial | j + 3, h => absurd h (by omega)), by rfl, by decide, by rfl, fun _ => by kernel_rfl⟩
theorem ti112_ok : ti112.ok Go.Proofs.Try.prog 112 := ⟨fits_st (by kernel_rfl : (Go.Proofs.Try.prog.underlying 112).map stOf = some [(2, 0), (107, 1), (105, 4097)]) (by simp), by kernel_rfl, (fun i h => match i, h with | 0, _ => trivial | 1, _ => fun _ _ => ⟨rfl, fun _ _ => ⟨rfl, fun _ _ => ⟨rfl, trivial⟩⟩⟩ | 2, _ => fun _ _ => ⟨rfl, fun _ _ => ⟨rfl, trivial⟩⟩ | j + 3, h => absurd h (by omega)), (fun i h => match i, h with | 0, _ => trivial | 1, _ => fun _ _ => fun _ _ => fun _ _ => trivial | 2, _ => fun _ _ => fun _ _ => trivial | j + 3, h => absurd h (by omega)), (fun i h => match i, h with | 0, _ => trivial | 1, _ => fun _ _ => fun _ _ => fun _ _ => trivial | 2, _ => fun _ _ => fun _ _ => trivial | j + 3, h => absurd h (by omega)), by rfl, by decide, by rfl, fun _ => by kernel_rfl⟩
theorem ti122_ok : ti122.ok Go.Proofs.Try.prog 122 := ⟨(by kernel_rfl : Go.Proofs.Try.prog.underlying 122 = some (.slice 5)), by kernel_rfl, trivial, trivial, trivial, by rfl, by decide, by rfl, fun h => by cases h⟩
theorem ti125_ok : ti125.ok Go.Proofs.Try.prog 125 := ⟨(by kernel_rfl : Go.Proofs.Try.prog.underlying 125 = some (.int .u64)), by kernel_rfl, trivial, trivial, trivial, by rfl, by decide, by rfl, fun h => by cases h⟩
theorem ti140_ok : ti140.ok Go.Proofs.Try.prog 140 := ⟨(by kernel_rfl : Go.Proofs.Try.prog.underlying 140 = some (.pointer 5)), by kernel_rfl, trivial, trivial, trivial, by rfl, by decide, by rfl, fun h => by cases h⟩

theorem tok : TOK Go.Proofs.Try.prog T := by
  intro t i h
  unfold T at h
  split at h
  · cases h; exact ti2_ok
  · cases h; exact ti3_ok
  · cases h; exact ti4_ok
  · cases h; exact ti5_ok
  · cases h; exact ti9_ok
  · cases h; exact ti21_ok
  · cases h; exact ti22_ok
  · cases h; exact ti23_ok
  · cases h; exact ti24_ok
  · cases h; exact ti25_ok
  · cases h; exact ti26_ok
  · cases h; exact ti27_ok
  · cases h; exact ti33_ok
  · cases h; exact ti53_ok
  · cases h; exact ti54_ok
  · cases h; exact ti55_ok
  · cases h; exact ti58_ok
  · cases h; exact ti61_ok
  · cases h; exact ti63_ok
  · cases h; exact ti64_ok
  · cases h; exact ti71_ok
  · cases h; exact ti72_ok
  · cases h; exact ti73_ok
  · cases h; exact ti78_ok
  · cases h; exact ti80_ok
  · cases h; exact ti92_ok
  · cases h; exact ti93_ok
  · cases h; exact ti94_ok
  · cases h; exact ti97_ok
  · cases h; exact ti100_ok
  · cases h; exact ti103_ok
  · cases h; exact ti104_ok
  · cases h; exact ti105_ok
  · cases h; exact ti106_ok
  · cases h; exact ti107_ok
  · cases h; exact ti108_ok
  · cases h; exact ti109_ok
  · cases h; exact ti111_ok
  · cases h; exact ti112_ok
  · cases h; exact ti122_ok
  · cases h; exact ti125_ok
  · cases h; exact ti140_ok
  · cases h

end Go.Proofs.Ytmidlaiibknjjaa.DM
