/- The types that the functions use, for the data machine (printed by a program of this work). -/
import Derived.Test.YtaafldclbdlgfaaD12
import Derived.Test.YtaafldclbdlgfaaProg
import Derived.KernelRfl
namespace Go.Proofs.Ytaafldclbdlgfaa.DM
open Go.RowKit

/-- int64 -/
def ti2 : TI := ⟨.int .i64, 1, 8, .i .i64 0⟩
/-- int -/
def ti3 : TI := ⟨.int .i64, 1, 8, .i .i64 0⟩
/-- bool -/
def ti4 : TI := ⟨.bool, 1, 1, .b false⟩
/-- uint8 -/
def ti5 : TI := ⟨.int .u8, 1, 1, .i .u8 0⟩
/-- string -/
def ti9 : TI := ⟨.str, 1, 16, .s ⟨#[]⟩⟩
/-- int32 -/
def ti21 : TI := ⟨.int .i32, 1, 4, .i .i32 0⟩
/-- [16]uint8 -/
def ti22 : TI := ⟨.arr 16 5, 16, 16, .ar 16 1 (fun _ => .i .u8 0)⟩
/-- struct ( Darts int64; Black [16]uint8; White [16]uint8 ) -/
def ti23 : TI := ⟨.st [(2, 0), (22, 1), (22, 17)], 33, 40, .st 3 (fun i => match i with | 0 => .i .i64 0 | 1 => .ar 16 1 (fun _ => .i .u8 0) | 2 => .ar 16 1 (fun _ => .i .u8 0) | _ => .un)⟩
/-- laws.Dessin -/
def ti24 : TI := ⟨.st [(2, 0), (22, 1), (22, 17)], 33, 40, .st 3 (fun i => match i with | 0 => .i .i64 0 | 1 => .ar 16 1 (fun _ => .i .u8 0) | 2 => .ar 16 1 (fun _ => .i .u8 0) | _ => .un)⟩
/-- impl.Places -/
def ti25 : TI := ⟨.arr 16 5, 16, 16, .ar 16 1 (fun _ => .i .u8 0)⟩
/-- struct ( Darts int64; Black impl.Places; White impl.Places ) -/
def ti26 : TI := ⟨.st [(2, 0), (25, 1), (25, 17)], 33, 40, .st 3 (fun i => match i with | 0 => .i .i64 0 | 1 => .ar 16 1 (fun _ => .i .u8 0) | 2 => .ar 16 1 (fun _ => .i .u8 0) | _ => .un)⟩
/-- impl.Dessin -/
def ti27 : TI := ⟨.st [(2, 0), (25, 1), (25, 17)], 33, 40, .st 3 (fun i => match i with | 0 => .i .i64 0 | 1 => .ar 16 1 (fun _ => .i .u8 0) | 2 => .ar 16 1 (fun _ => .i .u8 0) | _ => .un)⟩
/-- [][]int64 -/
def ti33 : TI := ⟨.slice 34, 1, 24, .ns⟩
/-- []int64 -/
def ti34 : TI := ⟨.slice 2, 1, 24, .ns⟩
/-- [][2]uint8 -/
def ti51 : TI := ⟨.slice 56, 1, 24, .ns⟩
/-- [16]int64 -/
def ti52 : TI := ⟨.arr 16 2, 16, 128, .ar 16 1 (fun _ => .i .i64 0)⟩
/-- [16][16]int64 -/
def ti53 : TI := ⟨.arr 16 52, 256, 2048, .ar 16 16 (fun _ => .ar 16 1 (fun _ => .i .i64 0))⟩
/-- [2]uint8 -/
def ti56 : TI := ⟨.arr 2 5, 2, 2, .ar 2 1 (fun _ => .i .u8 0)⟩
/-- []impl.pair -/
def ti60 : TI := ⟨.slice 62, 1, 24, .ns⟩
/-- impl.pair -/
def ti62 : TI := ⟨.arr 2 5, 2, 2, .ar 2 1 (fun _ => .i .u8 0)⟩
/-- [2]impl.pair -/
def ti63 : TI := ⟨.arr 2 62, 4, 4, .ar 2 2 (fun _ => .ar 2 1 (fun _ => .i .u8 0))⟩
/-- *spec.l03Chain -/
def ti67 : TI := ⟨.ptr 97, 1, 8, .np⟩
/-- []impl.Places -/
def ti70 : TI := ⟨.slice 25, 1, 24, .ns⟩
/-- *impl.group -/
def ti75 : TI := ⟨.ptr 103, 1, 8, .np⟩
/-- [16]bool -/
def ti84 : TI := ⟨.arr 16 4, 16, 16, .ar 16 1 (fun _ => .b false)⟩
/-- [16][16]bool -/
def ti85 : TI := ⟨.arr 16 84, 256, 256, .ar 16 16 (fun _ => .ar 16 1 (fun _ => .b false))⟩
/-- [16][]impl.Places -/
def ti93 : TI := ⟨.arr 16 70, 16, 384, .ar 16 1 (fun _ => .ns)⟩
/-- [16]impl.Places -/
def ti94 : TI := ⟨.arr 16 25, 256, 256, .ar 16 16 (fun _ => .ar 16 1 (fun _ => .i .u8 0))⟩
/-- [16][16]impl.Places -/
def ti95 : TI := ⟨.arr 16 94, 4096, 4096, .ar 16 256 (fun _ => .ar 16 16 (fun _ => .ar 16 1 (fun _ => .i .u8 0)))⟩
/-- struct ( size int64; gens [16][]impl.Places; has [16][16]bool; by [16][16]impl.Places ) -/
def ti96 : TI := ⟨.st [(2, 0), (93, 1), (85, 17), (95, 273)], 4369, 4744, .st 4 (fun i => match i with | 0 => .i .i64 0 | 1 => .ar 16 1 (fun _ => .ns) | 2 => .ar 16 16 (fun _ => .ar 16 1 (fun _ => .b false)) | 3 => .ar 16 256 (fun _ => .ar 16 16 (fun _ => .ar 16 1 (fun _ => .i .u8 0))) | _ => .un)⟩
/-- spec.l03Chain -/
def ti97 : TI := ⟨.st [(2, 0), (93, 1), (85, 17), (95, 273)], 4369, 4744, .st 4 (fun i => match i with | 0 => .i .i64 0 | 1 => .ar 16 1 (fun _ => .ns) | 2 => .ar 16 16 (fun _ => .ar 16 1 (fun _ => .b false)) | 3 => .ar 16 256 (fun _ => .ar 16 16 (fun _ => .ar 16 1 (fun _ => .i .u8 0))) | _ => .un)⟩
/-- [17]int64 -/
def ti99 : TI := ⟨.arr 17 2, 17, 136, .ar 17 1 (fun _ => .i .i64 0)⟩
/-- struct ( n int64; table [16][16]impl.Places; has [16][16]bool ) -/
def ti102 : TI := ⟨.st [(2, 0), (95, 1), (85, 4097)], 4353, 4360, .st 3 (fun i => match i with | 0 => .i .i64 0 | 1 => .ar 16 256 (fun _ => .ar 16 16 (fun _ => .ar 16 1 (fun _ => .i .u8 0))) | 2 => .ar 16 16 (fun _ => .ar 16 1 (fun _ => .b false)) | _ => .un)⟩
/-- impl.group -/
def ti103 : TI := ⟨.st [(2, 0), (95, 1), (85, 4097)], 4353, 4360, .st 3 (fun i => match i with | 0 => .i .i64 0 | 1 => .ar 16 256 (fun _ => .ar 16 16 (fun _ => .ar 16 1 (fun _ => .i .u8 0))) | 2 => .ar 16 16 (fun _ => .ar 16 1 (fun _ => .b false)) | _ => .un)⟩
/-- uint -/
def ti106 : TI := ⟨.int .u64, 1, 8, .i .u64 0⟩
/-- impl.classes -/
def ti108 : TI := ⟨.slice 2, 1, 24, .ns⟩
/-- [2]int64 -/
def ti110 : TI := ⟨.arr 2 2, 2, 16, .ar 2 1 (fun _ => .i .i64 0)⟩
/-- [][2]int64 -/
def ti111 : TI := ⟨.slice 110, 1, 24, .ns⟩
/-- []uint8 -/
def ti115 : TI := ⟨.slice 5, 1, 24, .ns⟩
/-- slices.sortedHint -/
def ti122 : TI := ⟨.int .i64, 1, 8, .i .i64 0⟩
/-- uint32 -/
def ti130 : TI := ⟨.int .u32, 1, 4, .i .u32 0⟩
/-- uint64 -/
def ti132 : TI := ⟨.int .u64, 1, 8, .i .u64 0⟩
/-- slices.xorshift -/
def ti140 : TI := ⟨.int .u64, 1, 8, .i .u64 0⟩
/-- *int -/
def ti144 : TI := ⟨.ptr 3, 1, 8, .np⟩
/-- *slices.xorshift -/
def ti148 : TI := ⟨.ptr 140, 1, 8, .np⟩
/-- *uint8 -/
def ti162 : TI := ⟨.ptr 5, 1, 8, .np⟩

def T : TyEnv := fun t => match t with
  | 2 => some ti2
  | 3 => some ti3
  | 4 => some ti4
  | 5 => some ti5
  | 9 => some ti9
  | 21 => some ti21
  | 22 => some ti22
  | 23 => some ti23
  | 24 => some ti24
  | 25 => some ti25
  | 26 => some ti26
  | 27 => some ti27
  | 33 => some ti33
  | 34 => some ti34
  | 51 => some ti51
  | 52 => some ti52
  | 53 => some ti53
  | 56 => some ti56
  | 60 => some ti60
  | 62 => some ti62
  | 63 => some ti63
  | 67 => some ti67
  | 70 => some ti70
  | 75 => some ti75
  | 84 => some ti84
  | 85 => some ti85
  | 93 => some ti93
  | 94 => some ti94
  | 95 => some ti95
  | 96 => some ti96
  | 97 => some ti97
  | 99 => some ti99
  | 102 => some ti102
  | 103 => some ti103
  | 106 => some ti106
  | 108 => some ti108
  | 110 => some ti110
  | 111 => some ti111
  | 115 => some ti115
  | 122 => some ti122
  | 130 => some ti130
  | 132 => some ti132
  | 140 => some ti140
  | 144 => some ti144
  | 148 => some ti148
  | 162 => some ti162
  | _ => none

theorem ti2_ok : ti2.ok Go.Proofs.Try.prog 2 := ⟨(by kernel_rfl : Go.Proofs.Try.prog.underlying 2 = some (.int .i64)), by kernel_rfl, trivial, trivial, trivial, by rfl, by decide, by rfl, fun h => by cases h⟩
theorem ti3_ok : ti3.ok Go.Proofs.Try.prog 3 := ⟨(by kernel_rfl : Go.Proofs.Try.prog.underlying 3 = some (.int .i64)), by kernel_rfl, trivial, trivial, trivial, by rfl, by decide, by rfl, fun h => by cases h⟩
theorem ti4_ok : ti4.ok Go.Proofs.Try.prog 4 := ⟨(by kernel_rfl : Go.Proofs.Try.prog.underlying 4 = some (.bool)), by kernel_rfl, trivial, trivial, trivial, by rfl, by decide, by rfl, fun h => by cases h⟩
theorem ti5_ok : ti5.ok Go.Proofs.Try.prog 5 := ⟨(by kernel_rfl : Go.Proofs.Try.prog.underlying 5 = some (.int .u8)), by kernel_rfl, trivial, trivial, trivial, by rfl, by decide, by rfl, fun h => by cases h⟩
theorem ti9_ok : ti9.ok Go.Proofs.Try.prog 9 := ⟨(by kernel_rfl : Go.Proofs.Try.prog.underlying 9 = some (.string)), by kernel_rfl, trivial, trivial, trivial, by rfl, by decide, by rfl, fun h => by cases h⟩
theorem ti21_ok : ti21.ok Go.Proofs.Try.prog 21 := ⟨(by kernel_rfl : Go.Proofs.Try.prog.underlying 21 = some (.int .i32)), by kernel_rfl, trivial, trivial, trivial, by rfl, by decide, by rfl, fun h => by cases h⟩
theorem ti22_ok : ti22.ok Go.Proofs.Try.prog 22 := ⟨(by kernel_rfl : Go.Proofs.Try.prog.underlying 22 = some (.array 16 5)), by kernel_rfl, fun _ _ => ⟨rfl, trivial⟩, fun _ _ => trivial, fun _ _ => trivial, by rfl, by decide, by rfl, fun _ => by kernel_rfl⟩
theorem ti23_ok : ti23.ok Go.Proofs.Try.prog 23 := ⟨fits_st (by kernel_rfl : (Go.Proofs.Try.prog.underlying 23).map stOf = some [(2, 0), (22, 1), (22, 17)]) (by simp), by kernel_rfl, (fun i h => match i, h with | 0, _ => trivial | 1, _ => fun _ _ => ⟨rfl, trivial⟩ | 2, _ => fun _ _ => ⟨rfl, trivial⟩ | j + 3, h => absurd h (by omega)), (fun i h => match i, h with | 0, _ => trivial | 1, _ => fun _ _ => trivial | 2, _ => fun _ _ => trivial | j + 3, h => absurd h (by omega)), (fun i h => match i, h with | 0, _ => trivial | 1, _ => fun _ _ => trivial | 2, _ => fun _ _ => trivial | j + 3, h => absurd h (by omega)), by rfl, by decide, by rfl, fun _ => by kernel_rfl⟩
theorem ti24_ok : ti24.ok Go.Proofs.Try.prog 24 := ⟨fits_st (by kernel_rfl : (Go.Proofs.Try.prog.underlying 24).map stOf = some [(2, 0), (22, 1), (22, 17)]) (by simp), by kernel_rfl, (fun i h => match i, h with | 0, _ => trivial | 1, _ => fun _ _ => ⟨rfl, trivial⟩ | 2, _ => fun _ _ => ⟨rfl, trivial⟩ | j + 3, h => absurd h (by omega)), (fun i h => match i, h with | 0, _ => trivial | 1, _ => fun _ _ => trivial | 2, _ => fun _ _ => trivial | j + 3, h => absurd h (by omega)), (fun i h => match i, h with | 0, _ => trivial | 1, _ => fun _ _ => trivial | 2, _ => fun _ _ => trivial | j + 3, h => absurd h (by omega)), by rfl, by decide, by rfl, fun _ => by kernel_rfl⟩
theorem ti25_ok : ti25.ok Go.Proofs.Try.prog 25 := ⟨(by kernel_rfl : Go.Proofs.Try.prog.underlying 25 = some (.array 16 5)), by kernel_rfl, fun _ _ => ⟨rfl, trivial⟩, fun _ _ => trivial, fun _ _ => trivial, by rfl, by decide, by rfl, fun _ => by kernel_rfl⟩
theorem ti26_ok : ti26.ok Go.Proofs.Try.prog 26 := ⟨fits_st (by kernel_rfl : (Go.Proofs.Try.prog.underlying 26).map stOf = some [(2, 0), (25, 1), (25, 17)]) (by simp), by kernel_rfl, (fun i h => match i, h with | 0, _ => trivial | 1, _ => fun _ _ => ⟨rfl, trivial⟩ | 2, _ => fun _ _ => ⟨rfl, trivial⟩ | j + 3, h => absurd h (by omega)), (fun i h => match i, h with | 0, _ => trivial | 1, _ => fun _ _ => trivial | 2, _ => fun _ _ => trivial | j + 3, h => absurd h (by omega)), (fun i h => match i, h with | 0, _ => trivial | 1, _ => fun _ _ => trivial | 2, _ => fun _ _ => trivial | j + 3, h => absurd h (by omega)), by rfl, by decide, by rfl, fun _ => by kernel_rfl⟩
theorem ti27_ok : ti27.ok Go.Proofs.Try.prog 27 := ⟨fits_st (by kernel_rfl : (Go.Proofs.Try.prog.underlying 27).map stOf = some [(2, 0), (25, 1), (25, 17)]) (by simp), by kernel_rfl, (fun i h => match i, h with | 0, _ => trivial | 1, _ => fun _ _ => ⟨rfl, trivial⟩ | 2, _ => fun _ _ => ⟨rfl, trivial⟩ | j + 3, h => absurd h (by omega)), (fun i h => match i, h with | 0, _ => trivial | 1, _ => fun _ _ => trivial | 2, _ => fun _ _ => trivial | j + 3, h => absurd h (by omega)), (fun i h => match i, h with | 0, _ => trivial | 1, _ => fun _ _ => trivial | 2, _ => fun _ _ => trivial | j + 3, h => absurd h (by omega)), by rfl, by decide, by rfl, fun _ => by kernel_rfl⟩
theorem ti33_ok : ti33.ok Go.Proofs.Try.prog 33 := ⟨(by kernel_rfl : Go.Proofs.Try.prog.underlying 33 = some (.slice 34)), by kernel_rfl, trivial, trivial, trivial, by rfl, by decide, by rfl, fun h => by cases h⟩
theorem ti34_ok : ti34.ok Go.Proofs.Try.prog 34 := ⟨(by kernel_rfl : Go.Proofs.Try.prog.underlying 34 = some (.slice 2)), by kernel_rfl, trivial, trivial, trivial, by rfl, by decide, by rfl, fun h => by cases h⟩
theorem ti51_ok : ti51.ok Go.Proofs.Try.prog 51 := ⟨(by kernel_rfl : Go.Proofs.Try.prog.underlying 51 = some (.slice 56)), by kernel_rfl, trivial, trivial, trivial, by rfl, by decide, by rfl, fun h => by cases h⟩
theorem ti52_ok : ti52.ok Go.Proofs.Try.prog 52 := ⟨(by kernel_rfl : Go.Proofs.Try.prog.underlying 52 = some (.array 16 2)), by kernel_rfl, fun _ _ => ⟨rfl, trivial⟩, fun _ _ => trivial, fun _ _ => trivial, by rfl, by decide, by rfl, fun _ => by kernel_rfl⟩
theorem ti53_ok : ti53.ok Go.Proofs.Try.prog 53 := ⟨(by kernel_rfl : Go.Proofs.Try.prog.underlying 53 = some (.array 16 52)), by kernel_rfl, fun _ _ => ⟨rfl, fun _ _ => ⟨rfl, trivial⟩⟩, fun _ _ => fun _ _ => trivial, fun _ _ => fun _ _ => trivial, by rfl, by decide, by rfl, fun _ => by kernel_rfl⟩
theorem ti56_ok : ti56.ok Go.Proofs.Try.prog 56 := ⟨(by kernel_rfl : Go.Proofs.Try.prog.underlying 56 = some (.array 2 5)), by kernel_rfl, fun _ _ => ⟨rfl, trivial⟩, fun _ _ => trivial, fun _ _ => trivial, by rfl, by decide, by rfl, fun _ => by kernel_rfl⟩
theorem ti60_ok : ti60.ok Go.Proofs.Try.prog 60 := ⟨(by kernel_rfl : Go.Proofs.Try.prog.underlying 60 = some (.slice 62)), by kernel_rfl, trivial, trivial, trivial, by rfl, by decide, by rfl, fun h => by cases h⟩
theorem ti62_ok : ti62.ok Go.Proofs.Try.prog 62 := ⟨(by kernel_rfl : Go.Proofs.Try.prog.underlying 62 = some (.array 2 5)), by kernel_rfl, fun _ _ => ⟨rfl, trivial⟩, fun _ _ => trivial, fun _ _ => trivial, by rfl, by decide, by rfl, fun _ => by kernel_rfl⟩
theorem ti63_ok : ti63.ok Go.Proofs.Try.prog 63 := ⟨(by kernel_rfl : Go.Proofs.Try.prog.underlying 63 = some (.array 2 62)), by kernel_rfl, fun _ _ => ⟨rfl, fun _ _ => ⟨rfl, trivial⟩⟩, fun _ _ => fun _ _ => trivial, fun _ _ => fun _ _ => trivial, by rfl, by decide, by rfl, fun _ => by kernel_rfl⟩
theorem ti67_ok : ti67.ok Go.Proofs.Try.prog 67 := ⟨(by kernel_rfl : Go.Proofs.Try.prog.underlying 67 = some (.pointer 97)), by kernel_rfl, trivial, trivial, trivial, by rfl, by decide, by rfl, fun h => by cases h⟩
theorem ti70_ok : ti70.ok Go.Proofs.Try.prog 70 := ⟨(by kernel_rfl : Go.Proofs.Try.prog.underlying 70 = some (.slice 25)), by kernel_rfl, trivial, trivial, trivial, by rfl, by decide, by rfl, fun h => by cases h⟩
theorem ti75_ok : ti75.ok Go.Proofs.Try.prog 75 := ⟨(by kernel_rfl : Go.Proofs.Try.prog.underlying 75 = some (.pointer 103)), by kernel_rfl, trivial, trivial, trivial, by rfl, by decide, by rfl, fun h => by cases h⟩
theorem ti84_ok : ti84.ok Go.Proofs.Try.prog 84 := ⟨(by kernel_rfl : Go.Proofs.Try.prog.underlying 84 = some (.array 16 4)), by kernel_rfl, fun _ _ => ⟨rfl, trivial⟩, fun _ _ => trivial, fun _ _ => trivial, by rfl, by decide, by rfl, fun _ => by kernel_rfl⟩
theorem ti85_ok : ti85.ok Go.Proofs.Try.prog 85 := ⟨(by kernel_rfl : Go.Proofs.Try.prog.underlying 85 = some (.array 16 84)), by kernel_rfl, fun _ _ => ⟨rfl, fun _ _ => ⟨rfl, trivial⟩⟩, fun _ _ => fun _ _ => trivial, fun _ _ => fun _ _ => trivial, by rfl, by decide, by rfl, fun _ => by kernel_rfl⟩
theorem ti93_ok : ti93.ok Go.Proofs.Try.prog 93 := ⟨(by kernel_rfl : Go.Proofs.Try.prog.underlying 93 = some (.array 16 70)), by kernel_rfl, fun _ _ => ⟨rfl, trivial⟩, fun _ _ => trivial, fun _ _ => trivial, by rfl, by decide, by rfl, fun _ => by kernel_rfl⟩
theorem ti94_ok : ti94.ok Go.Proofs.Try.prog 94 := ⟨(by kernel_rfl : Go.Proofs.Try.prog.underlying 94 = some (.array 16 25)), by kernel_rfl, fun _ _ => ⟨rfl, fun _ _ => ⟨rfl, trivial⟩⟩, fun _ _ => fun _ _ => trivial, fun _ _ => fun _ _ => trivial, by rfl, by decide, by rfl, fun _ => by kernel_rfl⟩
theorem ti95_ok : ti95.ok Go.Proofs.Try.prog 95 := ⟨(by kernel_rfl : Go.Proofs.Try.prog.underlying 95 = some (.array 16 94)), by kernel_rfl, fun _ _ => ⟨rfl, fun _ _ => ⟨rfl, fun _ _ => ⟨rfl, trivial⟩⟩⟩, fun _ _ => fun _ _ => fun _ _ => trivial, fun _ _ => fun _ _ => fun _ _ => trivial, by rfl, by decide, by rfl, fun _ => by kernel_rfl⟩
theorem ti96_ok : ti96.ok Go.Proofs.Try.prog 96 := ⟨fits_st (by kernel_rfl : (Go.Proofs.Try.prog.underlying 96).map stOf = some [(2, 0), (93, 1), (85, 17), (95, 273)]) (by simp), by kernel_rfl, (fun i h => match i, h with | 0, _ => trivial | 1, _ => fun _ _ => ⟨rfl, trivial⟩ | 2, _ => fun _ _ => ⟨rfl, fun _ _ => ⟨rfl, trivial⟩⟩ | 3, _ => fun _ _ => ⟨rfl, fun _ _ => ⟨rfl, fun _ _ => ⟨rfl, trivial⟩⟩⟩ | j + 4, h => absurd h (by omega)), (fun i h => match i, h with | 0, _ => trivial | 1, _ => fun _ _ => trivial | 2, _ => fun _ _ => fun _ _ => trivial | 3, _ => fun _ _ => fun _ _ => fun _ _ => trivial | j + 4, h => absurd h (by omega)), (fun i h => match i, h with | 0, _ => trivial | 1, _ => fun _ _ => trivial | 2, _ => fun _ _ => fun _ _ => trivial | 3, _ => fun _ _ => fun _ _ => fun _ _ => trivial | j + 4, h => absurd h (by omega)), by rfl, by decide, by rfl, fun _ => by kernel_rfl⟩
theorem ti97_ok : ti97.ok Go.Proofs.Try.prog 97 := ⟨fits_st (by kernel_rfl : (Go.Proofs.Try.prog.underlying 97).map stOf = some [(2, 0), (93, 1), (85, 17), (95, 273)]) (by simp), by kernel_rfl, (fun i h => match i, h with | 0, _ => trivial | 1, _ => fun _ _ => ⟨rfl, trivial⟩ | 2, _ => fun _ _ => ⟨rfl, fun _ _ => ⟨rfl, trivial⟩⟩ | 3, _ => fun _ _ => ⟨rfl, fun _ _ => ⟨rfl, fun _ _ => ⟨rfl, trivial⟩⟩⟩ | j + 4, h => absurd h (by omega)), (fun i h => match i, h with | 0, _ => trivial | 1, _ => fun _ _ => trivial | 2, _ => fun _ _ => fun _ _ => trivial | 3, _ => fun _ _ => fun _ _ => fun _ _ => trivial | j + 4, h => absurd h (by omega)), (fun i h => match i, h with | 0, _ => trivial | 1, _ => fun _ _ => trivial | 2, _ => fun _ _ => fun _ _ => trivial | 3, _ => fun _ _ => fun _ _ => fun _ _ => trivial | j + 4, h => absurd h (by omega)), by rfl, by decide, by rfl, fun _ => by kernel_rfl⟩
theorem ti99_ok : ti99.ok Go.Proofs.Try.prog 99 := ⟨(by kernel_rfl : Go.Proofs.Try.prog.underlying 99 = some (.array 17 2)), by kernel_rfl, fun _ _ => ⟨rfl, trivial⟩, fun _ _ => trivial, fun _ _ => trivial, by rfl, by decide, by rfl, fun _ => by kernel_rfl⟩
theorem ti102_ok : ti102.ok Go.Proofs.Try.prog 102 := ⟨fits_st (by kernel_rfl : (Go.Proofs.Try.prog.underlying 102).map stOf = some [(2, 0), (95, 1), (85, 4097)]) (by simp), by kernel_rfl, (fun i h => match i, h with | 0, _ => trivial | 1, _ => fun _ _ => ⟨rfl, fun _ _ => ⟨rfl, fun _ _ => ⟨rfl, trivial⟩⟩⟩ | 2, _ => fun _ _ => ⟨rfl, fun _ _ => ⟨rfl, trivial⟩⟩ | j + 3, h => absurd h (by omega)), (fun i h => match i, h with | 0, _ => trivial | 1, _ => fun _ _ => fun _ _ => fun _ _ => trivial | 2, _ => fun _ _ => fun _ _ => trivial | j + 3, h => absurd h (by omega)), (fun i h => match i, h with | 0, _ => trivial | 1, _ => fun _ _ => fun _ _ => fun _ _ => trivial | 2, _ => fun _ _ => fun _ _ => trivial | j + 3, h => absurd h (by omega)), by rfl, by decide, by rfl, fun _ => by kernel_rfl⟩
theorem ti103_ok : ti103.ok Go.Proofs.Try.prog 103 := ⟨fits_st (by kernel_rfl : (Go.Proofs.Try.prog.underlying 103).map stOf = some [(2, 0), (95, 1), (85, 4097)]) (by simp), by kernel_rfl, (fun i h => match i, h with | 0, _ => trivial | 1, _ => fun _ _ => ⟨rfl, fun _ _ => ⟨rfl, fun _ _ => ⟨rfl, trivial⟩⟩⟩ | 2, _ => fun _ _ => ⟨rfl, fun _ _ => ⟨rfl, trivial⟩⟩ | j + 3, h => absurd h (by omega)), (fun i h => match i, h with | 0, _ => trivial | 1, _ => fun _ _ => fun _ _ => fun _ _ => trivial | 2, _ => fun _ _ => fun _ _ => trivial | j + 3, h => absurd h (by omega)), (fun i h => match i, h with | 0, _ => trivial | 1, _ => fun _ _ => fun _ _ => fun _ _ => trivial | 2, _ => fun _ _ => fun _ _ => trivial | j + 3, h => absurd h (by omega)), by rfl, by decide, by rfl, fun _ => by kernel_rfl⟩
theorem ti106_ok : ti106.ok Go.Proofs.Try.prog 106 := ⟨(by kernel_rfl : Go.Proofs.Try.prog.underlying 106 = some (.int .u64)), by kernel_rfl, trivial, trivial, trivial, by rfl, by decide, by rfl, fun h => by cases h⟩
theorem ti108_ok : ti108.ok Go.Proofs.Try.prog 108 := ⟨(by kernel_rfl : Go.Proofs.Try.prog.underlying 108 = some (.slice 2)), by kernel_rfl, trivial, trivial, trivial, by rfl, by decide, by rfl, fun h => by cases h⟩
theorem ti110_ok : ti110.ok Go.Proofs.Try.prog 110 := ⟨(by kernel_rfl : Go.Proofs.Try.prog.underlying 110 = some (.array 2 2)), by kernel_rfl, fun _ _ => ⟨rfl, trivial⟩, fun _ _ => trivial, fun _ _ => trivial, by rfl, by decide, by rfl, fun _ => by kernel_rfl⟩
theorem ti111_ok : ti111.ok Go.Proofs.Try.prog 111 := ⟨(by kernel_rfl : Go.Proofs.Try.prog.underlying 111 = some (.slice 110)), by kernel_rfl, trivial, trivial, trivial, by rfl, by decide, by rfl, fun h => by cases h⟩
theorem ti115_ok : ti115.ok Go.Proofs.Try.prog 115 := ⟨(by kernel_rfl : Go.Proofs.Try.prog.underlying 115 = some (.slice 5)), by kernel_rfl, trivial, trivial, trivial, by rfl, by decide, by rfl, fun h => by cases h⟩
theorem ti122_ok : ti122.ok Go.Proofs.Try.prog 122 := ⟨(by kernel_rfl : Go.Proofs.Try.prog.underlying 122 = some (.int .i64)), by kernel_rfl, trivial, trivial, trivial, by rfl, by decide, by rfl, fun h => by cases h⟩
theorem ti130_ok : ti130.ok Go.Proofs.Try.prog 130 := ⟨(by kernel_rfl : Go.Proofs.Try.prog.underlying 130 = some (.int .u32)), by kernel_rfl, trivial, trivial, trivial, by rfl, by decide, by rfl, fun h => by cases h⟩
theorem ti132_ok : ti132.ok Go.Proofs.Try.prog 132 := ⟨(by kernel_rfl : Go.Proofs.Try.prog.underlying 132 = some (.int .u64)), by kernel_rfl, trivial, trivial, trivial, by rfl, by decide, by rfl, fun h => by cases h⟩
theorem ti140_ok : ti140.ok Go.Proofs.Try.prog 140 := ⟨(by kernel_rfl : Go.Proofs.Try.prog.underlying 140 = some (.int .u64)), by kernel_rfl, trivial, trivial, trivial, by rfl, by decide, by rfl, fun h => by cases h⟩
theorem ti144_ok : ti144.ok Go.Proofs.Try.prog 144 := ⟨(by kernel_rfl : Go.Proofs.Try.prog.underlying 144 = some (.pointer 3)), by kernel_rfl, trivial, trivial, trivial, by rfl, by decide, by rfl, fun h => by cases h⟩
theorem ti148_ok : ti148.ok Go.Proofs.Try.prog 148 := ⟨(by kernel_rfl : Go.Proofs.Try.prog.underlying 148 = some (.pointer 140)), by kernel_rfl, trivial, trivial, trivial, by rfl, by decide, by rfl, fun h => by cases h⟩
theorem ti162_ok : ti162.ok Go.Proofs.Try.prog 162 := ⟨(by kernel_rfl : Go.Proofs.Try.prog.underlying 162 = some (.pointer 5)), by kernel_rfl, trivial, trivial, trivial, by rfl, by decide, by rfl, fun h => by cases h⟩

theorem tok : TOK Go.Proofs.Try.prog T := by
  intro t i h
  unfold T at h
  split at h
  · cases h; exact ti2_ok
  · cases h; exact ti3_ok
  · cases h; exact ti4_ok
  · cases h; exact ti5_ok
  · cases h; exact ti9_ok
  · cases h; exact ti21_ok
  · cases h; exact ti22_ok
  · cases h; exact ti23_ok
  · cases h; exact ti24_ok
  · cases h; exact ti25_ok
  · cases h; exact ti26_ok
  · cases h; exact ti27_ok
  · cases h; exact ti33_ok
  · cases h; exact ti34_ok
  · cases h; exact ti51_ok
  · cases h; exact ti52_ok
  · cases h; exact ti53_ok
  · cases h; exact ti56_ok
  · cases h; exact ti60_ok
  · cases h; exact ti62_ok
  · cases h; exact ti63_ok
  · cases h; exact ti67_ok
  · cases h; exact ti70_ok
  · cases h; exact ti75_ok
  · cases h; exact ti84_ok
  · cases h; exact ti85_ok
  · cases h; exact ti93_ok
  · cases h; exact ti94_ok
  · cases h; exact ti95_ok
  · cases h; exact ti96_ok
  · cases h; exact ti97_ok
  · cases h; exact ti99_ok
  · cases h; exact ti102_ok
  · cases h; exact ti103_ok
  · cases h; exact ti106_ok
  · cases h; exact ti108_ok
  · cases h; exact ti110_ok
  · cases h; exact ti111_ok
  · cases h; exact ti115_ok
  · cases h; exact ti122_ok
  · cases h; exact ti130_ok
  · cases h; exact ti132_ok
  · cases h; exact ti140_ok
  · cases h; exact ti144_ok
  · cases h; exact ti148_ok
  · cases h; exact ti162_ok
  · cases h

end Go.Proofs.Ytaafldclbdlgfaa.DM
