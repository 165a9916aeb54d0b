/- The types that the functions use, for the data machine (printed by a program of this work). -/
import Derived.Test.YtokhjhkicledmaaD12
import Derived.Test.YtokhjhkicledmaaProg
import Derived.KernelRfl
namespace Go.Proofs.Ytokhjhkicledmaa.DM
open Go.RowKit

/-- int64 -/
def ti2 : TI := ⟨.int .i64, 1, 8, .i .i64 0⟩
/-- int -/
def ti3 : TI := ⟨.int .i64, 1, 8, .i .i64 0⟩
/-- bool -/
def ti4 : TI := ⟨.bool, 1, 1, .b false⟩
/-- uint8 -/
def ti5 : TI := ⟨.int .u8, 1, 1, .i .u8 0⟩
/-- string -/
def ti9 : TI := ⟨.str, 1, 16, .s ⟨#[]⟩⟩
/-- int32 -/
def ti21 : TI := ⟨.int .i32, 1, 4, .i .i32 0⟩
/-- [16]uint8 -/
def ti22 : TI := ⟨.arr 16 5, 16, 16, .ar 16 1 (fun _ => .i .u8 0)⟩
/-- struct ( Darts int64; Black [16]uint8; White [16]uint8 ) -/
def ti23 : TI := ⟨.st [(2, 0), (22, 1), (22, 17)], 33, 40, .st 3 (fun i => match i with | 0 => .i .i64 0 | 1 => .ar 16 1 (fun _ => .i .u8 0) | 2 => .ar 16 1 (fun _ => .i .u8 0) | _ => .un)⟩
/-- laws.Dessin -/
def ti24 : TI := ⟨.st [(2, 0), (22, 1), (22, 17)], 33, 40, .st 3 (fun i => match i with | 0 => .i .i64 0 | 1 => .ar 16 1 (fun _ => .i .u8 0) | 2 => .ar 16 1 (fun _ => .i .u8 0) | _ => .un)⟩
/-- impl.Places -/
def ti27 : TI := ⟨.arr 16 5, 16, 16, .ar 16 1 (fun _ => .i .u8 0)⟩
/-- struct ( Darts int64; Black impl.Places; White impl.Places ) -/
def ti28 : TI := ⟨.st [(2, 0), (27, 1), (27, 17)], 33, 40, .st 3 (fun i => match i with | 0 => .i .i64 0 | 1 => .ar 16 1 (fun _ => .i .u8 0) | 2 => .ar 16 1 (fun _ => .i .u8 0) | _ => .un)⟩
/-- impl.Dessin -/
def ti29 : TI := ⟨.st [(2, 0), (27, 1), (27, 17)], 33, 40, .st 3 (fun i => match i with | 0 => .i .i64 0 | 1 => .ar 16 1 (fun _ => .i .u8 0) | 2 => .ar 16 1 (fun _ => .i .u8 0) | _ => .un)⟩
/-- []int64 -/
def ti37 : TI := ⟨.slice 2, 1, 24, .ns⟩
/-- [][]int64 -/
def ti47 : TI := ⟨.slice 37, 1, 24, .ns⟩
/-- *spec.l03Chain -/
def ti55 : TI := ⟨.ptr 94, 1, 8, .np⟩
/-- *impl.group -/
def ti57 : TI := ⟨.ptr 103, 1, 8, .np⟩
/-- uint32 -/
def ti67 : TI := ⟨.int .u32, 1, 4, .i .u32 0⟩
/-- []uint32 -/
def ti68 : TI := ⟨.slice 67, 1, 24, .ns⟩
/-- []impl.Places -/
def ti69 : TI := ⟨.slice 27, 1, 24, .ns⟩
/-- [16]bool -/
def ti88 : TI := ⟨.arr 16 4, 16, 16, .ar 16 1 (fun _ => .b false)⟩
/-- [16][]impl.Places -/
def ti89 : TI := ⟨.arr 16 69, 16, 384, .ar 16 1 (fun _ => .ns)⟩
/-- [16][16]bool -/
def ti90 : TI := ⟨.arr 16 88, 256, 256, .ar 16 16 (fun _ => .ar 16 1 (fun _ => .b false))⟩
/-- [16]impl.Places -/
def ti91 : TI := ⟨.arr 16 27, 256, 256, .ar 16 16 (fun _ => .ar 16 1 (fun _ => .i .u8 0))⟩
/-- [16][16]impl.Places -/
def ti92 : TI := ⟨.arr 16 91, 4096, 4096, .ar 16 256 (fun _ => .ar 16 16 (fun _ => .ar 16 1 (fun _ => .i .u8 0)))⟩
/-- struct ( size int64; gens [16][]impl.Places; has [16][16]bool; by [16][16]impl.Places ) -/
def ti93 : TI := ⟨.st [(2, 0), (89, 1), (90, 17), (92, 273)], 4369, 4744, .st 4 (fun i => match i with | 0 => .i .i64 0 | 1 => .ar 16 1 (fun _ => .ns) | 2 => .ar 16 16 (fun _ => .ar 16 1 (fun _ => .b false)) | 3 => .ar 16 256 (fun _ => .ar 16 16 (fun _ => .ar 16 1 (fun _ => .i .u8 0))) | _ => .un)⟩
/-- spec.l03Chain -/
def ti94 : TI := ⟨.st [(2, 0), (89, 1), (90, 17), (92, 273)], 4369, 4744, .st 4 (fun i => match i with | 0 => .i .i64 0 | 1 => .ar 16 1 (fun _ => .ns) | 2 => .ar 16 16 (fun _ => .ar 16 1 (fun _ => .b false)) | 3 => .ar 16 256 (fun _ => .ar 16 16 (fun _ => .ar 16 1 (fun _ => .i .u8 0))) | _ => .un)⟩
/-- struct ( n int64; table [16][16]impl.Places; has [16][16]bool ) -/
def ti102 : TI := ⟨.st [(2, 0), (92, 1), (90, 4097)], 4353, 4360, .st 3 (fun i => match i with | 0 => .i .i64 0 | 1 => .ar 16 256 (fun _ => .ar 16 16 (fun _ => .ar 16 1 (fun _ => .i .u8 0))) | 2 => .ar 16 16 (fun _ => .ar 16 1 (fun _ => .b false)) | _ => .un)⟩
/-- impl.group -/
def ti103 : TI := ⟨.st [(2, 0), (92, 1), (90, 4097)], 4353, 4360, .st 3 (fun i => match i with | 0 => .i .i64 0 | 1 => .ar 16 256 (fun _ => .ar 16 16 (fun _ => .ar 16 1 (fun _ => .i .u8 0))) | 2 => .ar 16 16 (fun _ => .ar 16 1 (fun _ => .b false)) | _ => .un)⟩
/-- [16]int64 -/
def ti105 : TI := ⟨.arr 16 2, 16, 128, .ar 16 1 (fun _ => .i .i64 0)⟩
/-- uint -/
def ti108 : TI := ⟨.int .u64, 1, 8, .i .u64 0⟩
/-- [17]int64 -/
def ti114 : TI := ⟨.arr 17 2, 17, 136, .ar 17 1 (fun _ => .i .i64 0)⟩
/-- []uint8 -/
def ti119 : TI := ⟨.slice 5, 1, 24, .ns⟩
/-- uint64 -/
def ti124 : TI := ⟨.int .u64, 1, 8, .i .u64 0⟩
/-- slices.sortedHint -/
def ti129 : TI := ⟨.int .i64, 1, 8, .i .i64 0⟩
/-- slices.xorshift -/
def ti139 : TI := ⟨.int .u64, 1, 8, .i .u64 0⟩
/-- *int -/
def ti143 : TI := ⟨.ptr 3, 1, 8, .np⟩
/-- *slices.xorshift -/
def ti151 : TI := ⟨.ptr 139, 1, 8, .np⟩
/-- *uint8 -/
def ti167 : TI := ⟨.ptr 5, 1, 8, .np⟩

def T : TyEnv := fun t => match t with
  | 2 => some ti2
  | 3 => some ti3
  | 4 => some ti4
  | 5 => some ti5
  | 9 => some ti9
  | 21 => some ti21
  | 22 => some ti22
  | 23 => some ti23
  | 24 => some ti24
  | 27 => some ti27
  | 28 => some ti28
  | 29 => some ti29
  | 37 => some ti37
  | 47 => some ti47
  | 55 => some ti55
  | 57 => some ti57
  | 67 => some ti67
  | 68 => some ti68
  | 69 => some ti69
  | 88 => some ti88
  | 89 => some ti89
  | 90 => some ti90
  | 91 => some ti91
  | 92 => some ti92
  | 93 => some ti93
  | 94 => some ti94
  | 102 => some ti102
  | 103 => some ti103
  | 105 => some ti105
  | 108 => some ti108
  | 114 => some ti114
  | 119 => some ti119
  | 124 => some ti124
  | 129 => some ti129
  | 139 => some ti139
  | 143 => some ti143
  | 151 => some ti151
  | 167 => some ti167
  | _ => none

theorem ti2_ok : ti2.ok Go.Proofs.Try.prog 2 := ⟨(by kernel_rfl : Go.Proofs.Try.prog.underlying 2 = some (.int .i64)), by kernel_rfl, trivial, trivial, trivial, by rfl, by decide, by rfl, fun h => by cases h⟩
theorem ti3_ok : ti3.ok Go.Proofs.Try.prog 3 := ⟨(by kernel_rfl : Go.Proofs.Try.prog.underlying 3 = some (.int .i64)), by kernel_rfl, trivial, trivial, trivial, by rfl, by decide, by rfl, fun h => by cases h⟩
theorem ti4_ok : ti4.ok Go.Proofs.Try.prog 4 := ⟨(by kernel_rfl : Go.Proofs.Try.prog.underlying 4 = some (.bool)), by kernel_rfl, trivial, trivial, trivial, by rfl, by decide, by rfl, fun h => by cases h⟩
theorem ti5_ok : ti5.ok Go.Proofs.Try.prog 5 := ⟨(by kernel_rfl : Go.Proofs.Try.prog.underlying 5 = some (.int .u8)), by kernel_rfl, trivial, trivial, trivial, by rfl, by decide, by rfl, fun h => by cases h⟩
theorem ti9_ok : ti9.ok Go.Proofs.Try.prog 9 := ⟨(by kernel_rfl : Go.Proofs.Try.prog.underlying 9 = some (.string)), by kernel_rfl, trivial, trivial, trivial, by rfl, by decide, by rfl, fun h => by cases h⟩
theorem ti21_ok : ti21.ok Go.Proofs.Try.prog 21 := ⟨(by kernel_rfl : Go.Proofs.Try.prog.underlying 21 = some (.int .i32)), by kernel_rfl, trivial, trivial, trivial, by rfl, by decide, by rfl, fun h => by cases h⟩
theorem ti22_ok : ti22.ok Go.Proofs.Try.prog 22 := ⟨(by kernel_rfl : Go.Proofs.Try.prog.underlying 22 = some (.array 16 5)), by kernel_rfl, fun _ _ => ⟨rfl, trivial⟩, fun _ _ => trivial, fun _ _ => trivial, by rfl, by decide, by rfl, fun _ => by kernel_rfl⟩
theorem ti23_ok : ti23.ok Go.Proofs.Try.prog 23 := ⟨fits_st (by kernel_rfl : (Go.Proofs.Try.prog.underlying 23).map stOf = some [(2, 0), (22, 1), (22, 17)]) (by simp), by kernel_rfl, (fun i h => match i, h with | 0, _ => trivial | 1, _ => fun _ _ => ⟨rfl, trivial⟩ | 2, _ => fun _ _ => ⟨rfl, trivial⟩ | j + 3, h => absurd h (by omega)), (fun i h => match i, h with | 0, _ => trivial | 1, _ => fun _ _ => trivial | 2, _ => fun _ _ => trivial | j + 3, h => absurd h (by omega)), (fun i h => match i, h with | 0, _ => trivial | 1, _ => fun _ _ => trivial | 2, _ => fun _ _ => trivial | j + 3, h => absurd h (by omega)), by rfl, by decide, by rfl, fun _ => by kernel_rfl⟩
theorem ti24_ok : ti24.ok Go.Proofs.Try.prog 24 := ⟨fits_st (by kernel_rfl : (Go.Proofs.Try.prog.underlying 24).map stOf = some [(2, 0), (22, 1), (22, 17)]) (by simp), by kernel_rfl, (fun i h => match i, h with | 0, _ => trivial | 1, _ => fun _ _ => ⟨rfl, trivial⟩ | 2, _ => fun _ _ => ⟨rfl, trivial⟩ | j + 3, h => absurd h (by omega)), (fun i h => match i, h with | 0, _ => trivial | 1, _ => fun _ _ => trivial | 2, _ => fun _ _ => trivial | j + 3, h => absurd h (by omega)), (fun i h => match i, h with | 0, _ => trivial | 1, _ => fun _ _ => trivial | 2, _ => fun _ _ => trivial | j + 3, h => absurd h (by omega)), by rfl, by decide, by rfl, fun _ => by kernel_rfl⟩
theorem ti27_ok : ti27.ok Go.Proofs.Try.prog 27 := ⟨(by kernel_rfl : Go.Proofs.Try.prog.underlying 27 = some (.array 16 5)), by kernel_rfl, fun _ _ => ⟨rfl, trivial⟩, fun _ _ => trivial, fun _ _ => trivial, by rfl, by decide, by rfl, fun _ => by kernel_rfl⟩
theorem ti28_ok : ti28.ok Go.Proofs.Try.prog 28 := ⟨fits_st (by kernel_rfl : (Go.Proofs.Try.prog.underlying 28).map stOf = some [(2, 0), (27, 1), (27, 17)]) (by simp), by kernel_rfl, (fun i h => match i, h with | 0, _ => trivial | 1, _ => fun _ _ => ⟨rfl, trivial⟩ | 2, _ => fun _ _ => ⟨rfl, trivial⟩ | j + 3, h => absurd h (by omega)), (fun i h => match i, h with | 0, _ => trivial | 1, _ => fun _ _ => trivial | 2, _ => fun _ _ => trivial | j + 3, h => absurd h (by omega)), (fun i h => match i, h with | 0, _ => trivial | 1, _ => fun _ _ => trivial | 2, _ => fun _ _ => trivial | j + 3, h => absurd h (by omega)), by rfl, by decide, by rfl, fun _ => by kernel_rfl⟩
theorem ti29_ok : ti29.ok Go.Proofs.Try.prog 29 := ⟨fits_st (by kernel_rfl : (Go.Proofs.Try.prog.underlying 29).map stOf = some [(2, 0), (27, 1), (27, 17)]) (by simp), by kernel_rfl, (fun i h => match i, h with | 0, _ => trivial | 1, _ => fun _ _ => ⟨rfl, trivial⟩ | 2, _ => fun _ _ => ⟨rfl, trivial⟩ | j + 3, h => absurd h (by omega)), (fun i h => match i, h with | 0, _ => trivial | 1, _ => fun _ _ => trivial | 2, _ => fun _ _ => trivial | j + 3, h => absurd h (by omega)), (fun i h => match i, h with | 0, _ => trivial | 1, _ => fun _ _ => trivial | 2, _ => fun _ _ => trivial | j + 3, h => absurd h (by omega)), by rfl, by decide, by rfl, fun _ => by kernel_rfl⟩
theorem ti37_ok : ti37.ok Go.Proofs.Try.prog 37 := ⟨(by kernel_rfl : Go.Proofs.Try.prog.underlying 37 = some (.slice 2)), by kernel_rfl, trivial, trivial, trivial, by rfl, by decide, by rfl, fun h => by cases h⟩
theorem ti47_ok : ti47.ok Go.Proofs.Try.prog 47 := ⟨(by kernel_rfl : Go.Proofs.Try.prog.underlying 47 = some (.slice 37)), by kernel_rfl, trivial, trivial, trivial, by rfl, by decide, by rfl, fun h => by cases h⟩
theorem ti55_ok : ti55.ok Go.Proofs.Try.prog 55 := ⟨(by kernel_rfl : Go.Proofs.Try.prog.underlying 55 = some (.pointer 94)), by kernel_rfl, trivial, trivial, trivial, by rfl, by decide, by rfl, fun h => by cases h⟩
theorem ti57_ok : ti57.ok Go.Proofs.Try.prog 57 := ⟨(by kernel_rfl : Go.Proofs.Try.prog.underlying 57 = some (.pointer 103)), by kernel_rfl, trivial, trivial, trivial, by rfl, by decide, by rfl, fun h => by cases h⟩
theorem ti67_ok : ti67.ok Go.Proofs.Try.prog 67 := ⟨(by kernel_rfl : Go.Proofs.Try.prog.underlying 67 = some (.int .u32)), by kernel_rfl, trivial, trivial, trivial, by rfl, by decide, by rfl, fun h => by cases h⟩
theorem ti68_ok : ti68.ok Go.Proofs.Try.prog 68 := ⟨(by kernel_rfl : Go.Proofs.Try.prog.underlying 68 = some (.slice 67)), by kernel_rfl, trivial, trivial, trivial, by rfl, by decide, by rfl, fun h => by cases h⟩
theorem ti69_ok : ti69.ok Go.Proofs.Try.prog 69 := ⟨(by kernel_rfl : Go.Proofs.Try.prog.underlying 69 = some (.slice 27)), by kernel_rfl, trivial, trivial, trivial, by rfl, by decide, by rfl, fun h => by cases h⟩
theorem ti88_ok : ti88.ok Go.Proofs.Try.prog 88 := ⟨(by kernel_rfl : Go.Proofs.Try.prog.underlying 88 = some (.array 16 4)), by kernel_rfl, fun _ _ => ⟨rfl, trivial⟩, fun _ _ => trivial, fun _ _ => trivial, by rfl, by decide, by rfl, fun _ => by kernel_rfl⟩
theorem ti89_ok : ti89.ok Go.Proofs.Try.prog 89 := ⟨(by kernel_rfl : Go.Proofs.Try.prog.underlying 89 = some (.array 16 69)), by kernel_rfl, fun _ _ => ⟨rfl, trivial⟩, fun _ _ => trivial, fun _ _ => trivial, by rfl, by decide, by rfl, fun _ => by kernel_rfl⟩
theorem ti90_ok : ti90.ok Go.Proofs.Try.prog 90 := ⟨(by kernel_rfl : Go.Proofs.Try.prog.underlying 90 = some (.array 16 88)), by kernel_rfl, fun _ _ => ⟨rfl, fun _ _ => ⟨rfl, trivial⟩⟩, fun _ _ => fun _ _ => trivial, fun _ _ => fun _ _ => trivial, by rfl, by decide, by rfl, fun _ => by kernel_rfl⟩
theorem ti91_ok : ti91.ok Go.Proofs.Try.prog 91 := ⟨(by kernel_rfl : Go.Proofs.Try.prog.underlying 91 = some (.array 16 27)), by kernel_rfl, fun _ _ => ⟨rfl, fun _ _ => ⟨rfl, trivial⟩⟩, fun _ _ => fun _ _ => trivial, fun _ _ => fun _ _ => trivial, by rfl, by decide, by rfl, fun _ => by kernel_rfl⟩
theorem ti92_ok : ti92.ok Go.Proofs.Try.prog 92 := ⟨(by kernel_rfl : Go.Proofs.Try.prog.underlying 92 = some (.array 16 91)), by kernel_rfl, fun _ _ => ⟨rfl, fun _ _ => ⟨rfl, fun _ _ => ⟨rfl, trivial⟩⟩⟩, fun _ _ => fun _ _ => fun _ _ => trivial, fun _ _ => fun _ _ => fun _ _ => trivial, by rfl, by decide, by rfl, fun _ => by kernel_rfl⟩
theorem ti93_ok : ti93.ok Go.Proofs.Try.prog 93 := ⟨fits_st (by kernel_rfl : (Go.Proofs.Try.prog.underlying 93).map stOf = some [(2, 0), (89, 1), (90, 17), (92, 273)]) (by simp), by kernel_rfl, (fun i h => match i, h with | 0, _ => trivial | 1, _ => fun _ _ => ⟨rfl, trivial⟩ | 2, _ => fun _ _ => ⟨rfl, fun _ _ => ⟨rfl, trivial⟩⟩ | 3, _ => fun _ _ => ⟨rfl, fun _ _ => ⟨rfl, fun _ _ => ⟨rfl, trivial⟩⟩⟩ | j + 4, h => absurd h (by omega)), (fun i h => match i, h with | 0, _ => trivial | 1, _ => fun _ _ => trivial | 2, _ => fun _ _ => fun _ _ => trivial | 3, _ => fun _ _ => fun _ _ => fun _ _ => trivial | j + 4, h => absurd h (by omega)), (fun i h => match i, h with | 0, _ => trivial | 1, _ => fun _ _ => trivial | 2, _ => fun _ _ => fun _ _ => trivial | 3, _ => fun _ _ => fun _ _ => fun _ _ => trivial | j + 4, h => absurd h (by omega)), by rfl, by decide, by rfl, fun _ => by kernel_rfl⟩
theorem ti94_ok : ti94.ok Go.Proofs.Try.prog 94 := ⟨fits_st (by kernel_rfl : (Go.Proofs.Try.prog.underlying 94).map stOf = some [(2, 0), (89, 1), (90, 17), (92, 273)]) (by simp), by kernel_rfl, (fun i h => match i, h with | 0, _ => trivial | 1, _ => fun _ _ => ⟨rfl, trivial⟩ | 2, _ => fun _ _ => ⟨rfl, fun _ _ => ⟨rfl, trivial⟩⟩ | 3, _ => fun _ _ => ⟨rfl, fun _ _ => ⟨rfl, fun _ _ => ⟨rfl, trivial⟩⟩⟩ | j + 4, h => absurd h (by omega)), (fun i h => match i, h with | 0, _ => trivial | 1, _ => fun _ _ => trivial | 2, _ => fun _ _ => fun _ _ => trivial | 3, _ => fun _ _ => fun _ _ => fun _ _ => trivial | j + 4, h => absurd h (by omega)), (fun i h => match i, h with | 0, _ => trivial | 1, _ => fun _ _ => trivial | 2, _ => fun _ _ => fun _ _ => trivial | 3, _ => fun _ _ => fun _ _ => fun _ _ => trivial | j + 4, h => absurd h (by omega)), by rfl, by decide, by rfl, fun _ => by kernel_rfl⟩
theorem ti102_ok : ti102.ok Go.Proofs.Try.prog 102 := ⟨fits_st (by kernel_rfl : (Go.Proofs.Try.prog.underlying 102).map stOf = some [(2, 0), (92, 1), (90, 4097)]) (by simp), by kernel_rfl, (fun i h => match i, h with | 0, _ => trivial | 1, _ => fun _ _ => ⟨rfl, fun _ _ => ⟨rfl, fun _ _ => ⟨rfl, trivial⟩⟩⟩ | 2, _ => fun _ _ => ⟨rfl, fun _ _ => ⟨rfl, trivial⟩⟩ | j + 3, h => absurd h (by omega)), (fun i h => match i, h with | 0, _ => trivial | 1, _ => fun _ _ => fun _ _ => fun _ _ => trivial | 2, _ => fun _ _ => fun _ _ => trivial | j + 3, h => absurd h (by omega)), (fun i h => match i, h with | 0, _ => trivial | 1, _ => fun _ _ => fun _ _ => fun _ _ => trivial | 2, _ => fun _ _ => fun _ _ => trivial | j + 3, h => absurd h (by omega)), by rfl, by decide, by rfl, fun _ => by kernel_rfl⟩
theorem ti103_ok : ti103.ok Go.Proofs.Try.prog 103 := ⟨fits_st (by kernel_rfl : (Go.Proofs.Try.prog.underlying 103).map stOf = some [(2, 0), (92, 1), (90, 4097)]) (by simp), by kernel_rfl, (fun i h => match i, h with | 0, _ => trivial | 1, _ => fun _ _ => ⟨rfl, fun _ _ => ⟨rfl, fun _ _ => ⟨rfl, trivial⟩⟩⟩ | 2, _ => fun _ _ => ⟨rfl, fun _ _ => ⟨rfl, trivial⟩⟩ | j + 3, h => absurd h (by omega)), (fun i h => match i, h with | 0, _ => trivial | 1, _ => fun _ _ => fun _ _ => fun _ _ => trivial | 2, _ => fun _ _ => fun _ _ => trivial | j + 3, h => absurd h (by omega)), (fun i h => match i, h with | 0, _ => trivial | 1, _ => fun _ _ => fun _ _ => fun _ _ => trivial | 2, _ => fun _ _ => fun _ _ => trivial | j + 3, h => absurd h (by omega)), by rfl, by decide, by rfl, fun _ => by kernel_rfl⟩
theorem ti105_ok : ti105.ok Go.Proofs.Try.prog 105 := ⟨(by kernel_rfl : Go.Proofs.Try.prog.underlying 105 = some (.array 16 2)), by kernel_rfl, fun _ _ => ⟨rfl, trivial⟩, fun _ _ => trivial, fun _ _ => trivial, by rfl, by decide, by rfl, fun _ => by kernel_rfl⟩
theorem ti108_ok : ti108.ok Go.Proofs.Try.prog 108 := ⟨(by kernel_rfl : Go.Proofs.Try.prog.underlying 108 = some (.int .u64)), by kernel_rfl, trivial, trivial, trivial, by rfl, by decide, by rfl, fun h => by cases h⟩
theorem ti114_ok : ti114.ok Go.Proofs.Try.prog 114 := ⟨(by kernel_rfl : Go.Proofs.Try.prog.underlying 114 = some (.array 17 2)), by kernel_rfl, fun _ _ => ⟨rfl, trivial⟩, fun _ _ => trivial, fun _ _ => trivial, by rfl, by decide, by rfl, fun _ => by kernel_rfl⟩
theorem ti119_ok : ti119.ok Go.Proofs.Try.prog 119 := ⟨(by kernel_rfl : Go.Proofs.Try.prog.underlying 119 = some (.slice 5)), by kernel_rfl, trivial, trivial, trivial, by rfl, by decide, by rfl, fun h => by cases h⟩
theorem ti124_ok : ti124.ok Go.Proofs.Try.prog 124 := ⟨(by kernel_rfl : Go.Proofs.Try.prog.underlying 124 = some (.int .u64)), by kernel_rfl, trivial, trivial, trivial, by rfl, by decide, by rfl, fun h => by cases h⟩
theorem ti129_ok : ti129.ok Go.Proofs.Try.prog 129 := ⟨(by kernel_rfl : Go.Proofs.Try.prog.underlying 129 = some (.int .i64)), by kernel_rfl, trivial, trivial, trivial, by rfl, by decide, by rfl, fun h => by cases h⟩
theorem ti139_ok : ti139.ok Go.Proofs.Try.prog 139 := ⟨(by kernel_rfl : Go.Proofs.Try.prog.underlying 139 = some (.int .u64)), by kernel_rfl, trivial, trivial, trivial, by rfl, by decide, by rfl, fun h => by cases h⟩
theorem ti143_ok : ti143.ok Go.Proofs.Try.prog 143 := ⟨(by kernel_rfl : Go.Proofs.Try.prog.underlying 143 = some (.pointer 3)), by kernel_rfl, trivial, trivial, trivial, by rfl, by decide, by rfl, fun h => by cases h⟩
theorem ti151_ok : ti151.ok Go.Proofs.Try.prog 151 := ⟨(by kernel_rfl : Go.Proofs.Try.prog.underlying 151 = some (.pointer 139)), by kernel_rfl, trivial, trivial, trivial, by rfl, by decide, by rfl, fun h => by cases h⟩
theorem ti167_ok : ti167.ok Go.Proofs.Try.prog 167 := ⟨(by kernel_rfl : Go.Proofs.Try.prog.underlying 167 = some (.pointer 5)), by kernel_rfl, trivial, trivial, trivial, by rfl, by decide, by rfl, fun h => by cases h⟩

theorem tok : TOK Go.Proofs.Try.prog T := by
  intro t i h
  unfold T at h
  split at h
  · cases h; exact ti2_ok
  · cases h; exact ti3_ok
  · cases h; exact ti4_ok
  · cases h; exact ti5_ok
  · cases h; exact ti9_ok
  · cases h; exact ti21_ok
  · cases h; exact ti22_ok
  · cases h; exact ti23_ok
  · cases h; exact ti24_ok
  · cases h; exact ti27_ok
  · cases h; exact ti28_ok
  · cases h; exact ti29_ok
  · cases h; exact ti37_ok
  · cases h; exact ti47_ok
  · cases h; exact ti55_ok
  · cases h; exact ti57_ok
  · cases h; exact ti67_ok
  · cases h; exact ti68_ok
  · cases h; exact ti69_ok
  · cases h; exact ti88_ok
  · cases h; exact ti89_ok
  · cases h; exact ti90_ok
  · cases h; exact ti91_ok
  · cases h; exact ti92_ok
  · cases h; exact ti93_ok
  · cases h; exact ti94_ok
  · cases h; exact ti102_ok
  · cases h; exact ti103_ok
  · cases h; exact ti105_ok
  · cases h; exact ti108_ok
  · cases h; exact ti114_ok
  · cases h; exact ti119_ok
  · cases h; exact ti124_ok
  · cases h; exact ti129_ok
  · cases h; exact ti139_ok
  · cases h; exact ti143_ok
  · cases h; exact ti151_ok
  · cases h; exact ti167_ok
  · cases h

end Go.Proofs.Ytokhjhkicledmaa.DM
