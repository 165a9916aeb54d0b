/- The types that the functions use, for the data machine (printed by a program of this work). -/
import Derived.Test.YtlmphggfokoeiaaDoorD12
import Derived.Test.YtlmphggfokoeiaaDoorProg
import Derived.KernelRfl
namespace Go.Proofs.YtlmphggfokoeiaaDoor.DM
open Go.RowKit

/-- int64 -/
def ti2 : TI := ⟨.int .i64, 1, 8, .i .i64 0⟩
/-- int -/
def ti3 : TI := ⟨.int .i64, 1, 8, .i .i64 0⟩
/-- bool -/
def ti4 : TI := ⟨.bool, 1, 1, .b false⟩
/-- uint8 -/
def ti5 : TI := ⟨.int .u8, 1, 1, .i .u8 0⟩
/-- string -/
def ti9 : TI := ⟨.str, 1, 16, .s ⟨#[]⟩⟩
/-- int32 -/
def ti21 : TI := ⟨.int .i32, 1, 4, .i .i32 0⟩
/-- [16]uint8 -/
def ti22 : TI := ⟨.arr 16 5, 16, 16, .ar 16 1 (fun _ => .i .u8 0)⟩
/-- struct ( Darts int64; Black [16]uint8; White [16]uint8 ) -/
def ti23 : TI := ⟨.st [(2, 0), (22, 1), (22, 17)], 33, 40, .st 3 (fun i => match i with | 0 => .i .i64 0 | 1 => .ar 16 1 (fun _ => .i .u8 0) | 2 => .ar 16 1 (fun _ => .i .u8 0) | _ => .un)⟩
/-- laws.Dessin -/
def ti24 : TI := ⟨.st [(2, 0), (22, 1), (22, 17)], 33, 40, .st 3 (fun i => match i with | 0 => .i .i64 0 | 1 => .ar 16 1 (fun _ => .i .u8 0) | 2 => .ar 16 1 (fun _ => .i .u8 0) | _ => .un)⟩
/-- impl.Places -/
def ti27 : TI := ⟨.arr 16 5, 16, 16, .ar 16 1 (fun _ => .i .u8 0)⟩
/-- struct ( Darts int64; Black impl.Places; White impl.Places ) -/
def ti28 : TI := ⟨.st [(2, 0), (27, 1), (27, 17)], 33, 40, .st 3 (fun i => match i with | 0 => .i .i64 0 | 1 => .ar 16 1 (fun _ => .i .u8 0) | 2 => .ar 16 1 (fun _ => .i .u8 0) | _ => .un)⟩
/-- impl.Dessin -/
def ti29 : TI := ⟨.st [(2, 0), (27, 1), (27, 17)], 33, 40, .st 3 (fun i => match i with | 0 => .i .i64 0 | 1 => .ar 16 1 (fun _ => .i .u8 0) | 2 => .ar 16 1 (fun _ => .i .u8 0) | _ => .un)⟩
/-- []int64 -/
def ti46 : TI := ⟨.slice 2, 1, 24, .ns⟩
/-- [17]int64 -/
def ti59 : TI := ⟨.arr 17 2, 17, 136, .ar 17 1 (fun _ => .i .i64 0)⟩
/-- [][]int64 -/
def ti60 : TI := ⟨.slice 46, 1, 24, .ns⟩
/-- [16]bool -/
def ti64 : TI := ⟨.arr 16 4, 16, 16, .ar 16 1 (fun _ => .b false)⟩
/-- []uint8 -/
def ti65 : TI := ⟨.slice 5, 1, 24, .ns⟩
/-- []impl.Places -/
def ti68 : TI := ⟨.slice 27, 1, 24, .ns⟩
/-- [256]bool -/
def ti72 : TI := ⟨.arr 256 4, 256, 256, .ar 256 1 (fun _ => .b false)⟩
/-- strings.asciiSet -/
def ti73 : TI := ⟨.arr 256 4, 256, 256, .ar 256 1 (fun _ => .b false)⟩
/-- *strings.asciiSet -/
def ti77 : TI := ⟨.ptr 73, 1, 8, .np⟩
/-- []string -/
def ti79 : TI := ⟨.slice 9, 1, 24, .ns⟩
/-- [24]uint8 -/
def ti87 : TI := ⟨.arr 24 5, 24, 24, .ar 24 1 (fun _ => .i .u8 0)⟩
/-- uint64 -/
def ti88 : TI := ⟨.int .u64, 1, 8, .i .u64 0⟩
/-- *strings.Builder -/
def ti93 : TI := ⟨.ptr 95, 1, 8, .np⟩
/-- struct ( addr *strings.Builder; buf []uint8 ) -/
def ti94 : TI := ⟨.st [(93, 0), (65, 1)], 2, 32, .st 2 (fun i => match i with | 0 => .np | 1 => .ns | _ => .un)⟩
/-- strings.Builder -/
def ti95 : TI := ⟨.st [(93, 0), (65, 1)], 2, 32, .st 2 (fun i => match i with | 0 => .np | 1 => .ns | _ => .un)⟩
/-- uint -/
def ti105 : TI := ⟨.int .u64, 1, 8, .i .u64 0⟩
/-- [20]uint64 -/
def ti108 : TI := ⟨.arr 20 88, 20, 160, .ar 20 1 (fun _ => .i .u64 0)⟩
/-- uint32 -/
def ti109 : TI := ⟨.int .u32, 1, 4, .i .u32 0⟩
/-- [65]uint8 -/
def ti110 : TI := ⟨.arr 65 5, 65, 65, .ar 65 1 (fun _ => .i .u8 0)⟩
/-- *uint8 -/
def ti112 : TI := ⟨.ptr 5, 1, 8, .np⟩
/-- [256]uint8 -/
def ti113 : TI := ⟨.arr 256 5, 256, 256, .ar 256 1 (fun _ => .i .u8 0)⟩
/-- struct ( lo uint8; hi uint8 ) -/
def ti114 : TI := ⟨.st [(5, 0), (5, 1)], 2, 2, .st 2 (fun i => match i with | 0 => .i .u8 0 | 1 => .i .u8 0 | _ => .un)⟩
/-- utf8.acceptRange -/
def ti115 : TI := ⟨.st [(5, 0), (5, 1)], 2, 2, .st 2 (fun i => match i with | 0 => .i .u8 0 | 1 => .i .u8 0 | _ => .un)⟩
/-- [16]utf8.acceptRange -/
def ti116 : TI := ⟨.arr 16 115, 32, 32, .ar 16 2 (fun _ => .st 2 (fun i => match i with | 0 => .i .u8 0 | 1 => .i .u8 0 | _ => .un))⟩
/-- slices.sortedHint -/
def ti121 : TI := ⟨.int .i64, 1, 8, .i .i64 0⟩
/-- slices.xorshift -/
def ti133 : TI := ⟨.int .u64, 1, 8, .i .u64 0⟩
/-- *int -/
def ti137 : TI := ⟨.ptr 3, 1, 8, .np⟩
/-- [32]uint8 -/
def ti139 : TI := ⟨.arr 32 5, 32, 32, .ar 32 1 (fun _ => .i .u8 0)⟩
/-- [64]uint8 -/
def ti140 : TI := ⟨.arr 64 5, 64, 64, .ar 64 1 (fun _ => .i .u8 0)⟩
/-- *slices.xorshift -/
def ti141 : TI := ⟨.ptr 133, 1, 8, .np⟩

def T : TyEnv := fun t => match t with
  | 2 => some ti2
  | 3 => some ti3
  | 4 => some ti4
  | 5 => some ti5
  | 9 => some ti9
  | 21 => some ti21
  | 22 => some ti22
  | 23 => some ti23
  | 24 => some ti24
  | 27 => some ti27
  | 28 => some ti28
  | 29 => some ti29
  | 46 => some ti46
  | 59 => some ti59
  | 60 => some ti60
  | 64 => some ti64
  | 65 => some ti65
  | 68 => some ti68
  | 72 => some ti72
  | 73 => some ti73
  | 77 => some ti77
  | 79 => some ti79
  | 87 => some ti87
  | 88 => some ti88
  | 93 => some ti93
  | 94 => some ti94
  | 95 => some ti95
  | 105 => some ti105
  | 108 => some ti108
  | 109 => some ti109
  | 110 => some ti110
  | 112 => some ti112
  | 113 => some ti113
  | 114 => some ti114
  | 115 => some ti115
  | 116 => some ti116
  | 121 => some ti121
  | 133 => some ti133
  | 137 => some ti137
  | 139 => some ti139
  | 140 => some ti140
  | 141 => some ti141
  | _ => none

theorem ti2_ok : ti2.ok Go.Proofs.Tryd.prog 2 := ⟨(by kernel_rfl : Go.Proofs.Tryd.prog.underlying 2 = some (.int .i64)), by kernel_rfl, trivial, trivial, trivial, by rfl, by decide, by rfl, fun h => by cases h⟩
theorem ti3_ok : ti3.ok Go.Proofs.Tryd.prog 3 := ⟨(by kernel_rfl : Go.Proofs.Tryd.prog.underlying 3 = some (.int .i64)), by kernel_rfl, trivial, trivial, trivial, by rfl, by decide, by rfl, fun h => by cases h⟩
theorem ti4_ok : ti4.ok Go.Proofs.Tryd.prog 4 := ⟨(by kernel_rfl : Go.Proofs.Tryd.prog.underlying 4 = some (.bool)), by kernel_rfl, trivial, trivial, trivial, by rfl, by decide, by rfl, fun h => by cases h⟩
theorem ti5_ok : ti5.ok Go.Proofs.Tryd.prog 5 := ⟨(by kernel_rfl : Go.Proofs.Tryd.prog.underlying 5 = some (.int .u8)), by kernel_rfl, trivial, trivial, trivial, by rfl, by decide, by rfl, fun h => by cases h⟩
theorem ti9_ok : ti9.ok Go.Proofs.Tryd.prog 9 := ⟨(by kernel_rfl : Go.Proofs.Tryd.prog.underlying 9 = some (.string)), by kernel_rfl, trivial, trivial, trivial, by rfl, by decide, by rfl, fun h => by cases h⟩
theorem ti21_ok : ti21.ok Go.Proofs.Tryd.prog 21 := ⟨(by kernel_rfl : Go.Proofs.Tryd.prog.underlying 21 = some (.int .i32)), by kernel_rfl, trivial, trivial, trivial, by rfl, by decide, by rfl, fun h => by cases h⟩
theorem ti22_ok : ti22.ok Go.Proofs.Tryd.prog 22 := ⟨(by kernel_rfl : Go.Proofs.Tryd.prog.underlying 22 = some (.array 16 5)), by kernel_rfl, fun _ _ => ⟨rfl, trivial⟩, fun _ _ => trivial, fun _ _ => trivial, by rfl, by decide, by rfl, fun _ => by kernel_rfl⟩
theorem ti23_ok : ti23.ok Go.Proofs.Tryd.prog 23 := ⟨fits_st (by kernel_rfl : (Go.Proofs.Tryd.prog.underlying 23).map stOf = some [(2, 0), (22, 1), (22, 17)]) (by simp), by kernel_rfl, (fun i h => match i, h with | 0, _ => trivial | 1, _ => fun _ _ => ⟨rfl, trivial⟩ | 2, _ => fun _ _ => ⟨rfl, trivial⟩ | j + 3, h => absurd h (by omega)), (fun i h => match i, h with | 0, _ => trivial | 1, _ => fun _ _ => trivial | 2, _ => fun _ _ => trivial | j + 3, h => absurd h (by omega)), (fun i h => match i, h with | 0, _ => trivial | 1, _ => fun _ _ => trivial | 2, _ => fun _ _ => trivial | j + 3, h => absurd h (by omega)), by rfl, by decide, by rfl, fun _ => by kernel_rfl⟩
theorem ti24_ok : ti24.ok Go.Proofs.Tryd.prog 24 := ⟨fits_st (by kernel_rfl : (Go.Proofs.Tryd.prog.underlying 24).map stOf = some [(2, 0), (22, 1), (22, 17)]) (by simp), by kernel_rfl, (fun i h => match i, h with | 0, _ => trivial | 1, _ => fun _ _ => ⟨rfl, trivial⟩ | 2, _ => fun _ _ => ⟨rfl, trivial⟩ | j + 3, h => absurd h (by omega)), (fun i h => match i, h with | 0, _ => trivial | 1, _ => fun _ _ => trivial | 2, _ => fun _ _ => trivial | j + 3, h => absurd h (by omega)), (fun i h => match i, h with | 0, _ => trivial | 1, _ => fun _ _ => trivial | 2, _ => fun _ _ => trivial | j + 3, h => absurd h (by omega)), by rfl, by decide, by rfl, fun _ => by kernel_rfl⟩
theorem ti27_ok : ti27.ok Go.Proofs.Tryd.prog 27 := ⟨(by kernel_rfl : Go.Proofs.Tryd.prog.underlying 27 = some (.array 16 5)), by kernel_rfl, fun _ _ => ⟨rfl, trivial⟩, fun _ _ => trivial, fun _ _ => trivial, by rfl, by decide, by rfl, fun _ => by kernel_rfl⟩
theorem ti28_ok : ti28.ok Go.Proofs.Tryd.prog 28 := ⟨fits_st (by kernel_rfl : (Go.Proofs.Tryd.prog.underlying 28).map stOf = some [(2, 0), (27, 1), (27, 17)]) (by simp), by kernel_rfl, (fun i h => match i, h with | 0, _ => trivial | 1, _ => fun _ _ => ⟨rfl, trivial⟩ | 2, _ => fun _ _ => ⟨rfl, trivial⟩ | j + 3, h => absurd h (by omega)), (fun i h => match i, h with | 0, _ => trivial | 1, _ => fun _ _ => trivial | 2, _ => fun _ _ => trivial | j + 3, h => absurd h (by omega)), (fun i h => match i, h with | 0, _ => trivial | 1, _ => fun _ _ => trivial | 2, _ => fun _ _ => trivial | j + 3, h => absurd h (by omega)), by rfl, by decide, by rfl, fun _ => by kernel_rfl⟩
theorem ti29_ok : ti29.ok Go.Proofs.Tryd.prog 29 := ⟨fits_st (by kernel_rfl : (Go.Proofs.Tryd.prog.underlying 29).map stOf = some [(2, 0), (27, 1), (27, 17)]) (by simp), by kernel_rfl, (fun i h => match i, h with | 0, _ => trivial | 1, _ => fun _ _ => ⟨rfl, trivial⟩ | 2, _ => fun _ _ => ⟨rfl, trivial⟩ | j + 3, h => absurd h (by omega)), (fun i h => match i, h with | 0, _ => trivial | 1, _ => fun _ _ => trivial | 2, _ => fun _ _ => trivial | j + 3, h => absurd h (by omega)), (fun i h => match i, h with | 0, _ => trivial | 1, _ => fun _ _ => trivial | 2, _ => fun _ _ => trivial | j + 3, h => absurd h (by omega)), by rfl, by decide, by rfl, fun _ => by kernel_rfl⟩
theorem ti46_ok : ti46.ok Go.Proofs.Tryd.prog 46 := ⟨(by kernel_rfl : Go.Proofs.Tryd.prog.underlying 46 = some (.slice 2)), by kernel_rfl, trivial, trivial, trivial, by rfl, by decide, by rfl, fun h => by cases h⟩
theorem ti59_ok : ti59.ok Go.Proofs.Tryd.prog 59 := ⟨(by kernel_rfl : Go.Proofs.Tryd.prog.underlying 59 = some (.array 17 2)), by kernel_rfl, fun _ _ => ⟨rfl, trivial⟩, fun _ _ => trivial, fun _ _ => trivial, by rfl, by decide, by rfl, fun _ => by kernel_rfl⟩
theorem ti60_ok : ti60.ok Go.Proofs.Tryd.prog 60 := ⟨(by kernel_rfl : Go.Proofs.Tryd.prog.underlying 60 = some (.slice 46)), by kernel_rfl, trivial, trivial, trivial, by rfl, by decide, by rfl, fun h => by cases h⟩
theorem ti64_ok : ti64.ok Go.Proofs.Tryd.prog 64 := ⟨(by kernel_rfl : Go.Proofs.Tryd.prog.underlying 64 = some (.array 16 4)), by kernel_rfl, fun _ _ => ⟨rfl, trivial⟩, fun _ _ => trivial, fun _ _ => trivial, by rfl, by decide, by rfl, fun _ => by kernel_rfl⟩
theorem ti65_ok : ti65.ok Go.Proofs.Tryd.prog 65 := ⟨(by kernel_rfl : Go.Proofs.Tryd.prog.underlying 65 = some (.slice 5)), by kernel_rfl, trivial, trivial, trivial, by rfl, by decide, by rfl, fun h => by cases h⟩
theorem ti68_ok : ti68.ok Go.Proofs.Tryd.prog 68 := ⟨(by kernel_rfl : Go.Proofs.Tryd.prog.underlying 68 = some (.slice 27)), by kernel_rfl, trivial, trivial, trivial, by rfl, by decide, by rfl, fun h => by cases h⟩
theorem ti72_ok : ti72.ok Go.Proofs.Tryd.prog 72 := ⟨(by kernel_rfl : Go.Proofs.Tryd.prog.underlying 72 = some (.array 256 4)), by kernel_rfl, fun _ _ => ⟨rfl, trivial⟩, fun _ _ => trivial, fun _ _ => trivial, by rfl, by decide, by rfl, fun _ => by kernel_rfl⟩
theorem ti73_ok : ti73.ok Go.Proofs.Tryd.prog 73 := ⟨(by kernel_rfl : Go.Proofs.Tryd.prog.underlying 73 = some (.array 256 4)), by kernel_rfl, fun _ _ => ⟨rfl, trivial⟩, fun _ _ => trivial, fun _ _ => trivial, by rfl, by decide, by rfl, fun _ => by kernel_rfl⟩
theorem ti77_ok : ti77.ok Go.Proofs.Tryd.prog 77 := ⟨(by kernel_rfl : Go.Proofs.Tryd.prog.underlying 77 = some (.pointer 73)), by kernel_rfl, trivial, trivial, trivial, by rfl, by decide, by rfl, fun h => by cases h⟩
theorem ti79_ok : ti79.ok Go.Proofs.Tryd.prog 79 := ⟨(by kernel_rfl : Go.Proofs.Tryd.prog.underlying 79 = some (.slice 9)), by kernel_rfl, trivial, trivial, trivial, by rfl, by decide, by rfl, fun h => by cases h⟩
theorem ti87_ok : ti87.ok Go.Proofs.Tryd.prog 87 := ⟨(by kernel_rfl : Go.Proofs.Tryd.prog.underlying 87 = some (.array 24 5)), by kernel_rfl, fun _ _ => ⟨rfl, trivial⟩, fun _ _ => trivial, fun _ _ => trivial, by rfl, by decide, by rfl, fun _ => by kernel_rfl⟩
theorem ti88_ok : ti88.ok Go.Proofs.Tryd.prog 88 := ⟨(by kernel_rfl : Go.Proofs.Tryd.prog.underlying 88 = some (.int .u64)), by kernel_rfl, trivial, trivial, trivial, by rfl, by decide, by rfl, fun h => by cases h⟩
theorem ti93_ok : ti93.ok Go.Proofs.Tryd.prog 93 := ⟨(by kernel_rfl : Go.Proofs.Tryd.prog.underlying 93 = some (.pointer 95)), by kernel_rfl, trivial, trivial, trivial, by rfl, by decide, by rfl, fun h => by cases h⟩
theorem ti94_ok : ti94.ok Go.Proofs.Tryd.prog 94 := ⟨fits_st (by kernel_rfl : (Go.Proofs.Tryd.prog.underlying 94).map stOf = some [(93, 0), (65, 1)]) (by simp), by kernel_rfl, (fun i h => match i, h with | 0, _ => trivial | 1, _ => trivial | j + 2, h => absurd h (by omega)), (fun i h => match i, h with | 0, _ => trivial | 1, _ => trivial | j + 2, h => absurd h (by omega)), (fun i h => match i, h with | 0, _ => trivial | 1, _ => trivial | j + 2, h => absurd h (by omega)), by rfl, by decide, by rfl, fun _ => by kernel_rfl⟩
theorem ti95_ok : ti95.ok Go.Proofs.Tryd.prog 95 := ⟨fits_st (by kernel_rfl : (Go.Proofs.Tryd.prog.underlying 95).map stOf = some [(93, 0), (65, 1)]) (by simp), by kernel_rfl, (fun i h => match i, h with | 0, _ => trivial | 1, _ => trivial | j + 2, h => absurd h (by omega)), (fun i h => match i, h with | 0, _ => trivial | 1, _ => trivial | j + 2, h => absurd h (by omega)), (fun i h => match i, h with | 0, _ => trivial | 1, _ => trivial | j + 2, h => absurd h (by omega)), by rfl, by decide, by rfl, fun _ => by kernel_rfl⟩
theorem ti105_ok : ti105.ok Go.Proofs.Tryd.prog 105 := ⟨(by kernel_rfl : Go.Proofs.Tryd.prog.underlying 105 = some (.int .u64)), by kernel_rfl, trivial, trivial, trivial, by rfl, by decide, by rfl, fun h => by cases h⟩
theorem ti108_ok : ti108.ok Go.Proofs.Tryd.prog 108 := ⟨(by kernel_rfl : Go.Proofs.Tryd.prog.underlying 108 = some (.array 20 88)), by kernel_rfl, fun _ _ => ⟨rfl, trivial⟩, fun _ _ => trivial, fun _ _ => trivial, by rfl, by decide, by rfl, fun _ => by kernel_rfl⟩
theorem ti109_ok : ti109.ok Go.Proofs.Tryd.prog 109 := ⟨(by kernel_rfl : Go.Proofs.Tryd.prog.underlying 109 = some (.int .u32)), by kernel_rfl, trivial, trivial, trivial, by rfl, by decide, by rfl, fun h => by cases h⟩
theorem ti110_ok : ti110.ok Go.Proofs.Tryd.prog 110 := ⟨(by kernel_rfl : Go.Proofs.Tryd.prog.underlying 110 = some (.array 65 5)), by kernel_rfl, fun _ _ => ⟨rfl, trivial⟩, fun _ _ => trivial, fun _ _ => trivial, by rfl, by decide, by rfl, fun _ => by kernel_rfl⟩
theorem ti112_ok : ti112.ok Go.Proofs.Tryd.prog 112 := ⟨(by kernel_rfl : Go.Proofs.Tryd.prog.underlying 112 = some (.pointer 5)), by kernel_rfl, trivial, trivial, trivial, by rfl, by decide, by rfl, fun h => by cases h⟩
theorem ti113_ok : ti113.ok Go.Proofs.Tryd.prog 113 := ⟨(by kernel_rfl : Go.Proofs.Tryd.prog.underlying 113 = some (.array 256 5)), by kernel_rfl, fun _ _ => ⟨rfl, trivial⟩, fun _ _ => trivial, fun _ _ => trivial, by rfl, by decide, by rfl, fun _ => by kernel_rfl⟩
theorem ti114_ok : ti114.ok Go.Proofs.Tryd.prog 114 := ⟨fits_st (by kernel_rfl : (Go.Proofs.Tryd.prog.underlying 114).map stOf = some [(5, 0), (5, 1)]) (by simp), by kernel_rfl, (fun i h => match i, h with | 0, _ => trivial | 1, _ => trivial | j + 2, h => absurd h (by omega)), (fun i h => match i, h with | 0, _ => trivial | 1, _ => trivial | j + 2, h => absurd h (by omega)), (fun i h => match i, h with | 0, _ => trivial | 1, _ => trivial | j + 2, h => absurd h (by omega)), by rfl, by decide, by rfl, fun _ => by kernel_rfl⟩
theorem ti115_ok : ti115.ok Go.Proofs.Tryd.prog 115 := ⟨fits_st (by kernel_rfl : (Go.Proofs.Tryd.prog.underlying 115).map stOf = some [(5, 0), (5, 1)]) (by simp), by kernel_rfl, (fun i h => match i, h with | 0, _ => trivial | 1, _ => trivial | j + 2, h => absurd h (by omega)), (fun i h => match i, h with | 0, _ => trivial | 1, _ => trivial | j + 2, h => absurd h (by omega)), (fun i h => match i, h with | 0, _ => trivial | 1, _ => trivial | j + 2, h => absurd h (by omega)), by rfl, by decide, by rfl, fun _ => by kernel_rfl⟩
theorem ti116_ok : ti116.ok Go.Proofs.Tryd.prog 116 := ⟨(by kernel_rfl : Go.Proofs.Tryd.prog.underlying 116 = some (.array 16 115)), by kernel_rfl, fun _ _ => ⟨rfl, (fun i h => match i, h with | 0, _ => trivial | 1, _ => trivial | j + 2, h => absurd h (by omega))⟩, fun _ _ => (fun i h => match i, h with | 0, _ => trivial | 1, _ => trivial | j + 2, h => absurd h (by omega)), fun _ _ => (fun i h => match i, h with | 0, _ => trivial | 1, _ => trivial | j + 2, h => absurd h (by omega)), by rfl, by decide, by rfl, fun _ => by kernel_rfl⟩
theorem ti121_ok : ti121.ok Go.Proofs.Tryd.prog 121 := ⟨(by kernel_rfl : Go.Proofs.Tryd.prog.underlying 121 = some (.int .i64)), by kernel_rfl, trivial, trivial, trivial, by rfl, by decide, by rfl, fun h => by cases h⟩
theorem ti133_ok : ti133.ok Go.Proofs.Tryd.prog 133 := ⟨(by kernel_rfl : Go.Proofs.Tryd.prog.underlying 133 = some (.int .u64)), by kernel_rfl, trivial, trivial, trivial, by rfl, by decide, by rfl, fun h => by cases h⟩
theorem ti137_ok : ti137.ok Go.Proofs.Tryd.prog 137 := ⟨(by kernel_rfl : Go.Proofs.Tryd.prog.underlying 137 = some (.pointer 3)), by kernel_rfl, trivial, trivial, trivial, by rfl, by decide, by rfl, fun h => by cases h⟩
theorem ti139_ok : ti139.ok Go.Proofs.Tryd.prog 139 := ⟨(by kernel_rfl : Go.Proofs.Tryd.prog.underlying 139 = some (.array 32 5)), by kernel_rfl, fun _ _ => ⟨rfl, trivial⟩, fun _ _ => trivial, fun _ _ => trivial, by rfl, by decide, by rfl, fun _ => by kernel_rfl⟩
theorem ti140_ok : ti140.ok Go.Proofs.Tryd.prog 140 := ⟨(by kernel_rfl : Go.Proofs.Tryd.prog.underlying 140 = some (.array 64 5)), by kernel_rfl, fun _ _ => ⟨rfl, trivial⟩, fun _ _ => trivial, fun _ _ => trivial, by rfl, by decide, by rfl, fun _ => by kernel_rfl⟩
theorem ti141_ok : ti141.ok Go.Proofs.Tryd.prog 141 := ⟨(by kernel_rfl : Go.Proofs.Tryd.prog.underlying 141 = some (.pointer 133)), by kernel_rfl, trivial, trivial, trivial, by rfl, by decide, by rfl, fun h => by cases h⟩

theorem tok : TOK Go.Proofs.Tryd.prog T := by
  intro t i h
  unfold T at h
  split at h
  · cases h; exact ti2_ok
  · cases h; exact ti3_ok
  · cases h; exact ti4_ok
  · cases h; exact ti5_ok
  · cases h; exact ti9_ok
  · cases h; exact ti21_ok
  · cases h; exact ti22_ok
  · cases h; exact ti23_ok
  · cases h; exact ti24_ok
  · cases h; exact ti27_ok
  · cases h; exact ti28_ok
  · cases h; exact ti29_ok
  · cases h; exact ti46_ok
  · cases h; exact ti59_ok
  · cases h; exact ti60_ok
  · cases h; exact ti64_ok
  · cases h; exact ti65_ok
  · cases h; exact ti68_ok
  · cases h; exact ti72_ok
  · cases h; exact ti73_ok
  · cases h; exact ti77_ok
  · cases h; exact ti79_ok
  · cases h; exact ti87_ok
  · cases h; exact ti88_ok
  · cases h; exact ti93_ok
  · cases h; exact ti94_ok
  · cases h; exact ti95_ok
  · cases h; exact ti105_ok
  · cases h; exact ti108_ok
  · cases h; exact ti109_ok
  · cases h; exact ti110_ok
  · cases h; exact ti112_ok
  · cases h; exact ti113_ok
  · cases h; exact ti114_ok
  · cases h; exact ti115_ok
  · cases h; exact ti116_ok
  · cases h; exact ti121_ok
  · cases h; exact ti133_ok
  · cases h; exact ti137_ok
  · cases h; exact ti139_ok
  · cases h; exact ti140_ok
  · cases h; exact ti141_ok
  · cases h

end Go.Proofs.YtlmphggfokoeiaaDoor.DM
