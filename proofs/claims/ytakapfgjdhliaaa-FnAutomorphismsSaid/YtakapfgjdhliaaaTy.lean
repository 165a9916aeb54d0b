/- The types that the functions use, for the data machine (printed by a program of this work). -/
import Derived.Test.YtakapfgjdhliaaaD12
import Derived.Test.YtakapfgjdhliaaaProg
import Derived.KernelRfl
namespace Go.Proofs.Ytakapfgjdhliaaa.DM
open Go.RowKit

/-- int64 -/
def ti2 : TI := ⟨.int .i64, 1, 8, .i .i64 0⟩
/-- int -/
def ti3 : TI := ⟨.int .i64, 1, 8, .i .i64 0⟩
/-- bool -/
def ti4 : TI := ⟨.bool, 1, 1, .b false⟩
/-- uint8 -/
def ti5 : TI := ⟨.int .u8, 1, 1, .i .u8 0⟩
/-- string -/
def ti9 : TI := ⟨.str, 1, 16, .s ⟨#[]⟩⟩
/-- int32 -/
def ti21 : TI := ⟨.int .i32, 1, 4, .i .i32 0⟩
/-- []uint8 -/
def ti22 : TI := ⟨.slice 5, 1, 24, .ns⟩
/-- [16]uint8 -/
def ti24 : TI := ⟨.arr 16 5, 16, 16, .ar 16 1 (fun _ => .i .u8 0)⟩
/-- impl.Places -/
def ti25 : TI := ⟨.arr 16 5, 16, 16, .ar 16 1 (fun _ => .i .u8 0)⟩
/-- [][]int64 -/
def ti31 : TI := ⟨.slice 39, 1, 24, .ns⟩
/-- []int64 -/
def ti39 : TI := ⟨.slice 2, 1, 24, .ns⟩
/-- struct ( Darts int64; Black impl.Places; White impl.Places ) -/
def ti47 : TI := ⟨.st [(2, 0), (25, 1), (25, 17)], 33, 40, .st 3 (fun i => match i with | 0 => .i .i64 0 | 1 => .ar 16 1 (fun _ => .i .u8 0) | 2 => .ar 16 1 (fun _ => .i .u8 0) | _ => .un)⟩
/-- impl.Dessin -/
def ti48 : TI := ⟨.st [(2, 0), (25, 1), (25, 17)], 33, 40, .st 3 (fun i => match i with | 0 => .i .i64 0 | 1 => .ar 16 1 (fun _ => .i .u8 0) | 2 => .ar 16 1 (fun _ => .i .u8 0) | _ => .un)⟩
/-- []impl.Places -/
def ti51 : TI := ⟨.slice 25, 1, 24, .ns⟩
/-- *spec.l01Source -/
def ti62 : TI := ⟨.ptr 88, 1, 8, .np⟩
/-- [16]bool -/
def ti69 : TI := ⟨.arr 16 4, 16, 16, .ar 16 1 (fun _ => .b false)⟩
/-- uint64 -/
def ti86 : TI := ⟨.int .u64, 1, 8, .i .u64 0⟩
/-- struct ( code []uint8; at int; hash uint64 ) -/
def ti87 : TI := ⟨.st [(22, 0), (3, 1), (86, 2)], 3, 40, .st 3 (fun i => match i with | 0 => .ns | 1 => .i .i64 0 | 2 => .i .u64 0 | _ => .un)⟩
/-- spec.l01Source -/
def ti88 : TI := ⟨.st [(22, 0), (3, 1), (86, 2)], 3, 40, .st 3 (fun i => match i with | 0 => .ns | 1 => .i .i64 0 | 2 => .i .u64 0 | _ => .un)⟩
/-- [17]int64 -/
def ti91 : TI := ⟨.arr 17 2, 17, 136, .ar 17 1 (fun _ => .i .i64 0)⟩
/-- uint -/
def ti92 : TI := ⟨.int .u64, 1, 8, .i .u64 0⟩
/-- *impl.group -/
def ti100 : TI := ⟨.ptr 111, 1, 8, .np⟩
/-- [16]impl.Places -/
def ti107 : TI := ⟨.arr 16 25, 256, 256, .ar 16 16 (fun _ => .ar 16 1 (fun _ => .i .u8 0))⟩
/-- [16][16]impl.Places -/
def ti108 : TI := ⟨.arr 16 107, 4096, 4096, .ar 16 256 (fun _ => .ar 16 16 (fun _ => .ar 16 1 (fun _ => .i .u8 0)))⟩
/-- [16][16]bool -/
def ti109 : TI := ⟨.arr 16 69, 256, 256, .ar 16 16 (fun _ => .ar 16 1 (fun _ => .b false))⟩
/-- struct ( n int64; table [16][16]impl.Places; has [16][16]bool ) -/
def ti110 : TI := ⟨.st [(2, 0), (108, 1), (109, 4097)], 4353, 4360, .st 3 (fun i => match i with | 0 => .i .i64 0 | 1 => .ar 16 256 (fun _ => .ar 16 16 (fun _ => .ar 16 1 (fun _ => .i .u8 0))) | 2 => .ar 16 16 (fun _ => .ar 16 1 (fun _ => .b false)) | _ => .un)⟩
/-- impl.group -/
def ti111 : TI := ⟨.st [(2, 0), (108, 1), (109, 4097)], 4353, 4360, .st 3 (fun i => match i with | 0 => .i .i64 0 | 1 => .ar 16 256 (fun _ => .ar 16 16 (fun _ => .ar 16 1 (fun _ => .i .u8 0))) | 2 => .ar 16 16 (fun _ => .ar 16 1 (fun _ => .b false)) | _ => .un)⟩
/-- [2]uint8 -/
def ti117 : TI := ⟨.arr 2 5, 2, 2, .ar 2 1 (fun _ => .i .u8 0)⟩
/-- [][2]uint8 -/
def ti118 : TI := ⟨.slice 117, 1, 24, .ns⟩
/-- slices.sortedHint -/
def ti124 : TI := ⟨.int .i64, 1, 8, .i .i64 0⟩
/-- uint32 -/
def ti133 : TI := ⟨.int .u32, 1, 4, .i .u32 0⟩
/-- slices.xorshift -/
def ti137 : TI := ⟨.int .u64, 1, 8, .i .u64 0⟩
/-- *int -/
def ti141 : TI := ⟨.ptr 3, 1, 8, .np⟩
/-- *slices.xorshift -/
def ti147 : TI := ⟨.ptr 137, 1, 8, .np⟩
/-- *uint8 -/
def ti160 : TI := ⟨.ptr 5, 1, 8, .np⟩

def T : TyEnv := fun t => match t with
  | 2 => some ti2
  | 3 => some ti3
  | 4 => some ti4
  | 5 => some ti5
  | 9 => some ti9
  | 21 => some ti21
  | 22 => some ti22
  | 24 => some ti24
  | 25 => some ti25
  | 31 => some ti31
  | 39 => some ti39
  | 47 => some ti47
  | 48 => some ti48
  | 51 => some ti51
  | 62 => some ti62
  | 69 => some ti69
  | 86 => some ti86
  | 87 => some ti87
  | 88 => some ti88
  | 91 => some ti91
  | 92 => some ti92
  | 100 => some ti100
  | 107 => some ti107
  | 108 => some ti108
  | 109 => some ti109
  | 110 => some ti110
  | 111 => some ti111
  | 117 => some ti117
  | 118 => some ti118
  | 124 => some ti124
  | 133 => some ti133
  | 137 => some ti137
  | 141 => some ti141
  | 147 => some ti147
  | 160 => some ti160
  | _ => none

theorem ti2_ok : ti2.ok Go.Proofs.Try.prog 2 := ⟨(by kernel_rfl : Go.Proofs.Try.prog.underlying 2 = some (.int .i64)), by kernel_rfl, trivial, trivial, trivial, by rfl, by decide, by rfl, fun h => by cases h⟩
theorem ti3_ok : ti3.ok Go.Proofs.Try.prog 3 := ⟨(by kernel_rfl : Go.Proofs.Try.prog.underlying 3 = some (.int .i64)), by kernel_rfl, trivial, trivial, trivial, by rfl, by decide, by rfl, fun h => by cases h⟩
theorem ti4_ok : ti4.ok Go.Proofs.Try.prog 4 := ⟨(by kernel_rfl : Go.Proofs.Try.prog.underlying 4 = some (.bool)), by kernel_rfl, trivial, trivial, trivial, by rfl, by decide, by rfl, fun h => by cases h⟩
theorem ti5_ok : ti5.ok Go.Proofs.Try.prog 5 := ⟨(by kernel_rfl : Go.Proofs.Try.prog.underlying 5 = some (.int .u8)), by kernel_rfl, trivial, trivial, trivial, by rfl, by decide, by rfl, fun h => by cases h⟩
theorem ti9_ok : ti9.ok Go.Proofs.Try.prog 9 := ⟨(by kernel_rfl : Go.Proofs.Try.prog.underlying 9 = some (.string)), by kernel_rfl, trivial, trivial, trivial, by rfl, by decide, by rfl, fun h => by cases h⟩
theorem ti21_ok : ti21.ok Go.Proofs.Try.prog 21 := ⟨(by kernel_rfl : Go.Proofs.Try.prog.underlying 21 = some (.int .i32)), by kernel_rfl, trivial, trivial, trivial, by rfl, by decide, by rfl, fun h => by cases h⟩
theorem ti22_ok : ti22.ok Go.Proofs.Try.prog 22 := ⟨(by kernel_rfl : Go.Proofs.Try.prog.underlying 22 = some (.slice 5)), by kernel_rfl, trivial, trivial, trivial, by rfl, by decide, by rfl, fun h => by cases h⟩
theorem ti24_ok : ti24.ok Go.Proofs.Try.prog 24 := ⟨(by kernel_rfl : Go.Proofs.Try.prog.underlying 24 = some (.array 16 5)), by kernel_rfl, fun _ _ => ⟨rfl, trivial⟩, fun _ _ => trivial, fun _ _ => trivial, by rfl, by decide, by rfl, fun _ => by kernel_rfl⟩
theorem ti25_ok : ti25.ok Go.Proofs.Try.prog 25 := ⟨(by kernel_rfl : Go.Proofs.Try.prog.underlying 25 = some (.array 16 5)), by kernel_rfl, fun _ _ => ⟨rfl, trivial⟩, fun _ _ => trivial, fun _ _ => trivial, by rfl, by decide, by rfl, fun _ => by kernel_rfl⟩
theorem ti31_ok : ti31.ok Go.Proofs.Try.prog 31 := ⟨(by kernel_rfl : Go.Proofs.Try.prog.underlying 31 = some (.slice 39)), by kernel_rfl, trivial, trivial, trivial, by rfl, by decide, by rfl, fun h => by cases h⟩
theorem ti39_ok : ti39.ok Go.Proofs.Try.prog 39 := ⟨(by kernel_rfl : Go.Proofs.Try.prog.underlying 39 = some (.slice 2)), by kernel_rfl, trivial, trivial, trivial, by rfl, by decide, by rfl, fun h => by cases h⟩
theorem ti47_ok : ti47.ok Go.Proofs.Try.prog 47 := ⟨fits_st (by kernel_rfl : (Go.Proofs.Try.prog.underlying 47).map stOf = some [(2, 0), (25, 1), (25, 17)]) (by simp), by kernel_rfl, (fun i h => match i, h with | 0, _ => trivial | 1, _ => fun _ _ => ⟨rfl, trivial⟩ | 2, _ => fun _ _ => ⟨rfl, trivial⟩ | j + 3, h => absurd h (by omega)), (fun i h => match i, h with | 0, _ => trivial | 1, _ => fun _ _ => trivial | 2, _ => fun _ _ => trivial | j + 3, h => absurd h (by omega)), (fun i h => match i, h with | 0, _ => trivial | 1, _ => fun _ _ => trivial | 2, _ => fun _ _ => trivial | j + 3, h => absurd h (by omega)), by rfl, by decide, by rfl, fun _ => by kernel_rfl⟩
theorem ti48_ok : ti48.ok Go.Proofs.Try.prog 48 := ⟨fits_st (by kernel_rfl : (Go.Proofs.Try.prog.underlying 48).map stOf = some [(2, 0), (25, 1), (25, 17)]) (by simp), by kernel_rfl, (fun i h => match i, h with | 0, _ => trivial | 1, _ => fun _ _ => ⟨rfl, trivial⟩ | 2, _ => fun _ _ => ⟨rfl, trivial⟩ | j + 3, h => absurd h (by omega)), (fun i h => match i, h with | 0, _ => trivial | 1, _ => fun _ _ => trivial | 2, _ => fun _ _ => trivial | j + 3, h => absurd h (by omega)), (fun i h => match i, h with | 0, _ => trivial | 1, _ => fun _ _ => trivial | 2, _ => fun _ _ => trivial | j + 3, h => absurd h (by omega)), by rfl, by decide, by rfl, fun _ => by kernel_rfl⟩
theorem ti51_ok : ti51.ok Go.Proofs.Try.prog 51 := ⟨(by kernel_rfl : Go.Proofs.Try.prog.underlying 51 = some (.slice 25)), by kernel_rfl, trivial, trivial, trivial, by rfl, by decide, by rfl, fun h => by cases h⟩
theorem ti62_ok : ti62.ok Go.Proofs.Try.prog 62 := ⟨(by kernel_rfl : Go.Proofs.Try.prog.underlying 62 = some (.pointer 88)), by kernel_rfl, trivial, trivial, trivial, by rfl, by decide, by rfl, fun h => by cases h⟩
theorem ti69_ok : ti69.ok Go.Proofs.Try.prog 69 := ⟨(by kernel_rfl : Go.Proofs.Try.prog.underlying 69 = some (.array 16 4)), by kernel_rfl, fun _ _ => ⟨rfl, trivial⟩, fun _ _ => trivial, fun _ _ => trivial, by rfl, by decide, by rfl, fun _ => by kernel_rfl⟩
theorem ti86_ok : ti86.ok Go.Proofs.Try.prog 86 := ⟨(by kernel_rfl : Go.Proofs.Try.prog.underlying 86 = some (.int .u64)), by kernel_rfl, trivial, trivial, trivial, by rfl, by decide, by rfl, fun h => by cases h⟩
theorem ti87_ok : ti87.ok Go.Proofs.Try.prog 87 := ⟨fits_st (by kernel_rfl : (Go.Proofs.Try.prog.underlying 87).map stOf = some [(22, 0), (3, 1), (86, 2)]) (by simp), by kernel_rfl, (fun i h => match i, h with | 0, _ => trivial | 1, _ => trivial | 2, _ => trivial | j + 3, h => absurd h (by omega)), (fun i h => match i, h with | 0, _ => trivial | 1, _ => trivial | 2, _ => trivial | j + 3, h => absurd h (by omega)), (fun i h => match i, h with | 0, _ => trivial | 1, _ => trivial | 2, _ => trivial | j + 3, h => absurd h (by omega)), by rfl, by decide, by rfl, fun _ => by kernel_rfl⟩
theorem ti88_ok : ti88.ok Go.Proofs.Try.prog 88 := ⟨fits_st (by kernel_rfl : (Go.Proofs.Try.prog.underlying 88).map stOf = some [(22, 0), (3, 1), (86, 2)]) (by simp), by kernel_rfl, (fun i h => match i, h with | 0, _ => trivial | 1, _ => trivial | 2, _ => trivial | j + 3, h => absurd h (by omega)), (fun i h => match i, h with | 0, _ => trivial | 1, _ => trivial | 2, _ => trivial | j + 3, h => absurd h (by omega)), (fun i h => match i, h with | 0, _ => trivial | 1, _ => trivial | 2, _ => trivial | j + 3, h => absurd h (by omega)), by rfl, by decide, by rfl, fun _ => by kernel_rfl⟩
theorem ti91_ok : ti91.ok Go.Proofs.Try.prog 91 := ⟨(by kernel_rfl : Go.Proofs.Try.prog.underlying 91 = some (.array 17 2)), by kernel_rfl, fun _ _ => ⟨rfl, trivial⟩, fun _ _ => trivial, fun _ _ => trivial, by rfl, by decide, by rfl, fun _ => by kernel_rfl⟩
theorem ti92_ok : ti92.ok Go.Proofs.Try.prog 92 := ⟨(by kernel_rfl : Go.Proofs.Try.prog.underlying 92 = some (.int .u64)), by kernel_rfl, trivial, trivial, trivial, by rfl, by decide, by rfl, fun h => by cases h⟩
theorem ti100_ok : ti100.ok Go.Proofs.Try.prog 100 := ⟨(by kernel_rfl : Go.Proofs.Try.prog.underlying 100 = some (.pointer 111)), by kernel_rfl, trivial, trivial, trivial, by rfl, by decide, by rfl, fun h => by cases h⟩
theorem ti107_ok : ti107.ok Go.Proofs.Try.prog 107 := ⟨(by kernel_rfl : Go.Proofs.Try.prog.underlying 107 = some (.array 16 25)), by kernel_rfl, fun _ _ => ⟨rfl, fun _ _ => ⟨rfl, trivial⟩⟩, fun _ _ => fun _ _ => trivial, fun _ _ => fun _ _ => trivial, by rfl, by decide, by rfl, fun _ => by kernel_rfl⟩
theorem ti108_ok : ti108.ok Go.Proofs.Try.prog 108 := ⟨(by kernel_rfl : Go.Proofs.Try.prog.underlying 108 = some (.array 16 107)), by kernel_rfl, fun _ _ => ⟨rfl, fun _ _ => ⟨rfl, fun _ _ => ⟨rfl, trivial⟩⟩⟩, fun _ _ => fun _ _ => fun _ _ => trivial, fun _ _ => fun _ _ => fun _ _ => trivial, by rfl, by decide, by rfl, fun _ => by kernel_rfl⟩
theorem ti109_ok : ti109.ok Go.Proofs.Try.prog 109 := ⟨(by kernel_rfl : Go.Proofs.Try.prog.underlying 109 = some (.array 16 69)), by kernel_rfl, fun _ _ => ⟨rfl, fun _ _ => ⟨rfl, trivial⟩⟩, fun _ _ => fun _ _ => trivial, fun _ _ => fun _ _ => trivial, by rfl, by decide, by rfl, fun _ => by kernel_rfl⟩
theorem ti110_ok : ti110.ok Go.Proofs.Try.prog 110 := ⟨fits_st (by kernel_rfl : (Go.Proofs.Try.prog.underlying 110).map stOf = some [(2, 0), (108, 1), (109, 4097)]) (by simp), by kernel_rfl, (fun i h => match i, h with | 0, _ => trivial | 1, _ => fun _ _ => ⟨rfl, fun _ _ => ⟨rfl, fun _ _ => ⟨rfl, trivial⟩⟩⟩ | 2, _ => fun _ _ => ⟨rfl, fun _ _ => ⟨rfl, trivial⟩⟩ | j + 3, h => absurd h (by omega)), (fun i h => match i, h with | 0, _ => trivial | 1, _ => fun _ _ => fun _ _ => fun _ _ => trivial | 2, _ => fun _ _ => fun _ _ => trivial | j + 3, h => absurd h (by omega)), (fun i h => match i, h with | 0, _ => trivial | 1, _ => fun _ _ => fun _ _ => fun _ _ => trivial | 2, _ => fun _ _ => fun _ _ => trivial | j + 3, h => absurd h (by omega)), by rfl, by decide, by rfl, fun _ => by kernel_rfl⟩
theorem ti111_ok : ti111.ok Go.Proofs.Try.prog 111 := ⟨fits_st (by kernel_rfl : (Go.Proofs.Try.prog.underlying 111).map stOf = some [(2, 0), (108, 1), (109, 4097)]) (by simp), by kernel_rfl, (fun i h => match i, h with | 0, _ => trivial | 1, _ => fun _ _ => ⟨rfl, fun _ _ => ⟨rfl, fun _ _ => ⟨rfl, trivial⟩⟩⟩ | 2, _ => fun _ _ => ⟨rfl, fun _ _ => ⟨rfl, trivial⟩⟩ | j + 3, h => absurd h (by omega)), (fun i h => match i, h with | 0, _ => trivial | 1, _ => fun _ _ => fun _ _ => fun _ _ => trivial | 2, _ => fun _ _ => fun _ _ => trivial | j + 3, h => absurd h (by omega)), (fun i h => match i, h with | 0, _ => trivial | 1, _ => fun _ _ => fun _ _ => fun _ _ => trivial | 2, _ => fun _ _ => fun _ _ => trivial | j + 3, h => absurd h (by omega)), by rfl, by decide, by rfl, fun _ => by kernel_rfl⟩
theorem ti117_ok : ti117.ok Go.Proofs.Try.prog 117 := ⟨(by kernel_rfl : Go.Proofs.Try.prog.underlying 117 = some (.array 2 5)), by kernel_rfl, fun _ _ => ⟨rfl, trivial⟩, fun _ _ => trivial, fun _ _ => trivial, by rfl, by decide, by rfl, fun _ => by kernel_rfl⟩
theorem ti118_ok : ti118.ok Go.Proofs.Try.prog 118 := ⟨(by kernel_rfl : Go.Proofs.Try.prog.underlying 118 = some (.slice 117)), by kernel_rfl, trivial, trivial, trivial, by rfl, by decide, by rfl, fun h => by cases h⟩
theorem ti124_ok : ti124.ok Go.Proofs.Try.prog 124 := ⟨(by kernel_rfl : Go.Proofs.Try.prog.underlying 124 = some (.int .i64)), by kernel_rfl, trivial, trivial, trivial, by rfl, by decide, by rfl, fun h => by cases h⟩
theorem ti133_ok : ti133.ok Go.Proofs.Try.prog 133 := ⟨(by kernel_rfl : Go.Proofs.Try.prog.underlying 133 = some (.int .u32)), by kernel_rfl, trivial, trivial, trivial, by rfl, by decide, by rfl, fun h => by cases h⟩
theorem ti137_ok : ti137.ok Go.Proofs.Try.prog 137 := ⟨(by kernel_rfl : Go.Proofs.Try.prog.underlying 137 = some (.int .u64)), by kernel_rfl, trivial, trivial, trivial, by rfl, by decide, by rfl, fun h => by cases h⟩
theorem ti141_ok : ti141.ok Go.Proofs.Try.prog 141 := ⟨(by kernel_rfl : Go.Proofs.Try.prog.underlying 141 = some (.pointer 3)), by kernel_rfl, trivial, trivial, trivial, by rfl, by decide, by rfl, fun h => by cases h⟩
theorem ti147_ok : ti147.ok Go.Proofs.Try.prog 147 := ⟨(by kernel_rfl : Go.Proofs.Try.prog.underlying 147 = some (.pointer 137)), by kernel_rfl, trivial, trivial, trivial, by rfl, by decide, by rfl, fun h => by cases h⟩
theorem ti160_ok : ti160.ok Go.Proofs.Try.prog 160 := ⟨(by kernel_rfl : Go.Proofs.Try.prog.underlying 160 = some (.pointer 5)), by kernel_rfl, trivial, trivial, trivial, by rfl, by decide, by rfl, fun h => by cases h⟩

theorem tok : TOK Go.Proofs.Try.prog T := by
  intro t i h
  unfold T at h
  split at h
  · cases h; exact ti2_ok
  · cases h; exact ti3_ok
  · cases h; exact ti4_ok
  · cases h; exact ti5_ok
  · cases h; exact ti9_ok
  · cases h; exact ti21_ok
  · cases h; exact ti22_ok
  · cases h; exact ti24_ok
  · cases h; exact ti25_ok
  · cases h; exact ti31_ok
  · cases h; exact ti39_ok
  · cases h; exact ti47_ok
  · cases h; exact ti48_ok
  · cases h; exact ti51_ok
  · cases h; exact ti62_ok
  · cases h; exact ti69_ok
  · cases h; exact ti86_ok
  · cases h; exact ti87_ok
  · cases h; exact ti88_ok
  · cases h; exact ti91_ok
  · cases h; exact ti92_ok
  · cases h; exact ti100_ok
  · cases h; exact ti107_ok
  · cases h; exact ti108_ok
  · cases h; exact ti109_ok
  · cases h; exact ti110_ok
  · cases h; exact ti111_ok
  · cases h; exact ti117_ok
  · cases h; exact ti118_ok
  · cases h; exact ti124_ok
  · cases h; exact ti133_ok
  · cases h; exact ti137_ok
  · cases h; exact ti141_ok
  · cases h; exact ti147_ok
  · cases h; exact ti160_ok
  · cases h

end Go.Proofs.Ytakapfgjdhliaaa.DM
