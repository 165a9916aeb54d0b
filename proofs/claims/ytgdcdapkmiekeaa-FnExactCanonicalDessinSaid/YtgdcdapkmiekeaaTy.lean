/- The types that the functions use, for the data machine (printed by a program of this work). -/
import Derived.Test.YtgdcdapkmiekeaaD10
import Derived.Test.YtgdcdapkmiekeaaProg
import Derived.KernelRfl
namespace Go.Proofs.Ytgdcdapkmiekeaa.DM
open Go.RowKit

/-- int64 -/
def ti2 : TI := ⟨.int .i64, 1, 8, .i .i64 0⟩
/-- int -/
def ti3 : TI := ⟨.int .i64, 1, 8, .i .i64 0⟩
/-- bool -/
def ti4 : TI := ⟨.bool, 1, 1, .b false⟩
/-- uint8 -/
def ti5 : TI := ⟨.int .u8, 1, 1, .i .u8 0⟩
/-- string -/
def ti9 : TI := ⟨.str, 1, 16, .s ⟨#[]⟩⟩
/-- int32 -/
def ti21 : TI := ⟨.int .i32, 1, 4, .i .i32 0⟩
/-- [16]uint8 -/
def ti22 : TI := ⟨.arr 16 5, 16, 16, .ar 16 1 (fun _ => .i .u8 0)⟩
/-- impl.Places -/
def ti25 : TI := ⟨.arr 16 5, 16, 16, .ar 16 1 (fun _ => .i .u8 0)⟩
/-- [][]int64 -/
def ti28 : TI := ⟨.slice 55, 1, 24, .ns⟩
/-- struct ( Darts int64; Black [16]uint8; White [16]uint8 ) -/
def ti37 : TI := ⟨.st [(2, 0), (22, 1), (22, 17)], 33, 40, .st 3 (fun i => match i with | 0 => .i .i64 0 | 1 => .ar 16 1 (fun _ => .i .u8 0) | 2 => .ar 16 1 (fun _ => .i .u8 0) | _ => .un)⟩
/-- laws.Dessin -/
def ti38 : TI := ⟨.st [(2, 0), (22, 1), (22, 17)], 33, 40, .st 3 (fun i => match i with | 0 => .i .i64 0 | 1 => .ar 16 1 (fun _ => .i .u8 0) | 2 => .ar 16 1 (fun _ => .i .u8 0) | _ => .un)⟩
/-- struct ( Darts int64; Black impl.Places; White impl.Places ) -/
def ti39 : TI := ⟨.st [(2, 0), (25, 1), (25, 17)], 33, 40, .st 3 (fun i => match i with | 0 => .i .i64 0 | 1 => .ar 16 1 (fun _ => .i .u8 0) | 2 => .ar 16 1 (fun _ => .i .u8 0) | _ => .un)⟩
/-- impl.Dessin -/
def ti40 : TI := ⟨.st [(2, 0), (25, 1), (25, 17)], 33, 40, .st 3 (fun i => match i with | 0 => .i .i64 0 | 1 => .ar 16 1 (fun _ => .i .u8 0) | 2 => .ar 16 1 (fun _ => .i .u8 0) | _ => .un)⟩
/-- []int64 -/
def ti55 : TI := ⟨.slice 2, 1, 24, .ns⟩
/-- []impl.Places -/
def ti63 : TI := ⟨.slice 25, 1, 24, .ns⟩
/-- [16]bool -/
def ti78 : TI := ⟨.arr 16 4, 16, 16, .ar 16 1 (fun _ => .b false)⟩
/-- [16]int64 -/
def ti87 : TI := ⟨.arr 16 2, 16, 128, .ar 16 1 (fun _ => .i .i64 0)⟩
/-- []uint8 -/
def ti101 : TI := ⟨.slice 5, 1, 24, .ns⟩
/-- [2]uint8 -/
def ti108 : TI := ⟨.arr 2 5, 2, 2, .ar 2 1 (fun _ => .i .u8 0)⟩
/-- [][2]uint8 -/
def ti109 : TI := ⟨.slice 108, 1, 24, .ns⟩
/-- uint -/
def ti111 : TI := ⟨.int .u64, 1, 8, .i .u64 0⟩
/-- uint32 -/
def ti114 : TI := ⟨.int .u32, 1, 4, .i .u32 0⟩
/-- uint64 -/
def ti117 : TI := ⟨.int .u64, 1, 8, .i .u64 0⟩
/-- *uint8 -/
def ti130 : TI := ⟨.ptr 5, 1, 8, .np⟩

def T : TyEnv := fun t => match t with
  | 2 => some ti2
  | 3 => some ti3
  | 4 => some ti4
  | 5 => some ti5
  | 9 => some ti9
  | 21 => some ti21
  | 22 => some ti22
  | 25 => some ti25
  | 28 => some ti28
  | 37 => some ti37
  | 38 => some ti38
  | 39 => some ti39
  | 40 => some ti40
  | 55 => some ti55
  | 63 => some ti63
  | 78 => some ti78
  | 87 => some ti87
  | 101 => some ti101
  | 108 => some ti108
  | 109 => some ti109
  | 111 => some ti111
  | 114 => some ti114
  | 117 => some ti117
  | 130 => some ti130
  | _ => none

theorem ti2_ok : ti2.ok Go.Proofs.Try.prog 2 := ⟨(by kernel_rfl : Go.Proofs.Try.prog.underlying 2 = some (.int .i64)), by kernel_rfl, trivial, trivial, trivial, by rfl, by decide, by rfl, fun h => by cases h⟩
theorem ti3_ok : ti3.ok Go.Proofs.Try.prog 3 := ⟨(by kernel_rfl : Go.Proofs.Try.prog.underlying 3 = some (.int .i64)), by kernel_rfl, trivial, trivial, trivial, by rfl, by decide, by rfl, fun h => by cases h⟩
theorem ti4_ok : ti4.ok Go.Proofs.Try.prog 4 := ⟨(by kernel_rfl : Go.Proofs.Try.prog.underlying 4 = some (.bool)), by kernel_rfl, trivial, trivial, trivial, by rfl, by decide, by rfl, fun h => by cases h⟩
theorem ti5_ok : ti5.ok Go.Proofs.Try.prog 5 := ⟨(by kernel_rfl : Go.Proofs.Try.prog.underlying 5 = some (.int .u8)), by kernel_rfl, trivial, trivial, trivial, by rfl, by decide, by rfl, fun h => by cases h⟩
theorem ti9_ok : ti9.ok Go.Proofs.Try.prog 9 := ⟨(by kernel_rfl : Go.Proofs.Try.prog.underlying 9 = some (.string)), by kernel_rfl, trivial, trivial, trivial, by rfl, by decide, by rfl, fun h => by cases h⟩
theorem ti21_ok : ti21.ok Go.Proofs.Try.prog 21 := ⟨(by kernel_rfl : Go.Proofs.Try.prog.underlying 21 = some (.int .i32)), by kernel_rfl, trivial, trivial, trivial, by rfl, by decide, by rfl, fun h => by cases h⟩
theorem ti22_ok : ti22.ok Go.Proofs.Try.prog 22 := ⟨(by kernel_rfl : Go.Proofs.Try.prog.underlying 22 = some (.array 16 5)), by kernel_rfl, fun _ _ => ⟨rfl, trivial⟩, fun _ _ => trivial, fun _ _ => trivial, by rfl, by decide, by rfl, fun _ => by kernel_rfl⟩
theorem ti25_ok : ti25.ok Go.Proofs.Try.prog 25 := ⟨(by kernel_rfl : Go.Proofs.Try.prog.underlying 25 = some (.array 16 5)), by kernel_rfl, fun _ _ => ⟨rfl, trivial⟩, fun _ _ => trivial, fun _ _ => trivial, by rfl, by decide, by rfl, fun _ => by kernel_rfl⟩
theorem ti28_ok : ti28.ok Go.Proofs.Try.prog 28 := ⟨(by kernel_rfl : Go.Proofs.Try.prog.underlying 28 = some (.slice 55)), by kernel_rfl, trivial, trivial, trivial, by rfl, by decide, by rfl, fun h => by cases h⟩
theorem ti37_ok : ti37.ok Go.Proofs.Try.prog 37 := ⟨fits_st (by kernel_rfl : (Go.Proofs.Try.prog.underlying 37).map stOf = some [(2, 0), (22, 1), (22, 17)]) (by simp), by kernel_rfl, (fun i h => match i, h with | 0, _ => trivial | 1, _ => fun _ _ => ⟨rfl, trivial⟩ | 2, _ => fun _ _ => ⟨rfl, trivial⟩ | j + 3, h => absurd h (by omega)), (fun i h => match i, h with | 0, _ => trivial | 1, _ => fun _ _ => trivial | 2, _ => fun _ _ => trivial | j + 3, h => absurd h (by omega)), (fun i h => match i, h with | 0, _ => trivial | 1, _ => fun _ _ => trivial | 2, _ => fun _ _ => trivial | j + 3, h => absurd h (by omega)), by rfl, by decide, by rfl, fun _ => by kernel_rfl⟩
theorem ti38_ok : ti38.ok Go.Proofs.Try.prog 38 := ⟨fits_st (by kernel_rfl : (Go.Proofs.Try.prog.underlying 38).map stOf = some [(2, 0), (22, 1), (22, 17)]) (by simp), by kernel_rfl, (fun i h => match i, h with | 0, _ => trivial | 1, _ => fun _ _ => ⟨rfl, trivial⟩ | 2, _ => fun _ _ => ⟨rfl, trivial⟩ | j + 3, h => absurd h (by omega)), (fun i h => match i, h with | 0, _ => trivial | 1, _ => fun _ _ => trivial | 2, _ => fun _ _ => trivial | j + 3, h => absurd h (by omega)), (fun i h => match i, h with | 0, _ => trivial | 1, _ => fun _ _ => trivial | 2, _ => fun _ _ => trivial | j + 3, h => absurd h (by omega)), by rfl, by decide, by rfl, fun _ => by kernel_rfl⟩
theorem ti39_ok : ti39.ok Go.Proofs.Try.prog 39 := ⟨fits_st (by kernel_rfl : (Go.Proofs.Try.prog.underlying 39).map stOf = some [(2, 0), (25, 1), (25, 17)]) (by simp), by kernel_rfl, (fun i h => match i, h with | 0, _ => trivial | 1, _ => fun _ _ => ⟨rfl, trivial⟩ | 2, _ => fun _ _ => ⟨rfl, trivial⟩ | j + 3, h => absurd h (by omega)), (fun i h => match i, h with | 0, _ => trivial | 1, _ => fun _ _ => trivial | 2, _ => fun _ _ => trivial | j + 3, h => absurd h (by omega)), (fun i h => match i, h with | 0, _ => trivial | 1, _ => fun _ _ => trivial | 2, _ => fun _ _ => trivial | j + 3, h => absurd h (by omega)), by rfl, by decide, by rfl, fun _ => by kernel_rfl⟩
theorem ti40_ok : ti40.ok Go.Proofs.Try.prog 40 := ⟨fits_st (by kernel_rfl : (Go.Proofs.Try.prog.underlying 40).map stOf = some [(2, 0), (25, 1), (25, 17)]) (by simp), by kernel_rfl, (fun i h => match i, h with | 0, _ => trivial | 1, _ => fun _ _ => ⟨rfl, trivial⟩ | 2, _ => fun _ _ => ⟨rfl, trivial⟩ | j + 3, h => absurd h (by omega)), (fun i h => match i, h with | 0, _ => trivial | 1, _ => fun _ _ => trivial | 2, _ => fun _ _ => trivial | j + 3, h => absurd h (by omega)), (fun i h => match i, h with | 0, _ => trivial | 1, _ => fun _ _ => trivial | 2, _ => fun _ _ => trivial | j + 3, h => absurd h (by omega)), by rfl, by decide, by rfl, fun _ => by kernel_rfl⟩
theorem ti55_ok : ti55.ok Go.Proofs.Try.prog 55 := ⟨(by kernel_rfl : Go.Proofs.Try.prog.underlying 55 = some (.slice 2)), by kernel_rfl, trivial, trivial, trivial, by rfl, by decide, by rfl, fun h => by cases h⟩
theorem ti63_ok : ti63.ok Go.Proofs.Try.prog 63 := ⟨(by kernel_rfl : Go.Proofs.Try.prog.underlying 63 = some (.slice 25)), by kernel_rfl, trivial, trivial, trivial, by rfl, by decide, by rfl, fun h => by cases h⟩
theorem ti78_ok : ti78.ok Go.Proofs.Try.prog 78 := ⟨(by kernel_rfl : Go.Proofs.Try.prog.underlying 78 = some (.array 16 4)), by kernel_rfl, fun _ _ => ⟨rfl, trivial⟩, fun _ _ => trivial, fun _ _ => trivial, by rfl, by decide, by rfl, fun _ => by kernel_rfl⟩
theorem ti87_ok : ti87.ok Go.Proofs.Try.prog 87 := ⟨(by kernel_rfl : Go.Proofs.Try.prog.underlying 87 = some (.array 16 2)), by kernel_rfl, fun _ _ => ⟨rfl, trivial⟩, fun _ _ => trivial, fun _ _ => trivial, by rfl, by decide, by rfl, fun _ => by kernel_rfl⟩
theorem ti101_ok : ti101.ok Go.Proofs.Try.prog 101 := ⟨(by kernel_rfl : Go.Proofs.Try.prog.underlying 101 = some (.slice 5)), by kernel_rfl, trivial, trivial, trivial, by rfl, by decide, by rfl, fun h => by cases h⟩
theorem ti108_ok : ti108.ok Go.Proofs.Try.prog 108 := ⟨(by kernel_rfl : Go.Proofs.Try.prog.underlying 108 = some (.array 2 5)), by kernel_rfl, fun _ _ => ⟨rfl, trivial⟩, fun _ _ => trivial, fun _ _ => trivial, by rfl, by decide, by rfl, fun _ => by kernel_rfl⟩
theorem ti109_ok : ti109.ok Go.Proofs.Try.prog 109 := ⟨(by kernel_rfl : Go.Proofs.Try.prog.underlying 109 = some (.slice 108)), by kernel_rfl, trivial, trivial, trivial, by rfl, by decide, by rfl, fun h => by cases h⟩
theorem ti111_ok : ti111.ok Go.Proofs.Try.prog 111 := ⟨(by kernel_rfl : Go.Proofs.Try.prog.underlying 111 = some (.int .u64)), by kernel_rfl, trivial, trivial, trivial, by rfl, by decide, by rfl, fun h => by cases h⟩
theorem ti114_ok : ti114.ok Go.Proofs.Try.prog 114 := ⟨(by kernel_rfl : Go.Proofs.Try.prog.underlying 114 = some (.int .u32)), by kernel_rfl, trivial, trivial, trivial, by rfl, by decide, by rfl, fun h => by cases h⟩
theorem ti117_ok : ti117.ok Go.Proofs.Try.prog 117 := ⟨(by kernel_rfl : Go.Proofs.Try.prog.underlying 117 = some (.int .u64)), by kernel_rfl, trivial, trivial, trivial, by rfl, by decide, by rfl, fun h => by cases h⟩
theorem ti130_ok : ti130.ok Go.Proofs.Try.prog 130 := ⟨(by kernel_rfl : Go.Proofs.Try.prog.underlying 130 = some (.pointer 5)), by kernel_rfl, trivial, trivial, trivial, by rfl, by decide, by rfl, fun h => by cases h⟩

theorem tok : TOK Go.Proofs.Try.prog T := by
  intro t i h
  unfold T at h
  split at h
  · cases h; exact ti2_ok
  · cases h; exact ti3_ok
  · cases h; exact ti4_ok
  · cases h; exact ti5_ok
  · cases h; exact ti9_ok
  · cases h; exact ti21_ok
  · cases h; exact ti22_ok
  · cases h; exact ti25_ok
  · cases h; exact ti28_ok
  · cases h; exact ti37_ok
  · cases h; exact ti38_ok
  · cases h; exact ti39_ok
  · cases h; exact ti40_ok
  · cases h; exact ti55_ok
  · cases h; exact ti63_ok
  · cases h; exact ti78_ok
  · cases h; exact ti87_ok
  · cases h; exact ti101_ok
  · cases h; exact ti108_ok
  · cases h; exact ti109_ok
  · cases h; exact ti111_ok
  · cases h; exact ti114_ok
  · cases h; exact ti117_ok
  · cases h; exact ti130_ok
  · cases h

end Go.Proofs.Ytgdcdapkmiekeaa.DM
