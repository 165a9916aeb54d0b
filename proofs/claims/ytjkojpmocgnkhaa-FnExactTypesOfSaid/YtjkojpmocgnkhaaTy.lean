/- The types that the functions use, for the data machine (printed by a program of this work). -/
import Derived.Test.YtjkojpmocgnkhaaD10
import Derived.Test.YtjkojpmocgnkhaaProg
import Derived.KernelRfl
namespace Go.Proofs.Ytjkojpmocgnkhaa.DM
open Go.RowKit

/-- int64 -/
def ti2 : TI := ⟨.int .i64, 1, 8, .i .i64 0⟩
/-- int -/
def ti3 : TI := ⟨.int .i64, 1, 8, .i .i64 0⟩
/-- bool -/
def ti4 : TI := ⟨.bool, 1, 1, .b false⟩
/-- uint8 -/
def ti5 : TI := ⟨.int .u8, 1, 1, .i .u8 0⟩
/-- string -/
def ti9 : TI := ⟨.str, 1, 16, .s ⟨#[]⟩⟩
/-- int32 -/
def ti21 : TI := ⟨.int .i32, 1, 4, .i .i32 0⟩
/-- [16]uint8 -/
def ti26 : TI := ⟨.arr 16 5, 16, 16, .ar 16 1 (fun _ => .i .u8 0)⟩
/-- impl.Places -/
def ti28 : TI := ⟨.arr 16 5, 16, 16, .ar 16 1 (fun _ => .i .u8 0)⟩
/-- []int64 -/
def ti31 : TI := ⟨.slice 2, 1, 24, .ns⟩
/-- struct ( Darts int64; Black impl.Places; White impl.Places ) -/
def ti35 : TI := ⟨.st [(2, 0), (28, 1), (28, 17)], 33, 40, .st 3 (fun i => match i with | 0 => .i .i64 0 | 1 => .ar 16 1 (fun _ => .i .u8 0) | 2 => .ar 16 1 (fun _ => .i .u8 0) | _ => .un)⟩
/-- impl.Dessin -/
def ti36 : TI := ⟨.st [(2, 0), (28, 1), (28, 17)], 33, 40, .st 3 (fun i => match i with | 0 => .i .i64 0 | 1 => .ar 16 1 (fun _ => .i .u8 0) | 2 => .ar 16 1 (fun _ => .i .u8 0) | _ => .un)⟩
/-- struct ( Darts int64; Black [16]uint8; White [16]uint8 ) -/
def ti45 : TI := ⟨.st [(2, 0), (26, 1), (26, 17)], 33, 40, .st 3 (fun i => match i with | 0 => .i .i64 0 | 1 => .ar 16 1 (fun _ => .i .u8 0) | 2 => .ar 16 1 (fun _ => .i .u8 0) | _ => .un)⟩
/-- laws.Dessin -/
def ti46 : TI := ⟨.st [(2, 0), (26, 1), (26, 17)], 33, 40, .st 3 (fun i => match i with | 0 => .i .i64 0 | 1 => .ar 16 1 (fun _ => .i .u8 0) | 2 => .ar 16 1 (fun _ => .i .u8 0) | _ => .un)⟩
/-- [][]int64 -/
def ti50 : TI := ⟨.slice 31, 1, 24, .ns⟩
/-- [16]bool -/
def ti58 : TI := ⟨.arr 16 4, 16, 16, .ar 16 1 (fun _ => .b false)⟩
/-- *impl.Places -/
def ti62 : TI := ⟨.ptr 28, 1, 8, .np⟩
/-- []impl.Places -/
def ti70 : TI := ⟨.slice 28, 1, 24, .ns⟩
/-- []uint8 -/
def ti71 : TI := ⟨.slice 5, 1, 24, .ns⟩
/-- uint32 -/
def ti79 : TI := ⟨.int .u32, 1, 4, .i .u32 0⟩
/-- *uint8 -/
def ti83 : TI := ⟨.ptr 5, 1, 8, .np⟩

def T : TyEnv := fun t => match t with
  | 2 => some ti2
  | 3 => some ti3
  | 4 => some ti4
  | 5 => some ti5
  | 9 => some ti9
  | 21 => some ti21
  | 26 => some ti26
  | 28 => some ti28
  | 31 => some ti31
  | 35 => some ti35
  | 36 => some ti36
  | 45 => some ti45
  | 46 => some ti46
  | 50 => some ti50
  | 58 => some ti58
  | 62 => some ti62
  | 70 => some ti70
  | 71 => some ti71
  | 79 => some ti79
  | 83 => some ti83
  | _ => none

theorem ti2_ok : ti2.ok Go.Proofs.Try.prog 2 := ⟨(by kernel_rfl : Go.Proofs.Try.prog.underlying 2 = some (.int .i64)), by kernel_rfl, trivial, trivial, trivial, by rfl, by decide, by rfl, fun h => by cases h⟩
theorem ti3_ok : ti3.ok Go.Proofs.Try.prog 3 := ⟨(by kernel_rfl : Go.Proofs.Try.prog.underlying 3 = some (.int .i64)), by kernel_rfl, trivial, trivial, trivial, by rfl, by decide, by rfl, fun h => by cases h⟩
theorem ti4_ok : ti4.ok Go.Proofs.Try.prog 4 := ⟨(by kernel_rfl : Go.Proofs.Try.prog.underlying 4 = some (.bool)), by kernel_rfl, trivial, trivial, trivial, by rfl, by decide, by rfl, fun h => by cases h⟩
theorem ti5_ok : ti5.ok Go.Proofs.Try.prog 5 := ⟨(by kernel_rfl : Go.Proofs.Try.prog.underlying 5 = some (.int .u8)), by kernel_rfl, trivial, trivial, trivial, by rfl, by decide, by rfl, fun h => by cases h⟩
theorem ti9_ok : ti9.ok Go.Proofs.Try.prog 9 := ⟨(by kernel_rfl : Go.Proofs.Try.prog.underlying 9 = some (.string)), by kernel_rfl, trivial, trivial, trivial, by rfl, by decide, by rfl, fun h => by cases h⟩
theorem ti21_ok : ti21.ok Go.Proofs.Try.prog 21 := ⟨(by kernel_rfl : Go.Proofs.Try.prog.underlying 21 = some (.int .i32)), by kernel_rfl, trivial, trivial, trivial, by rfl, by decide, by rfl, fun h => by cases h⟩
theorem ti26_ok : ti26.ok Go.Proofs.Try.prog 26 := ⟨(by kernel_rfl : Go.Proofs.Try.prog.underlying 26 = some (.array 16 5)), by kernel_rfl, fun _ _ => ⟨rfl, trivial⟩, fun _ _ => trivial, fun _ _ => trivial, by rfl, by decide, by rfl, fun _ => by kernel_rfl⟩
theorem ti28_ok : ti28.ok Go.Proofs.Try.prog 28 := ⟨(by kernel_rfl : Go.Proofs.Try.prog.underlying 28 = some (.array 16 5)), by kernel_rfl, fun _ _ => ⟨rfl, trivial⟩, fun _ _ => trivial, fun _ _ => trivial, by rfl, by decide, by rfl, fun _ => by kernel_rfl⟩
theorem ti31_ok : ti31.ok Go.Proofs.Try.prog 31 := ⟨(by kernel_rfl : Go.Proofs.Try.prog.underlying 31 = some (.slice 2)), by kernel_rfl, trivial, trivial, trivial, by rfl, by decide, by rfl, fun h => by cases h⟩
theorem ti35_ok : ti35.ok Go.Proofs.Try.prog 35 := ⟨fits_st (by kernel_rfl : (Go.Proofs.Try.prog.underlying 35).map stOf = some [(2, 0), (28, 1), (28, 17)]) (by simp), by kernel_rfl, (fun i h => match i, h with | 0, _ => trivial | 1, _ => fun _ _ => ⟨rfl, trivial⟩ | 2, _ => fun _ _ => ⟨rfl, trivial⟩ | j + 3, h => absurd h (by omega)), (fun i h => match i, h with | 0, _ => trivial | 1, _ => fun _ _ => trivial | 2, _ => fun _ _ => trivial | j + 3, h => absurd h (by omega)), (fun i h => match i, h with | 0, _ => trivial | 1, _ => fun _ _ => trivial | 2, _ => fun _ _ => trivial | j + 3, h => absurd h (by omega)), by rfl, by decide, by rfl, fun _ => by kernel_rfl⟩
theorem ti36_ok : ti36.ok Go.Proofs.Try.prog 36 := ⟨fits_st (by kernel_rfl : (Go.Proofs.Try.prog.underlying 36).map stOf = some [(2, 0), (28, 1), (28, 17)]) (by simp), by kernel_rfl, (fun i h => match i, h with | 0, _ => trivial | 1, _ => fun _ _ => ⟨rfl, trivial⟩ | 2, _ => fun _ _ => ⟨rfl, trivial⟩ | j + 3, h => absurd h (by omega)), (fun i h => match i, h with | 0, _ => trivial | 1, _ => fun _ _ => trivial | 2, _ => fun _ _ => trivial | j + 3, h => absurd h (by omega)), (fun i h => match i, h with | 0, _ => trivial | 1, _ => fun _ _ => trivial | 2, _ => fun _ _ => trivial | j + 3, h => absurd h (by omega)), by rfl, by decide, by rfl, fun _ => by kernel_rfl⟩
theorem ti45_ok : ti45.ok Go.Proofs.Try.prog 45 := ⟨fits_st (by kernel_rfl : (Go.Proofs.Try.prog.underlying 45).map stOf = some [(2, 0), (26, 1), (26, 17)]) (by simp), by kernel_rfl, (fun i h => match i, h with | 0, _ => trivial | 1, _ => fun _ _ => ⟨rfl, trivial⟩ | 2, _ => fun _ _ => ⟨rfl, trivial⟩ | j + 3, h => absurd h (by omega)), (fun i h => match i, h with | 0, _ => trivial | 1, _ => fun _ _ => trivial | 2, _ => fun _ _ => trivial | j + 3, h => absurd h (by omega)), (fun i h => match i, h with | 0, _ => trivial | 1, _ => fun _ _ => trivial | 2, _ => fun _ _ => trivial | j + 3, h => absurd h (by omega)), by rfl, by decide, by rfl, fun _ => by kernel_rfl⟩
theorem ti46_ok : ti46.ok Go.Proofs.Try.prog 46 := ⟨fits_st (by kernel_rfl : (Go.Proofs.Try.prog.underlying 46).map stOf = some [(2, 0), (26, 1), (26, 17)]) (by simp), by kernel_rfl, (fun i h => match i, h with | 0, _ => trivial | 1, _ => fun _ _ => ⟨rfl, trivial⟩ | 2, _ => fun _ _ => ⟨rfl, trivial⟩ | j + 3, h => absurd h (by omega)), (fun i h => match i, h with | 0, _ => trivial | 1, _ => fun _ _ => trivial | 2, _ => fun _ _ => trivial | j + 3, h => absurd h (by omega)), (fun i h => match i, h with | 0, _ => trivial | 1, _ => fun _ _ => trivial | 2, _ => fun _ _ => trivial | j + 3, h => absurd h (by omega)), by rfl, by decide, by rfl, fun _ => by kernel_rfl⟩
theorem ti50_ok : ti50.ok Go.Proofs.Try.prog 50 := ⟨(by kernel_rfl : Go.Proofs.Try.prog.underlying 50 = some (.slice 31)), by kernel_rfl, trivial, trivial, trivial, by rfl, by decide, by rfl, fun h => by cases h⟩
theorem ti58_ok : ti58.ok Go.Proofs.Try.prog 58 := ⟨(by kernel_rfl : Go.Proofs.Try.prog.underlying 58 = some (.array 16 4)), by kernel_rfl, fun _ _ => ⟨rfl, trivial⟩, fun _ _ => trivial, fun _ _ => trivial, by rfl, by decide, by rfl, fun _ => by kernel_rfl⟩
theorem ti62_ok : ti62.ok Go.Proofs.Try.prog 62 := ⟨(by kernel_rfl : Go.Proofs.Try.prog.underlying 62 = some (.pointer 28)), by kernel_rfl, trivial, trivial, trivial, by rfl, by decide, by rfl, fun h => by cases h⟩
theorem ti70_ok : ti70.ok Go.Proofs.Try.prog 70 := ⟨(by kernel_rfl : Go.Proofs.Try.prog.underlying 70 = some (.slice 28)), by kernel_rfl, trivial, trivial, trivial, by rfl, by decide, by rfl, fun h => by cases h⟩
theorem ti71_ok : ti71.ok Go.Proofs.Try.prog 71 := ⟨(by kernel_rfl : Go.Proofs.Try.prog.underlying 71 = some (.slice 5)), by kernel_rfl, trivial, trivial, trivial, by rfl, by decide, by rfl, fun h => by cases h⟩
theorem ti79_ok : ti79.ok Go.Proofs.Try.prog 79 := ⟨(by kernel_rfl : Go.Proofs.Try.prog.underlying 79 = some (.int .u32)), by kernel_rfl, trivial, trivial, trivial, by rfl, by decide, by rfl, fun h => by cases h⟩
theorem ti83_ok : ti83.ok Go.Proofs.Try.prog 83 := ⟨(by kernel_rfl : Go.Proofs.Try.prog.underlying 83 = some (.pointer 5)), by kernel_rfl, trivial, trivial, trivial, by rfl, by decide, by rfl, fun h => by cases h⟩

theorem tok : TOK Go.Proofs.Try.prog T := by
  intro t i h
  unfold T at h
  split at h
  · cases h; exact ti2_ok
  · cases h; exact ti3_ok
  · cases h; exact ti4_ok
  · cases h; exact ti5_ok
  · cases h; exact ti9_ok
  · cases h; exact ti21_ok
  · cases h; exact ti26_ok
  · cases h; exact ti28_ok
  · cases h; exact ti31_ok
  · cases h; exact ti35_ok
  · cases h; exact ti36_ok
  · cases h; exact ti45_ok
  · cases h; exact ti46_ok
  · cases h; exact ti50_ok
  · cases h; exact ti58_ok
  · cases h; exact ti62_ok
  · cases h; exact ti70_ok
  · cases h; exact ti71_ok
  · cases h; exact ti79_ok
  · cases h; exact ti83_ok
  · cases h

end Go.Proofs.Ytjkojpmocgnkhaa.DM
