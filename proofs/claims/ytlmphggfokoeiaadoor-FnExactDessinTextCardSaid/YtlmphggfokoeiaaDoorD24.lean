import Derived.Test.YtlmphggfokoeiaaDoorD23
import Derived.Laws.IdiomStrings
/- Rows of plain values read by the library; a string of bytes. -/
namespace Go.Proofs.YtlmphggfokoeiaaDoor.DM
open Go.RowKit
set_option linter.unusedVariables false
set_option linter.unusedSimpArgs false

section
variable {P : Program} {T : TyEnv} {fr : Nat → Dat} {m : List Root}

theorem cells_vals {ρ : Rho} {A : List Nat → RV} {n : Nat} {f : Nat → Dat} {v : Nat → Value} (hv : ∀ B j, cells ρ B (f j) = [v j]) : cells ρ A (.ar n 1 f) = (List.range n).map v := by
  simp only [cells, hv]
  induction List.range n with
  | nil => rfl
  | cons a l ih => simp [ih]

/-- The cells of a row of plain values. -/
theorem val_cells {ρ : Rho} {w : World} (hr : Rep ρ m w) {r n : Nat} {f : Nat → Dat} {v : Nat → Value} (hv : ∀ B j, cells ρ B (f j) = [v j]) (hR : (∃ e, m[r]? = some (.row e n 1 f)) ∨ m[r]? = some (.ro n 1 f)) (hn : 0 < n) : (ρ r []).nil = false ∧ (ρ r []).b < w.heap.size ∧ n ≤ (ρ r []).cap ∧ ∀ j, j < n → w.cell? ⟨(ρ r []).b, (ρ r []).o + j, none⟩ = some (v j) := by
  rcases hR with ⟨e, hR⟩ | hR
  · have hrow := hr.row r _ _ [] e n 1 f hR rfl rfl rfl (.inl rfl)
    have hlt := hrow.lt
    obtain ⟨cur, hb, ho, hnil, hcap, hmax, hsz, htk⟩ := hrow
    refine ⟨hnil, hlt, hcap, fun j hj => ?_⟩
    rw [Nat.mul_one, cells_vals hv] at htk
    have h1 : (cur.toList.take n)[j]? = some (v j) := by rw [htk]; simp [hj]
    rw [List.getElem?_take_of_lt hj] at h1
    simp only [World.cell?, hb, ho, Nat.zero_add]
    simp only [Option.isSome_none, Bool.false_eq_true, if_false]
    rw [← Array.getElem?_toList, h1]
  · rcases hr.ro r _ _ [] 0 n 1 f hR (.inl rfl) rfl rfl with ⟨_, h0⟩ | ⟨hnil, hcap, hmax, hb, hc⟩
    · omega
    · rw [cells_vals hv] at hc
      exact ⟨hnil, hb, hcap, fun j hj => hc j _ (by simp [hj])⟩

/-- A string of one byte. -/
theorem strOne_ok (hT : TOK P T) {o : Oper} {s t : TypeId} {x : Operand} {e sz0 by0 : Nat} {z0 : Dat} {r : Nat} {f : Nat → Dat} {e' : TypeId} {c : UInt8} (ho : o.op = .convert s t x) (ht : T s = some ⟨.slice e, sz0, by0, z0⟩) {i : TI} (hi : T e = some i) (hik : i.ty = .int .u8) {i2 : TI} (hi2 : T t = some i2) (hik2 : i2.ty = .str) (hx : ev fr x = .sl r 0 1 1)
    (hR : m[r]? = some (.row e' 1 1 f)) (hf0 : f 0 = .i .u8 ((c.toNat : Nat) : Int)) : QOK P o fr m (.s ⟨#[c]⟩) m :=
  .of_run fun N ρ ac w hf hr => by
    obtain ⟨h0, _⟩ := ev_eq hf (x := x) hx (by simp)
    have hu := (hT s _ ht).fits
    simp only [Ty.fits] at hu
    have hu2 := (hT e i hi).fits
    rw [hik] at hu2
    have hu3 := (hT t i2 hi2).fits
    rw [hik2] at hu3
    simp only [Ty.fits] at hu2 hu3
    have hrow := hr.row r _ _ [] e' 1 1 f hR rfl rfl rfl (.inl rfl)
    obtain ⟨cur, hb, ho', hnil, hcap, hmax, hsz, htk⟩ := hrow
    have hcell : ∀ j (hj : j < [c].length), w.cell? ((⟨(ρ r []).b, (ρ r []).o + 0 * 1, none⟩ : Addr).add j) = some (.int .u8 ([c][j].toNat : Int)) := by
      intro j hj
      obtain rfl : j = 0 := by simpa using hj
      simp only [cells, List.range_one, List.flatMap_cons, List.flatMap_nil, List.append_nil, hf0, leaf, Nat.mul_one] at htk
      have h1 : (cur.toList.take 1)[0]? = some (Value.int .u8 (c.toNat : Int)) := by rw [htk]; rfl
      rw [List.getElem?_take_of_lt (by omega)] at h1
      have h2 : w.cell? ⟨(ρ r []).b, 0, none⟩ = some (Value.int .u8 (c.toNat : Int)) := by
        simp only [World.cell?, hb]
        simp only [Option.isSome_none, Bool.false_eq_true, if_false]
        rw [← Array.getElem?_toList, h1]
      simpa [Addr.add, ho'] using h2
    refine ⟨?_, trivial, trivial, trivial⟩
    have := run_convert_bytes_back (P := P) w s t e ⟨(ρ r []).b, (ρ r []).o + 0 * 1, none⟩ ((ρ r []).cap - 0) [c] hu hu2 hu3 hcell
    simp only [execOp, ho, h0, enc, leaf, RV.slice, hnil]
    simp only [List.length_singleton, Nat.zero_mul, Nat.add_zero, Nat.sub_zero] at this
    simp [Sem.run_bind, this, Result.andThen]

end
end Go.Proofs.YtlmphggfokoeiaaDoor.DM
