import Derived.Test.YtakapfgjdhliaaaL0
import Derived.Test.YtakapfgjdhliaaaD18
import Derived.Laws.Slices
import Derived.Laws.AppendOwn
import Derived.Laws.CopyRow
import Derived.Laws.Cover3
/- Permutations as functions: what the programs' loops come to. -/
namespace Go.Proofs.Ytakapfgjdhliaaa
open Go.RowKit DM

/-- The permutation that leads back, as it is filled place by place. -/
def backTo (p : Nat → Nat) : Nat → Nat → Nat
  | 0 => fun _ => 0
  | k + 1 => up (backTo p k) (p k) k

/-- A function filled up to k. -/
def fillF (f : Nat → Nat) (k : Nat) : Nat → Nat := fun i => if i < k then f i else 0
theorem fill_step (f : Nat → Nat) (k : Nat) : up (fillF f k) k (f k) = fillF f (k + 1) := by
  funext i; unfold up fillF
  by_cases h : i = k
  · subst h; simp
  · simp only [if_neg h]; by_cases h2 : i < k
    · simp [h2, show i < k + 1 by omega]
    · simp [h2, show ¬ i < k + 1 by omega]
theorem fill_zero (f : Nat → Nat) : fillF f 0 = fun _ => 0 := by funext i; simp [fillF]

theorem backTo_lt {p : Nat → Nat} {n : Nat} (k : Nat) (hk : k ≤ n) (hn : 0 < n) (i : Nat) : backTo p k i < n := by
  induction k with
  | zero => exact hn
  | succ k ih =>
    simp only [backTo, up]
    split
    · omega
    · exact ih (by omega)

/-- A permutation of n numbers in sixteen places. -/
structure Perm (n : Nat) (p : Nat → Nat) : Prop where
  lt : ∀ i, i < n → p i < n
  inj : ∀ i j, i < n → j < n → p i = p j → i = j

theorem perm_of_B {p : Nat → Nat} {n : Int} (h : permB p n = true) : ∃ N : Nat, n = N ∧ 1 ≤ N ∧ N ≤ 16 ∧ Perm N p := by
  have h1 := @of_decide_eq_true _ (Classical.propDecidable _) h
  refine ⟨n.toNat, by omega, by omega, by omega, fun i hi => ((h1.2 i (by omega)).1 hi).1, fun i j hi hj e => ?_⟩
  rcases Nat.lt_trichotomy i j with h2 | h2 | h2
  · exact absurd e (((h1.2 j (by omega)).1 hj).2 i h2)
  · exact h2
  · exact absurd e.symm (((h1.2 i (by omega)).1 hi).2 j h2)

end Go.Proofs.Ytakapfgjdhliaaa

/- Slices of slices, min and max. -/
namespace Go.Proofs.Ytakapfgjdhliaaa.DM
open Go.RowKit
set_option linter.unusedVariables false
set_option linter.unusedSimpArgs false

section
variable {P : Program} {T : TyEnv} {fr : Nat → Dat} {m : List Root}

theorem max_ok {o : Oper} {x y : Operand} {ts : Array TypeId} {k : IntKind} {a b : Int} (ho : o.op = .call { callee := .builtin .max, args := #[x, y], argTypes := ts }) (hx : ev fr x = .i k a) (hy : ev fr y = .i k b) : QOK P o fr m (.i k (if a < b then b else a)) m :=
  .of_run fun N ρ ac w hf hr => by
    obtain ⟨h0, _⟩ := ev_eq hf (x := x) hx (by simp)
    obtain ⟨h1, _⟩ := ev_eq hf (x := y) hy (by simp)
    refine ⟨?_, trivial, trivial, trivial⟩
    simp [execOp, ho, resolve, invoke, builtin, h0, h1, enc, leaf, Builtin.max_, Builtin.max2, Result.andThen]

end
end Go.Proofs.Ytakapfgjdhliaaa.DM

/- A library function that turns the numbers of a row in place. -/
namespace Go.Proofs.Ytakapfgjdhliaaa.DM
open Go.RowKit
set_option linter.unusedVariables false
set_option linter.unusedSimpArgs false

section
variable {P : Program}

def intD (F : Nat → Int) (j : Nat) : Dat := .i .i64 (F j)

theorem cells_ints (ρ : Rho) (A : List Nat → RV) (n : Nat) (F : Nat → Int) : cells ρ A (.ar n 1 (intD F)) = (List.range n).map fun j => Value.int .i64 (F j) := by
  simp only [cells, intD, leaf]
  induction List.range n with
  | nil => rfl
  | cons a l ih => simp [ih]

theorem turn_row {ρ : Rho} {m : List Root} {w w' : World} (h : Rep ρ m w) {r : Nat} {e : TypeId} {n : Nat} {F G : Nat → Int} (hr : m[r]? = some (.row e n 1 (intD F))) (hg : w.grownBy w' (some (ρ r []).b)) (hdn : w.drawn ≤ w'.drawn)
    (hn : ∀ cur, w.heap[(ρ r []).b]? = some (.cells cur e (0, 0)) → ∃ cur', w'.heap[(ρ r []).b]? = some (.cells cur' e (0, 0)) ∧ cur'.size = cur.size ∧ cur'.toList.take n = (List.range n).map fun j => Value.int .i64 (G j)) :
    Rep ρ (m.set r (.row e n 1 (intD G))) w' ∧ Tr ρ m w ρ (m.set r (.row e n 1 (intD G))) w' := by
  obtain ⟨cur, hb, ho, hnil, hcap, hmax, hsz, htk⟩ := h.row r _ _ [] e n 1 (intD F) hr rfl rfl rfl (.inl rfl)
  obtain ⟨cur', hb', hsz', htk'⟩ := hn cur hb
  have hlt : (ρ r []).b < w.heap.size := (Array.getElem?_eq_some_iff.1 hb).1
  have hpl : ∀ q e' n' s' f', q ≠ [] → nav (.ow e n 1 (intD G)) q ≠ some (.ow e' n' s' f') := by
    intro q e' n' s' f' hq hx
    cases q with
    | nil => exact hq rfl
    | cons i q =>
      simp only [nav] at hx
      split at hx
      · exact Pl_nav (d := intD G i) trivial hx
      · cases hx
  let w1 : World := { w with heap := w.heap.setIfInBounds (ρ r []).b (.cells cur' e (0, 0)) }
  have h1 : Rep ρ (m.set r (.row e n 1 (intD G))) w1 := by
    refine h.replace hr rfl rfl (by simp [w1]) (fun k hk => by simp only [w1]; rw [Array.getElem?_setIfInBounds_ne (Ne.symm hk)]) (fun d hd => by cases hd) (fun e' n' s' f' hR => ?_) (fun d d' q e' n' s' f' _ hd' hq hx => ?_) (fun d' e' n' s' f' hR => by cases hR) (fun d hd => ?_) (fun b l hh => by cases hh)
    · cases hR
      refine ⟨cur', by simp only [w1]; rw [Array.getElem?_setIfInBounds_self]; simp [hlt], ho, hnil, hcap, hmax, by rw [hsz']; exact hsz, ?_⟩
      rw [Nat.mul_one, htk', cells_ints]
    · cases hd'; exact absurd hx (hpl q e' n' s' f' hq)
    · cases hd
      exact ⟨fun _ _ => ⟨rfl, trivial⟩, fun _ _ => trivial⟩
  have hb1 : ∀ k, k < w1.heap.size → w'.heap[k]? = w1.heap[k]? := by
    intro k hk
    have hk' : k < w.heap.size := by simpa [w1] using hk
    by_cases e1 : k = (ρ r []).b
    · subst e1
      simp only [w1]; rw [Array.getElem?_setIfInBounds_self, hb']; simp [hlt]
    · simp only [w1]
      rw [Array.getElem?_setIfInBounds_ne (Ne.symm e1)]
      exact hg.block k hk' (fun e2 => e1 (Option.some.inj e2))
  refine ⟨h1.move (by simp [w1]; exact hg.size) hb1, hg.os, hg.tape, hdn, hg.output, hg.size, fun _ _ => rfl, by simp, fun k hk hno => ?_, fun r' R q h2 h3 h4 => ?_, fun r' R q h2 h3 h4 => ?_⟩
  · exact hg.block k hk fun e2 => hno r _ [] hr rfl (.inl ⟨rfl, rfl⟩) (by have := Option.some.inj e2; exact this.symm)
  · refine .inr ?_
    rcases set_get h2 with ⟨rfl, rfl, _⟩ | ⟨hne, h5⟩
    · have hq : q = [] := by
        rcases h4 with h4 | ⟨d, e', n', s', f', h5, h6, _⟩
        · exact h4.1
        · cases h5
          exact Classical.byContradiction fun hq => hpl q _ _ _ _ hq h6
      subst hq
      exact ⟨_, _, [], hr, rfl, .inl ⟨rfl, rfl⟩, rfl⟩
    · exact ⟨r', R, q, h5, h3, h4, rfl⟩
  · refine .inr ?_
    rcases set_get h2 with ⟨rfl, rfl, _⟩ | ⟨hne, h5⟩
    · have hq : q = [] := by
        rcases h3 with h3 | ⟨d, e', n', s', f', h5, h6⟩
        · exact h3.1
        · cases h5
          exact Classical.byContradiction fun hq => hpl q _ _ _ _ hq h6
      subst hq
      exact ⟨_, _, [], hr, .inl ⟨rfl, rfl⟩, h4, rfl⟩
    · exact ⟨r', R, q, h5, h3, h4, rfl⟩

/-- .. as a contract on plain data: a function of the library that turns the row's numbers and returns nothing. -/
theorem FnS.turner {f : FuncId} {e : TypeId} {n : Nat} {F G : Nat → Int} (he : ∀ args w, (callFunc f args).run P w = .ok (.enter f args) w)
    (hc : ∀ (w : World) (b cap : Nat) (cur : Array Value), w.heap[b]? = some (.cells cur e (0, 0)) → n ≤ cap → cap ≤ maxLen → cur.size = cap * 1 → cur.toList.take n = (List.range n).map (fun j => Value.int .i64 (F j)) →
      Calls P f #[.slice (some ⟨b, 0, none⟩) n cap] w fun e' w' => e' = .returned (.tuple #[]) ∧ w.grownBy w' (some b) ∧ w.drawn ≤ w'.drawn ∧ ∃ cur', w'.heap[b]? = some (.cells cur' e (0, 0)) ∧ cur'.size = cur.size ∧ cur'.toList.take n = (List.range n).map fun j => Value.int .i64 (G j)) :
    FnS P f [.sl 0 0 n 1] [.row e n 1 (intD F)] (fun r m' => r = .tup 0 (fun _ => .un) ∧ m' = [.row e n 1 (intD G)]) := by
  refine ⟨he, fun ρ w hr hx => ?_⟩
  obtain ⟨cur, hb, ho, hnil, hcap, hmax, hsz, htk⟩ := hr.row 0 _ _ [] e n 1 (intD F) rfl rfl rfl rfl (.inl rfl)
  rw [Nat.mul_one, cells_ints] at htk
  have hcall := hc w _ _ cur hb hcap hmax hsz htk
  have henc : ([Dat.sl 0 0 n 1].map (enc ρ)).toArray = #[.slice (some ⟨(ρ 0 []).b, 0, none⟩) n (ρ 0 []).cap] := by
    simp [enc, leaf, RV.slice, hnil, ho]
  rw [henc]
  refine hcall.mono ?_
  rintro e' w' ⟨rfl, hg, hdn, cur', h1, h2, h3⟩
  obtain ⟨g1, g2⟩ := turn_row (G := G) hr (r := 0) (F := F) rfl hg hdn (fun c hc' => by
    rw [hb] at hc'
    cases hc'
    exact ⟨cur', h1, h2, h3⟩)
  exact ⟨.tup 0 (fun _ => .un), ρ, _, by simp [enc], fun i hi => absurd hi (Nat.not_lt_zero _), fun i hi => absurd hi (Nat.not_lt_zero _), g1, g2, rfl, rfl⟩

end
end Go.Proofs.Ytakapfgjdhliaaa.DM

/- xs[l:], copy; comparing a slice with nil. -/
namespace Go.Proofs.Ytakapfgjdhliaaa.DM
open Go.RowKit
set_option linter.unusedVariables false
set_option linter.unusedSimpArgs false

section
variable {P : Program} {T : TyEnv} {fr : Nat → Dat} {m : List Root}

/-- A slice over an own row without its first l elements. -/
theorem sll_ok (hT : TOK P T) {o : Oper} {t : TypeId} {x y : Operand} {e sz0 by0 : Nat} {z0 : Dat} {r off len s n l : Nat} {k : IntKind} {f : Nat → Dat} {e' : TypeId} (ho : o.op = .slice t x (some y) none none) (ht : T t = some ⟨.slice e, sz0, by0, z0⟩) (hx : ev fr x = .sl r off len s) (hy : ev fr y = .i k (l : Int))
    {i : TI} (hi : T e = some i) (hs : i.sz = s) (hR : m[r]? = some (.row e' n s f)) (hl : l ≤ len) (hh : off + l < n) : QOK P o fr m (.sl r (off + l) (len - l) s) m :=
  .of_run fun N ρ ac w hf hr => by
    obtain ⟨h0, hsc, _⟩ := ev_eq hf (x := x) hx (by simp)
    obtain ⟨h1, _⟩ := ev_eq hf (x := y) hy (by simp)
    have hu := (hT t _ ht).fits
    simp only [Ty.fits] at hu
    have hel : P.elem t = e := by simp [Program.elem, hu]
    have hu' : P.underlying t = some (.slice (P.elem t)) := by rw [hel]; exact hu
    have hnil := hr.mine_nil hR rfl (.inl ⟨rfl, rfl⟩)
    have hcap : n ≤ (ρ r []).cap := by
      obtain ⟨blk, hb, _, _, hc, _⟩ := hr.row r _ _ [] e' n s f hR rfl rfl rfl (.inl rfl)
      exact hc
    refine ⟨?_, hsc, trivial, trivial⟩
    obtain ⟨ti, z, g1, _, _, g4, _, _⟩ := info_all (hT e i hi)
    simp only [execOp, ho, Option.map_none, Option.map_some, h0, h1, enc, leaf, RV.slice, hnil]
    have h2 := run_sliceAt_slice (P := P) w t (.slice (some ⟨(ρ r []).b, (ρ r []).o + off * s, none⟩) len ((ρ r []).cap - off)) (some (.int k (l : Int))) none none hu'
    have := run_slice_l (P := P) w t (some ⟨(ρ r []).b, (ρ r []).o + off * s, none⟩) len ((ρ r []).cap - off) hu' k (l : Int) (by omega) (by omega)
    have hsz : ti.size = s := by rw [g4, hs]
    have hc1 : ¬ (ρ r []).cap - off = l := by omega
    have hc2 : (ρ r []).cap - off - l = (ρ r []).cap - (off + l) := by omega
    simp only [Sem.run_bind, h2, this, hel, sizeOf, typeInfo, g1, Sem.run_pure, Result.andThen_ok, sliced, Int.toNat_natCast, if_neg hc1, hc2, Option.map_some]
    have hadd : (⟨(ρ r []).b, (ρ r []).o + off * s, none⟩ : Addr).add (l * s) = ⟨(ρ r []).b, (ρ r []).o + (off + l) * s, none⟩ := by
      unfold Addr.add
      rw [Nat.add_mul, ← Nat.add_assoc]
      split
      · rename_i h; rw [h]; rfl
      · rfl
    simp [g1, hsz, hadd, Result.andThen]

end
end Go.Proofs.Ytakapfgjdhliaaa.DM

/- A slice compared with nil. -/
namespace Go.Proofs.Ytakapfgjdhliaaa.DM
open Go.RowKit
set_option linter.unusedVariables false
set_option linter.unusedSimpArgs false

section
variable {P : Program} {T : TyEnv} {fr : Nat → Dat} {m : List Root}

end
end Go.Proofs.Ytakapfgjdhliaaa.DM
