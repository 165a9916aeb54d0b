import Derived.Test.YtaafldclbdlgfaaD18
import Derived.Laws.Slices
import Derived.Laws.AppendOwn
import Derived.Laws.CopyRow
import Derived.Laws.Cover3
/- Slices of slices, min and max. -/
namespace Go.Proofs.Ytaafldclbdlgfaa.DM
open Go.RowKit
set_option linter.unusedVariables false
set_option linter.unusedSimpArgs false

section
variable {P : Program} {T : TyEnv} {fr : Nat → Dat} {m : List Root}

/-- The first h elements of a slice over an own row. -/
theorem slh_ok (hT : TOK P T) {o : Oper} {t : TypeId} {x y : Operand} {e sz0 by0 : Nat} {z0 : Dat} {r off len s n h : Nat} {k : IntKind} {f : Nat → Dat} {e' : TypeId} (ho : o.op = .slice t x none (some y) none) (ht : T t = some ⟨.slice e, sz0, by0, z0⟩) (hx : ev fr x = .sl r off len s) (hy : ev fr y = .i k (h : Int))
    {i : TI} (hi : T e = some i) (hs : i.sz = s) (hR : m[r]? = some (.row e' n s f)) (hh : off + h ≤ n) : QOK P o fr m (.sl r off h s) m :=
  .of_run fun N ρ ac w hf hr => by
    obtain ⟨h0, hsc, _⟩ := ev_eq hf (x := x) hx (by simp)
    obtain ⟨h1, _⟩ := ev_eq hf (x := y) hy (by simp)
    have hu := (hT t _ ht).fits
    simp only [Ty.fits] at hu
    have hel : P.elem t = e := by simp [Program.elem, hu]
    have hu' : P.underlying t = some (.slice (P.elem t)) := by rw [hel]; exact hu
    have hnil := hr.mine_nil hR rfl (.inl ⟨rfl, rfl⟩)
    have hcap : n ≤ (ρ r []).cap := by
      obtain ⟨blk, hb, _, _, hc, _⟩ := hr.row r _ _ [] e' n s f hR rfl rfl rfl (.inl rfl)
      exact hc
    refine ⟨?_, hsc, trivial, trivial⟩
    obtain ⟨ti, z, g1, _, _, g4, _, _⟩ := info_all (hT e i hi)
    simp only [execOp, ho, Option.map_none, Option.map_some, h0, h1, enc, leaf, RV.slice, hnil]
    have h2 := run_sliceAt_slice (P := P) w t (.slice (some ⟨(ρ r []).b, (ρ r []).o + off * s, none⟩) len ((ρ r []).cap - off)) none (some (.int k (h : Int))) none hu'
    have := run_slice_h (P := P) w t (some ⟨(ρ r []).b, (ρ r []).o + off * s, none⟩) len ((ρ r []).cap - off) hu' k (h : Int) (by omega) (by omega)
    simp only [Sem.run_bind, h2, this, hel, sizeOf, typeInfo, g1, Sem.run_pure, Result.andThen_ok, sliced, Int.toNat_natCast, Nat.sub_zero, Nat.zero_mul]
    simp [Addr.add, g1, Result.andThen]

end
end Go.Proofs.Ytaafldclbdlgfaa.DM

/- A library function that turns the numbers of a row in place. -/
namespace Go.Proofs.Ytaafldclbdlgfaa.DM
open Go.RowKit
set_option linter.unusedVariables false
set_option linter.unusedSimpArgs false

section
variable {P : Program}

def intD (F : Nat → Int) (j : Nat) : Dat := .i .i64 (F j)

theorem cells_ints (ρ : Rho) (A : List Nat → RV) (n : Nat) (F : Nat → Int) : cells ρ A (.ar n 1 (intD F)) = (List.range n).map fun j => Value.int .i64 (F j) := by
  simp only [cells, intD, leaf]
  induction List.range n with
  | nil => rfl
  | cons a l ih => simp [ih]

theorem turn_row {ρ : Rho} {m : List Root} {w w' : World} (h : Rep ρ m w) {r : Nat} {e : TypeId} {n : Nat} {F G : Nat → Int} (hr : m[r]? = some (.row e n 1 (intD F))) (hg : w.grownBy w' (some (ρ r []).b)) (hdn : w.drawn ≤ w'.drawn)
    (hn : ∀ cur, w.heap[(ρ r []).b]? = some (.cells cur e (0, 0)) → ∃ cur', w'.heap[(ρ r []).b]? = some (.cells cur' e (0, 0)) ∧ cur'.size = cur.size ∧ cur'.toList.take n = (List.range n).map fun j => Value.int .i64 (G j)) :
    Rep ρ (m.set r (.row e n 1 (intD G))) w' ∧ Tr ρ m w ρ (m.set r (.row e n 1 (intD G))) w' := by
  obtain ⟨cur, hb, ho, hnil, hcap, hmax, hsz, htk⟩ := h.row r _ _ [] e n 1 (intD F) hr rfl rfl rfl (.inl rfl)
  obtain ⟨cur', hb', hsz', htk'⟩ := hn cur hb
  have hlt : (ρ r []).b < w.heap.size := (Array.getElem?_eq_some_iff.1 hb).1
  have hpl : ∀ q e' n' s' f', q ≠ [] → nav (.ow e n 1 (intD G)) q ≠ some (.ow e' n' s' f') := by
    intro q e' n' s' f' hq hx
    cases q with
    | nil => exact hq rfl
    | cons i q =>
      simp only [nav] at hx
      split at hx
      · exact Pl_nav (d := intD G i) trivial hx
      · cases hx
  let w1 : World := { w with heap := w.heap.setIfInBounds (ρ r []).b (.cells cur' e (0, 0)) }
  have h1 : Rep ρ (m.set r (.row e n 1 (intD G))) w1 := by
    refine h.replace hr rfl rfl (by simp [w1]) (fun k hk => by simp only [w1]; rw [Array.getElem?_setIfInBounds_ne (Ne.symm hk)]) (fun d hd => by cases hd) (fun e' n' s' f' hR => ?_) (fun d d' q e' n' s' f' _ hd' hq hx => ?_) (fun d' e' n' s' f' hR => by cases hR) (fun d hd => ?_) (fun b l hh => by cases hh)
    · cases hR
      refine ⟨cur', by simp only [w1]; rw [Array.getElem?_setIfInBounds_self]; simp [hlt], ho, hnil, hcap, hmax, by rw [hsz']; exact hsz, ?_⟩
      rw [Nat.mul_one, htk', cells_ints]
    · cases hd'; exact absurd hx (hpl q e' n' s' f' hq)
    · cases hd
      exact ⟨fun _ _ => ⟨rfl, trivial⟩, fun _ _ => trivial⟩
  have hb1 : ∀ k, k < w1.heap.size → w'.heap[k]? = w1.heap[k]? := by
    intro k hk
    have hk' : k < w.heap.size := by simpa [w1] using hk
    by_cases e1 : k = (ρ r []).b
    · subst e1
      simp only [w1]; rw [Array.getElem?_setIfInBounds_self, hb']; simp [hlt]
    · simp only [w1]
      rw [Array.getElem?_setIfInBounds_ne (Ne.symm e1)]
      exact hg.block k hk' (fun e2 => e1 (Option.some.inj e2))
  refine ⟨h1.move (by simp [w1]; exact hg.size) hb1, hg.os, hg.tape, hdn, hg.output, hg.size, fun _ _ => rfl, by simp, fun k hk hno => ?_, fun r' R q h2 h3 h4 => ?_, fun r' R q h2 h3 h4 => ?_⟩
  · exact hg.block k hk fun e2 => hno r _ [] hr rfl (.inl ⟨rfl, rfl⟩) (by have := Option.some.inj e2; exact this.symm)
  · refine .inr ?_
    rcases set_get h2 with ⟨rfl, rfl, _⟩ | ⟨hne, h5⟩
    · have hq : q = [] := by
        rcases h4 with h4 | ⟨d, e', n', s', f', h5, h6, _⟩
        · exact h4.1
        · cases h5
          exact Classical.byContradiction fun hq => hpl q _ _ _ _ hq h6
      subst hq
      exact ⟨_, _, [], hr, rfl, .inl ⟨rfl, rfl⟩, rfl⟩
    · exact ⟨r', R, q, h5, h3, h4, rfl⟩
  · refine .inr ?_
    rcases set_get h2 with ⟨rfl, rfl, _⟩ | ⟨hne, h5⟩
    · have hq : q = [] := by
        rcases h3 with h3 | ⟨d, e', n', s', f', h5, h6⟩
        · exact h3.1
        · cases h5
          exact Classical.byContradiction fun hq => hpl q _ _ _ _ hq h6
      subst hq
      exact ⟨_, _, [], hr, .inl ⟨rfl, rfl⟩, h4, rfl⟩
    · exact ⟨r', R, q, h5, h3, h4, rfl⟩

/-- .. as a contract on plain data: a function of the library that turns the row's numbers and returns nothing. -/
theorem FnS.turner {f : FuncId} {e : TypeId} {n : Nat} {F G : Nat → Int} (he : ∀ args w, (callFunc f args).run P w = .ok (.enter f args) w)
    (hc : ∀ (w : World) (b cap : Nat) (cur : Array Value), w.heap[b]? = some (.cells cur e (0, 0)) → n ≤ cap → cap ≤ maxLen → cur.size = cap * 1 → cur.toList.take n = (List.range n).map (fun j => Value.int .i64 (F j)) →
      Calls P f #[.slice (some ⟨b, 0, none⟩) n cap] w fun e' w' => e' = .returned (.tuple #[]) ∧ w.grownBy w' (some b) ∧ w.drawn ≤ w'.drawn ∧ ∃ cur', w'.heap[b]? = some (.cells cur' e (0, 0)) ∧ cur'.size = cur.size ∧ cur'.toList.take n = (List.range n).map fun j => Value.int .i64 (G j)) :
    FnS P f [.sl 0 0 n 1] [.row e n 1 (intD F)] (fun r m' => r = .tup 0 (fun _ => .un) ∧ m' = [.row e n 1 (intD G)]) := by
  refine ⟨he, fun ρ w hr hx => ?_⟩
  obtain ⟨cur, hb, ho, hnil, hcap, hmax, hsz, htk⟩ := hr.row 0 _ _ [] e n 1 (intD F) rfl rfl rfl rfl (.inl rfl)
  rw [Nat.mul_one, cells_ints] at htk
  have hcall := hc w _ _ cur hb hcap hmax hsz htk
  have henc : ([Dat.sl 0 0 n 1].map (enc ρ)).toArray = #[.slice (some ⟨(ρ 0 []).b, 0, none⟩) n (ρ 0 []).cap] := by
    simp [enc, leaf, RV.slice, hnil, ho]
  rw [henc]
  refine hcall.mono ?_
  rintro e' w' ⟨rfl, hg, hdn, cur', h1, h2, h3⟩
  obtain ⟨g1, g2⟩ := turn_row (G := G) hr (r := 0) (F := F) rfl hg hdn (fun c hc' => by
    rw [hb] at hc'
    cases hc'
    exact ⟨cur', h1, h2, h3⟩)
  exact ⟨.tup 0 (fun _ => .un), ρ, _, by simp [enc], fun i hi => absurd hi (Nat.not_lt_zero _), fun i hi => absurd hi (Nat.not_lt_zero _), g1, g2, rfl, rfl⟩

end
end Go.Proofs.Ytaafldclbdlgfaa.DM

/- xs[l:], copy; comparing a slice with nil. -/
namespace Go.Proofs.Ytaafldclbdlgfaa.DM
open Go.RowKit
set_option linter.unusedVariables false
set_option linter.unusedSimpArgs false

section
variable {P : Program} {T : TyEnv} {fr : Nat → Dat} {m : List Root}

/-- A slice over an own row without its first l elements. -/
theorem sll_ok (hT : TOK P T) {o : Oper} {t : TypeId} {x y : Operand} {e sz0 by0 : Nat} {z0 : Dat} {r off len s n l : Nat} {k : IntKind} {f : Nat → Dat} {e' : TypeId} (ho : o.op = .slice t x (some y) none none) (ht : T t = some ⟨.slice e, sz0, by0, z0⟩) (hx : ev fr x = .sl r off len s) (hy : ev fr y = .i k (l : Int))
    {i : TI} (hi : T e = some i) (hs : i.sz = s) (hR : m[r]? = some (.row e' n s f)) (hl : l ≤ len) (hh : off + l < n) : QOK P o fr m (.sl r (off + l) (len - l) s) m :=
  .of_run fun N ρ ac w hf hr => by
    obtain ⟨h0, hsc, _⟩ := ev_eq hf (x := x) hx (by simp)
    obtain ⟨h1, _⟩ := ev_eq hf (x := y) hy (by simp)
    have hu := (hT t _ ht).fits
    simp only [Ty.fits] at hu
    have hel : P.elem t = e := by simp [Program.elem, hu]
    have hu' : P.underlying t = some (.slice (P.elem t)) := by rw [hel]; exact hu
    have hnil := hr.mine_nil hR rfl (.inl ⟨rfl, rfl⟩)
    have hcap : n ≤ (ρ r []).cap := by
      obtain ⟨blk, hb, _, _, hc, _⟩ := hr.row r _ _ [] e' n s f hR rfl rfl rfl (.inl rfl)
      exact hc
    refine ⟨?_, hsc, trivial, trivial⟩
    obtain ⟨ti, z, g1, _, _, g4, _, _⟩ := info_all (hT e i hi)
    simp only [execOp, ho, Option.map_none, Option.map_some, h0, h1, enc, leaf, RV.slice, hnil]
    have h2 := run_sliceAt_slice (P := P) w t (.slice (some ⟨(ρ r []).b, (ρ r []).o + off * s, none⟩) len ((ρ r []).cap - off)) (some (.int k (l : Int))) none none hu'
    have := run_slice_l (P := P) w t (some ⟨(ρ r []).b, (ρ r []).o + off * s, none⟩) len ((ρ r []).cap - off) hu' k (l : Int) (by omega) (by omega)
    have hsz : ti.size = s := by rw [g4, hs]
    have hc1 : ¬ (ρ r []).cap - off = l := by omega
    have hc2 : (ρ r []).cap - off - l = (ρ r []).cap - (off + l) := by omega
    simp only [Sem.run_bind, h2, this, hel, sizeOf, typeInfo, g1, Sem.run_pure, Result.andThen_ok, sliced, Int.toNat_natCast, if_neg hc1, hc2, Option.map_some]
    have hadd : (⟨(ρ r []).b, (ρ r []).o + off * s, none⟩ : Addr).add (l * s) = ⟨(ρ r []).b, (ρ r []).o + (off + l) * s, none⟩ := by
      unfold Addr.add
      rw [Nat.add_mul, ← Nat.add_assoc]
      split
      · rename_i h; rw [h]; rfl
      · rfl
    simp [g1, hsz, hadd, Result.andThen]

end
end Go.Proofs.Ytaafldclbdlgfaa.DM

/- A slice compared with nil. -/
namespace Go.Proofs.Ytaafldclbdlgfaa.DM
open Go.RowKit
set_option linter.unusedVariables false
set_option linter.unusedSimpArgs false

section
variable {P : Program} {T : TyEnv} {fr : Nat → Dat} {m : List Root}

end
end Go.Proofs.Ytaafldclbdlgfaa.DM

/- Rows of rows: the inner rows picked anew (sorted, some left out). -/
namespace Go.Proofs.Ytaafldclbdlgfaa.DM
open Go.RowKit
set_option linter.unusedVariables false
set_option linter.unusedSimpArgs false

/-- Rows of numbers inside. -/
def Inn (e2 : TypeId) (f : Nat → Dat) (n : Nat) : Prop := ∀ j, j < n → ∃ k g, f j = .ow e2 k 1 (intD g)

theorem nav_inn {e e2 : TypeId} {n : Nat} {f : Nat → Dat} (hf : Inn e2 f n) {q : List Nat} {e' : TypeId} {m s' : Nat} {f' : Nat → Dat} (h : nav (.ow e n 1 f) q = some (.ow e' m s' f')) : (q = [] ∧ e' = e ∧ m = n ∧ s' = 1 ∧ f' = f) ∨ ∃ j, j < n ∧ q = [j] ∧ f j = .ow e' m s' f' ∧ e' = e2 := by
  cases q with
  | nil =>
    simp only [nav, Option.some.injEq, Dat.ow.injEq] at h
    exact .inl ⟨rfl, h.1.symm, h.2.1.symm, h.2.2.1.symm, h.2.2.2.symm⟩
  | cons j q =>
    simp only [nav] at h
    split at h
    · rename_i hj
      obtain ⟨k, g, e1⟩ := hf j hj
      rw [e1] at h
      cases q with
      | nil =>
        simp only [nav, Option.some.injEq] at h
        refine .inr ⟨j, hj, rfl, e1.trans h, ?_⟩
        simp only [Dat.ow.injEq] at h
        exact h.1.symm
      | cons i q =>
        simp only [nav] at h
        split at h
        · exact absurd h (Pl_nav (d := intD g i) trivial)
        · cases h
    · cases h

def pickR (ρ : Rho) (σ : Nat → Nat) : Rho := fun r q => match q with
  | [] => ρ r []
  | j :: z => ρ r (σ j :: z)
def pickQ (σ : Nat → Nat) (q : List Nat) : List Nat := match q with
  | [] => []
  | j :: z => σ j :: z
theorem pickR_eq (ρ : Rho) (σ : Nat → Nat) (r : Nat) (q : List Nat) : pickR ρ σ r q = ρ r (pickQ σ q) := by cases q <;> rfl

theorem cells_inn (ρ : Rho) (A : List Nat → RV) (n : Nat) {e2 : TypeId} {f : Nat → Dat} (hf : Inn e2 f n) (V : Nat → Value) (hV : ∀ j, j < n → ∀ k g, f j = .ow e2 k 1 (intD g) → (A [j]).slice 0 k 1 = V j) : cells ρ A (.ar n 1 f) = (List.range n).map V := by
  simp only [cells]
  have : ∀ l : List Nat, (∀ j ∈ l, j < n) → (l.flatMap fun i => cells ρ (fun q => A (i :: q)) (f i)) = l.map V := by
    intro l
    induction l with
    | nil => intro _; rfl
    | cons i l ih =>
      intro hl
      obtain ⟨k, g, e1⟩ := hf i (hl i (.head _))
      rw [List.flatMap_cons, List.map_cons, ih fun j hj => hl j (.tail _ hj)]
      rw [e1]
      show [(A [i]).slice 0 k 1] ++ _ = _
      rw [hV i (hl i (.head _)) k g e1]
      rfl
  exact this _ fun j hj => List.mem_range.1 hj

theorem rep_pick {ρ : Rho} {w w' : World} {e e2 : TypeId} {n n' : Nat} {f : Nat → Dat} {σ : Nat → Nat} (h : Rep ρ [.row e n 1 f] w) (he2 : e2 ≠ 0) (hf : Inn e2 f n) (hn : n' ≤ n) (hσ : ∀ j, j < n' → σ j < n) (hinj : ∀ i j, i < n' → j < n' → σ i = σ j → i = j)
    (hg : w.grownBy w' (some (ρ 0 []).b)) (hdn : w.drawn ≤ w'.drawn)
    (hc : ∀ cur, w.heap[(ρ 0 []).b]? = some (.cells cur e (0, 0)) → ∃ cur', w'.heap[(ρ 0 []).b]? = some (.cells cur' e (0, 0)) ∧ cur'.size = cur.size ∧ ∀ j, j < n' → cur'[j]? = cur[σ j]?) :
    Rep (pickR ρ σ) [.row e n' 1 (fun j => f (σ j))] w' ∧ Tr ρ [.row e n 1 f] w (pickR ρ σ) [.row e n' 1 (fun j => f (σ j))] w' := by
  have hf' : Inn e2 (fun j => f (σ j)) n' := fun j hj => hf _ (hσ j hj)
  have one : ∀ {r : Nat} {R R0 : Root}, [R0][r]? = some R → r = 0 ∧ R = R0 := fun {r R R0} h => by
    cases r with
    | zero => simp at h; exact ⟨rfl, h.symm⟩
    | succ r => simp at h
  obtain ⟨cur, hb, ho, hnil, hcap, hmax, hsz, htk⟩ := h.row 0 _ _ [] e n 1 f rfl rfl rfl rfl (.inl rfl)
  obtain ⟨cur', hb', hsz', hcur⟩ := hc cur hb
  -- places
  have at0 : ∀ {R : Root} {n0 : Nat} {f0 : Nat → Dat} {q : List Nat}, Inn e2 f0 n0 → R = .row e n0 1 f0 → At R q → q = [] ∨ ∃ j, j < n0 ∧ q = [j] := fun {R n0 f0 q} hf0 hR hq => by
    subst hR
    rcases hq with ⟨h1, _⟩ | ⟨d, e', m, s', f', h1, h2⟩
    · exact .inl h1
    · cases h1
      rcases nav_inn hf0 h2 with ⟨h3, _⟩ | ⟨j, hj, h3, _⟩
      · exact .inl h3
      · exact .inr ⟨j, hj, h3⟩
  have atO : ∀ {n0 : Nat} {f0 : Nat → Dat} {q : List Nat}, Inn e2 f0 n0 → (q = [] ∨ ∃ j, j < n0 ∧ q = [j]) → AtO (.row e n0 1 f0) q := fun {n0 f0 q} hf0 hq => by
    rcases hq with rfl | ⟨j, hj, rfl⟩
    · exact .inl ⟨rfl, rfl⟩
    · obtain ⟨k, g, e1⟩ := hf0 j hj
      exact .inr ⟨_, e2, k, 1, intD g, rfl, by simp only [nav, if_pos hj, e1], he2⟩
  have pq : ∀ {q : List Nat}, (q = [] ∨ ∃ j, j < n' ∧ q = [j]) → (pickQ σ q = [] ∨ ∃ j, j < n ∧ pickQ σ q = [j]) := fun {q} hq => by
    rcases hq with rfl | ⟨j, hj, rfl⟩
    · exact .inl rfl
    · exact .inr ⟨σ j, hσ j hj, rfl⟩
  have hcell : ∀ j, j < n → ∀ k g, f j = .ow e2 k 1 (intD g) → cur[j]? = some ((ρ 0 [j]).slice 0 k 1) := fun j hj k g e1 => by
    have hall := cells_inn ρ (fun z => ρ 0 ([] ++ z)) n hf (fun j => (cur[j]?).getD default) (fun j hj k g e1 => ?_)
    · rw [Nat.mul_one] at htk
      have h2 : cells ρ (fun z => ρ 0 ([] ++ z)) (.ar n 1 f) = (List.range n).map fun j => (ρ 0 [j]).slice 0 (match f j with | .ow _ k _ _ => k | _ => 0) 1 := cells_inn ρ _ n hf _ fun j hj k g e1 => by rw [e1]; rfl
      rw [h2] at htk
      have h3 := congrArg (fun l => l[j]?) htk
      simp only [List.getElem?_take, if_pos hj, List.getElem?_map, List.getElem?_range hj, Option.map_some, Array.getElem?_toList] at h3
      rw [h3, e1]
    · rw [Nat.mul_one] at htk
      have h2 : cells ρ (fun z => ρ 0 ([] ++ z)) (.ar n 1 f) = (List.range n).map fun j => (ρ 0 [j]).slice 0 (match f j with | .ow _ k _ _ => k | _ => 0) 1 := cells_inn ρ _ n hf _ fun j hj k g e1 => by rw [e1]; rfl
      rw [h2] at htk
      have h3 := congrArg (fun l => l[j]?) htk
      simp only [List.getElem?_take, if_pos hj, List.getElem?_map, List.getElem?_range hj, Option.map_some, Array.getElem?_toList] at h3
      rw [h3, e1]; rfl
  have hne : ∀ j, j < n → (ρ 0 [j]).nil = false → (ρ 0 []).b ≠ (ρ 0 [j]).b := fun j hj hnl => h.sep 0 _ [] 0 _ [j] rfl rfl rfl (.inl ⟨rfl, rfl⟩) (AtO.at (atO hf (.inr ⟨j, hj, rfl⟩))) hnl (fun _ => by simp)
  refine ⟨⟨fun r d hr => ?_, fun r R d q e' m s' f' hR hm hcon hnav hq => ?_, fun r R d q e' m s' f' hR hm hcon hnav => ?_, fun r R q r' R' q' hR hR' hm hq hq' hnl hdiff => ?_, fun r R d hR hcon => ?_, fun r b l hr => by obtain ⟨_, hr⟩ := one hr; cases hr⟩, ?_⟩
  · obtain ⟨_, hr⟩ := one hr; cases hr
  · obtain ⟨rfl, rfl⟩ := one hR
    cases hcon
    rcases nav_inn hf' hnav with ⟨rfl, rfl, rfl, rfl, rfl⟩ | ⟨j, hj, rfl, e1, rfl⟩
    · refine ⟨cur', hb', ho, hnil, Nat.le_trans hn hcap, hmax, by rw [hsz']; exact hsz, ?_⟩
      rw [Nat.mul_one]
      rw [cells_inn (pickR ρ σ) _ m hf' (fun j => (cur'[j]?).getD default) fun j hj k g e1 => ?_]
      · refine List.ext_getElem? fun j => ?_
        rw [List.getElem?_take, List.getElem?_map]
        by_cases hj : j < m
        · have h1 : j < cur'.size := by
            have h2 := hσ j hj
            rw [hsz', hsz]; omega
          rw [if_pos hj, List.getElem?_range hj, Array.getElem?_toList, Option.map_some, Array.getElem?_eq_getElem h1]; rfl
        · rw [if_neg hj, List.getElem?_eq_none (by simp; omega)]; rfl
      · rw [hcur j hj, hcell _ (hσ j hj) k g e1]; rfl
    · obtain ⟨k, g, e3⟩ := hf' j hj
      have e3 : f (σ j) = .ow e' k 1 (intD g) := e3
      rw [e3] at e1
      simp only [Dat.ow.injEq] at e1
      obtain ⟨_, rfl, rfl, rfl⟩ := e1
      obtain ⟨blk, g1, g2, g3, g4, g5, g6, g7⟩ := h.row 0 _ _ [σ j] e' k 1 (intD g) rfl rfl rfl (by simp only [nav, if_pos (hσ j hj), e3]) (.inr he2)
      have hlt : (ρ 0 [σ j]).b < w.heap.size := (Array.getElem?_eq_some_iff.1 g1).1
      refine ⟨blk, ?_, g2, g3, g4, g5, g6, ?_⟩
      · exact (hg.block _ hlt fun h2 => hne _ (hσ j hj) g3 (Option.some.inj h2).symm).trans g1
      · rw [g7, cells_ints, cells_ints]
  · obtain ⟨rfl, rfl⟩ := one hR
    cases hcon
    rcases hm with hm | ⟨h1, h2⟩
    · cases hm
    · rcases nav_inn hf' hnav with ⟨rfl, _⟩ | ⟨j, hj, rfl, e1, rfl⟩
      · exact absurd rfl h1
      · exact absurd h2 he2
  · obtain ⟨rfl, rfl⟩ := one hR
    obtain ⟨rfl, rfl⟩ := one hR'
    have p1 := at0 hf' rfl hq.at
    have p2 := at0 hf' rfl hq'
    rw [pickR_eq] at hnl
    rw [pickR_eq, pickR_eq]
    refine h.sep 0 _ _ 0 _ _ rfl rfl rfl (atO hf (pq p1)) (atO hf (pq p2)).at hnl fun _ he => hdiff rfl ?_
    rcases p1 with rfl | ⟨i, hi, rfl⟩ <;> rcases p2 with rfl | ⟨j, hj, rfl⟩
    · rfl
    · cases he
    · cases he
    · simp only [pickQ, List.cons.injEq, and_true] at he
      rw [hinj i j hi hj he]
  · obtain ⟨rfl, rfl⟩ := one hR
    cases hcon
    obtain ⟨h1, h2⟩ := h.wf 0 _ _ rfl rfl
    exact ⟨fun i hi => h1 _ (hσ i hi), fun i hi => h2 _ (hσ i hi)⟩
  · refine ⟨hg.os, hg.tape, hdn, hg.output, hg.size, fun r hr => rfl, Nat.le_refl _, fun k hk hno => ?_, fun r R q hR hm hq => .inr ?_, fun r R q hR hq hnl => .inr ?_⟩
    · exact hg.block k hk fun e2 => hno 0 _ [] rfl rfl (.inl ⟨rfl, rfl⟩) (Option.some.inj e2).symm
    · obtain ⟨rfl, rfl⟩ := one hR
      exact ⟨0, _, pickQ σ q, rfl, rfl, atO hf (pq (at0 hf' rfl hq.at)), by rw [pickR_eq]⟩
    · obtain ⟨rfl, rfl⟩ := one hR
      exact ⟨0, _, pickQ σ q, rfl, (atO hf (pq (at0 hf' rfl hq))).at, by rw [← pickR_eq ρ σ 0 q]; exact hnl, by rw [pickR_eq]⟩

end Go.Proofs.Ytaafldclbdlgfaa.DM
