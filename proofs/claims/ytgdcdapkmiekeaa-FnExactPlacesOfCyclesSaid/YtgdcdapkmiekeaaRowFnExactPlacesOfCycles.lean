/- The law FnExactPlacesOfCycles holds of the program for every input. Conditions: none. -/
import Derived.Test.YtgdcdapkmiekeaaW2
import Derived.Test.YtgdcdapkmiekeaaJ1
import Derived.Test.YtgdcdapkmiekeaaJ2
import Derived.Test.YtgdcdapkmiekeaaJ3
namespace Go.Proofs.Ytgdcdapkmiekeaa.fnExactPlacesOfCycles
open Go.ChangeShapes Go.WideShapes Go.ChangeAt Go.RowKit DM
set_option linter.unusedVariables false
set_option maxRecDepth 100000 in
theorem lifted (os : Os) (started : os.Started) (H : Type) (enc : TypeId × Value → H) :
    ReturnsInHanded {} Try.checked os 5 .any (Rows.fnExactPlacesOfCyclesSpec.pre6 enc Try.prog Try.f5 Rows.fnExactPlacesOfCyclesRow.domain false) (Rows.fnExactPlacesOfCyclesSpec.post enc Try.prog Try.f5 false true false false) := by
  refine returnsInHanded_of_change_sized (C := Try.checked) own started (by kernel_rfl) Try.func5
    (ChangeSpec.witness6 (enc := enc) (C := Try.checked) false ⟨#[], #[.slice none 0 0, .int .i64 0], []⟩ 8 (by kernel_rfl) (by kernel_rfl) (by kernel_rfl) (by kernel_rfl)) ?_
  intro W base args ds gs before hval0 hW hcnd hsz0 _
  have hval : ∀ (j : Nat) t v, Try.f5.params[j]? = some t → args[j]? = some v → Value.okWide Try.prog W .any base t v := hval0
  have hW' := hW
  obtain ⟨p, q, hA0, hV, rfl, hfz, hnd⟩ := hW
  have hA : DataW.TrodAll enc Try.prog W 0 (fun _ => true) true Try.f5.params.toList args.toList ds p := hA0
  rw [Try.params5] at hA hval
  obtain ⟨v0, vs0, d0, ds0, p0, q0, hargs0, rfl, rfl, h0, r0⟩ := trodAll_cons hA
  obtain ⟨v1, vs1, d1, ds1, p1, q1, hargs1, rfl, rfl, h1, r1⟩ := trodAll_cons r0
  obtain ⟨rfl, rfl, rfl⟩ := trodAll_nil r1
  subst hargs1
  obtain rfl : args = #[v0, v1] := by cases args; simp_all
  obtain ⟨rfl, rfl⟩ := trodVars_none hV
  have k0 := h0
  have lt0 : ∀ x ∈ p0, x.block < W.heap.size := by obtain ⟨m, hm⟩ := k0; exact DataW.trod_lt m _ _ _ hm
  have k1 := h1
  have lt1 : ∀ x ∈ p1, x.block < W.heap.size := by obtain ⟨m, hm⟩ := k1; exact DataW.trod_lt m _ _ _ hm
  obtain ⟨a1, rfl, _, _, w1⟩ := open_int Try.underlying2 (hval 1 2 v1 rfl rfl) h1
  obtain ⟨n, ln, g, ρ, rfl, hn, hl, hrep⟩ : ∃ (n : Nat) (ln : Nat → Nat) (g : Nat → Nat → Int) (ρ : Rho), v0 = DM.enc ρ (.sl 0 0 n 1) ∧ n ≤ maxLen ∧ (∀ j, j < n → ln j ≤ maxLen) ∧ Rep ρ [.ro n 1 (rowsG ln g)] W := by
    obtain ⟨a0, len0, cap0, rfl⟩ := okWide_slice Try.underlying28 (hval 0 28 v0 rfl rfl)
    obtain ⟨fuel, hf⟩ := h0
    exact in_rows Try.underlying28 Try.underlying55 Try.underlying2 (by kernel_rfl) (by kernel_rfl) hf
  refine ((law_PlacesOfCycles n ln g a1 hn hl).calls rfl hrep (by intro x hx; simp only [List.mem_cons, List.not_mem_nil, or_false] at hx; rcases hx with rfl | rfl; exact ⟨Nat.zero_lt_one, trivial, trivial⟩; exact ⟨trivial, trivial, trivial⟩) noR).mono ?_
  rintro e W' ⟨rfl, _, _, bel⟩
  exact ⟨_, rfl, _, _, _, [], _, [], hW', trodAll_mk1 (shut_bool Try.underlying4 _), (trodAll_cons_mk (Below.trod laidOut (by kernel_rfl) (of_decide_eq_true (by kernel_rfl)) k0 bel lt0) (trodAll_cons_mk (Below.trod laidOut (by kernel_rfl) (of_decide_eq_true (by kernel_rfl)) k1 bel lt1) trodAll_mk0)), rfl, bel.frame _, fun h => by cases h⟩
theorem over : Rows.fnExactPlacesOfCyclesRow.holds Try.pinned (OpenSpec.ofChange Rows.fnExactPlacesOfCyclesSpec) :=
  OpenClaim.holds_of_wide 5 Try.f5 rfl rfl rfl rfl rfl rfl rfl ⟨rfl, rfl, rfl, rfl, rfl⟩ rfl rfl rfl rfl rfl (by kernel_rfl) Try.func5 (by unfold joinedFacts; rw [joined1, joined2, show (Try.pinned).checked.prog.make = some Rows.fnExactPlacesOfCyclesRow.make from joined3]; kernel_rfl)
    (of_decide_eq_true (by kernel_rfl)) (by unfold Func.isWrapper; first | (rw [if_pos (by decide +kernel)]; kernel_rfl) | (rw [if_neg (by decide +kernel)]; exact ⟨rfl, rfl⟩))
    (fun os started H enc _ => lifted os started H enc)
end Go.Proofs.Ytgdcdapkmiekeaa.fnExactPlacesOfCycles
namespace Go.Proofs.Ytgdcdapkmiekeaa
/-- The law holds. -/
theorem fnExactPlacesOfCycles_holds : Rows.FnExactPlacesOfCyclesSaid := fnExactPlacesOfCycles.over
#print axioms fnExactPlacesOfCycles_holds
end Go.Proofs.Ytgdcdapkmiekeaa
