/- The law FnExactIsPassport holds of the program for every input. Conditions: none. -/
import Derived.Test.YtgdcdapkmiekeaaW1
import Derived.Test.YtgdcdapkmiekeaaP1
import Derived.Test.YtgdcdapkmiekeaaJ1
import Derived.Test.YtgdcdapkmiekeaaJ2
import Derived.Test.YtgdcdapkmiekeaaJ3
namespace Go.Proofs.Ytgdcdapkmiekeaa.fnExactIsPassport
open Go.ChangeShapes Go.WideShapes Go.ChangeAt Go.RowKit Go.Proofs.YtgdcdapkmiekeaaW.PrintWords
set_option linter.unusedVariables false
theorem own : ownKnob Try.prog.godebug = none := by kernel_rfl
theorem laidOut : laidOutB Try.prog = true := by kernel_rfl
set_option maxRecDepth 100000 in
theorem lifted (os : Os) (started : os.Started) (H : Type) (enc : TypeId × Value → H) :
    ReturnsInHanded {} Try.checked os 4 .any (Rows.fnExactIsPassportSpec.pre6 enc Try.prog Try.f4 Rows.fnExactIsPassportRow.domain false) (Rows.fnExactIsPassportSpec.post enc Try.prog Try.f4 false true false false) := by
  refine returnsInHanded_of_change_sized (C := Try.checked) own started (by kernel_rfl) Try.func4
    (ChangeSpec.witness6 (enc := enc) (C := Try.checked) false ⟨#[], #[.slice none 0 0], []⟩ 8 (by kernel_rfl) (by kernel_rfl) (by kernel_rfl) (by kernel_rfl)) ?_
  intro W base args ds gs before hval0 hW hcnd hsz0 _
  have hsz : (DataW.weightsEach Try.prog (Try.f4.params.toList ++ Rows.fnExactIsPassportSpec.plain.varTypes Try.prog) (ds ++ gs)).all (· ≤ reachBytes) = true := hsz0
  have hW' := hW
  obtain ⟨p, q, hA0, hV, rfl, hfz, hnd⟩ := hW
  have hA : DataW.TrodAll enc Try.prog W 0 (fun _ => true) true Try.f4.params.toList args.toList ds p := hA0
  rw [Try.params4] at hA hsz
  obtain ⟨v0, vs0, d0, ds0, p0, q0, hargs, rfl, rfl, h0, r0⟩ := trodAll_cons hA
  obtain ⟨rfl, rfl, rfl⟩ := trodAll_nil r0
  obtain rfl : args = #[v0] := by cases args; simp_all
  obtain ⟨rfl, rfl⟩ := trodVars_none hV
  have k0 := h0
  have lt0 : ∀ x ∈ p0, x.block < W.heap.size := by obtain ⟨m, hm⟩ := k0; exact DataW.trod_lt m _ _ _ hm
  obtain ⟨A, c, l, rfl, hlc, hl, hC, hin, hds⟩ : ∃ (A : Option Addr) (c : Nat) (l : List (List Int)), v0 = .slice A l.length c ∧ l.length ≤ c ∧ l.length ≤ 9223372036854775807 ∧ Kd.C (Kd.slice 2 (Kd.int .i64)) W A l.length l ∧ (∀ j, (l.getD j []).length ≤ 9223372036854775807) ∧ (l = [] ∨ ∃ es ss, d0 = .slice es ss ∧ es.length = l.length) := by
    obtain ⟨a0, len0, cap0, rfl⟩ := okWide_slice Try.underlying28 (hval0 0 28 v0 (by rw [Try.params4]; rfl) rfl)
    obtain ⟨fuel, hf⟩ := h0
    exact open_rows Try.underlying28 Try.underlying55 Try.underlying2 (by kernel_rfl) (by kernel_rfl) hf
  have y0 : l.length < 9223372036854775807 := by
    rcases hds with rfl | ⟨es, ss, rfl, he⟩
    · simp
    · have z := sized_slice hsz (j := 0) (t := 28) rfl rfl Try.underlying28
      have hb : Try.prog.bytesOf 55 = 24 := by kernel_rfl
      rw [hb] at z
      have : reachBytes = 140737488351232 := rfl
      omega
  obtain ⟨k, hk⟩ := PurePass.law l y0 hin
  refine (PFnExactIsPassport.laws_FnExactIsPassport.calls k A c l true W hC hlc hk).mono ?_
  rintro e W' ⟨rfl, bel⟩
  exact ⟨_, rfl, _, _, _, [], _, [], hW', trodAll_mk1 (shut_bool Try.underlying4 _), (trodAll_cons_mk (Below.trod laidOut (by kernel_rfl) (of_decide_eq_true (by kernel_rfl)) k0 bel lt0) trodAll_mk0), rfl, bel.frame _, fun h => by cases h⟩
theorem over : Rows.fnExactIsPassportRow.holds Try.pinned (OpenSpec.ofChange Rows.fnExactIsPassportSpec) :=
  OpenClaim.holds_of_wide 4 Try.f4 rfl rfl rfl rfl rfl rfl rfl ⟨rfl, rfl, rfl, rfl, rfl⟩ rfl rfl rfl rfl rfl (by kernel_rfl) Try.func4 (by unfold joinedFacts; rw [joined1, joined2, show (Try.pinned).checked.prog.make = some Rows.fnExactIsPassportRow.make from joined3]; kernel_rfl)
    (of_decide_eq_true (by kernel_rfl)) (by unfold Func.isWrapper; first | (rw [if_pos (by decide +kernel)]; kernel_rfl) | (rw [if_neg (by decide +kernel)]; exact ⟨rfl, rfl⟩))
    (fun os started H enc _ => lifted os started H enc)
end Go.Proofs.Ytgdcdapkmiekeaa.fnExactIsPassport
namespace Go.Proofs.Ytgdcdapkmiekeaa
/-- The law holds. -/
theorem fnExactIsPassport_holds : Rows.FnExactIsPassportSaid := fnExactIsPassport.over
#print axioms fnExactIsPassport_holds
end Go.Proofs.Ytgdcdapkmiekeaa
