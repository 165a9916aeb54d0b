/- The law FnExactQuotientByBlock holds of the program for every input. Conditions: none. -/
import Derived.Test.YtokhjhkicledmaaW0
import Derived.Test.YtokhjhkicledmaaW3
import Derived.Test.YtokhjhkicledmaaX99
import Derived.Test.YtokhjhkicledmaaJ1
import Derived.Test.YtokhjhkicledmaaJ2
import Derived.Test.YtokhjhkicledmaaJ3
namespace Go.Proofs.Ytokhjhkicledmaa.fnExactQuotientByBlock
open Go.ChangeShapes Go.WideShapes Go.ChangeAt Go.RowKit DM
set_option linter.unusedVariables false
set_option maxRecDepth 100000 in
theorem lifted (os : Os) (started : os.Started) (H : Type) (enc : TypeId × Value → H) :
    ReturnsInHanded {} Try.checked os 7 .any (Rows.fnExactQuotientByBlockSpec.pre6 enc Try.prog Try.f7 Rows.fnExactQuotientByBlockRow.domain false) (Rows.fnExactQuotientByBlockSpec.post enc Try.prog Try.f7 false true false false) := by
  refine returnsInHanded_of_change_sized (C := Try.checked) own started (by kernel_rfl) Try.func7
    (ChangeSpec.witness6 (enc := enc) (C := Try.checked) false ⟨#[], #[.agg #[.int .i64 0, .int .u8 0, .int .u8 0, .int .u8 0, .int .u8 0, .int .u8 0, .int .u8 0, .int .u8 0, .int .u8 0, .int .u8 0, .int .u8 0, .int .u8 0, .int .u8 0, .int .u8 0, .int .u8 0, .int .u8 0, .int .u8 0, .int .u8 0, .int .u8 0, .int .u8 0, .int .u8 0, .int .u8 0, .int .u8 0, .int .u8 0, .int .u8 0, .int .u8 0, .int .u8 0, .int .u8 0, .int .u8 0, .int .u8 0, .int .u8 0, .int .u8 0, .int .u8 0], .slice none 0 0], []⟩ 8 (by kernel_rfl) (by kernel_rfl) (by kernel_rfl) (by kernel_rfl)) ?_
  intro W base args ds gs before hval0 hW hcnd hsz0 _
  have hval : ∀ (j : Nat) t v, Try.f7.params[j]? = some t → args[j]? = some v → Value.okWide Try.prog W .any base t v := hval0
  have hW' := hW
  obtain ⟨p, q, hA0, hV, rfl, hfz, hnd⟩ := hW
  have hA : DataW.TrodAll enc Try.prog W 0 (fun _ => true) true Try.f7.params.toList args.toList ds p := hA0
  rw [Try.params7] at hA hval
  obtain ⟨v0, vs0, d0, ds0, p0, q0, hargs0, rfl, rfl, h0, r0⟩ := trodAll_cons hA
  obtain ⟨v1, vs1, d1, ds1, p1, q1, hargs1, rfl, rfl, h1, r1⟩ := trodAll_cons r0
  obtain ⟨rfl, rfl, rfl⟩ := trodAll_nil r1
  subst hargs1
  obtain rfl : args = #[v0, v1] := by cases args; simp_all
  obtain ⟨rfl, rfl⟩ := trodVars_none hV
  have k0 := h0
  have lt0 : ∀ x ∈ p0, x.block < W.heap.size := by obtain ⟨m, hm⟩ := k0; exact DataW.trod_lt m _ _ _ hm
  obtain ⟨n0, b0, c0, wn0, wb0, wc0, rfl⟩ := open_dessin (e0 := 2) (e := 5) (by kernel_rfl) (by kernel_rfl) (by kernel_rfl) (by kernel_rfl) (by kernel_rfl) (hval 0 24 v0 rfl rfl)
  have k1 := h1
  have lt1 : ∀ x ∈ p1, x.block < W.heap.size := by obtain ⟨m, hm⟩ := k1; exact DataW.trod_lt m _ _ _ hm
  obtain ⟨m1, g1, ρ, rfl, wm1, hrep⟩ : ∃ (n : Nat) (g : Nat → Int) (ρ : Rho), v1 = DM.enc ρ (.sl 0 0 n 1) ∧ n ≤ maxLen ∧ Rep ρ [.ro n 1 (fun j => .i .i64 (g j))] W := by
    obtain ⟨a, len, cap, rfl⟩ := okWide_slice Try.underlying37 (hval 1 37 v1 rfl rfl)
    obtain ⟨fuel, hf⟩ := h1
    exact in_intsR Try.underlying37 Try.underlying2 (by kernel_rfl) hf
  refine ((law_QuotientByBlock n0 b0 c0 wn0 wb0 wc0 m1 g1 wm1).calls rfl hrep (by intro x hx; simp only [List.mem_cons, List.not_mem_nil, or_false] at hx; rcases hx with rfl | rfl <;> first | exact ⟨sc_ds _ _ _ _, ok_ds _ _ _⟩ | exact ⟨Nat.zero_lt_one, trivial, trivial⟩) noR).mono ?_
  rintro e W' ⟨rfl, _, _, bel⟩
  exact ⟨_, rfl, _, _, _, [], _, [], hW', trodAll_mk1 (shut_bool Try.underlying4 _), (trodAll_cons_mk (Below.trod laidOut (by kernel_rfl) (of_decide_eq_true (by kernel_rfl)) k0 bel lt0) (trodAll_cons_mk (Below.trod laidOut (by kernel_rfl) (of_decide_eq_true (by kernel_rfl)) k1 bel lt1) trodAll_mk0)), rfl, bel.frame _, fun h => by cases h⟩
theorem over : Rows.fnExactQuotientByBlockRow.holds Try.pinned (OpenSpec.ofChange Rows.fnExactQuotientByBlockSpec) :=
  OpenClaim.holds_of_wide 7 Try.f7 rfl rfl rfl rfl rfl rfl rfl ⟨rfl, rfl, rfl, rfl, rfl⟩ rfl rfl rfl rfl rfl (by kernel_rfl) Try.func7 (by unfold joinedFacts; rw [joined1, joined2, show (Try.pinned).checked.prog.make = some Rows.fnExactQuotientByBlockRow.make from joined3]; kernel_rfl)
    (of_decide_eq_true (by kernel_rfl)) (by unfold Func.isWrapper; first | (rw [if_pos (by decide +kernel)]; kernel_rfl) | (rw [if_neg (by decide +kernel)]; exact ⟨rfl, rfl⟩))
    (fun os started H enc _ => lifted os started H enc)
end Go.Proofs.Ytokhjhkicledmaa.fnExactQuotientByBlock
namespace Go.Proofs.Ytokhjhkicledmaa
/-- The law holds. -/
theorem fnExactQuotientByBlock_holds : Rows.FnExactQuotientByBlockSaid := fnExactQuotientByBlock.over
#print axioms fnExactQuotientByBlock_holds
end Go.Proofs.Ytokhjhkicledmaa
