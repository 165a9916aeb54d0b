import Derived.Test.YtaafldclbdlgfaaL3
import Derived.Test.YtaafldclbdlgfaaX12
/- Namings: both sides; the law. -/
namespace Go.Proofs.Ytaafldclbdlgfaa
open Go.RowKit DM
set_option linter.unusedSimpArgs false
set_option linter.unusedVariables false
set_option maxRecDepth 100000
set_option maxHeartbeats 1000000

theorem isDart1_fn (n : Int) (b w : Nat → Nat) (x : Int) : FnR Try.prog 31 [ds_ n b w, .sl 0 0 1 1] [.ro 1 1 (fun _ => .i .i64 x)] (.b (decide (0 ≤ x) && decide (x < n))) := by
  refine FnS.into T tok Try.func31 (by rfl) rfl rfl rfl (by simp) ?_
  refine WP.rs T false tok (by rfl) (by exact byObl) ?_
  refine WP.seq ?_
  refine WP.rs T false tok (by rfl) (by exact byObl) ?_
  refine WP.block ?_
  refine WP.loopH (⟨fun k : Nat => k = 0 ∨ (k = 1 ∧ (decide (0 ≤ x) && decide (x < n)) = true), fun k => [(2, .p 1 [] 0), (7, .sl 0 0 1 1), (8, .i .i64 1), (9, .i .i64 (k : Int))], fun k => [.ro 1 1 (fun _ => .i .i64 x), .var (ds_ n b w)], fun k => 1 - k⟩) (0) (.inl rfl) (Ghost.cut (Nat.le_refl _) (tauOf [0, 1]) _ _ (Taken.of [0, 1] (LeAll.cons (by rfl) (by first | with_reducible exact Root.Le.refl _ | with_reducible exact le_dead | (skip; done) | exact byLeq) (by exact byCon) (LeAll.cons (by rfl) (by first | with_reducible exact Root.Le.refl _ | with_reducible exact le_dead | (skip; done) | exact byLeq) (by exact byCon) (trivial))) rfl rfl) (by exact bySlots)) ?_
  intro k hk
  dsimp only at hk
  dsimp only [Hd.at]
  refine WP.rs T false tok (by rfl) (by exact byObl) ?_
  refine WP.seq ?_
  refine WP.cond (by rfl) (fun hc => WP.skip ?_) (fun hc => WP.exit ?_)
  · have hk0 : k = 0 := by have := of_decide_eq_true hc; omega
    subst hk0
    clear hc
    refine WP.seq (WP.block ?_)
    refine WP.rs T false tok (by rfl) (by exact byObl) ?_
    refine WP.seq ?_
    refine WP.region ?_
    refine WPL.run T false 2 tok (by rfl) (by exact byObl) ?_
    cases h1 : decide (x < 0)
    · have h1' : 0 ≤ x := by have := of_decide_eq_false h1; omega
      refine WPL.fin T false tok (by rfl) (by exact byObl) ?_
      refine WP.cond (by rfl) (fun h => ?_) (fun h => WP.skip ?_)
      · have h := of_decide_eq_true h
        have e : (decide (0 ≤ x) && decide (x < n)) = false := by simp; omega
        rw [e]
        refine WP.rs T false tok (by rfl) (by exact byObl) ?_
        exact WP.ret (Ends.val (by rfl) (by exact byObl) (by rfl) (by trivial))
      · have h := of_decide_eq_false h
        have e : (decide (0 ≤ x) && decide (x < n)) = true := by simp; omega
        refine WP.run T false tok (by rfl) (by exact byObl) ?_
        refine Again.next (1) (Ghost.cut (Nat.le_refl _) (tauOf [0, 1]) _ _ (Taken.of [0, 1] (LeAll.cons (by rfl) (by first | with_reducible exact Root.Le.refl _ | with_reducible exact le_dead | (skip; done) | exact byLeq) (by exact byCon) (LeAll.cons (by rfl) (by first | with_reducible exact Root.Le.refl _ | with_reducible exact le_dead | (skip; done) | exact byLeq) (by exact byCon) (trivial))) rfl rfl) (by exact bySlots)) (.inr ⟨rfl, e⟩) (by dsimp only; omega)
    · have h1' : x < 0 := of_decide_eq_true h1
      have e : (decide (0 ≤ x) && decide (x < n)) = false := by simp; omega
      refine WPL.fin T false tok (by rfl) (by exact byObl) ?_
      refine WP.cond (by rfl) (fun h => ?_) (fun h => WP.skip ?_)
      · rw [e]
        refine WP.rs T false tok (by rfl) (by exact byObl) ?_
        exact WP.ret (Ends.val (by rfl) (by exact byObl) (by rfl) (by trivial))
      · cases h
  · rcases hk with rfl | ⟨rfl, e⟩
    · simp at hc
    · rw [e]
      refine WP.rs T false tok (by rfl) (by exact byObl) ?_
      exact WP.ret (Ends.val (by rfl) (by exact byObl) (by rfl) (by trivial))

end Go.Proofs.Ytaafldclbdlgfaa
