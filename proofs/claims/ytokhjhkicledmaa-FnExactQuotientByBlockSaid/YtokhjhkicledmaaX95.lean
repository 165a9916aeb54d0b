import Derived.Test.YtokhjhkicledmaaL9
import Derived.Test.YtokhjhkicledmaaD22
import Derived.Test.YtokhjhkicledmaaX9
/- Quotients by blocks: parts given (the lines of X33 and X34 that need no other function). -/
namespace Go.Proofs.Ytokhjhkicledmaa
open Go.RowKit DM
set_option linter.unusedSimpArgs false
set_option linter.unusedVariables false
set_option maxRecDepth 100000
set_option maxHeartbeats 1000000

/-- An array of parts, after k steps. -/
def qTo (F b : Nat → Nat) : Nat → Nat → Nat
  | 0 => fun _ => 0
  | k + 1 => up (qTo F b k) (F k) (F (b k))

theorem partedI_fn (N M : Nat) (b w F : Nat → Nat) (hN : N ≤ 16) (hb : ∀ i, i < N → b i < N) (hw : ∀ i, i < N → w i < N) (hF : ∀ i, i < N → F i < 16) : FnR Try.prog 53 [ds_ N b w, .sl 0 0 N 1, .i .i64 (M : Int)] [.ro N 1 (nmF F)] (ds_ M (qTo F b N) (qTo F w N)) := by
  refine FnS.into T tok Try.func53 (by rfl) rfl rfl rfl (by simp) ?_
  refine WP.rs T false tok (by rfl) (by exact byObl) ?_
  refine WP.rs T false tok (by rfl) (by exact byObl) ?_
  refine WP.seq ?_
  refine WP.rs T false tok (by rfl) (by exact byObl) ?_
  refine WP.block ?_
  refine WP.loopH (⟨fun k : Nat => k ≤ N, fun k => [(1, .sl 0 0 N 1), (3, .p 1 [] 0), (6, .p 2 [] 0), (7, .p 3 [] 0), (12, .i .i64 N), (13, .i .i64 k)], fun k => [.ro N 1 (nmF F), .var (ds_ N b w), .var (ds_ 0 (fun _ => 0) (fun _ => 0)), .var (ds_ M (qTo F b k) (qTo F w k))], fun k => N - k⟩) (0) (Nat.zero_le _) (Ghost.cut (Nat.le_refl _) (tauOf [0, 1, 2, 3]) _ _ (Taken.of [0, 1, 2, 3] (LeAll.cons (by rfl) (by first | with_reducible exact Root.Le.refl _ | with_reducible exact le_dead | (exact le_var (dsf_of rfl rfl rfl fun _ => rfl).symm) | exact byLeq) (by exact byCon) (LeAll.cons (by rfl) (by first | with_reducible exact Root.Le.refl _ | with_reducible exact le_dead | (exact le_var (dsf_of rfl rfl rfl fun _ => rfl).symm) | exact byLeq) (by exact byCon) (LeAll.cons (by rfl) (by first | with_reducible exact Root.Le.refl _ | with_reducible exact le_dead | (exact le_var (dsf_of rfl rfl rfl fun _ => rfl).symm) | exact byLeq) (by exact byCon) (LeAll.cons (by rfl) (by first | with_reducible exact Root.Le.refl _ | with_reducible exact le_dead | (exact le_var (dsf_of rfl rfl rfl fun _ => rfl).symm) | exact byLeq) (by exact byCon) (trivial))))) rfl rfl) (by exact bySlots)) ?_
  intro k hk
  dsimp only at hk
  dsimp only [Hd.at]
  refine WP.rs T false tok (by rfl) (by exact byObl) ?_
  refine WP.seq ?_
  refine WP.cond (by rfl) (fun hc => WP.skip ?_) (fun hc => WP.exit ?_)
  · have hk : k < N := by have := of_decide_eq_true hc; omega
    clear hc
    have hbk := hb k hk
    have hwk := hw k hk
    have hFk := hF k hk
    have hFb := hF _ hbk
    have hFw := hF _ hwk
    refine WP.seq (WP.block ?_)
    refine WP.rs T false tok (by rfl) (by exact byObl) ?_
    refine WP.seq ?_
    refine WP.dt (T := T) 13 0 ?_
    refine HW.run false 13 tok (by rfl) (by exact byObl) ?_
    refine HW.fin tok (by kernel_rfl) 13 0 (by rfl) (by kernel_rfl) (by kernel_rfl) (by kernel_rfl) (by rfl) (by rfl) rfl rfl ?_
    refine WPL.fin T false tok (by rfl) (by exact byObl) ?_
    refine WP.mem (by simp only [upd, pl, dsf, cast1, Int.toNat_natCast, fup_u8, fup_b, fup_i64, dsf_up0, dsf_up1, dsf_up2]; rfl) ?_
    refine WP.dt (T := T) 13 0 ?_
    refine HW.run false 13 tok (by rfl) (by exact byObl) ?_
    refine HW.fin tok (by kernel_rfl) 13 0 (by rfl) (by kernel_rfl) (by kernel_rfl) (by kernel_rfl) (by rfl) (by rfl) rfl rfl ?_
    refine WPL.fin T false tok (by rfl) (by exact byObl) ?_
    refine WP.run T false tok (by rfl) (by exact byObl) ?_
    refine Again.next (k + 1) (Ghost.cut (Nat.le_refl _) (tauOf [0, 1, 2, 3]) _ _ (Taken.of [0, 1, 2, 3] (LeAll.cons (by rfl) (by first | with_reducible exact Root.Le.refl _ | with_reducible exact le_dead | (skip; done) | exact byLeq) (by exact byCon) (LeAll.cons (by rfl) (by first | with_reducible exact Root.Le.refl _ | with_reducible exact le_dead | (skip; done) | exact byLeq) (by exact byCon) (LeAll.cons (by rfl) (by first | with_reducible exact Root.Le.refl _ | with_reducible exact le_dead | (skip; done) | exact byLeq) (by exact byCon) (LeAll.cons (by rfl) (by first | with_reducible exact Root.Le.refl _ | with_reducible exact le_dead | (skip; done) | exact byLeq) (by exact byCon) (trivial))))) rfl rfl) (by exact bySlots)) (hk) (by dsimp only; omega)
  · have hk : k = N := by have := of_decide_eq_false hc; omega
    subst hk
    refine WP.rs T false tok (by rfl) (by exact byObl) ?_
    exact WP.ret (Ends.val (by rfl) (by exact byObl) (by rfl) (by exact sc_ds _ _ _ _))

theorem qTo_val {F b tB : Nat → Nat} : ∀ k, (∀ x, x < k → F (b x) = tB (F x)) → ∀ j, ((∀ x, x < k → F x ≠ j) ∧ qTo F b k j = 0) ∨ ((∃ x, x < k ∧ F x = j) ∧ qTo F b k j = tB j)
  | 0, _, j => .inl ⟨fun x h => absurd h (Nat.not_lt_zero _), rfl⟩
  | k + 1, h, j => by
    simp only [qTo, up]
    by_cases e : j = F k
    · rw [if_pos e]
      exact .inr ⟨⟨k, by omega, e.symm⟩, by rw [h k (by omega), e]⟩
    · rw [if_neg e]
      rcases qTo_val k (fun x hx => h x (by omega)) j with ⟨h1, h2⟩ | ⟨⟨x, hx, h1⟩, h2⟩
      · refine .inl ⟨fun x hx => ?_, h2⟩
        by_cases e2 : x = k
        · subst e2; exact fun h => e h.symm
        · exact h1 x (by omega)
      · exact .inr ⟨⟨x, by omega, h1⟩, h2⟩

end Go.Proofs.Ytokhjhkicledmaa
