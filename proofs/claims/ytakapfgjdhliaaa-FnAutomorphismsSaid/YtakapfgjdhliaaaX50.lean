import Derived.Test.YtakapfgjdhliaaaShelf
import Derived.Test.YtakapfgjdhliaaaX12
import Derived.Test.YtakapfgjdhliaaaD30
/- The library's slices.Repeat at []int64, a slice of one number. -/
namespace Go.Proofs.Ytakapfgjdhliaaa
open Go.RowKit DM
set_option linter.unusedSimpArgs false
set_option linter.unusedVariables false
set_option maxRecDepth 100000
set_option maxHeartbeats 1000000

theorem bitsMul1_fn (N : Nat) (hN : N ≤ 65536) : FnP Try.prog 115 [.i .u64 (1 : Int), .i .u64 (N : Int)] (t2 (.i .u64 0) (.i .u64 (N : Int))) := by
  refine ⟨callFunc_run Try.func115 rfl rfl, fun ρ w hr hx => ?_⟩
  have hcall := Any.bits_Mul Try.laysL212 1 N (by omega) (by omega) w
  change Calls Try.prog 115 _ _ _ at hcall
  have e1 : 1 * N / 18446744073709551616 = 0 := by omega
  have e2 : 1 * N % 18446744073709551616 = N := by omega
  rw [e1, e2] at hcall
  refine hcall.mono ?_
  rintro e w' ⟨rfl, rfl⟩
  exact ⟨t2 (.i .u64 0) (.i .u64 (N : Int)), ρ, [], rfl, sc_t2 trivial trivial, ok_t2 ⟨trivial, trivial⟩ ⟨trivial, trivial⟩, hr, Tr.refl _ _ _, rfl, sc_t2 trivial trivial⟩

theorem repeat_fn (N : Nat) (h1 : 1 ≤ N) (hN : N ≤ 16) : FnS Try.prog 99 [.sl 0 0 1 1, .i .i64 (N : Int)] [.ro 1 1 (intD fun _ => -1)] (fun r m' => r = .sl 1 0 N 1 ∧ m' = [.ro 1 1 (intD fun _ => -1), .row 2 N 1 (intD fun _ => -1)]) := by
  refine FnS.intoN T tok Try.func99 (by rfl) rfl rfl rfl (by simp) ?_
  refine WP.rs T false tok (by rfl) (by exact byObl) ?_
  refine WP.seq ?_
  refine WP.rs T false tok (by rfl) (by exact byObl) ?_
  refine WP.cond (by rfl) (fun h => ?_) (fun h => WP.skip ?_)
  · have := of_decide_eq_true h; omega
  clear h
  refine WP.rw ?_
  refine WPL.run T false 5 tok (by rfl) (by exact byObl) ?_
  refine WPL.call (bitsMul1_fn N (by omega)) (by rfl) (by rfl) (by rfl) (by simp [Sc, sc_pl, sc_ds, pl_ne, ds_ne]) ?_
  refine WPL.fin T false tok (by rfl) (by exact byObl) ?_
  refine WP.seq ?_
  refine WP.rs T false tok (by rfl) (by exact byObl) ?_
  refine WP.cond (by rfl) (fun h => ?_) (fun h => WP.skip ?_)
  · simp at h; omega
  clear h
  refine WP.rs T false tok (by rfl) (by exact byObl) ?_
  refine WP.rw ?_
  refine WPL.run T false 2 tok (by rfl) (by exact byObl) ?_
  refine WPL.op (by rfl) (by rfl) (ok_copy (F := fun _ => 0) (G := fun _ => -1) (k := 1) (n := N) (n2 := 1) (off := 0) (off2 := 0) (len := N) (len2 := 1) tok rfl rfl rfl rfl rfl rfl rfl (.inr rfl) (by simp only [Nat.min_def]; split <;> omega) (by omega) (by omega) (by omega)) ?_
  refine WPL.fin T false tok (by rfl) (by exact byObl) ?_
  refine WP.seq (WP.block ?_)
  refine WP.loopH (⟨fun c : Nat => 1 ≤ c ∧ c ≤ N, fun c => [(7, .sl 1 0 N 1), (8, .i .i64 (c : Int))], fun c => [.ro 1 1 (intD fun _ => -1), .row 2 N 1 (intD fun j => if j < c then -1 else 0)], fun c => N - c⟩) (1) (⟨Nat.le_refl _, h1⟩) (Ghost.cut (Nat.le_refl _) (tauOf [0, 1]) _ _ (Taken.of [0, 1] (LeAll.cons (by rfl) (by first | with_reducible exact Root.Le.refl _ | with_reducible exact le_dead | (exact le_row (Nat.le_refl _) (fun j hj => by unfold intD cpF; congr 1; simp)) | exact byLeq) (by exact byCon) (LeAll.cons (by rfl) (by first | with_reducible exact Root.Le.refl _ | with_reducible exact le_dead | (exact le_row (Nat.le_refl _) (fun j hj => by unfold intD cpF; congr 1; simp)) | exact byLeq) (by exact byCon) (trivial))) rfl rfl) (by exact bySlots)) ?_
  rintro c ⟨hc1, hc2⟩
  dsimp only [Hd.at]
  refine WP.seq ?_
  refine WP.rs T false tok (by rfl) (by exact byObl) ?_
  refine WP.cond (by rfl) (fun hc => WP.skip ?_) (fun hc => WP.exit ?_)
  · have hcN : c < N := by have := of_decide_eq_true hc; omega
    clear hc
    refine WP.block ?_
    refine WP.da (by kernel_rfl) 7 (by kernel_rfl) ?_
    refine WA.move 0 (by rfl) (by first | exact .inl rfl | exact .inr rfl) (by kernel_rfl) (by kernel_rfl) (by rfl) (by rfl) ?_
    refine WA.move 1 (by rfl) (by first | exact .inl rfl | exact .inr rfl) (by kernel_rfl) (by kernel_rfl) (by rfl) (by rfl) ?_
    refine WA.move 2 (by rfl) (by first | exact .inl rfl | exact .inr rfl) (by kernel_rfl) (by kernel_rfl) (by rfl) (by rfl) ?_
    refine WA.take (i := 3) (by rfl) (by decide) (by kernel_rfl) (by kernel_rfl) (by kernel_rfl) (by rfl) (by rfl) (sll_ok (l := c) (n := N) (off := 0) (len := N) tok rfl rfl rfl rfl rfl rfl rfl (by omega) (by omega)) ?_
    refine WA.move 4 (by rfl) (by first | exact .inl rfl | exact .inr rfl) (by kernel_rfl) (by kernel_rfl) (by rfl) (by rfl) ?_
    refine WA.move 5 (by rfl) (by first | exact .inl rfl | exact .inr rfl) (by kernel_rfl) (by kernel_rfl) (by rfl) (by rfl) ?_
    refine WA.take (i := 6) (by rfl) (by decide) (by kernel_rfl) (by kernel_rfl) (by kernel_rfl) (by rfl) (by rfl) (slh_ok (h := c) (n := N) (off := 0) tok rfl rfl rfl rfl rfl rfl rfl (by omega)) ?_
    refine WA.tail (by rfl) (by rfl) (by kernel_rfl) ?_
    refine WPL.op (by rfl) (by rfl) (ok_copy (F := fun j => if j < c then -1 else 0) (G := fun j => if j < c then -1 else 0) (k := Nat.min c (N - c)) (n := N) (n2 := N) (off := 0 + c) (off2 := 0) (len := N - c) (len2 := c) tok rfl rfl rfl rfl rfl rfl rfl (.inl ⟨_, rfl⟩) rfl (by simp only [Nat.min_def]; split <;> omega) (by simp only [Nat.min_def]; split <;> omega) (by omega)) ?_
    have hk : Nat.min c (N - c) ≤ c ∧ Nat.min c (N - c) ≤ N - c ∧ 1 ≤ Nat.min c (N - c) := by simp only [Nat.min_def]; split <;> omega
    generalize Nat.min c (N - c) = k at *
    refine WPL.fin T false tok (by rfl) (by exact byObl) ?_
    refine noPan ?_
    rw [show ((c : Nat) : Int) + ((k : Nat) : Int) = ((c + k : Nat) : Int) from rfl]
    have hle : ∀ j, intD (fun j => if j < c + k then -1 else 0) j = intD (cpF (fun j => if j < c then -1 else 0) (fun j => if j < c then -1 else 0) (0 + c) 0 k) j := fun j => by
      unfold intD cpF
      congr 1
      show (if j < c + k then (-1 : Int) else 0) = if 0 + c ≤ j ∧ j < 0 + c + k then (if 0 + (j - (0 + c)) < c then -1 else 0) else (if j < c then -1 else 0)
      by_cases a1 : j < c
      · rw [if_pos (show j < c + k by omega), if_neg (show ¬ (0 + c ≤ j ∧ j < 0 + c + k) by omega), if_pos a1]
      · by_cases a2 : j < c + k
        · rw [if_pos a2, if_pos (show 0 + c ≤ j ∧ j < 0 + c + k by omega), if_pos (show 0 + (j - (0 + c)) < c by omega)]
        · rw [if_neg a2, if_neg (show ¬ (0 + c ≤ j ∧ j < 0 + c + k) by omega), if_neg a1]
    refine Again.next (c + k) (Ghost.cut (Nat.le_refl _) (tauOf [0, 1]) _ _ (Taken.of [0, 1] (LeAll.cons (by rfl) (by first | with_reducible exact Root.Le.refl _ | with_reducible exact le_dead | (exact le_row (Nat.le_refl _) (fun j hj => hle j)) | exact byLeq) (by exact byCon) (LeAll.cons (by rfl) (by first | with_reducible exact Root.Le.refl _ | with_reducible exact le_dead | (exact le_row (Nat.le_refl _) (fun j hj => hle j)) | exact byLeq) (by exact byCon) (trivial))) rfl rfl) (by exact bySlots)) (⟨by omega, by omega⟩) (by dsimp only; omega)
  · have hcN : c = N := by have := of_decide_eq_false hc; omega
    subst hcN
    refine WP.rs T false tok (by rfl) (by exact byObl) ?_
    exact WP.ret (Ends.new [0, 1] (by rfl) (by exact byObl) (LeAll.cons (by rfl) (by first | with_reducible exact Root.Le.refl _ | with_reducible exact le_dead | (exact le_row (Nat.le_refl _) (fun j hj => by simp only [intD, if_pos hj])) | exact byLeq) (by exact byCon) (LeAll.cons (by rfl) (by first | with_reducible exact Root.Le.refl _ | with_reducible exact le_dead | (exact le_row (Nat.le_refl _) (fun j hj => by simp only [intD, if_pos hj])) | exact byLeq) (by exact byCon) (trivial))) rfl rfl (rfl) (sc_sl rfl))

end Go.Proofs.Ytakapfgjdhliaaa
