import Derived.Test.YthjnmlpibafbnaaL3
import Derived.Test.YthjnmlpibafbnaaX144
namespace Go.Proofs.Ythjnmlpibafbnaa
open Go.RowKit DM
set_option linter.unusedSimpArgs false
set_option linter.unusedVariables false
set_option maxRecDepth 100000
set_option maxHeartbeats 1000000
theorem big_fn (n : Nat) (f : Nat → Dat) (hn : n ≤ 9223372036854775807) : FnR Try.prog 4 [.sl 0 0 n 1] [.ro n 1 f] (.b (decide ((4096 : Int) < (n : Int)))) := by
  refine FnS.into T tok Try.func4 (by rfl) rfl rfl rfl (by simp) ?_
  refine rS ?_
  refine rS ?_
  exact WP.ret (Ends.val (by rfl) (by exact byObl) (by rfl) (by trivial))
noncomputable def likeB (n m : Nat) (f g : Nat → Int) : Bool := @decide (n = m ∧ ∀ j, j < n → f j = g j) (Classical.propDecidable _)
theorem likeB_t {n m : Nat} {f g : Nat → Int} (h : n = m ∧ ∀ j, j < n → f j = g j) : likeB n m f g = true := @decide_eq_true _ (Classical.propDecidable _) h
theorem likeB_f {n m : Nat} {f g : Nat → Int} (h : ¬ (n = m ∧ ∀ j, j < n → f j = g j)) : likeB n m f g = false := @decide_eq_false _ (Classical.propDecidable _) h
theorem likeB_same (n : Nat) (f : Nat → Int) : likeB n n f f = true := likeB_t ⟨rfl, fun _ _ => rfl⟩
theorem likeInts_fn (n m : Nat) (f g : Nat → Int) (hn : n ≤ 4294967296) (hm : m ≤ 4294967296) : FnR Try.prog 12 [.sl 0 0 n 1, .sl 1 0 m 1] [.ro n 1 (fun t => .i .i64 (f t)), .ro m 1 (fun t => .i .i64 (g t))] (.b (likeB n m f g)) := by
  refine FnS.into T tok Try.func12 (by rfl) rfl rfl rfl (by simp) ?_
  refine rS ?_
  refine WP.seq ?_
  refine rS ?_
  refine WP.cond (by rfl) (fun h => ?_) (fun h => WP.skip ?_)
  · have h : n ≠ m := by intro e; subst e; simp at h
    rw [likeB_f fun h2 => h h2.1]
    refine rS ?_
    exact WP.ret (Ends.val (by rfl) (by exact byObl) (by rfl) (by trivial))
  have h : n = m := by simp at h; omega
  subst h
  refine WP.seq ?_
  refine rS ?_
  refine WP.block ?_
  refine WP.loopH (⟨fun k : Nat => k ≤ n ∧ ∀ j, j < k → f j = g j, fun k => [(0, .sl 0 0 n 1), (1, .sl 1 0 n 1), (5, .i .i64 (k : Int))], fun k => [.ro n 1 (fun t => .i .i64 (f t)), .ro n 1 (fun t => .i .i64 (g t))], fun k => n - k⟩) (0) (⟨Nat.zero_le _, fun j hj => absurd hj (Nat.not_lt_zero _)⟩) (gC [0, 1] (leC (leC leZ))) ?_
  rintro k ⟨hk, he⟩
  dsimp only [Hd.at]
  refine WP.seq ?_
  refine rS ?_
  refine WP.cond (by rfl) (fun hc => WP.skip ?_) (fun hc => WP.exit ?_)
  · have hk : k < n := by have := of_decide_eq_true hc; omega
    clear hc
    refine WP.seq (WP.block ?_)
    refine WP.seq ?_
    refine WP.drawsQ (by kernel_rfl) (by kernel_rfl) ?_
    refine WQ.fin T false tok (by rfl) (by rfl) (by exact byObl) ?_
    by_cases e : f k = g k
    · refine WP.cond (by rfl) (fun h => ?_) (fun h => WP.skip ?_)
      · simp [addrAt0, e] at h
      · refine rE ?_
        refine Again.next (k + 1) (gC [0, 1] (leC (leC leZ))) (⟨hk, fun j hj => by
          by_cases e2 : j = k
          · subst e2; exact e
          · exact he j (by omega)⟩) (by dsimp only; omega)
    · refine WP.cond (by rfl) (fun h => ?_) (fun h => WP.skip ?_)
      · rw [likeB_f fun h2 => e (h2.2 k hk)]
        refine rS ?_
        exact WP.ret (Ends.val (by rfl) (by exact byObl) (by rfl) (by trivial))
      · simp [addrAt0, e] at h
  · have hk : k = n := by have := of_decide_eq_false hc; omega
    subst hk
    rw [likeB_t ⟨rfl, he⟩]
    refine rS ?_
    exact WP.ret (Ends.val (by rfl) (by exact byObl) (by rfl) (by trivial))
theorem likeInts_nil : FnP Try.prog 12 [.ns, .ns] (.b true) := by
  refine FnS.into T tok Try.func12 (by rfl) rfl rfl rfl (by simp) ?_
  refine rS ?_
  refine WP.seq ?_
  refine rS ?_
  refine WP.cond (by rfl) (fun h => ?_) (fun h => WP.skip ?_)
  · cases h
  refine WP.seq ?_
  refine rS ?_
  refine WP.block ?_
  refine WP.loopH (⟨fun k : Nat => k = 0, fun k => [(0, .ns), (1, .ns), (5, .i .i64 (k : Int))], fun k => [], fun k => 0⟩) (0) (rfl) (gC [] leZ) ?_
  rintro k hk
  dsimp only at hk
  subst hk
  dsimp only [Hd.at]
  refine WP.seq ?_
  refine rS ?_
  refine WP.cond (by rfl) (fun hc => WP.skip ?_) (fun hc => WP.exit ?_)
  · cases hc
  · refine rS ?_
    exact WP.ret (Ends.val (by rfl) (by exact byObl) (by rfl) (by trivial))
theorem sum_take_lt {l : List Nat} {k : Nat} (h : k < l.length) : (l.take (k + 1)).sum = (l.take k).sum + l.getD k 0 := by
  rw [List.take_add_one, List.getElem?_eq_getElem h, List.getD_eq_getElem?_getD, List.getElem?_eq_getElem h, List.sum_append]
  simp only [Option.toList_some, List.sum_cons, List.sum_nil, Nat.add_zero, Option.getD_some]
theorem sum_take_le : ∀ (l : List Nat) (k : Nat), (l.take k).sum ≤ l.sum
  | [], k => by simp
  | a :: l, 0 => by simp
  | a :: l, k + 1 => by simp only [List.take_succ_cons, List.sum_cons]; have := sum_take_le l k; omega
theorem sum_fn (l : List Nat) (hl : l.length ≤ 4294967296) (hs : l.sum ≤ 4294967296) : FnR Try.prog 19 [.sl 0 0 l.length 1] [.ro l.length 1 (numsF l)] (.i .i64 ((l.sum : Nat) : Int)) := by
  refine FnS.into T tok Try.func19 (by rfl) rfl rfl rfl (by simp) ?_
  refine rS ?_
  refine rS ?_
  refine WP.seq ?_
  refine rS ?_
  refine WP.block ?_
  refine WP.loopH (⟨fun z : Nat × Nat => z.1 ≤ l.length ∧ z.2 = (l.take z.1).sum, fun z => [(0, .sl 0 0 l.length 1), (3, .i .i64 (z.2 : Int)), (4, .i .i64 (z.1 : Int))], fun z => [.ro l.length 1 (numsF l)], fun z => l.length - z.1⟩) ((0, 0)) (⟨Nat.zero_le _, by simp⟩) (gC [0] (leC leZ)) ?_
  rintro ⟨k, s⟩ ⟨hk, he⟩
  dsimp only at hk he
  dsimp only [Hd.at]
  refine WP.seq ?_
  refine rS ?_
  refine WP.cond (by rfl) (fun hc => WP.skip ?_) (fun hc => WP.exit ?_)
  · have hk : k < l.length := by have := of_decide_eq_true hc; omega
    clear hc
    have h1 := sum_take_lt hk
    have h2 := sum_take_le l (k + 1)
    refine WP.seq (WP.block ?_)
    refine rE ?_
    refine rE ?_
    refine Again.next ((k + 1, s + l.getD k 0)) (gC [0] (leC leZ)) (⟨hk, by rw [h1, he]⟩) (by dsimp only; omega)
  · have hk : k = l.length := by have := of_decide_eq_false hc; omega
    subst hk
    rw [List.take_length] at he
    subst he
    refine rS ?_
    exact WP.ret (Ends.val (by rfl) (by exact byObl) (by rfl) (by trivial))
theorem eq16_self (f : Nat → Nat) (n i : Nat) : eq16 f f i n = true := eq16_of (fun _ => rfl) n i
theorem eqd_same (n : Int) (b w : Nat → Nat) : eqE T .neq 27 (ds_ n b w) (ds_ n b w) = some false := by
  rw [eq_ds_neq]; unfold eqDs; rw [eq16_self, eq16_self]; simp
end Go.Proofs.Ythjnmlpibafbnaa
