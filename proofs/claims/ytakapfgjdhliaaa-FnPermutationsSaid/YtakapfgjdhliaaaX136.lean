import Derived.Test.YtakapfgjdhliaaaL3
/- What the laws call: lists compared, added up. -/
namespace Go.Proofs.Ytakapfgjdhliaaa
open Go.RowKit DM
set_option linter.unusedSimpArgs false
set_option linter.unusedVariables false
set_option maxRecDepth 100000
set_option maxHeartbeats 1000000

theorem big_fn (n : Nat) (f : Nat → Dat) (hn : n ≤ 9223372036854775807) : FnR Try.prog 5 [.sl 0 0 n 1] [.ro n 1 f] (.b (decide ((4096 : Int) < (n : Int)))) := by
  refine FnS.into T tok Try.func5 (by rfl) rfl rfl rfl (by simp) ?_
  refine WP.rs T false tok (by rfl) (by exact byObl) ?_
  refine WP.rs T false tok (by rfl) (by exact byObl) ?_
  exact WP.ret (Ends.val (by rfl) (by exact byObl) (by rfl) (by trivial))

/-- Two lists have the same numbers. -/
noncomputable def likeB (n m : Nat) (f g : Nat → Int) : Bool := @decide (n = m ∧ ∀ j, j < n → f j = g j) (Classical.propDecidable _)
theorem likeB_t {n m : Nat} {f g : Nat → Int} (h : n = m ∧ ∀ j, j < n → f j = g j) : likeB n m f g = true := @decide_eq_true _ (Classical.propDecidable _) h
theorem likeB_f {n m : Nat} {f g : Nat → Int} (h : ¬ (n = m ∧ ∀ j, j < n → f j = g j)) : likeB n m f g = false := @decide_eq_false _ (Classical.propDecidable _) h
theorem likeB_same (n : Nat) (f : Nat → Int) : likeB n n f f = true := likeB_t ⟨rfl, fun _ _ => rfl⟩

theorem likeInts_fn (n m : Nat) (f g : Nat → Int) (hn : n ≤ 4294967296) (hm : m ≤ 4294967296) : FnR Try.prog 19 [.sl 0 0 n 1, .sl 1 0 m 1] [.ro n 1 (fun t => .i .i64 (f t)), .ro m 1 (fun t => .i .i64 (g t))] (.b (likeB n m f g)) := by
  refine FnS.into T tok Try.func19 (by rfl) rfl rfl rfl (by simp) ?_
  refine WP.rs T false tok (by rfl) (by exact byObl) ?_
  refine WP.seq ?_
  refine WP.rs T false tok (by rfl) (by exact byObl) ?_
  refine WP.cond (by rfl) (fun h => ?_) (fun h => WP.skip ?_)
  · have h : n ≠ m := by intro e; subst e; simp at h
    rw [likeB_f fun h2 => h h2.1]
    refine WP.rs T false tok (by rfl) (by exact byObl) ?_
    exact WP.ret (Ends.val (by rfl) (by exact byObl) (by rfl) (by trivial))
  have h : n = m := by simp at h; omega
  subst h
  refine WP.seq ?_
  refine WP.rs T false tok (by rfl) (by exact byObl) ?_
  refine WP.block ?_
  refine WP.loopH (⟨fun k : Nat => k ≤ n ∧ ∀ j, j < k → f j = g j, fun k => [(0, .sl 0 0 n 1), (1, .sl 1 0 n 1), (5, .i .i64 (k : Int))], fun k => [.ro n 1 (fun t => .i .i64 (f t)), .ro n 1 (fun t => .i .i64 (g t))], fun k => n - k⟩) (0) (⟨Nat.zero_le _, fun j hj => absurd hj (Nat.not_lt_zero _)⟩) (Ghost.cut (Nat.le_refl _) (tauOf [0, 1]) _ _ (Taken.of [0, 1] (LeAll.cons (by rfl) (by first | with_reducible exact Root.Le.refl _ | with_reducible exact le_dead | (skip; done) | exact byLeq) (by exact byCon) (LeAll.cons (by rfl) (by first | with_reducible exact Root.Le.refl _ | with_reducible exact le_dead | (skip; done) | exact byLeq) (by exact byCon) (trivial))) rfl rfl) (by exact bySlots)) ?_
  rintro k ⟨hk, he⟩
  dsimp only [Hd.at]
  refine WP.seq ?_
  refine WP.rs T false tok (by rfl) (by exact byObl) ?_
  refine WP.cond (by rfl) (fun hc => WP.skip ?_) (fun hc => WP.exit ?_)
  · have hk : k < n := by have := of_decide_eq_true hc; omega
    clear hc
    refine WP.seq (WP.block ?_)
    refine WP.seq ?_
    refine WP.drawsQ (by kernel_rfl) (by kernel_rfl) ?_
    refine WQ.fin T false tok (by rfl) (by rfl) (by exact byObl) ?_
    by_cases e : f k = g k
    · refine WP.cond (by rfl) (fun h => ?_) (fun h => WP.skip ?_)
      · simp [addrAt0, e] at h
      · refine WP.run T false tok (by rfl) (by exact byObl) ?_
        refine Again.next (k + 1) (Ghost.cut (Nat.le_refl _) (tauOf [0, 1]) _ _ (Taken.of [0, 1] (LeAll.cons (by rfl) (by first | with_reducible exact Root.Le.refl _ | with_reducible exact le_dead | (skip; done) | exact byLeq) (by exact byCon) (LeAll.cons (by rfl) (by first | with_reducible exact Root.Le.refl _ | with_reducible exact le_dead | (skip; done) | exact byLeq) (by exact byCon) (trivial))) rfl rfl) (by exact bySlots)) (⟨hk, fun j hj => by
          by_cases e2 : j = k
          · subst e2; exact e
          · exact he j (by omega)⟩) (by dsimp only; omega)
    · refine WP.cond (by rfl) (fun h => ?_) (fun h => WP.skip ?_)
      · rw [likeB_f fun h2 => e (h2.2 k hk)]
        refine WP.rs T false tok (by rfl) (by exact byObl) ?_
        exact WP.ret (Ends.val (by rfl) (by exact byObl) (by rfl) (by trivial))
      · simp [addrAt0, e] at h
  · have hk : k = n := by have := of_decide_eq_false hc; omega
    subst hk
    rw [likeB_t ⟨rfl, he⟩]
    refine WP.rs T false tok (by rfl) (by exact byObl) ?_
    exact WP.ret (Ends.val (by rfl) (by exact byObl) (by rfl) (by trivial))

theorem likeInts_nil : FnP Try.prog 19 [.ns, .ns] (.b true) := by
  refine FnS.into T tok Try.func19 (by rfl) rfl rfl rfl (by simp) ?_
  refine WP.rs T false tok (by rfl) (by exact byObl) ?_
  refine WP.seq ?_
  refine WP.rs T false tok (by rfl) (by exact byObl) ?_
  refine WP.cond (by rfl) (fun h => ?_) (fun h => WP.skip ?_)
  · cases h
  refine WP.seq ?_
  refine WP.rs T false tok (by rfl) (by exact byObl) ?_
  refine WP.block ?_
  refine WP.loopH (⟨fun k : Nat => k = 0, fun k => [(0, .ns), (1, .ns), (5, .i .i64 (k : Int))], fun k => [], fun k => 0⟩) (0) (rfl) (Ghost.cut (Nat.le_refl _) (tauOf []) _ _ (Taken.of [] (trivial) rfl rfl) (by exact bySlots)) ?_
  rintro k hk
  dsimp only at hk
  subst hk
  dsimp only [Hd.at]
  refine WP.seq ?_
  refine WP.rs T false tok (by rfl) (by exact byObl) ?_
  refine WP.cond (by rfl) (fun hc => WP.skip ?_) (fun hc => WP.exit ?_)
  · cases hc
  · refine WP.rs T false tok (by rfl) (by exact byObl) ?_
    exact WP.ret (Ends.val (by rfl) (by exact byObl) (by rfl) (by trivial))

theorem rows5_fn (L : List (List Nat)) (hn : L.length ≤ 4294967296) (hl : ∀ j, (L.getD j []).length ≤ 4294967296) : FnR Try.prog 13 [.sl 0 0 L.length 1, .sl 1 0 L.length 1] [.ro L.length 1 (rowsF L), .ro L.length 1 (rowsF L)] (.b true) := by
  refine FnS.into T tok Try.func13 (by rfl) rfl rfl rfl (by simp) ?_
  refine WP.rs T false tok (by rfl) (by exact byObl) ?_
  refine WP.seq ?_
  refine WP.rs T false tok (by rfl) (by exact byObl) ?_
  refine WP.cond (by rfl) (fun h => ?_) (fun h => WP.skip ?_)
  · simp at h
  refine WP.seq ?_
  refine WP.rs T false tok (by rfl) (by exact byObl) ?_
  refine WP.block ?_
  refine WP.loopH (⟨fun k : Nat => k ≤ L.length, fun k => [(0, .sl 0 0 L.length 1), (1, .sl 1 0 L.length 1), (5, .i .i64 (k : Int))], fun k => [.ro L.length 1 (rowsF L), .ro L.length 1 (rowsF L)], fun k => L.length - k⟩) (0) (Nat.zero_le _) (Ghost.cut (Nat.le_refl _) (tauOf [0, 1]) _ _ (Taken.of [0, 1] (LeAll.cons (by rfl) (by first | with_reducible exact Root.Le.refl _ | with_reducible exact le_dead | (skip; done) | exact byLeq) (by exact byCon) (LeAll.cons (by rfl) (by first | with_reducible exact Root.Le.refl _ | with_reducible exact le_dead | (skip; done) | exact byLeq) (by exact byCon) (trivial))) rfl rfl) (by exact bySlots)) ?_
  intro k hk
  dsimp only at hk
  dsimp only [Hd.at]
  refine WP.seq ?_
  refine WP.rs T false tok (by rfl) (by exact byObl) ?_
  refine WP.cond (by rfl) (fun hc => WP.skip ?_) (fun hc => WP.exit ?_)
  · have hk : k < L.length := by have := of_decide_eq_true hc; omega
    clear hc
    have hlk := likeInts_fn (L.getD k []).length (L.getD k []).length (fun t => (((L.getD k []).getD t 0 : Nat) : Int)) (fun t => (((L.getD k []).getD t 0 : Nat) : Int)) (hl k) (hl k)
    rw [likeB_same] at hlk
    refine WP.seq (WP.block ?_)
    refine WP.seq ?_
    refine WP.drawsQ (by kernel_rfl) (by kernel_rfl) ?_
    refine WQ.run T false 8 tok (by rfl) (by rfl) (by exact byObl) ?_
    refine WQ.callR [2, 3] (hlk) (by rfl) (LeAll.cons (by rfl) (by first | with_reducible exact Root.Le.refl _ | with_reducible exact le_dead | (skip; done) | exact byLeq) (by exact byCon) (LeAll.cons (by rfl) (by first | with_reducible exact Root.Le.refl _ | with_reducible exact le_dead | (skip; done) | exact byLeq) (by exact byCon) (trivial))) (by exact byArgs) (by rfl) (by rfl) (by simp [Sc, sc_pl, sc_ds]) (⟨trivial, trivial, trivial⟩) ?_
    refine WQ.fin T false tok (by rfl) (by rfl) (by exact byObl) ?_
    refine WP.cond (by rfl) (fun h => ?_) (fun h => WP.skip ?_)
    · cases h
    · refine WP.run T false tok (by rfl) (by exact byObl) ?_
      refine Again.next (k + 1) (Ghost.cut (Nat.le_refl _) (tauOf [0, 1]) _ _ (Taken.of [0, 1] (LeAll.cons (by rfl) (by first | with_reducible exact Root.Le.refl _ | with_reducible exact le_dead | (skip; done) | exact byLeq) (by exact byCon) (LeAll.cons (by rfl) (by first | with_reducible exact Root.Le.refl _ | with_reducible exact le_dead | (skip; done) | exact byLeq) (by exact byCon) (trivial))) rfl rfl) (by exact bySlots)) (hk) (by dsimp only; omega)
  · refine WP.rs T false tok (by rfl) (by exact byObl) ?_
    exact WP.ret (Ends.val (by rfl) (by exact byObl) (by rfl) (by trivial))

theorem rows5_nil : FnP Try.prog 13 [.ns, .ns] (.b true) := by
  refine FnS.into T tok Try.func13 (by rfl) rfl rfl rfl (by simp) ?_
  refine WP.rs T false tok (by rfl) (by exact byObl) ?_
  refine WP.seq ?_
  refine WP.rs T false tok (by rfl) (by exact byObl) ?_
  refine WP.cond (by rfl) (fun h => ?_) (fun h => WP.skip ?_)
  · cases h
  refine WP.seq ?_
  refine WP.rs T false tok (by rfl) (by exact byObl) ?_
  refine WP.block ?_
  refine WP.loopH (⟨fun k : Nat => k = 0, fun k => [(0, .ns), (1, .ns), (5, .i .i64 (k : Int))], fun k => [], fun k => 0⟩) (0) (rfl) (Ghost.cut (Nat.le_refl _) (tauOf []) _ _ (Taken.of [] (trivial) rfl rfl) (by exact bySlots)) ?_
  rintro k hk
  dsimp only at hk
  subst hk
  dsimp only [Hd.at]
  refine WP.seq ?_
  refine WP.rs T false tok (by rfl) (by exact byObl) ?_
  refine WP.cond (by rfl) (fun hc => WP.skip ?_) (fun hc => WP.exit ?_)
  · cases hc
  · refine WP.rs T false tok (by rfl) (by exact byObl) ?_
    exact WP.ret (Ends.val (by rfl) (by exact byObl) (by rfl) (by trivial))

theorem sum_take_lt {l : List Nat} {k : Nat} (h : k < l.length) : (l.take (k + 1)).sum = (l.take k).sum + l.getD k 0 := by
  rw [List.take_add_one, List.getElem?_eq_getElem h, List.getD_eq_getElem?_getD, List.getElem?_eq_getElem h, List.sum_append]
  simp only [Option.toList_some, List.sum_cons, List.sum_nil, Nat.add_zero, Option.getD_some]
theorem sum_take_le : ∀ (l : List Nat) (k : Nat), (l.take k).sum ≤ l.sum
  | [], k => by simp
  | a :: l, 0 => by simp
  | a :: l, k + 1 => by simp only [List.take_succ_cons, List.sum_cons]; have := sum_take_le l k; omega

theorem sum_fn (l : List Nat) (hl : l.length ≤ 4294967296) (hs : l.sum ≤ 4294967296) : FnR Try.prog 20 [.sl 0 0 l.length 1] [.ro l.length 1 (numsF l)] (.i .i64 ((l.sum : Nat) : Int)) := by
  refine FnS.into T tok Try.func20 (by rfl) rfl rfl rfl (by simp) ?_
  refine WP.rs T false tok (by rfl) (by exact byObl) ?_
  refine WP.rs T false tok (by rfl) (by exact byObl) ?_
  refine WP.seq ?_
  refine WP.rs T false tok (by rfl) (by exact byObl) ?_
  refine WP.block ?_
  refine WP.loopH (⟨fun z : Nat × Nat => z.1 ≤ l.length ∧ z.2 = (l.take z.1).sum, fun z => [(0, .sl 0 0 l.length 1), (3, .i .i64 (z.2 : Int)), (4, .i .i64 (z.1 : Int))], fun z => [.ro l.length 1 (numsF l)], fun z => l.length - z.1⟩) ((0, 0)) (⟨Nat.zero_le _, by simp⟩) (Ghost.cut (Nat.le_refl _) (tauOf [0]) _ _ (Taken.of [0] (LeAll.cons (by rfl) (by first | with_reducible exact Root.Le.refl _ | with_reducible exact le_dead | (skip; done) | exact byLeq) (by exact byCon) (trivial)) rfl rfl) (by exact bySlots)) ?_
  rintro ⟨k, s⟩ ⟨hk, he⟩
  dsimp only at hk he
  dsimp only [Hd.at]
  refine WP.seq ?_
  refine WP.rs T false tok (by rfl) (by exact byObl) ?_
  refine WP.cond (by rfl) (fun hc => WP.skip ?_) (fun hc => WP.exit ?_)
  · have hk : k < l.length := by have := of_decide_eq_true hc; omega
    clear hc
    have h1 := sum_take_lt hk
    have h2 := sum_take_le l (k + 1)
    refine WP.seq (WP.block ?_)
    refine WP.run T false tok (by rfl) (by exact byObl) ?_
    refine WP.run T false tok (by rfl) (by exact byObl) ?_
    refine Again.next ((k + 1, s + l.getD k 0)) (Ghost.cut (Nat.le_refl _) (tauOf [0]) _ _ (Taken.of [0] (LeAll.cons (by rfl) (by first | with_reducible exact Root.Le.refl _ | with_reducible exact le_dead | (skip; done) | exact byLeq) (by exact byCon) (trivial)) rfl rfl) (by exact bySlots)) (⟨hk, by rw [h1, he]⟩) (by dsimp only; omega)
  · have hk : k = l.length := by have := of_decide_eq_false hc; omega
    subst hk
    rw [List.take_length] at he
    subst he
    refine WP.rs T false tok (by rfl) (by exact byObl) ?_
    exact WP.ret (Ends.val (by rfl) (by exact byObl) (by rfl) (by trivial))

theorem split5_fn (L : List (List Nat)) (hn : L.length ≤ 4294967296) (hs : (L.map List.length).sum ≤ 4294967296) (hl : ∀ j, (L.getD j []).length ≤ 4294967296) : FnR Try.prog 17 [.sl 0 0 L.length 1] [.ro L.length 1 (rowsF L)] (t2 (.i .i64 (((L.map List.length).sum : Nat) : Int)) (.i .i64 (L.length : Int))) := by
  refine FnS.into T tok Try.func17 (by rfl) rfl rfl rfl (by simp) ?_
  refine WP.rs T false tok (by rfl) (by exact byObl) ?_
  refine WP.rs T false tok (by rfl) (by exact byObl) ?_
  refine WP.seq ?_
  refine WP.rs T false tok (by rfl) (by exact byObl) ?_
  refine WP.block ?_
  refine WP.loopH (⟨fun z : Nat × Nat => z.1 ≤ L.length ∧ z.2 = ((L.map List.length).take z.1).sum, fun z => [(0, .sl 0 0 L.length 1), (4, .i .i64 (z.2 : Int)), (5, .i .i64 (z.1 : Int))], fun z => [.ro L.length 1 (rowsF L)], fun z => L.length - z.1⟩) ((0, 0)) (⟨Nat.zero_le _, by simp⟩) (Ghost.cut (Nat.le_refl _) (tauOf [0]) _ _ (Taken.of [0] (LeAll.cons (by rfl) (by first | with_reducible exact Root.Le.refl _ | with_reducible exact le_dead | (skip; done) | exact byLeq) (by exact byCon) (trivial)) rfl rfl) (by exact bySlots)) ?_
  rintro ⟨k, s⟩ ⟨hk, he⟩
  dsimp only at hk he
  dsimp only [Hd.at]
  refine WP.seq ?_
  refine WP.rs T false tok (by rfl) (by exact byObl) ?_
  refine WP.cond (by rfl) (fun hc => WP.skip ?_) (fun hc => WP.exit ?_)
  · have hk : k < L.length := by have := of_decide_eq_true hc; omega
    clear hc
    have h1 := sum_take_lt (l := L.map List.length) (k := k) (by simpa using hk)
    have h2 := sum_take_le (L.map List.length) (k + 1)
    have h3 : (L.map List.length).getD k 0 = (L.getD k []).length := by
      simp only [List.getD_eq_getElem?_getD, List.getElem?_map, List.getElem?_eq_getElem hk]; rfl
    rw [h3] at h1
    have h4 := hl k
    refine WP.seq (WP.block ?_)
    refine WP.run T false tok (by rfl) (by exact byObl) ?_
    refine WP.run T false tok (by rfl) (by exact byObl) ?_
    refine Again.next ((k + 1, s + (L.getD k []).length)) (Ghost.cut (Nat.le_refl _) (tauOf [0]) _ _ (Taken.of [0] (LeAll.cons (by rfl) (by first | with_reducible exact Root.Le.refl _ | with_reducible exact le_dead | (skip; done) | exact byLeq) (by exact byCon) (trivial)) rfl rfl) (by exact bySlots)) (⟨hk, by rw [h1, he]⟩) (by dsimp only; omega)
  · have hk : k = L.length := by have := of_decide_eq_false hc; omega
    subst hk
    rw [show L.length = (L.map List.length).length by simp, List.take_length] at he
    subst he
    refine WP.rs T false tok (by rfl) (by exact byObl) ?_
    exact WP.ret (Ends.val (by rfl) (by exact byObl) (by rfl) (by exact sc_t2 trivial trivial))

end Go.Proofs.Ytakapfgjdhliaaa
