import Derived.Test.YtakapfgjdhliaaaX12
import Derived.Test.YtakapfgjdhliaaaX144
/- What the laws call: lists compared, added up. -/
namespace Go.Proofs.Ytakapfgjdhliaaa
open Go.RowKit DM
set_option linter.unusedSimpArgs false
set_option linter.unusedVariables false
set_option maxRecDepth 100000
set_option maxHeartbeats 1000000

theorem big_fn (n : Nat) (f : Nat → Dat) (hn : n ≤ 9223372036854775807) : FnR Try.prog 5 [.sl 0 0 n 1] [.ro n 1 f] (.b (decide ((4096 : Int) < (n : Int)))) := by
  refine FnS.into T tok Try.func5 (by rfl) rfl rfl rfl (by simp) ?_
  refine WP.rs T false tok (by rfl) (by exact byObl) ?_
  refine WP.rs T false tok (by rfl) (by exact byObl) ?_
  exact WP.ret (Ends.val (by rfl) (by exact byObl) (by rfl) (by trivial))

end Go.Proofs.Ytakapfgjdhliaaa

/- Draws of FnAutomorphisms; lists of arrays compared. -/
namespace Go.Proofs.Ytakapfgjdhliaaa
open Go.RowKit DM
set_option linter.unusedSimpArgs false
set_option linter.unusedVariables false
set_option maxRecDepth 100000
set_option maxHeartbeats 1000000

theorem drawSome_A (len : Nat) (g : Nat → Nat) (hg : ∀ j, g j < 256) (hl : len ≤ 4294967296) :
    FnS Try.prog 33 [.sl 0 0 len 1] [.ro len 1 (byF g)] fun r m' => ∃ (n : Int) (b w : Nat → Nat), r = ds_ n b w ∧ DrB n b w ∧ m' = [.ro len 1 (byF g)] := by
  have hSc : ∀ (k a : Nat) (h : Int), Sc k (srcD len g a h) := fun k a h => sc_src k len g a h
  have sc_ch := hSc
  have hfr := l01From_fn len g hg hl
  refine FnS.intoE T tok Try.func33 (by rfl) rfl rfl rfl (by simp) ?_
  refine WP.rs T false tok (by rfl) (by exact byObl) ?_
  refine WP.rw ?_
  refine WPL.run T false 1 tok (by rfl) (by exact byObl) ?_
  refine WPL.callE [0] (hfr) (LeAll.cons (by rfl) (by first | with_reducible exact Root.Le.refl _ | with_reducible exact le_dead | (skip; done) | exact byLeq) (by exact byCon) (trivial)) (by rfl) (by rfl) (by exact byArgs) (by rfl) (by rfl) (by simp [Sc, sc_pl, sc_ds]) ?_
  rintro _ _ ⟨rfl, h1, rfl⟩
  refine ⟨⟨fun d hd => by cases hd; exact fun _ _ => trivial, fun d hd => by cases hd; exact sc_src _ _ _ _ _, trivial⟩, .p 2 [] 0, rfl, sc_p rfl, ?_⟩
  refine WPL.mem (by rfl) ?_
  have hso := l02Some_fn len g hg 0 h1 (Nat.zero_le _) hl
  refine WPL.callE [2] (hso) (LeAll.cons (by rfl) (by first | with_reducible exact Root.Le.refl _ | with_reducible exact le_dead | (skip; done) | exact byLeq) (by exact byCon) (trivial)) (by rfl) (by rfl) (by exact byArgs) (by rfl) (by rfl) (by simp [Sc, sc_pl, sc_ds]) ?_
  rintro _ _ ⟨n, b, w, a2, h2, rfl, hn1, hn2, hb, hw, ha2, rfl⟩
  refine ⟨⟨fun d hd => by cases hd; exact sc_src _ _ _ _ _, trivial⟩, ds_ n b w, ⟨rfl, sc_ds _ _ _ _⟩, sc_ds _ _ _ _, ?_⟩
  refine WPL.mem (by rfl) ?_
  refine WPL.fin T false tok (by rfl) (by exact byObl) ?_
  exact WP.ret (Ends.newE [0] (⟨n, b, w, rfl, ⟨hn1, hn2, hb, hw⟩, rfl⟩) (.inl rfl) (by rfl) (by exact byObl) (LeAll.cons (by rfl) (by first | with_reducible exact Root.Le.refl _ | with_reducible exact le_dead | (skip; done) | exact byLeq) (by exact byCon) (trivial)) rfl rfl (⟨rfl, sc_ds _ _ _ _⟩) (sc_ds _ _ _ _))

theorem drawSome_R (len : Nat) (g : Nat → Nat) (hg : ∀ j, g j < 256) (hl : len ≤ 4294967296) :
    FnS Try.prog 36 [.sl 0 0 len 1] [.ro len 1 (byF g)] fun r m' => ∃ (n : Int) (b w : Nat → Nat), r = ds_ n b w ∧ DrB n b w ∧ m' = [.ro len 1 (byF g)] := by
  have hSc : ∀ (k a : Nat) (h : Int), Sc k (srcD len g a h) := fun k a h => sc_src k len g a h
  have sc_ch := hSc
  have hfr := l01From_fn len g hg hl
  refine FnS.intoE T tok Try.func36 (by rfl) rfl rfl rfl (by simp) ?_
  refine WP.rs T false tok (by rfl) (by exact byObl) ?_
  refine WP.rw ?_
  refine WPL.run T false 1 tok (by rfl) (by exact byObl) ?_
  refine WPL.callE [0] (hfr) (LeAll.cons (by rfl) (by first | with_reducible exact Root.Le.refl _ | with_reducible exact le_dead | (skip; done) | exact byLeq) (by exact byCon) (trivial)) (by rfl) (by rfl) (by exact byArgs) (by rfl) (by rfl) (by simp [Sc, sc_pl, sc_ds]) ?_
  rintro _ _ ⟨rfl, h1, rfl⟩
  refine ⟨⟨fun d hd => by cases hd; exact fun _ _ => trivial, fun d hd => by cases hd; exact sc_src _ _ _ _ _, trivial⟩, .p 2 [] 0, rfl, sc_p rfl, ?_⟩
  refine WPL.mem (by rfl) ?_
  have hso := l02Some_fn len g hg 0 h1 (Nat.zero_le _) hl
  refine WPL.callE [2] (hso) (LeAll.cons (by rfl) (by first | with_reducible exact Root.Le.refl _ | with_reducible exact le_dead | (skip; done) | exact byLeq) (by exact byCon) (trivial)) (by rfl) (by rfl) (by exact byArgs) (by rfl) (by rfl) (by simp [Sc, sc_pl, sc_ds]) ?_
  rintro _ _ ⟨n, b, w, a2, h2, rfl, hn1, hn2, hb, hw, ha2, rfl⟩
  refine ⟨⟨fun d hd => by cases hd; exact sc_src _ _ _ _ _, trivial⟩, ds_ n b w, ⟨rfl, sc_ds _ _ _ _⟩, sc_ds _ _ _ _, ?_⟩
  refine WPL.mem (by rfl) ?_
  refine WPL.fin T false tok (by rfl) (by exact byObl) ?_
  exact WP.ret (Ends.newE [0] (⟨n, b, w, rfl, ⟨hn1, hn2, hb, hw⟩, rfl⟩) (.inl rfl) (by rfl) (by exact byObl) (LeAll.cons (by rfl) (by first | with_reducible exact Root.Le.refl _ | with_reducible exact le_dead | (skip; done) | exact byLeq) (by exact byCon) (trivial)) rfl rfl (⟨rfl, sc_ds _ _ _ _⟩) (sc_ds _ _ _ _))

theorem drawTwo_I (len : Nat) (g : Nat → Nat) (hg : ∀ j, g j < 256) (hl : len ≤ 4294967296) :
    FnS Try.prog 29 [.sl 0 0 len 1] [.ro len 1 (byF g)] fun r m' => ∃ (n : Int) (b w : Nat → Nat) (n' : Int) (b' w' : Nat → Nat), r = t2 (ds_ n b w) (ds_ n' b' w') ∧ DrB n b w ∧ DrB n' b' w' ∧ m' = [.ro len 1 (byF g)] := by
  have hfr := l02Two_fn len g hg hl
  refine FnS.intoE T tok Try.func29 (by rfl) rfl rfl rfl (by simp) ?_
  refine WP.rs T false tok (by rfl) (by exact byObl) ?_
  refine WP.rw ?_
  refine WPL.run T false 1 tok (by rfl) (by exact byObl) ?_
  refine WPL.callE [0] (hfr) (LeAll.cons (by rfl) (by first | with_reducible exact Root.Le.refl _ | with_reducible exact le_dead | (skip; done) | exact byLeq) (by exact byCon) (trivial)) (by rfl) (by rfl) (by exact byArgs) (by rfl) (by rfl) (by simp [Sc, sc_pl, sc_ds]) ?_
  rintro _ _ ⟨n, b, w, n', b', w', rfl, hd, hd', rfl⟩
  refine ⟨⟨fun d hd => by cases hd; exact fun _ _ => trivial, trivial⟩, t2 (ds_ n b w) (ds_ n' b' w'), ren_t2 ⟨rfl, sc_ds _ _ _ _⟩ ⟨rfl, sc_ds _ _ _ _⟩, sc_t2 (sc_ds _ _ _ _) (sc_ds _ _ _ _), ?_⟩
  refine WPL.mem (by rfl) ?_
  refine WPL.fin T false tok (by rfl) (by exact byObl) ?_
  refine WP.seq ?_
  refine WP.da (by kernel_rfl) 2 (by kernel_rfl) ?_
  refine WA.allT [0, 1] (by kernel_rfl) (by simp) ?_; intro i' hi'; simp only [List.mem_cons, List.not_mem_nil, or_false] at hi'
  rcases hi' with rfl | rfl
  · refine ⟨_, _, _, rfl, by rfl, by rfl, .inl (MK.q (evalOp_q tok (wm := false) (by rfl) (by rfl) (by exact byObl))), ?_⟩
    refine WA.allT [1, 2] (by kernel_rfl) (by simp) ?_; intro i' hi'; simp only [List.mem_cons, List.not_mem_nil, or_false] at hi'
    rcases hi' with rfl | rfl
    · refine ⟨_, _, _, rfl, by rfl, by rfl, .inl (MK.q (evalOp_q tok (wm := false) (by rfl) (by rfl) (by exact byObl))), ?_⟩
      refine WA.allT [2] (by kernel_rfl) (by simp) ?_; intro i' hi'; simp only [List.mem_cons, List.not_mem_nil, or_false] at hi'
      subst hi'
      refine ⟨_, _, _, rfl, by rfl, by rfl, .inr ⟨by decide, TK.of tok (wm := false) (by rfl) (by exact byObl)⟩, ?_⟩
      refine WA.allT [3] (by kernel_rfl) (by simp) ?_; intro i' hi'; simp only [List.mem_cons, List.not_mem_nil, or_false] at hi'
      subst hi'
      refine ⟨_, _, _, rfl, by rfl, by rfl, .inr ⟨by decide, TK.of tok (wm := false) (by rfl) (by exact byObl)⟩, ?_⟩
      refine WA.end rfl (by kernel_rfl) (noPan ?_)
      exact WP.ret (Ends.newE [0] (⟨n, b, w, n', b', w', rfl, hd, hd', rfl⟩) (.inl rfl) (by rfl) (by exact byObl) (LeAll.cons (by rfl) (by first | with_reducible exact Root.Le.refl _ | with_reducible exact le_dead | (skip; done) | exact byLeq) (by exact byCon) (trivial)) rfl rfl (ren_t2 ⟨rfl, sc_ds _ _ _ _⟩ ⟨rfl, sc_ds _ _ _ _⟩) (sc_t2 (sc_ds _ _ _ _) (sc_ds _ _ _ _)))
    · refine ⟨_, _, _, rfl, by rfl, by rfl, .inr ⟨by decide, TK.of tok (wm := false) (by rfl) (by exact byObl)⟩, ?_⟩
      refine WA.allT [1] (by kernel_rfl) (by simp) ?_; intro i' hi'; simp only [List.mem_cons, List.not_mem_nil, or_false] at hi'
      subst hi'
      refine ⟨_, _, _, rfl, by rfl, by rfl, .inl (MK.q (evalOp_q tok (wm := false) (by rfl) (by rfl) (by exact byObl))), ?_⟩
      refine WA.allT [3] (by kernel_rfl) (by simp) ?_; intro i' hi'; simp only [List.mem_cons, List.not_mem_nil, or_false] at hi'
      subst hi'
      refine ⟨_, _, _, rfl, by rfl, by rfl, .inr ⟨by decide, TK.of tok (wm := false) (by rfl) (by exact byObl)⟩, ?_⟩
      refine WA.end rfl (by kernel_rfl) (noPan ?_)
      exact WP.ret (Ends.newE [0] (⟨n, b, w, n', b', w', rfl, hd, hd', rfl⟩) (.inl rfl) (by rfl) (by exact byObl) (LeAll.cons (by rfl) (by first | with_reducible exact Root.Le.refl _ | with_reducible exact le_dead | (skip; done) | exact byLeq) (by exact byCon) (trivial)) rfl rfl (ren_t2 ⟨rfl, sc_ds _ _ _ _⟩ ⟨rfl, sc_ds _ _ _ _⟩) (sc_t2 (sc_ds _ _ _ _) (sc_ds _ _ _ _)))
  · refine ⟨_, _, _, rfl, by rfl, by rfl, .inl (MK.q (evalOp_q tok (wm := false) (by rfl) (by rfl) (by exact byObl))), ?_⟩
    refine WA.allT [0] (by kernel_rfl) (by simp) ?_; intro i' hi'; simp only [List.mem_cons, List.not_mem_nil, or_false] at hi'
    subst hi'
    refine ⟨_, _, _, rfl, by rfl, by rfl, .inl (MK.q (evalOp_q tok (wm := false) (by rfl) (by rfl) (by exact byObl))), ?_⟩
    refine WA.allT [2] (by kernel_rfl) (by simp) ?_; intro i' hi'; simp only [List.mem_cons, List.not_mem_nil, or_false] at hi'
    subst hi'
    refine ⟨_, _, _, rfl, by rfl, by rfl, .inr ⟨by decide, TK.of tok (wm := false) (by rfl) (by exact byObl)⟩, ?_⟩
    refine WA.allT [3] (by kernel_rfl) (by simp) ?_; intro i' hi'; simp only [List.mem_cons, List.not_mem_nil, or_false] at hi'
    subst hi'
    refine ⟨_, _, _, rfl, by rfl, by rfl, .inr ⟨by decide, TK.of tok (wm := false) (by rfl) (by exact byObl)⟩, ?_⟩
    refine WA.end rfl (by kernel_rfl) (noPan ?_)
    exact WP.ret (Ends.newE [0] (⟨n, b, w, n', b', w', rfl, hd, hd', rfl⟩) (.inl rfl) (by rfl) (by exact byObl) (LeAll.cons (by rfl) (by first | with_reducible exact Root.Le.refl _ | with_reducible exact le_dead | (skip; done) | exact byLeq) (by exact byCon) (trivial)) rfl rfl (ren_t2 ⟨rfl, sc_ds _ _ _ _⟩ ⟨rfl, sc_ds _ _ _ _⟩) (sc_t2 (sc_ds _ _ _ _) (sc_ds _ _ _ _)))

theorem eq16_self (f : Nat → Nat) (n i : Nat) : eq16 f f i n = true := eq16_of (fun _ => rfl) n i
theorem eqp_neq (p q : Nat → Nat) : eqE T .neq 25 (pl p) (pl q) = some (!eq16 p q 0 16) := by rfl
theorem eqp_same (p : Nat → Nat) : eqE T .neq 25 (pl p) (pl p) = some false := by rw [eqp_neq, eq16_self]; rfl
theorem eqd_same (n : Int) (b w : Nat → Nat) : eqE T .neq 48 (ds_ n b w) (ds_ n b w) = some false := by
  rw [eq_ds_neq]; unfold eqDs; rw [eq16_self, eq16_self]; simp

theorem places9_fn (n : Nat) (L : Nat → Nat → Nat) (hn : n ≤ 4294967296) : FnR Try.prog 32 [.sl 0 0 n 16, .sl 1 0 n 16] [.ro n 16 (fun j => pl (L j)), .ro n 16 (fun j => pl (L j))] (.b true) := by
  refine FnS.into T tok Try.func32 (by rfl) rfl rfl rfl (by simp) ?_
  refine WP.rs T false tok (by rfl) (by exact byObl) ?_
  refine WP.seq ?_
  refine WP.rs T false tok (by rfl) (by exact byObl) ?_
  refine WP.cond (by rfl) (fun h => ?_) (fun h => WP.skip ?_)
  · simp at h
  refine WP.seq ?_
  refine WP.rs T false tok (by rfl) (by exact byObl) ?_
  refine WP.block ?_
  refine WP.loopH (⟨fun k : Nat => k ≤ n, fun k => [(0, .sl 0 0 n 16), (1, .sl 1 0 n 16), (5, .i .i64 (k : Int))], fun k => [.ro n 16 (fun j => pl (L j)), .ro n 16 (fun j => pl (L j))], fun k => n - k⟩) (0) (Nat.zero_le _) (Ghost.cut (Nat.le_refl _) (tauOf [0, 1]) _ _ (Taken.of [0, 1] (LeAll.cons (by rfl) (by first | with_reducible exact Root.Le.refl _ | with_reducible exact le_dead | (skip; done) | exact byLeq) (by exact byCon) (LeAll.cons (by rfl) (by first | with_reducible exact Root.Le.refl _ | with_reducible exact le_dead | (skip; done) | exact byLeq) (by exact byCon) (trivial))) rfl rfl) (by exact bySlots)) ?_
  intro k hk
  dsimp only at hk
  dsimp only [Hd.at]
  refine WP.seq ?_
  refine WP.rs T false tok (by rfl) (by exact byObl) ?_
  refine WP.cond (by rfl) (fun hc => WP.skip ?_) (fun hc => WP.exit ?_)
  · have hk : k < n := by have := of_decide_eq_true hc; omega
    clear hc
    refine WP.seq (WP.block ?_)
    refine WP.seq ?_
    refine WP.drawsQ (by kernel_rfl) (by kernel_rfl) ?_
    refine WQ.run T false 8 tok (by rfl) (by rfl) (by exact byObl) ?_
    refine WQ.op (by rfl) (by rfl) (ok_eq tok rfl (eqp_same (L k))) ?_
    refine WQ.fin T false tok (by rfl) (by rfl) (by exact byObl) ?_
    refine WP.cond (by rfl) (fun h => ?_) (fun h => WP.skip ?_)
    · cases h
    · refine WP.run T false tok (by rfl) (by exact byObl) ?_
      refine Again.next (k + 1) (Ghost.cut (Nat.le_refl _) (tauOf [0, 1]) _ _ (Taken.of [0, 1] (LeAll.cons (by rfl) (by first | with_reducible exact Root.Le.refl _ | with_reducible exact le_dead | (skip; done) | exact byLeq) (by exact byCon) (LeAll.cons (by rfl) (by first | with_reducible exact Root.Le.refl _ | with_reducible exact le_dead | (skip; done) | exact byLeq) (by exact byCon) (trivial))) rfl rfl) (by exact bySlots)) (hk) (by dsimp only; omega)
  · refine WP.rs T false tok (by rfl) (by exact byObl) ?_
    exact WP.ret (Ends.val (by rfl) (by exact byObl) (by rfl) (by trivial))

theorem places9_nil : FnP Try.prog 32 [.ns, .ns] (.b true) := by
  refine FnS.into T tok Try.func32 (by rfl) rfl rfl rfl (by simp) ?_
  refine WP.rs T false tok (by rfl) (by exact byObl) ?_
  refine WP.seq ?_
  refine WP.rs T false tok (by rfl) (by exact byObl) ?_
  refine WP.cond (by rfl) (fun h => ?_) (fun h => WP.skip ?_)
  · cases h
  refine WP.seq ?_
  refine WP.rs T false tok (by rfl) (by exact byObl) ?_
  refine WP.block ?_
  refine WP.loopH (⟨fun k : Nat => k = 0, fun k => [(0, .ns), (1, .ns), (5, .i .i64 (k : Int))], fun k => [], fun k => 0⟩) (0) (rfl) (Ghost.cut (Nat.le_refl _) (tauOf []) _ _ (Taken.of [] (trivial) rfl rfl) (by exact bySlots)) ?_
  rintro k hk
  dsimp only at hk
  subst hk
  dsimp only [Hd.at]
  refine WP.seq ?_
  refine WP.rs T false tok (by rfl) (by exact byObl) ?_
  refine WP.cond (by rfl) (fun hc => WP.skip ?_) (fun hc => WP.exit ?_)
  · cases hc
  · refine WP.rs T false tok (by rfl) (by exact byObl) ?_
    exact WP.ret (Ends.val (by rfl) (by exact byObl) (by rfl) (by trivial))

end Go.Proofs.Ytakapfgjdhliaaa
