import Derived.Test.YthjnmlpibafbnaaX145
import Derived.Test.YthjnmlpibafbnaaX36
import Derived.Test.YthjnmlpibafbnaaD34
import Derived.Test.YthjnmlpibafbnaaL9
namespace Go.Proofs.Ythjnmlpibafbnaa
open Go.RowKit DM
set_option linter.unusedSimpArgs false
set_option linter.unusedVariables false
set_option maxRecDepth 100000
set_option maxHeartbeats 1000000
set_option maxHeartbeats 16000000
theorem WA.lets {P : Program} {N K n : Nat} {ops : Array Oper} {Q : Exit → St → Prop} {α : Type} {f0 fuel : Nat} {l0 listed : Array Bool} {s : St} (s0 : α → St) (C : α → Prop) (h : ∀ x, C x → WA P N K ops Q n f0 l0 (s0 x)) (k : (∀ x, C x → WA P N K ops Q n f0 l0 (s0 x)) → WA P N K ops Q n fuel listed s) : WA P N K ops Q n fuel listed s := k h
theorem minq_ok {P : Program} {o : Oper} {fr : Nat → Dat} {m : List Root} {x y : Operand} {ts : Array TypeId} {k : IntKind} {a b : Int} (ho : o.op = .call { callee := .builtin .min, args := #[x, y], argTypes := ts }) (hx : ev fr x = .i k a) (hy : ev fr y = .i k b) : QOK P o fr m (.i k (if b < a then b else a)) m :=
  .of_run fun N ρ ac w hf hr => by
    obtain ⟨h0, _⟩ := ev_eq hf (x := x) hx (by simp)
    obtain ⟨h1, _⟩ := ev_eq hf (x := y) hy (by simp)
    refine ⟨?_, trivial, trivial, trivial⟩
    simp [execOp, ho, resolve, invoke, builtin, h0, h1, enc, leaf, Builtin.min_, Builtin.min2, Result.andThen]
theorem ren_t4 {τ : Nat → Nat} {a b c d a' b' c' d' : Dat} (h1 : renD τ a a') (h2 : renD τ b b') (h3 : renD τ c c') (h4 : renD τ d d') : renD τ (t4 a b c d) (t4 a' b' c' d') :=
  ⟨_, rfl, fun i _ => by
    rcases i with _ | _ | _ | i
    · exact h1
    · exact h2
    · exact h3
    · exact h4⟩
theorem q23 {y : Int} (h0 : 0 ≤ y) (h1 : y < 24) : 0 ≤ y.tdiv 23 ∧ y.tdiv 23 ≤ 1 := by rw [Int.tdiv_eq_ediv_of_nonneg h0]; omega
theorem drawTwo_M (len : Nat) (g : Nat → Nat) (hg : ∀ j, g j < 256) (hl : len ≤ 4294967296) :
    FnS Try.prog 5 [.sl 0 0 len 1] [.ro len 1 (byF g)] fun r m' => ∃ (n : Int) (b w : Nat → Nat) (n' : Int) (b' w' : Nat → Nat), r = t2 (ds_ n b w) (ds_ n' b' w') ∧ DrB n b w ∧ DrB n' b' w' ∧ m' = [.ro len 1 (byF g)] := by
  have hfr := l02Two_fn len g hg hl
  refine FnS.intoE T tok Try.func5 (by rfl) rfl rfl rfl (by simp) ?_
  refine rS ?_
  refine WP.rw ?_
  refine rU 1 ?_
  refine WPL.callE [0] (hfr) (leC leZ) (by rfl) (by rfl) (by exact byArgs) (by rfl) (by rfl) (by simp [Sc, sc_pl, sc_ds]) ?_
  rintro _ _ ⟨n, b, w, n', b', w', rfl, hd, hd', rfl⟩
  refine ⟨⟨fun d hd => by cases hd; exact fun _ _ => trivial, trivial⟩, t2 (ds_ n b w) (ds_ n' b' w'), ren_t2 ⟨rfl, sc_ds _ _ _ _⟩ ⟨rfl, sc_ds _ _ _ _⟩, sc_t2 (sc_ds _ _ _ _) (sc_ds _ _ _ _), ?_⟩
  refine WPL.mem (by rfl) ?_
  refine rF ?_
  refine WP.seq ?_
  refine WP.da (by kernel_rfl) 2 (by kernel_rfl) ?_
  refine WA.allT [0, 1] (by kernel_rfl) (by simp) ?_; intro i' hi'; simp only [List.mem_cons, List.not_mem_nil, or_false] at hi'
  rcases hi' with rfl | rfl
  · refine ⟨_, _, _, rfl, by rfl, by rfl, .inl (MK.q (evalOp_q tok (wm := false) (by rfl) (by rfl) (by exact byObl))), ?_⟩
    refine WA.allT [1, 2] (by kernel_rfl) (by simp) ?_; intro i' hi'; simp only [List.mem_cons, List.not_mem_nil, or_false] at hi'
    rcases hi' with rfl | rfl
    · refine ⟨_, _, _, rfl, by rfl, by rfl, .inl (MK.q (evalOp_q tok (wm := false) (by rfl) (by rfl) (by exact byObl))), ?_⟩
      refine WA.allT [2] (by kernel_rfl) (by simp) ?_; intro i' hi'; simp only [List.mem_cons, List.not_mem_nil, or_false] at hi'
      subst hi'
      refine ⟨_, _, _, rfl, by rfl, by rfl, .inr ⟨by decide, TK.of tok (wm := false) (by rfl) (by exact byObl)⟩, ?_⟩
      refine WA.allT [3] (by kernel_rfl) (by simp) ?_; intro i' hi'; simp only [List.mem_cons, List.not_mem_nil, or_false] at hi'
      subst hi'
      refine ⟨_, _, _, rfl, by rfl, by rfl, .inr ⟨by decide, TK.of tok (wm := false) (by rfl) (by exact byObl)⟩, ?_⟩
      refine WA.end rfl (by kernel_rfl) (noPan ?_)
      exact WP.ret (Ends.newE [0] (⟨n, b, w, n', b', w', rfl, hd, hd', rfl⟩) (.inl rfl) (by rfl) (by exact byObl) (leC leZ) rfl rfl (ren_t2 ⟨rfl, sc_ds _ _ _ _⟩ ⟨rfl, sc_ds _ _ _ _⟩) (sc_t2 (sc_ds _ _ _ _) (sc_ds _ _ _ _)))
    · refine ⟨_, _, _, rfl, by rfl, by rfl, .inr ⟨by decide, TK.of tok (wm := false) (by rfl) (by exact byObl)⟩, ?_⟩
      refine WA.allT [1] (by kernel_rfl) (by simp) ?_; intro i' hi'; simp only [List.mem_cons, List.not_mem_nil, or_false] at hi'
      subst hi'
      refine ⟨_, _, _, rfl, by rfl, by rfl, .inl (MK.q (evalOp_q tok (wm := false) (by rfl) (by rfl) (by exact byObl))), ?_⟩
      refine WA.allT [3] (by kernel_rfl) (by simp) ?_; intro i' hi'; simp only [List.mem_cons, List.not_mem_nil, or_false] at hi'
      subst hi'
      refine ⟨_, _, _, rfl, by rfl, by rfl, .inr ⟨by decide, TK.of tok (wm := false) (by rfl) (by exact byObl)⟩, ?_⟩
      refine WA.end rfl (by kernel_rfl) (noPan ?_)
      exact WP.ret (Ends.newE [0] (⟨n, b, w, n', b', w', rfl, hd, hd', rfl⟩) (.inl rfl) (by rfl) (by exact byObl) (leC leZ) rfl rfl (ren_t2 ⟨rfl, sc_ds _ _ _ _⟩ ⟨rfl, sc_ds _ _ _ _⟩) (sc_t2 (sc_ds _ _ _ _) (sc_ds _ _ _ _)))
  · refine ⟨_, _, _, rfl, by rfl, by rfl, .inl (MK.q (evalOp_q tok (wm := false) (by rfl) (by rfl) (by exact byObl))), ?_⟩
    refine WA.allT [0] (by kernel_rfl) (by simp) ?_; intro i' hi'; simp only [List.mem_cons, List.not_mem_nil, or_false] at hi'
    subst hi'
    refine ⟨_, _, _, rfl, by rfl, by rfl, .inl (MK.q (evalOp_q tok (wm := false) (by rfl) (by rfl) (by exact byObl))), ?_⟩
    refine WA.allT [2] (by kernel_rfl) (by simp) ?_; intro i' hi'; simp only [List.mem_cons, List.not_mem_nil, or_false] at hi'
    subst hi'
    refine ⟨_, _, _, rfl, by rfl, by rfl, .inr ⟨by decide, TK.of tok (wm := false) (by rfl) (by exact byObl)⟩, ?_⟩
    refine WA.allT [3] (by kernel_rfl) (by simp) ?_; intro i' hi'; simp only [List.mem_cons, List.not_mem_nil, or_false] at hi'
    subst hi'
    refine ⟨_, _, _, rfl, by rfl, by rfl, .inr ⟨by decide, TK.of tok (wm := false) (by rfl) (by exact byObl)⟩, ?_⟩
    refine WA.end rfl (by kernel_rfl) (noPan ?_)
    exact WP.ret (Ends.newE [0] (⟨n, b, w, n', b', w', rfl, hd, hd', rfl⟩) (.inl rfl) (by rfl) (by exact byObl) (leC leZ) rfl rfl (ren_t2 ⟨rfl, sc_ds _ _ _ _⟩ ⟨rfl, sc_ds _ _ _ _⟩) (sc_t2 (sc_ds _ _ _ _) (sc_ds _ _ _ _)))
theorem drawTwo_S (len : Nat) (g : Nat → Nat) (hg : ∀ j, g j < 256) (hl : len ≤ 4294967296) :
    FnS Try.prog 16 [.sl 0 0 len 1] [.ro len 1 (byF g)] fun r m' => ∃ (n : Int) (b w : Nat → Nat) (n' : Int) (b' w' : Nat → Nat), r = t2 (ds_ n b w) (ds_ n' b' w') ∧ DrB n b w ∧ DrB n' b' w' ∧ m' = [.ro len 1 (byF g)] := by
  have hfr := l02Two_fn len g hg hl
  refine FnS.intoE T tok Try.func16 (by rfl) rfl rfl rfl (by simp) ?_
  refine rS ?_
  refine WP.rw ?_
  refine rU 1 ?_
  refine WPL.callE [0] (hfr) (leC leZ) (by rfl) (by rfl) (by exact byArgs) (by rfl) (by rfl) (by simp [Sc, sc_pl, sc_ds]) ?_
  rintro _ _ ⟨n, b, w, n', b', w', rfl, hd, hd', rfl⟩
  refine ⟨⟨fun d hd => by cases hd; exact fun _ _ => trivial, trivial⟩, t2 (ds_ n b w) (ds_ n' b' w'), ren_t2 ⟨rfl, sc_ds _ _ _ _⟩ ⟨rfl, sc_ds _ _ _ _⟩, sc_t2 (sc_ds _ _ _ _) (sc_ds _ _ _ _), ?_⟩
  refine WPL.mem (by rfl) ?_
  refine rF ?_
  refine WP.seq ?_
  refine WP.da (by kernel_rfl) 2 (by kernel_rfl) ?_
  refine WA.allT [0, 1] (by kernel_rfl) (by simp) ?_; intro i' hi'; simp only [List.mem_cons, List.not_mem_nil, or_false] at hi'
  rcases hi' with rfl | rfl
  · refine ⟨_, _, _, rfl, by rfl, by rfl, .inl (MK.q (evalOp_q tok (wm := false) (by rfl) (by rfl) (by exact byObl))), ?_⟩
    refine WA.allT [1, 2] (by kernel_rfl) (by simp) ?_; intro i' hi'; simp only [List.mem_cons, List.not_mem_nil, or_false] at hi'
    rcases hi' with rfl | rfl
    · refine ⟨_, _, _, rfl, by rfl, by rfl, .inl (MK.q (evalOp_q tok (wm := false) (by rfl) (by rfl) (by exact byObl))), ?_⟩
      refine WA.allT [2] (by kernel_rfl) (by simp) ?_; intro i' hi'; simp only [List.mem_cons, List.not_mem_nil, or_false] at hi'
      subst hi'
      refine ⟨_, _, _, rfl, by rfl, by rfl, .inr ⟨by decide, TK.of tok (wm := false) (by rfl) (by exact byObl)⟩, ?_⟩
      refine WA.allT [3] (by kernel_rfl) (by simp) ?_; intro i' hi'; simp only [List.mem_cons, List.not_mem_nil, or_false] at hi'
      subst hi'
      refine ⟨_, _, _, rfl, by rfl, by rfl, .inr ⟨by decide, TK.of tok (wm := false) (by rfl) (by exact byObl)⟩, ?_⟩
      refine WA.end rfl (by kernel_rfl) (noPan ?_)
      exact WP.ret (Ends.newE [0] (⟨n, b, w, n', b', w', rfl, hd, hd', rfl⟩) (.inl rfl) (by rfl) (by exact byObl) (leC leZ) rfl rfl (ren_t2 ⟨rfl, sc_ds _ _ _ _⟩ ⟨rfl, sc_ds _ _ _ _⟩) (sc_t2 (sc_ds _ _ _ _) (sc_ds _ _ _ _)))
    · refine ⟨_, _, _, rfl, by rfl, by rfl, .inr ⟨by decide, TK.of tok (wm := false) (by rfl) (by exact byObl)⟩, ?_⟩
      refine WA.allT [1] (by kernel_rfl) (by simp) ?_; intro i' hi'; simp only [List.mem_cons, List.not_mem_nil, or_false] at hi'
      subst hi'
      refine ⟨_, _, _, rfl, by rfl, by rfl, .inl (MK.q (evalOp_q tok (wm := false) (by rfl) (by rfl) (by exact byObl))), ?_⟩
      refine WA.allT [3] (by kernel_rfl) (by simp) ?_; intro i' hi'; simp only [List.mem_cons, List.not_mem_nil, or_false] at hi'
      subst hi'
      refine ⟨_, _, _, rfl, by rfl, by rfl, .inr ⟨by decide, TK.of tok (wm := false) (by rfl) (by exact byObl)⟩, ?_⟩
      refine WA.end rfl (by kernel_rfl) (noPan ?_)
      exact WP.ret (Ends.newE [0] (⟨n, b, w, n', b', w', rfl, hd, hd', rfl⟩) (.inl rfl) (by rfl) (by exact byObl) (leC leZ) rfl rfl (ren_t2 ⟨rfl, sc_ds _ _ _ _⟩ ⟨rfl, sc_ds _ _ _ _⟩) (sc_t2 (sc_ds _ _ _ _) (sc_ds _ _ _ _)))
  · refine ⟨_, _, _, rfl, by rfl, by rfl, .inl (MK.q (evalOp_q tok (wm := false) (by rfl) (by rfl) (by exact byObl))), ?_⟩
    refine WA.allT [0] (by kernel_rfl) (by simp) ?_; intro i' hi'; simp only [List.mem_cons, List.not_mem_nil, or_false] at hi'
    subst hi'
    refine ⟨_, _, _, rfl, by rfl, by rfl, .inl (MK.q (evalOp_q tok (wm := false) (by rfl) (by rfl) (by exact byObl))), ?_⟩
    refine WA.allT [2] (by kernel_rfl) (by simp) ?_; intro i' hi'; simp only [List.mem_cons, List.not_mem_nil, or_false] at hi'
    subst hi'
    refine ⟨_, _, _, rfl, by rfl, by rfl, .inr ⟨by decide, TK.of tok (wm := false) (by rfl) (by exact byObl)⟩, ?_⟩
    refine WA.allT [3] (by kernel_rfl) (by simp) ?_; intro i' hi'; simp only [List.mem_cons, List.not_mem_nil, or_false] at hi'
    subst hi'
    refine ⟨_, _, _, rfl, by rfl, by rfl, .inr ⟨by decide, TK.of tok (wm := false) (by rfl) (by exact byObl)⟩, ?_⟩
    refine WA.end rfl (by kernel_rfl) (noPan ?_)
    exact WP.ret (Ends.newE [0] (⟨n, b, w, n', b', w', rfl, hd, hd', rfl⟩) (.inl rfl) (by rfl) (by exact byObl) (leC leZ) rfl rfl (ren_t2 ⟨rfl, sc_ds _ _ _ _⟩ ⟨rfl, sc_ds _ _ _ _⟩) (sc_t2 (sc_ds _ _ _ _) (sc_ds _ _ _ _)))
theorem drawQ (len : Nat) (g : Nat → Nat) (hg : ∀ j, g j < 256) (hl : len ≤ 4294967296) :
    FnS Try.prog 9 [.sl 0 0 len 1] [.ro len 1 (byF g)] fun r m' => ∃ (n : Int) (b w p : Nat → Nat), r = t2 (ds_ n b w) (pl p) ∧ DrB n b w ∧ Bt 256 p ∧ m' = [.ro len 1 (byF g)] := by
  have hSc : ∀ (k a : Nat) (h : Int), Sc k (srcD len g a h) := fun k a h => sc_src k len g a h
  have sc_ch := hSc
  have hfr := l01From_fn len g hg hl
  refine FnS.intoE T tok Try.func9 (by rfl) rfl rfl rfl (by simp) ?_
  refine rS ?_
  refine WP.rw ?_
  refine rU 1 ?_
  refine WPL.callE [0] (hfr) (leC leZ) (by rfl) (by rfl) (by exact byArgs) (by rfl) (by rfl) (by simp [Sc, sc_pl, sc_ds]) ?_
  rintro _ _ ⟨rfl, h1, rfl⟩
  refine ⟨⟨fun d hd => by cases hd; exact fun _ _ => trivial, fun d hd => by cases hd; exact sc_src _ _ _ _ _, trivial⟩, .p 3 [] 0, rfl, sc_p rfl, ?_⟩
  refine WPL.mem (by rfl) ?_
  refine rF ?_
  have hso := l02Some_fn len g hg 0 h1 (Nat.zero_le _) hl
  refine WP.rw ?_
  refine rU 1 ?_
  refine WPL.callE [3] (hso) (leC leZ) (by rfl) (by rfl) (by exact byArgs) (by rfl) (by rfl) (by simp [Sc, sc_pl, sc_ds]) ?_
  rintro _ _ ⟨n, b, w, a2, h2, rfl, hn1, hn2, hb, hw, ha2, rfl⟩
  have hdr : DrB n b w := ⟨hn1, hn2, hb, hw⟩
  refine ⟨⟨fun d hd => by cases hd; exact sc_src _ _ _ _ _, trivial⟩, ds_ n b w, ⟨rfl, sc_ds _ _ _ _⟩, sc_ds _ _ _ _, ?_⟩
  refine WPL.mem (by rfl) ?_
  refine rF ?_
  refine WP.ghost (gC [0, 1, 2, 3, 4] (leC (leC (leC (leC (leC leZ))))) (l := [(2, .p 1 [] 0), (3, .p 2 [] 0), (4, .p 3 [] 0), (5, .p 4 [] 0)]) (m' := [.ro len 1 (byF g), .var (ds_ 0 (fun _ => 0) (fun _ => 0)), .var ti25.z, .var (srcD len g a2 h2), .var (ds_ n b w)])) ?_
  obtain ⟨v0, hv, v1, v2⟩ : ∃ v : Int, (if (1 : Int) < (if (16 : Int) < n then 16 else n) then (if (16 : Int) < n then 16 else n) else 1) = v ∧ 1 ≤ v ∧ v ≤ 16 := ⟨_, rfl, by split <;> split <;> omega, by split <;> split <;> omega⟩
  have his := l01Is_fn n b w hb.lt hw.lt
  refine WP.seq ?_
  refine WP.rw ?_
  refine rU 1 ?_
  refine cA (his) ?_
  cases hd : desB n b w
  · refine rU 1 ?_
    iterate 3 refine WPL.skipU (by rfl) (by rfl) ?_
    refine rF ?_
    refine WP.cond (by rfl) (fun h => ?_) (fun h => WP.skip ?_)
    · cases h
    have hdp := l01DrawPlaces_fn len g hg a2 h2 v0 v2 (by omega) ha2 hl
    refine WP.seq ?_
    refine WP.da (by kernel_rfl) 6 (by kernel_rfl) ?_
    refine WA.takesD T false tok [1, 2] (f' := 7) (by kernel_rfl) (by rfl) (by rfl) (by exact byObl) (by rfl) (by rfl) ?_
    refine w2 0 3 ?_ ?_
    · refine wq ?_
      refine w1 3 ?_
      refine wq ?_
      refine w1 4 ?_
      refine ⟨_, _, rfl, by rfl, by rfl, .inl (MKE.of (MK.q (minq_ok rfl rfl rfl))), ?_⟩; rintro _ _ ⟨rfl, rfl⟩
      refine w1 5 ?_
      refine ⟨_, _, rfl, by rfl, by rfl, .inl (MKE.of (MK.q (max_ok rfl rfl rfl))), ?_⟩; rintro _ _ ⟨rfl, rfl⟩
      rw [hv]
      refine w1 6 ?_
      refine wDp (fun a' h' => [.ro len 1 (byF g), .var dz, .var ti25.z, .var (srcD len g a' h'), .var (ds_ n b w)]) hdp ?_
      intro p a6 h6 hp _
      refine w1 7 ?_
      refine wt ?_
      refine w1 8 ?_
      refine wt ?_
      refine WA.end rfl (by kernel_rfl) (noPan ?_)
      exact WP.ret (Ends.newE [0] (⟨n, b, w, p, rfl, hdr, hp.mono (Nat.le_trans (bN_le v2) (by decide)), rfl⟩) (.inl rfl) (by rfl) (by exact byObl) (leC leZ) rfl rfl (ren_t2 ⟨rfl, sc_ds _ _ _ _⟩ ⟨rfl, sc_pl _ _⟩) (sc_t2 (sc_ds _ _ _ _) (sc_pl _ _)))
    · refine wq ?_
      refine w2 0 4 ?_ ?_
      · refine wq ?_
        refine w1 4 ?_
        refine ⟨_, _, rfl, by rfl, by rfl, .inl (MKE.of (MK.q (minq_ok rfl rfl rfl))), ?_⟩; rintro _ _ ⟨rfl, rfl⟩
        refine w1 5 ?_
        refine ⟨_, _, rfl, by rfl, by rfl, .inl (MKE.of (MK.q (max_ok rfl rfl rfl))), ?_⟩; rintro _ _ ⟨rfl, rfl⟩
        rw [hv]
        refine w1 6 ?_
        refine wDp (fun a' h' => [.ro len 1 (byF g), .var dz, .var ti25.z, .var (srcD len g a' h'), .var (ds_ n b w)]) hdp ?_
        intro p a6 h6 hp _
        refine w1 7 ?_
        refine wt ?_
        refine w1 8 ?_
        refine wt ?_
        refine WA.end rfl (by kernel_rfl) (noPan ?_)
        exact WP.ret (Ends.newE [0] (⟨n, b, w, p, rfl, hdr, hp.mono (Nat.le_trans (bN_le v2) (by decide)), rfl⟩) (.inl rfl) (by rfl) (by exact byObl) (leC leZ) rfl rfl (ren_t2 ⟨rfl, sc_ds _ _ _ _⟩ ⟨rfl, sc_pl _ _⟩) (sc_t2 (sc_ds _ _ _ _) (sc_pl _ _)))
      · refine ⟨_, _, rfl, by rfl, by rfl, .inl (MKE.of (MK.q (minq_ok rfl rfl rfl))), ?_⟩; rintro _ _ ⟨rfl, rfl⟩
        refine w2 0 5 ?_ ?_
        · refine wq ?_
          refine w1 5 ?_
          refine ⟨_, _, rfl, by rfl, by rfl, .inl (MKE.of (MK.q (max_ok rfl rfl rfl))), ?_⟩; rintro _ _ ⟨rfl, rfl⟩
          rw [hv]
          refine w1 6 ?_
          refine wDp (fun a' h' => [.ro len 1 (byF g), .var dz, .var ti25.z, .var (srcD len g a' h'), .var (ds_ n b w)]) hdp ?_
          intro p a6 h6 hp _
          refine w1 7 ?_
          refine wt ?_
          refine w1 8 ?_
          refine wt ?_
          refine WA.end rfl (by kernel_rfl) (noPan ?_)
          exact WP.ret (Ends.newE [0] (⟨n, b, w, p, rfl, hdr, hp.mono (Nat.le_trans (bN_le v2) (by decide)), rfl⟩) (.inl rfl) (by rfl) (by exact byObl) (leC leZ) rfl rfl (ren_t2 ⟨rfl, sc_ds _ _ _ _⟩ ⟨rfl, sc_pl _ _⟩) (sc_t2 (sc_ds _ _ _ _) (sc_pl _ _)))
        · refine ⟨_, _, rfl, by rfl, by rfl, .inl (MKE.of (MK.q (max_ok rfl rfl rfl))), ?_⟩; rintro _ _ ⟨rfl, rfl⟩
          rw [hv]
          refine w2 0 6 ?_ ?_
          · refine wq ?_
            refine w1 6 ?_
            refine wDp (fun a' h' => [.ro len 1 (byF g), .var dz, .var ti25.z, .var (srcD len g a' h'), .var (ds_ n b w)]) hdp ?_
            intro p a6 h6 hp _
            refine w1 7 ?_
            refine wt ?_
            refine w1 8 ?_
            refine wt ?_
            refine WA.end rfl (by kernel_rfl) (noPan ?_)
            exact WP.ret (Ends.newE [0] (⟨n, b, w, p, rfl, hdr, hp.mono (Nat.le_trans (bN_le v2) (by decide)), rfl⟩) (.inl rfl) (by rfl) (by exact byObl) (leC leZ) rfl rfl (ren_t2 ⟨rfl, sc_ds _ _ _ _⟩ ⟨rfl, sc_pl _ _⟩) (sc_t2 (sc_ds _ _ _ _) (sc_pl _ _)))
          · refine wDp (fun a' h' => [.ro len 1 (byF g), .var dz, .var ti25.z, .var (srcD len g a' h'), .var (ds_ n b w)]) hdp ?_
            intro p a6 h6 hp _
            refine w1 0 ?_
            refine wq ?_
            refine w1 7 ?_
            refine wt ?_
            refine w1 8 ?_
            refine wt ?_
            refine WA.end rfl (by kernel_rfl) (noPan ?_)
            exact WP.ret (Ends.newE [0] (⟨n, b, w, p, rfl, hdr, hp.mono (Nat.le_trans (bN_le v2) (by decide)), rfl⟩) (.inl rfl) (by rfl) (by exact byObl) (leC leZ) rfl rfl (ren_t2 ⟨rfl, sc_ds _ _ _ _⟩ ⟨rfl, sc_pl _ _⟩) (sc_t2 (sc_ds _ _ _ _) (sc_pl _ _)))
  obtain ⟨N, rfl, hD⟩ := des_of_B hd
  have hN := hD.le
  have hN1 := hD.pos
  have hnx := l01Next_fn len g hg a2 h2 8 ha2 hl
  refine rU 2 ?_
  refine WPL.callE [3] (hnx) (leC leZ) (by rfl) (by rfl) (by exact byArgs) (by rfl) (by rfl) (by simp [Sc, sc_pl, sc_ds]) ?_
  rintro _ _ ⟨x, a3, h3, rfl, _, _, ha3, rfl⟩
  refine ⟨⟨fun d hd => by cases hd; exact sc_src _ _ _ _ _, trivial⟩, .i .i64 x, ⟨rfl, trivial⟩, trivial, ?_⟩
  refine WPL.mem (by rfl) ?_
  refine rF ?_
  refine WP.cond (by rfl) (fun hx => ?_) (fun hx => ?_)
  · have hall := l02All_fn N N b w b w hD hD
    have hget := fun i (hi : i < (isoR N b w N b w).length) => isoL_get (N := N) (b := b) (w := w) (b' := b) (w' := w) hD hD (i := i) (by unfold isoR at hi; rw [if_pos rfl] at hi; exact hi)
    have hposR : 0 < (isoR N b w N b w).length := by unfold isoR; rw [if_pos rfl]; exact auts_pos hD
    have hBt : ∀ j, j < (isoR N b w N b w).length → Bt 256 ((isoR N b w N b w).getD j fun _ => 0) := fun j hj => by
      obtain ⟨y, hy, hB, e⟩ := hget j hj
      obtain ⟨c1, c2, c3, c4⟩ := iso_of hD hD hy hB
      have e' : (isoR N b w N b w).getD j (fun _ => 0) = isoP N b w b w y := by unfold isoR; rw [if_pos rfl]; exact e
      rw [e']
      refine ⟨fun i => ?_, fun i hi => c4 i (by omega)⟩
      by_cases hi : i < N
      · have := c1.lt i hi; omega
      · rw [c4 i (by omega)]; omega
    have hlR : (isoR N b w N b w).length ≤ 16 := isoR_len2 hN b w b w
    generalize isoR N b w N b w = L at *
    refine WP.rw ?_
    refine rU 2 ?_
    refine cN [] (.sl 5 0 L.length 16) (hall) leZ (rfl) ?_
    refine rF ?_
    have hnx2 := l01Next_fn len g hg a3 h3 (L.length : Int) ha3 hl
    refine WP.seq ?_
    refine WP.da (by kernel_rfl) 5 (by kernel_rfl) ?_
    refine WA.takesD T false tok [1, 2, 3] (f' := 7) (by kernel_rfl) (by rfl) (by rfl) (by exact byObl) (by rfl) (by rfl) ?_
    refine w2 0 4 ?_ ?_
    · refine wq ?_
      refine w1 4 ?_
      refine wq ?_
      refine w1 5 ?_
      refine wNx (fun a' h' => [.ro len 1 (byF g), .var dz, .var ti25.z, .var (srcD len g a' h'), .var (ds_ N b w), .row 25 L.length 16 (plsF L)]) hnx2 ?_
      intro z a4 h4 hz ha4
      obtain ⟨j, hj, rfl⟩ := nx_nat hz (by omega)
      refine w2 6 8 ?_ ?_
      · refine wq ?_
        refine w2 7 8 ?_ ?_
        · refine wq ?_
          refine w1 8 ?_
          refine wt ?_
          refine w1 9 ?_
          refine wt ?_
          refine WA.end rfl (by kernel_rfl) (noPan ?_)
          exact WP.ret (Ends.newE [0] (⟨N, b, w, _, rfl, hdr, hBt j hj, rfl⟩) (.inl rfl) (by rfl) (by exact byObl) (leC leZ) rfl rfl (ren_t2 ⟨rfl, sc_ds _ _ _ _⟩ ⟨rfl, sc_pl _ _⟩) (sc_t2 (sc_ds _ _ _ _) (sc_pl _ _)))
        · refine wt ?_
          refine w1 7 ?_
          refine wq ?_
          refine w1 9 ?_
          refine wt ?_
          refine WA.end rfl (by kernel_rfl) (noPan ?_)
          exact WP.ret (Ends.newE [0] (⟨N, b, w, _, rfl, hdr, hBt j hj, rfl⟩) (.inl rfl) (by rfl) (by exact byObl) (leC leZ) rfl rfl (ren_t2 ⟨rfl, sc_ds _ _ _ _⟩ ⟨rfl, sc_pl _ _⟩) (sc_t2 (sc_ds _ _ _ _) (sc_pl _ _)))
      · refine wt ?_
        refine w1 6 ?_
        refine wq ?_
        refine w1 7 ?_
        refine wq ?_
        refine w1 9 ?_
        refine wt ?_
        refine WA.end rfl (by kernel_rfl) (noPan ?_)
        exact WP.ret (Ends.newE [0] (⟨N, b, w, _, rfl, hdr, hBt j hj, rfl⟩) (.inl rfl) (by rfl) (by exact byObl) (leC leZ) rfl rfl (ren_t2 ⟨rfl, sc_ds _ _ _ _⟩ ⟨rfl, sc_pl _ _⟩) (sc_t2 (sc_ds _ _ _ _) (sc_pl _ _)))
    · refine wq ?_
      refine w2 0 5 ?_ ?_
      · refine wq ?_
        refine w1 5 ?_
        refine wNx (fun a' h' => [.ro len 1 (byF g), .var dz, .var ti25.z, .var (srcD len g a' h'), .var (ds_ N b w), .row 25 L.length 16 (plsF L)]) hnx2 ?_
        intro z a4 h4 hz ha4
        obtain ⟨j, hj, rfl⟩ := nx_nat hz (by omega)
        refine w2 6 8 ?_ ?_
        · refine wq ?_
          refine w2 7 8 ?_ ?_
          · refine wq ?_
            refine w1 8 ?_
            refine wt ?_
            refine w1 9 ?_
            refine wt ?_
            refine WA.end rfl (by kernel_rfl) (noPan ?_)
            exact WP.ret (Ends.newE [0] (⟨N, b, w, _, rfl, hdr, hBt j hj, rfl⟩) (.inl rfl) (by rfl) (by exact byObl) (leC leZ) rfl rfl (ren_t2 ⟨rfl, sc_ds _ _ _ _⟩ ⟨rfl, sc_pl _ _⟩) (sc_t2 (sc_ds _ _ _ _) (sc_pl _ _)))
          · refine wt ?_
            refine w1 7 ?_
            refine wq ?_
            refine w1 9 ?_
            refine wt ?_
            refine WA.end rfl (by kernel_rfl) (noPan ?_)
            exact WP.ret (Ends.newE [0] (⟨N, b, w, _, rfl, hdr, hBt j hj, rfl⟩) (.inl rfl) (by rfl) (by exact byObl) (leC leZ) rfl rfl (ren_t2 ⟨rfl, sc_ds _ _ _ _⟩ ⟨rfl, sc_pl _ _⟩) (sc_t2 (sc_ds _ _ _ _) (sc_pl _ _)))
        · refine wt ?_
          refine w1 6 ?_
          refine wq ?_
          refine w1 7 ?_
          refine wq ?_
          refine w1 9 ?_
          refine wt ?_
          refine WA.end rfl (by kernel_rfl) (noPan ?_)
          exact WP.ret (Ends.newE [0] (⟨N, b, w, _, rfl, hdr, hBt j hj, rfl⟩) (.inl rfl) (by rfl) (by exact byObl) (leC leZ) rfl rfl (ren_t2 ⟨rfl, sc_ds _ _ _ _⟩ ⟨rfl, sc_pl _ _⟩) (sc_t2 (sc_ds _ _ _ _) (sc_pl _ _)))
      · refine wNx (fun a' h' => [.ro len 1 (byF g), .var dz, .var ti25.z, .var (srcD len g a' h'), .var (ds_ N b w), .row 25 L.length 16 (plsF L)]) hnx2 ?_
        intro z a4 h4 hz ha4
        obtain ⟨j, hj, rfl⟩ := nx_nat hz (by omega)
        refine w2 0 6 ?_ ?_
        · refine wq ?_
          refine w2 6 8 ?_ ?_
          · refine wq ?_
            refine w2 7 8 ?_ ?_
            · refine wq ?_
              refine w1 8 ?_
              refine wt ?_
              refine w1 9 ?_
              refine wt ?_
              refine WA.end rfl (by kernel_rfl) (noPan ?_)
              exact WP.ret (Ends.newE [0] (⟨N, b, w, _, rfl, hdr, hBt j hj, rfl⟩) (.inl rfl) (by rfl) (by exact byObl) (leC leZ) rfl rfl (ren_t2 ⟨rfl, sc_ds _ _ _ _⟩ ⟨rfl, sc_pl _ _⟩) (sc_t2 (sc_ds _ _ _ _) (sc_pl _ _)))
            · refine wt ?_
              refine w1 7 ?_
              refine wq ?_
              refine w1 9 ?_
              refine wt ?_
              refine WA.end rfl (by kernel_rfl) (noPan ?_)
              exact WP.ret (Ends.newE [0] (⟨N, b, w, _, rfl, hdr, hBt j hj, rfl⟩) (.inl rfl) (by rfl) (by exact byObl) (leC leZ) rfl rfl (ren_t2 ⟨rfl, sc_ds _ _ _ _⟩ ⟨rfl, sc_pl _ _⟩) (sc_t2 (sc_ds _ _ _ _) (sc_pl _ _)))
          · refine wt ?_
            refine w1 6 ?_
            refine wq ?_
            refine w1 7 ?_
            refine wq ?_
            refine w1 9 ?_
            refine wt ?_
            refine WA.end rfl (by kernel_rfl) (noPan ?_)
            exact WP.ret (Ends.newE [0] (⟨N, b, w, _, rfl, hdr, hBt j hj, rfl⟩) (.inl rfl) (by rfl) (by exact byObl) (leC leZ) rfl rfl (ren_t2 ⟨rfl, sc_ds _ _ _ _⟩ ⟨rfl, sc_pl _ _⟩) (sc_t2 (sc_ds _ _ _ _) (sc_pl _ _)))
        · refine wq ?_
          refine w2 0 7 ?_ ?_
          · refine wq ?_
            refine w2 7 8 ?_ ?_
            · refine wq ?_
              refine w1 8 ?_
              refine wt ?_
              refine w1 9 ?_
              refine wt ?_
              refine WA.end rfl (by kernel_rfl) (noPan ?_)
              exact WP.ret (Ends.newE [0] (⟨N, b, w, _, rfl, hdr, hBt j hj, rfl⟩) (.inl rfl) (by rfl) (by exact byObl) (leC leZ) rfl rfl (ren_t2 ⟨rfl, sc_ds _ _ _ _⟩ ⟨rfl, sc_pl _ _⟩) (sc_t2 (sc_ds _ _ _ _) (sc_pl _ _)))
            · refine wt ?_
              refine w1 7 ?_
              refine wq ?_
              refine w1 9 ?_
              refine wt ?_
              refine WA.end rfl (by kernel_rfl) (noPan ?_)
              exact WP.ret (Ends.newE [0] (⟨N, b, w, _, rfl, hdr, hBt j hj, rfl⟩) (.inl rfl) (by rfl) (by exact byObl) (leC leZ) rfl rfl (ren_t2 ⟨rfl, sc_ds _ _ _ _⟩ ⟨rfl, sc_pl _ _⟩) (sc_t2 (sc_ds _ _ _ _) (sc_pl _ _)))
          · refine wq ?_
            refine w1 0 ?_
            refine wq ?_
            refine w1 8 ?_
            refine wt ?_
            refine w1 9 ?_
            refine wt ?_
            refine WA.end rfl (by kernel_rfl) (noPan ?_)
            exact WP.ret (Ends.newE [0] (⟨N, b, w, _, rfl, hdr, hBt j hj, rfl⟩) (.inl rfl) (by rfl) (by exact byObl) (leC leZ) rfl rfl (ren_t2 ⟨rfl, sc_ds _ _ _ _⟩ ⟨rfl, sc_pl _ _⟩) (sc_t2 (sc_ds _ _ _ _) (sc_pl _ _)))
  · refine WP.skip ?_
    have hdp := l01DrawPlaces_fn len g hg a3 h3 v0 v2 (by omega) ha3 hl
    refine WP.seq ?_
    refine WP.da (by kernel_rfl) 6 (by kernel_rfl) ?_
    refine WA.takesD T false tok [1, 2] (f' := 7) (by kernel_rfl) (by rfl) (by rfl) (by exact byObl) (by rfl) (by rfl) ?_
    refine w2 0 3 ?_ ?_
    · refine wq ?_
      refine w1 3 ?_
      refine wq ?_
      refine w1 4 ?_
      refine ⟨_, _, rfl, by rfl, by rfl, .inl (MKE.of (MK.q (minq_ok rfl rfl rfl))), ?_⟩; rintro _ _ ⟨rfl, rfl⟩
      refine w1 5 ?_
      refine ⟨_, _, rfl, by rfl, by rfl, .inl (MKE.of (MK.q (max_ok rfl rfl rfl))), ?_⟩; rintro _ _ ⟨rfl, rfl⟩
      rw [hv]
      refine w1 6 ?_
      refine wDp (fun a' h' => [.ro len 1 (byF g), .var dz, .var ti25.z, .var (srcD len g a' h'), .var (ds_ N b w)]) hdp ?_
      intro p a6 h6 hp _
      refine w1 7 ?_
      refine wt ?_
      refine w1 8 ?_
      refine wt ?_
      refine WA.end rfl (by kernel_rfl) (noPan ?_)
      exact WP.ret (Ends.newE [0] (⟨N, b, w, p, rfl, hdr, hp.mono (Nat.le_trans (bN_le v2) (by decide)), rfl⟩) (.inl rfl) (by rfl) (by exact byObl) (leC leZ) rfl rfl (ren_t2 ⟨rfl, sc_ds _ _ _ _⟩ ⟨rfl, sc_pl _ _⟩) (sc_t2 (sc_ds _ _ _ _) (sc_pl _ _)))
    · refine wq ?_
      refine w2 0 4 ?_ ?_
      · refine wq ?_
        refine w1 4 ?_
        refine ⟨_, _, rfl, by rfl, by rfl, .inl (MKE.of (MK.q (minq_ok rfl rfl rfl))), ?_⟩; rintro _ _ ⟨rfl, rfl⟩
        refine w1 5 ?_
        refine ⟨_, _, rfl, by rfl, by rfl, .inl (MKE.of (MK.q (max_ok rfl rfl rfl))), ?_⟩; rintro _ _ ⟨rfl, rfl⟩
        rw [hv]
        refine w1 6 ?_
        refine wDp (fun a' h' => [.ro len 1 (byF g), .var dz, .var ti25.z, .var (srcD len g a' h'), .var (ds_ N b w)]) hdp ?_
        intro p a6 h6 hp _
        refine w1 7 ?_
        refine wt ?_
        refine w1 8 ?_
        refine wt ?_
        refine WA.end rfl (by kernel_rfl) (noPan ?_)
        exact WP.ret (Ends.newE [0] (⟨N, b, w, p, rfl, hdr, hp.mono (Nat.le_trans (bN_le v2) (by decide)), rfl⟩) (.inl rfl) (by rfl) (by exact byObl) (leC leZ) rfl rfl (ren_t2 ⟨rfl, sc_ds _ _ _ _⟩ ⟨rfl, sc_pl _ _⟩) (sc_t2 (sc_ds _ _ _ _) (sc_pl _ _)))
      · refine ⟨_, _, rfl, by rfl, by rfl, .inl (MKE.of (MK.q (minq_ok rfl rfl rfl))), ?_⟩; rintro _ _ ⟨rfl, rfl⟩
        refine w2 0 5 ?_ ?_
        · refine wq ?_
          refine w1 5 ?_
          refine ⟨_, _, rfl, by rfl, by rfl, .inl (MKE.of (MK.q (max_ok rfl rfl rfl))), ?_⟩; rintro _ _ ⟨rfl, rfl⟩
          rw [hv]
          refine w1 6 ?_
          refine wDp (fun a' h' => [.ro len 1 (byF g), .var dz, .var ti25.z, .var (srcD len g a' h'), .var (ds_ N b w)]) hdp ?_
          intro p a6 h6 hp _
          refine w1 7 ?_
          refine wt ?_
          refine w1 8 ?_
          refine wt ?_
          refine WA.end rfl (by kernel_rfl) (noPan ?_)
          exact WP.ret (Ends.newE [0] (⟨N, b, w, p, rfl, hdr, hp.mono (Nat.le_trans (bN_le v2) (by decide)), rfl⟩) (.inl rfl) (by rfl) (by exact byObl) (leC leZ) rfl rfl (ren_t2 ⟨rfl, sc_ds _ _ _ _⟩ ⟨rfl, sc_pl _ _⟩) (sc_t2 (sc_ds _ _ _ _) (sc_pl _ _)))
        · refine ⟨_, _, rfl, by rfl, by rfl, .inl (MKE.of (MK.q (max_ok rfl rfl rfl))), ?_⟩; rintro _ _ ⟨rfl, rfl⟩
          rw [hv]
          refine w2 0 6 ?_ ?_
          · refine wq ?_
            refine w1 6 ?_
            refine wDp (fun a' h' => [.ro len 1 (byF g), .var dz, .var ti25.z, .var (srcD len g a' h'), .var (ds_ N b w)]) hdp ?_
            intro p a6 h6 hp _
            refine w1 7 ?_
            refine wt ?_
            refine w1 8 ?_
            refine wt ?_
            refine WA.end rfl (by kernel_rfl) (noPan ?_)
            exact WP.ret (Ends.newE [0] (⟨N, b, w, p, rfl, hdr, hp.mono (Nat.le_trans (bN_le v2) (by decide)), rfl⟩) (.inl rfl) (by rfl) (by exact byObl) (leC leZ) rfl rfl (ren_t2 ⟨rfl, sc_ds _ _ _ _⟩ ⟨rfl, sc_pl _ _⟩) (sc_t2 (sc_ds _ _ _ _) (sc_pl _ _)))
          · refine wDp (fun a' h' => [.ro len 1 (byF g), .var dz, .var ti25.z, .var (srcD len g a' h'), .var (ds_ N b w)]) hdp ?_
            intro p a6 h6 hp _
            refine w1 0 ?_
            refine wq ?_
            refine w1 7 ?_
            refine wt ?_
            refine w1 8 ?_
            refine wt ?_
            refine WA.end rfl (by kernel_rfl) (noPan ?_)
            exact WP.ret (Ends.newE [0] (⟨N, b, w, p, rfl, hdr, hp.mono (Nat.le_trans (bN_le v2) (by decide)), rfl⟩) (.inl rfl) (by rfl) (by exact byObl) (leC leZ) rfl rfl (ren_t2 ⟨rfl, sc_ds _ _ _ _⟩ ⟨rfl, sc_pl _ _⟩) (sc_t2 (sc_ds _ _ _ _) (sc_pl _ _)))
theorem drawP (len : Nat) (g : Nat → Nat) (hg : ∀ j, g j < 256) (hl : len ≤ 4294967296) :
    FnS Try.prog 13 [.sl 0 0 len 1] [.ro len 1 (byF g)] fun r m' => ∃ (n : Int) (b w : Nat → Nat) (n' : Int) (b' w' : Nat → Nat) (x y : Int), r = t4 (ds_ n b w) (ds_ n' b' w') (.i .i64 x) (.i .i64 y) ∧ DrB n b w ∧ DrB n' b' w' ∧ m' = [.ro len 1 (byF g)] := by
  have hSc : ∀ (k a : Nat) (h : Int), Sc k (srcD len g a h) := fun k a h => sc_src k len g a h
  have sc_ch := hSc
  have hfr := l01From_fn len g hg hl
  have htw := l02Two_fn len g hg hl
  refine FnS.intoE T tok Try.func13 (by rfl) rfl rfl rfl (by simp) ?_
  refine rS ?_
  refine WP.rw ?_
  refine rU 1 ?_
  refine WPL.callE [0] (hfr) (leC leZ) (by rfl) (by rfl) (by exact byArgs) (by rfl) (by rfl) (by simp [Sc, sc_pl, sc_ds]) ?_
  rintro _ _ ⟨rfl, h1, rfl⟩
  refine ⟨⟨fun d hd => by cases hd; exact fun _ _ => trivial, fun d hd => by cases hd; exact sc_src _ _ _ _ _, trivial⟩, .p 3 [] 0, rfl, sc_p rfl, ?_⟩
  refine WPL.mem (by rfl) ?_
  refine rF ?_
  refine WP.rw ?_
  refine rU 1 ?_
  refine WPL.callE [0] (htw) (leC leZ) (by rfl) (by rfl) (by exact byArgs) (by rfl) (by rfl) (by simp [Sc, sc_pl, sc_ds]) ?_
  rintro _ _ ⟨n, b, w, n', b', w', rfl, hdr, hdr', rfl⟩
  obtain ⟨hn1, hn2, _, _⟩ := hdr
  obtain ⟨hn1', hn2', _, _⟩ := hdr'
  refine ⟨⟨fun d hd => by cases hd; exact fun _ _ => trivial, trivial⟩, t2 (ds_ n b w) (ds_ n' b' w'), ren_t2 ⟨rfl, sc_ds _ _ _ _⟩ ⟨rfl, sc_ds _ _ _ _⟩, sc_t2 (sc_ds _ _ _ _) (sc_ds _ _ _ _), ?_⟩
  refine WPL.mem (by rfl) ?_
  refine rF ?_
  refine WP.ghost (gC [0, 1, 2, 3, 4, 5] (leC (leC (leC (leC (leC (leC leZ)))))) (l := [(2, .p 1 [] 0), (3, .p 2 [] 0), (6, .p 3 [] 0), (7, .p 4 [] 0), (8, .p 5 [] 0)]) (m' := [.ro len 1 (byF g), .var (ds_ 0 (fun _ => 0) (fun _ => 0)), .var (ds_ 0 (fun _ => 0) (fun _ => 0)), .var (srcD len g 0 h1), .var (ds_ n b w), .var (ds_ n' b' w')])) ?_
  have hdr : DrB n b w := ⟨hn1, hn2, by assumption, by assumption⟩
  have hdr' : DrB n' b' w' := ⟨hn1', hn2', by assumption, by assumption⟩
  refine WP.seq ?_
  refine WP.da (by kernel_rfl) 5 (by kernel_rfl) ?_
  refine WA.lets (f0 := 0) (l0 := #[true, true, true, true, true, true, true, true, true, true, true, true, true, true, true, true, true, true]) (fun z : Nat × Int × Int × Int × Int => ⟨lst [(2, .p 1 [] 0), (3, .p 2 [] 0), (7, .p 4 [] 0), (8, .p 5 [] 0), (4, .i .i64 z.2.2.1), (5, .i .i64 z.2.2.2.2)], [.ro len 1 (byF g), .var (ds_ n b w), .var (ds_ n' b' w'), .var (srcD len g z.1 z.2.1), .var (ds_ n b w), .var (ds_ n' b' w')]⟩) (fun z => z.1 ≤ len ∧ 0 ≤ z.2.2.2.1 ∧ z.2.2.2.1 < 24) ?_ (fun hS0 => ?_)
  · rintro ⟨a1, h1, y1, y2, y3⟩ ⟨ha1, hy, hy9⟩
    dsimp only at ha1 hy hy9
    dsimp only
    have hq := q23 hy hy9
    refine WA.end rfl (by kernel_rfl) (noPan ?_)
    exact WP.ret (Ends.newE [0] (⟨n, b, w, n', b', w', y1, y3, rfl, hdr, hdr', rfl⟩) (.inl rfl) (by rfl) (by exact byObl) (leC leZ) rfl rfl (ren_t4 ⟨rfl, sc_ds _ _ _ _⟩ ⟨rfl, sc_ds _ _ _ _⟩ ⟨rfl, trivial⟩ ⟨rfl, trivial⟩) (sc_t4 (sc_ds _ _ _ _) (sc_ds _ _ _ _) trivial trivial))
  refine WA.lets (f0 := 1) (l0 := #[true, true, true, true, true, true, true, true, true, true, true, true, true, true, true, true, true, false]) (fun z : Nat × Int × Int × Int × Int => ⟨lst [(2, .p 1 [] 0), (3, .p 2 [] 0), (7, .p 4 [] 0), (8, .p 5 [] 0), (29, .i .i64 z.2.2.2.2), (4, .i .i64 z.2.2.1)], [.ro len 1 (byF g), .var (ds_ n b w), .var (ds_ n' b' w'), .var (srcD len g z.1 z.2.1), .var (ds_ n b w), .var (ds_ n' b' w')]⟩) (fun z => z.1 ≤ len ∧ 0 ≤ z.2.2.2.1 ∧ z.2.2.2.1 < 24) ?_ (fun hS1 => ?_)
  · rintro ⟨a1, h1, y1, y2, y3⟩ ⟨ha1, hy, hy9⟩
    dsimp only at ha1 hy hy9
    dsimp only
    have hq := q23 hy hy9
    refine w1 17 ?_
    refine wt ?_
    refine wC [0, 1, 2, 3, 4, 5] [(2, .p 1 [] 0), (3, .p 2 [] 0), (7, .p 4 [] 0), (8, .p 5 [] 0), (4, .i .i64 y1), (5, .i .i64 y3)] [.ro len 1 (byF g), .var (ds_ n b w), .var (ds_ n' b' w'), .var (srcD len g a1 h1), .var (ds_ n b w), .var (ds_ n' b' w')] (leC (leC (leC (leC (leC (leC leZ)))))) ?_
    exact hS0 (a1, h1, y1, y2, y3) ⟨ha1, hy, hy9⟩
  refine WA.lets (f0 := 2) (l0 := #[true, true, true, true, true, true, true, true, true, true, true, true, true, true, true, true, false, false]) (fun z : Nat × Int × Int × Int × Int => ⟨lst [(2, .p 1 [] 0), (3, .p 2 [] 0), (7, .p 4 [] 0), (8, .p 5 [] 0), (21, .i .i64 z.2.2.1), (29, .i .i64 z.2.2.2.2)], [.ro len 1 (byF g), .var (ds_ n b w), .var (ds_ n' b' w'), .var (srcD len g z.1 z.2.1), .var (ds_ n b w), .var (ds_ n' b' w')]⟩) (fun z => z.1 ≤ len ∧ 0 ≤ z.2.2.2.1 ∧ z.2.2.2.1 < 24) ?_ (fun hS2 => ?_)
  · rintro ⟨a1, h1, y1, y2, y3⟩ ⟨ha1, hy, hy9⟩
    dsimp only at ha1 hy hy9
    dsimp only
    have hq := q23 hy hy9
    refine w1 16 ?_
    refine wt ?_
    refine wC [0, 1, 2, 3, 4, 5] [(2, .p 1 [] 0), (3, .p 2 [] 0), (7, .p 4 [] 0), (8, .p 5 [] 0), (29, .i .i64 y3), (4, .i .i64 y1)] [.ro len 1 (byF g), .var (ds_ n b w), .var (ds_ n' b' w'), .var (srcD len g a1 h1), .var (ds_ n b w), .var (ds_ n' b' w')] (leC (leC (leC (leC (leC (leC leZ)))))) ?_
    exact hS1 (a1, h1, y1, y2, y3) ⟨ha1, hy, hy9⟩
  refine WA.lets (f0 := 3) (l0 := #[true, true, true, true, true, true, true, true, true, true, true, true, true, true, true, false, false, false]) (fun z : Nat × Int × Int × Int × Int => ⟨lst [(2, .p 1 [] 0), (3, .p 2 [] 0), (7, .p 4 [] 0), (8, .p 5 [] 0), (17, ds_ n' b' w'), (21, .i .i64 z.2.2.1), (29, .i .i64 z.2.2.2.2)], [.ro len 1 (byF g), .var (ds_ n b w), .var dz, .var (srcD len g z.1 z.2.1), .var (ds_ n b w), .var (ds_ n' b' w')]⟩) (fun z => z.1 ≤ len ∧ 0 ≤ z.2.2.2.1 ∧ z.2.2.2.1 < 24) ?_ (fun hS3 => ?_)
  · rintro ⟨a1, h1, y1, y2, y3⟩ ⟨ha1, hy, hy9⟩
    dsimp only at ha1 hy hy9
    dsimp only
    have hq := q23 hy hy9
    refine w1 15 ?_
    refine wt ?_
    refine wC [0, 1, 2, 3, 4, 5] [(2, .p 1 [] 0), (3, .p 2 [] 0), (7, .p 4 [] 0), (8, .p 5 [] 0), (21, .i .i64 y1), (29, .i .i64 y3)] [.ro len 1 (byF g), .var (ds_ n b w), .var (ds_ n' b' w'), .var (srcD len g a1 h1), .var (ds_ n b w), .var (ds_ n' b' w')] (leC (leC (leC (leC (leC (leC leZ)))))) ?_
    exact hS2 (a1, h1, y1, y2, y3) ⟨ha1, hy, hy9⟩
  refine WA.lets (f0 := 4) (l0 := #[true, true, true, true, true, true, true, true, true, true, true, true, true, true, false, false, false, false]) (fun z : Nat × Int × Int × Int × Int => ⟨lst [(2, .p 1 [] 0), (3, .p 2 [] 0), (7, .p 4 [] 0), (8, .p 5 [] 0), (16, ds_ n b w), (17, ds_ n' b' w'), (21, .i .i64 z.2.2.1), (29, .i .i64 z.2.2.2.2)], [.ro len 1 (byF g), .var dz, .var dz, .var (srcD len g z.1 z.2.1), .var (ds_ n b w), .var (ds_ n' b' w')]⟩) (fun z => z.1 ≤ len ∧ 0 ≤ z.2.2.2.1 ∧ z.2.2.2.1 < 24) ?_ (fun hS4 => ?_)
  · rintro ⟨a1, h1, y1, y2, y3⟩ ⟨ha1, hy, hy9⟩
    dsimp only at ha1 hy hy9
    dsimp only
    have hq := q23 hy hy9
    refine w1 14 ?_
    refine wt ?_
    refine wC [0, 1, 2, 3, 4, 5] [(2, .p 1 [] 0), (3, .p 2 [] 0), (7, .p 4 [] 0), (8, .p 5 [] 0), (17, ds_ n' b' w'), (21, .i .i64 y1), (29, .i .i64 y3)] [.ro len 1 (byF g), .var (ds_ n b w), .var dz, .var (srcD len g a1 h1), .var (ds_ n b w), .var (ds_ n' b' w')] (leC (leC (leC (leC (leC (leC leZ)))))) ?_
    exact hS3 (a1, h1, y1, y2, y3) ⟨ha1, hy, hy9⟩
  refine WA.lets (f0 := 5) (l0 := #[true, true, true, true, true, true, true, true, true, true, true, true, true, false, false, false, false, false]) (fun z : Nat × Int × Int × Int × Int => ⟨lst [(2, .p 1 [] 0), (3, .p 2 [] 0), (7, .p 4 [] 0), (8, .p 5 [] 0), (16, ds_ n b w), (17, ds_ n' b' w'), (21, .i .i64 z.2.2.1), (22, .p 3 [] 0), (28, .i .i64 (n' + z.2.2.2.1.tdiv 23))], [.ro len 1 (byF g), .var dz, .var dz, .var (srcD len g z.1 z.2.1), .var (ds_ n b w), .var (ds_ n' b' w')]⟩) (fun z => z.1 ≤ len ∧ 0 ≤ z.2.2.2.1 ∧ z.2.2.2.1 < 24) ?_ (fun hS5 => ?_)
  · rintro ⟨a1, h1, y1, y2, y3⟩ ⟨ha1, hy, hy9⟩
    dsimp only at ha1 hy hy9
    dsimp only
    have hq := q23 hy hy9
    refine w1 13 ?_
    have hnx := l01Next_fn len g hg a1 h1 (n' + y2.tdiv 23) ha1 hl
    refine wNx (fun a' h' => [.ro len 1 (byF g), .var dz, .var dz, .var (srcD len g a' h'), .var (ds_ n b w), .var (ds_ n' b' w')]) hnx ?_
    intro y a4 h4 _ ha4
    refine wC [0, 1, 2, 3, 4, 5] [(2, .p 1 [] 0), (3, .p 2 [] 0), (7, .p 4 [] 0), (8, .p 5 [] 0), (16, ds_ n b w), (17, ds_ n' b' w'), (21, .i .i64 y1), (29, .i .i64 y)] [.ro len 1 (byF g), .var dz, .var dz, .var (srcD len g a4 h4), .var (ds_ n b w), .var (ds_ n' b' w')] (leC (leC (leC (leC (leC (leC leZ)))))) ?_
    exact hS4 (a4, h4, y1, y2, y) ⟨ha4, hy, hy9⟩
  refine WA.lets (f0 := 8) (l0 := #[true, true, true, true, true, true, true, true, true, true, false, false, false, false, false, false, false, false]) (fun z : Nat × Int × Int × Int × Int => ⟨lst [(2, .p 1 [] 0), (3, .p 2 [] 0), (7, .p 4 [] 0), (8, .p 5 [] 0), (16, ds_ n b w), (17, ds_ n' b' w'), (21, .i .i64 z.2.2.1), (22, .p 3 [] 0), (24, .i .i64 n'), (25, .p 3 [] 0)], [.ro len 1 (byF g), .var dz, .var dz, .var (srcD len g z.1 z.2.1), .var (ds_ n b w), .var (ds_ n' b' w')]⟩) (fun z => z.1 ≤ len ∧ 0 ≤ z.2.2.2.1 ∧ z.2.2.2.1 < 24) ?_ (fun hS6 => ?_)
  · rintro ⟨a1, h1, y1, y2, y3⟩ ⟨ha1, hy, hy9⟩
    dsimp only at ha1 hy hy9
    dsimp only
    have hq := q23 hy hy9
    refine w1 10 ?_
    have hnx := l01Next_fn len g hg a1 h1 24 ha1 hl
    refine wNx (fun a' h' => [.ro len 1 (byF g), .var dz, .var dz, .var (srcD len g a' h'), .var (ds_ n b w), .var (ds_ n' b' w')]) hnx ?_
    intro y a4 h4 hz ha4
    obtain ⟨z0, z1⟩ := hz (by decide)
    have hq9 := q23 z0 z1
    refine WA.takesD T false tok [11, 12] (f' := 5) (by kernel_rfl) (by rfl) (by rfl) (by exact byObl) (by rfl) (by rfl) ?_
    refine wC [0, 1, 2, 3, 4, 5] [(2, .p 1 [] 0), (3, .p 2 [] 0), (7, .p 4 [] 0), (8, .p 5 [] 0), (16, ds_ n b w), (17, ds_ n' b' w'), (21, .i .i64 y1), (22, .p 3 [] 0), (28, .i .i64 (n' + y.tdiv 23))] [.ro len 1 (byF g), .var dz, .var dz, .var (srcD len g a4 h4), .var (ds_ n b w), .var (ds_ n' b' w')] (leC (leC (leC (leC (leC (leC leZ)))))) ?_
    exact hS5 (a4, h4, y1, y, y3) ⟨ha4, z0, z1⟩
  refine WA.lets (f0 := 7) (l0 := #[true, true, true, true, true, true, true, true, false, true, true, true, false, false, false, false, false, false]) (fun z : Nat × Int × Int × Int × Int => ⟨lst [(2, .p 1 [] 0), (3, .p 2 [] 0), (7, .p 4 [] 0), (8, .p 5 [] 0), (16, ds_ n b w), (17, ds_ n' b' w'), (21, .i .i64 z.2.2.1), (22, .p 3 [] 0), (23, .p 5 [0] 0), (27, .i .i64 (z.2.2.2.1.tdiv 23))], [.ro len 1 (byF g), .var dz, .var dz, .var (srcD len g z.1 z.2.1), .var (ds_ n b w), .var (ds_ n' b' w')]⟩) (fun z => z.1 ≤ len ∧ 0 ≤ z.2.2.2.1 ∧ z.2.2.2.1 < 24) ?_ (fun hS7 => ?_)
  · rintro ⟨a1, h1, y1, y2, y3⟩ ⟨ha1, hy, hy9⟩
    dsimp only at ha1 hy hy9
    dsimp only
    have hq := q23 hy hy9
    refine w1 8 ?_
    refine wq ?_
    refine WA.takesD T false tok [12] (f' := 5) (by kernel_rfl) (by rfl) (by rfl) (by exact byObl) (by rfl) (by rfl) ?_
    refine wC [0, 1, 2, 3, 4, 5] [(2, .p 1 [] 0), (3, .p 2 [] 0), (7, .p 4 [] 0), (8, .p 5 [] 0), (16, ds_ n b w), (17, ds_ n' b' w'), (21, .i .i64 y1), (22, .p 3 [] 0), (28, .i .i64 (n' + y2.tdiv 23))] [.ro len 1 (byF g), .var dz, .var dz, .var (srcD len g a1 h1), .var (ds_ n b w), .var (ds_ n' b' w')] (leC (leC (leC (leC (leC (leC leZ)))))) ?_
    exact hS5 (a1, h1, y1, y2, y3) ⟨ha1, hy, hy9⟩
  refine WA.lets (f0 := 9) (l0 := #[true, true, true, true, true, true, true, true, false, true, false, false, false, false, false, false, false, false]) (fun z : Nat × Int × Int × Int × Int => ⟨lst [(2, .p 1 [] 0), (3, .p 2 [] 0), (7, .p 4 [] 0), (8, .p 5 [] 0), (16, ds_ n b w), (17, ds_ n' b' w'), (21, .i .i64 z.2.2.1), (22, .p 3 [] 0), (23, .p 5 [0] 0), (25, .p 3 [] 0)], [.ro len 1 (byF g), .var dz, .var dz, .var (srcD len g z.1 z.2.1), .var (ds_ n b w), .var (ds_ n' b' w')]⟩) (fun z => z.1 ≤ len ∧ 0 ≤ z.2.2.2.1 ∧ z.2.2.2.1 < 24) ?_ (fun hS8 => ?_)
  · rintro ⟨a1, h1, y1, y2, y3⟩ ⟨ha1, hy, hy9⟩
    dsimp only at ha1 hy hy9
    dsimp only
    have hq := q23 hy hy9
    refine w2 8 10 ?_ ?_
    · refine wq ?_
      refine wC [0, 1, 2, 3, 4, 5] [(2, .p 1 [] 0), (3, .p 2 [] 0), (7, .p 4 [] 0), (8, .p 5 [] 0), (16, ds_ n b w), (17, ds_ n' b' w'), (21, .i .i64 y1), (22, .p 3 [] 0), (24, .i .i64 n'), (25, .p 3 [] 0)] [.ro len 1 (byF g), .var dz, .var dz, .var (srcD len g a1 h1), .var (ds_ n b w), .var (ds_ n' b' w')] (leC (leC (leC (leC (leC (leC leZ)))))) ?_
      exact hS6 (a1, h1, y1, y2, y3) ⟨ha1, hy, hy9⟩
    · have hnx := l01Next_fn len g hg a1 h1 24 ha1 hl
      refine wNx (fun a' h' => [.ro len 1 (byF g), .var dz, .var dz, .var (srcD len g a' h'), .var (ds_ n b w), .var (ds_ n' b' w')]) hnx ?_
      intro y a4 h4 hz ha4
      obtain ⟨z0, z1⟩ := hz (by decide)
      have hq9 := q23 z0 z1
      refine WA.takesD T false tok [11] (f' := 7) (by kernel_rfl) (by rfl) (by rfl) (by exact byObl) (by rfl) (by rfl) ?_
      refine wC [0, 1, 2, 3, 4, 5] [(2, .p 1 [] 0), (3, .p 2 [] 0), (7, .p 4 [] 0), (8, .p 5 [] 0), (16, ds_ n b w), (17, ds_ n' b' w'), (21, .i .i64 y1), (22, .p 3 [] 0), (23, .p 5 [0] 0), (27, .i .i64 (y.tdiv 23))] [.ro len 1 (byF g), .var dz, .var dz, .var (srcD len g a4 h4), .var (ds_ n b w), .var (ds_ n' b' w')] (leC (leC (leC (leC (leC (leC leZ)))))) ?_
      exact hS7 (a4, h4, y1, y, y3) ⟨ha4, z0, z1⟩
  refine WA.lets (f0 := 9) (l0 := #[true, true, true, true, true, false, true, true, true, true, false, false, false, false, false, false, false, false]) (fun z : Nat × Int × Int × Int × Int => ⟨lst [(2, .p 1 [] 0), (3, .p 2 [] 0), (7, .p 4 [] 0), (8, .p 5 [] 0), (16, ds_ n b w), (17, ds_ n' b' w'), (18, .p 3 [] 0), (20, .i .i64 n), (22, .p 3 [] 0), (24, .i .i64 n'), (25, .p 3 [] 0)], [.ro len 1 (byF g), .var dz, .var dz, .var (srcD len g z.1 z.2.1), .var (ds_ n b w), .var (ds_ n' b' w')]⟩) (fun z => z.1 ≤ len ∧ 0 ≤ z.2.2.2.1 ∧ z.2.2.2.1 < 24) ?_ (fun hS9 => ?_)
  · rintro ⟨a1, h1, y1, y2, y3⟩ ⟨ha1, hy, hy9⟩
    dsimp only at ha1 hy hy9
    dsimp only
    have hq := q23 hy hy9
    refine w1 5 ?_
    have hnx := l01Next_fn len g hg a1 h1 n ha1 hl
    refine wNx (fun a' h' => [.ro len 1 (byF g), .var dz, .var dz, .var (srcD len g a' h'), .var (ds_ n b w), .var (ds_ n' b' w')]) hnx ?_
    intro y a4 h4 _ ha4
    refine wC [0, 1, 2, 3, 4, 5] [(2, .p 1 [] 0), (3, .p 2 [] 0), (7, .p 4 [] 0), (8, .p 5 [] 0), (16, ds_ n b w), (17, ds_ n' b' w'), (21, .i .i64 y), (22, .p 3 [] 0), (24, .i .i64 n'), (25, .p 3 [] 0)] [.ro len 1 (byF g), .var dz, .var dz, .var (srcD len g a4 h4), .var (ds_ n b w), .var (ds_ n' b' w')] (leC (leC (leC (leC (leC (leC leZ)))))) ?_
    exact hS6 (a4, h4, y, y2, y3) ⟨ha4, hy, hy9⟩
  refine WA.lets (f0 := 10) (l0 := #[true, true, true, true, true, false, true, true, false, true, false, false, false, false, false, false, false, false]) (fun z : Nat × Int × Int × Int × Int => ⟨lst [(2, .p 1 [] 0), (3, .p 2 [] 0), (7, .p 4 [] 0), (8, .p 5 [] 0), (16, ds_ n b w), (17, ds_ n' b' w'), (18, .p 3 [] 0), (20, .i .i64 n), (22, .p 3 [] 0), (23, .p 5 [0] 0), (25, .p 3 [] 0)], [.ro len 1 (byF g), .var dz, .var dz, .var (srcD len g z.1 z.2.1), .var (ds_ n b w), .var (ds_ n' b' w')]⟩) (fun z => z.1 ≤ len ∧ 0 ≤ z.2.2.2.1 ∧ z.2.2.2.1 < 24) ?_ (fun hS10 => ?_)
  · rintro ⟨a1, h1, y1, y2, y3⟩ ⟨ha1, hy, hy9⟩
    dsimp only at ha1 hy hy9
    dsimp only
    have hq := q23 hy hy9
    refine w2 5 8 ?_ ?_
    · have hnx := l01Next_fn len g hg a1 h1 n ha1 hl
      refine wNx (fun a' h' => [.ro len 1 (byF g), .var dz, .var dz, .var (srcD len g a' h'), .var (ds_ n b w), .var (ds_ n' b' w')]) hnx ?_
      intro y a4 h4 _ ha4
      refine wC [0, 1, 2, 3, 4, 5] [(2, .p 1 [] 0), (3, .p 2 [] 0), (7, .p 4 [] 0), (8, .p 5 [] 0), (16, ds_ n b w), (17, ds_ n' b' w'), (21, .i .i64 y), (22, .p 3 [] 0), (23, .p 5 [0] 0), (25, .p 3 [] 0)] [.ro len 1 (byF g), .var dz, .var dz, .var (srcD len g a4 h4), .var (ds_ n b w), .var (ds_ n' b' w')] (leC (leC (leC (leC (leC (leC leZ)))))) ?_
      exact hS8 (a4, h4, y, y2, y3) ⟨ha4, hy, hy9⟩
    · refine wq ?_
      refine wC [0, 1, 2, 3, 4, 5] [(2, .p 1 [] 0), (3, .p 2 [] 0), (7, .p 4 [] 0), (8, .p 5 [] 0), (16, ds_ n b w), (17, ds_ n' b' w'), (18, .p 3 [] 0), (20, .i .i64 n), (22, .p 3 [] 0), (24, .i .i64 n'), (25, .p 3 [] 0)] [.ro len 1 (byF g), .var dz, .var dz, .var (srcD len g a1 h1), .var (ds_ n b w), .var (ds_ n' b' w')] (leC (leC (leC (leC (leC (leC leZ)))))) ?_
      exact hS9 (a1, h1, y1, y2, y3) ⟨ha1, hy, hy9⟩
  refine WA.lets (f0 := 10) (l0 := #[true, true, true, true, false, false, true, true, true, true, false, false, false, false, false, false, false, false]) (fun z : Nat × Int × Int × Int × Int => ⟨lst [(2, .p 1 [] 0), (3, .p 2 [] 0), (7, .p 4 [] 0), (8, .p 5 [] 0), (16, ds_ n b w), (17, ds_ n' b' w'), (18, .p 3 [] 0), (19, .p 4 [0] 0), (22, .p 3 [] 0), (24, .i .i64 n'), (25, .p 3 [] 0)], [.ro len 1 (byF g), .var dz, .var dz, .var (srcD len g z.1 z.2.1), .var (ds_ n b w), .var (ds_ n' b' w')]⟩) (fun z => z.1 ≤ len ∧ 0 ≤ z.2.2.2.1 ∧ z.2.2.2.1 < 24) ?_ (fun hS11 => ?_)
  · rintro ⟨a1, h1, y1, y2, y3⟩ ⟨ha1, hy, hy9⟩
    dsimp only at ha1 hy hy9
    dsimp only
    have hq := q23 hy hy9
    refine w1 4 ?_
    refine wq ?_
    refine wC [0, 1, 2, 3, 4, 5] [(2, .p 1 [] 0), (3, .p 2 [] 0), (7, .p 4 [] 0), (8, .p 5 [] 0), (16, ds_ n b w), (17, ds_ n' b' w'), (18, .p 3 [] 0), (20, .i .i64 n), (22, .p 3 [] 0), (24, .i .i64 n'), (25, .p 3 [] 0)] [.ro len 1 (byF g), .var dz, .var dz, .var (srcD len g a1 h1), .var (ds_ n b w), .var (ds_ n' b' w')] (leC (leC (leC (leC (leC (leC leZ)))))) ?_
    exact hS9 (a1, h1, y1, y2, y3) ⟨ha1, hy, hy9⟩
  refine WA.lets (f0 := 11) (l0 := #[true, true, true, true, false, false, true, true, false, true, false, false, false, false, false, false, false, false]) (fun z : Nat × Int × Int × Int × Int => ⟨lst [(2, .p 1 [] 0), (3, .p 2 [] 0), (7, .p 4 [] 0), (8, .p 5 [] 0), (16, ds_ n b w), (17, ds_ n' b' w'), (18, .p 3 [] 0), (19, .p 4 [0] 0), (22, .p 3 [] 0), (23, .p 5 [0] 0), (25, .p 3 [] 0)], [.ro len 1 (byF g), .var dz, .var dz, .var (srcD len g z.1 z.2.1), .var (ds_ n b w), .var (ds_ n' b' w')]⟩) (fun z => z.1 ≤ len ∧ 0 ≤ z.2.2.2.1 ∧ z.2.2.2.1 < 24) ?_ (fun hS12 => ?_)
  · rintro ⟨a1, h1, y1, y2, y3⟩ ⟨ha1, hy, hy9⟩
    dsimp only at ha1 hy hy9
    dsimp only
    have hq := q23 hy hy9
    refine w2 4 8 ?_ ?_
    · refine wq ?_
      refine wC [0, 1, 2, 3, 4, 5] [(2, .p 1 [] 0), (3, .p 2 [] 0), (7, .p 4 [] 0), (8, .p 5 [] 0), (16, ds_ n b w), (17, ds_ n' b' w'), (18, .p 3 [] 0), (20, .i .i64 n), (22, .p 3 [] 0), (23, .p 5 [0] 0), (25, .p 3 [] 0)] [.ro len 1 (byF g), .var dz, .var dz, .var (srcD len g a1 h1), .var (ds_ n b w), .var (ds_ n' b' w')] (leC (leC (leC (leC (leC (leC leZ)))))) ?_
      exact hS10 (a1, h1, y1, y2, y3) ⟨ha1, hy, hy9⟩
    · refine wq ?_
      refine wC [0, 1, 2, 3, 4, 5] [(2, .p 1 [] 0), (3, .p 2 [] 0), (7, .p 4 [] 0), (8, .p 5 [] 0), (16, ds_ n b w), (17, ds_ n' b' w'), (18, .p 3 [] 0), (19, .p 4 [0] 0), (22, .p 3 [] 0), (24, .i .i64 n'), (25, .p 3 [] 0)] [.ro len 1 (byF g), .var dz, .var dz, .var (srcD len g a1 h1), .var (ds_ n b w), .var (ds_ n' b' w')] (leC (leC (leC (leC (leC (leC leZ)))))) ?_
      exact hS11 (a1, h1, y1, y2, y3) ⟨ha1, hy, hy9⟩
  refine WA.lets (f0 := 4) (l0 := #[true, false, true, true, true, true, true, true, true, true, true, true, true, true, true, false, false, false]) (fun z : Nat × Int × Int × Int × Int => ⟨lst [(2, .p 1 [] 0), (3, .p 2 [] 0), (7, .p 4 [] 0), (8, .p 5 [] 0), (21, .i .i64 z.2.2.1), (29, .i .i64 z.2.2.2.2)], [.ro len 1 (byF g), .var (ds_ n b w), .var dz, .var (srcD len g z.1 z.2.1), .var (ds_ n b w), .var (ds_ n' b' w')]⟩) (fun z => z.1 ≤ len ∧ 0 ≤ z.2.2.2.1 ∧ z.2.2.2.1 < 24) ?_ (fun hS13 => ?_)
  · rintro ⟨a1, h1, y1, y2, y3⟩ ⟨ha1, hy, hy9⟩
    dsimp only at ha1 hy hy9
    dsimp only
    have hq := q23 hy hy9
    refine w1 1 ?_
    refine wq ?_
    refine wC [0, 1, 2, 3, 4, 5] [(2, .p 1 [] 0), (3, .p 2 [] 0), (7, .p 4 [] 0), (8, .p 5 [] 0), (17, ds_ n' b' w'), (21, .i .i64 y1), (29, .i .i64 y3)] [.ro len 1 (byF g), .var (ds_ n b w), .var dz, .var (srcD len g a1 h1), .var (ds_ n b w), .var (ds_ n' b' w')] (leC (leC (leC (leC (leC (leC leZ)))))) ?_
    exact hS3 (a1, h1, y1, y2, y3) ⟨ha1, hy, hy9⟩
  refine WA.lets (f0 := 5) (l0 := #[true, false, true, true, true, true, true, true, true, true, true, true, true, true, false, false, false, false]) (fun z : Nat × Int × Int × Int × Int => ⟨lst [(2, .p 1 [] 0), (3, .p 2 [] 0), (7, .p 4 [] 0), (8, .p 5 [] 0), (16, ds_ n b w), (21, .i .i64 z.2.2.1), (29, .i .i64 z.2.2.2.2)], [.ro len 1 (byF g), .var dz, .var dz, .var (srcD len g z.1 z.2.1), .var (ds_ n b w), .var (ds_ n' b' w')]⟩) (fun z => z.1 ≤ len ∧ 0 ≤ z.2.2.2.1 ∧ z.2.2.2.1 < 24) ?_ (fun hS14 => ?_)
  · rintro ⟨a1, h1, y1, y2, y3⟩ ⟨ha1, hy, hy9⟩
    dsimp only at ha1 hy hy9
    dsimp only
    have hq := q23 hy hy9
    refine w2 1 14 ?_ ?_
    · refine wq ?_
      refine wC [0, 1, 2, 3, 4, 5] [(2, .p 1 [] 0), (3, .p 2 [] 0), (7, .p 4 [] 0), (8, .p 5 [] 0), (16, ds_ n b w), (17, ds_ n' b' w'), (21, .i .i64 y1), (29, .i .i64 y3)] [.ro len 1 (byF g), .var dz, .var dz, .var (srcD len g a1 h1), .var (ds_ n b w), .var (ds_ n' b' w')] (leC (leC (leC (leC (leC (leC leZ)))))) ?_
      exact hS4 (a1, h1, y1, y2, y3) ⟨ha1, hy, hy9⟩
    · refine wt ?_
      refine wC [0, 1, 2, 3, 4, 5] [(2, .p 1 [] 0), (3, .p 2 [] 0), (7, .p 4 [] 0), (8, .p 5 [] 0), (21, .i .i64 y1), (29, .i .i64 y3)] [.ro len 1 (byF g), .var (ds_ n b w), .var dz, .var (srcD len g a1 h1), .var (ds_ n b w), .var (ds_ n' b' w')] (leC (leC (leC (leC (leC (leC leZ)))))) ?_
      exact hS13 (a1, h1, y1, y2, y3) ⟨ha1, hy, hy9⟩
  refine WA.lets (f0 := 6) (l0 := #[true, false, true, true, true, true, true, true, true, true, true, true, true, false, false, false, false, false]) (fun z : Nat × Int × Int × Int × Int => ⟨lst [(2, .p 1 [] 0), (3, .p 2 [] 0), (7, .p 4 [] 0), (8, .p 5 [] 0), (16, ds_ n b w), (21, .i .i64 z.2.2.1), (22, .p 3 [] 0), (28, .i .i64 (n' + z.2.2.2.1.tdiv 23))], [.ro len 1 (byF g), .var dz, .var dz, .var (srcD len g z.1 z.2.1), .var (ds_ n b w), .var (ds_ n' b' w')]⟩) (fun z => z.1 ≤ len ∧ 0 ≤ z.2.2.2.1 ∧ z.2.2.2.1 < 24) ?_ (fun hS15 => ?_)
  · rintro ⟨a1, h1, y1, y2, y3⟩ ⟨ha1, hy, hy9⟩
    dsimp only at ha1 hy hy9
    dsimp only
    have hq := q23 hy hy9
    refine w2 1 13 ?_ ?_
    · refine wq ?_
      refine wC [0, 1, 2, 3, 4, 5] [(2, .p 1 [] 0), (3, .p 2 [] 0), (7, .p 4 [] 0), (8, .p 5 [] 0), (16, ds_ n b w), (17, ds_ n' b' w'), (21, .i .i64 y1), (22, .p 3 [] 0), (28, .i .i64 (n' + y2.tdiv 23))] [.ro len 1 (byF g), .var dz, .var dz, .var (srcD len g a1 h1), .var (ds_ n b w), .var (ds_ n' b' w')] (leC (leC (leC (leC (leC (leC leZ)))))) ?_
      exact hS5 (a1, h1, y1, y2, y3) ⟨ha1, hy, hy9⟩
    · have hnx := l01Next_fn len g hg a1 h1 (n' + y2.tdiv 23) ha1 hl
      refine wNx (fun a' h' => [.ro len 1 (byF g), .var dz, .var dz, .var (srcD len g a' h'), .var (ds_ n b w), .var (ds_ n' b' w')]) hnx ?_
      intro y a4 h4 _ ha4
      refine wC [0, 1, 2, 3, 4, 5] [(2, .p 1 [] 0), (3, .p 2 [] 0), (7, .p 4 [] 0), (8, .p 5 [] 0), (16, ds_ n b w), (21, .i .i64 y1), (29, .i .i64 y)] [.ro len 1 (byF g), .var dz, .var dz, .var (srcD len g a4 h4), .var (ds_ n b w), .var (ds_ n' b' w')] (leC (leC (leC (leC (leC (leC leZ)))))) ?_
      exact hS14 (a4, h4, y1, y2, y) ⟨ha4, hy, hy9⟩
  refine WA.lets (f0 := 9) (l0 := #[true, false, true, true, true, true, true, true, true, true, false, false, false, false, false, false, false, false]) (fun z : Nat × Int × Int × Int × Int => ⟨lst [(2, .p 1 [] 0), (3, .p 2 [] 0), (7, .p 4 [] 0), (8, .p 5 [] 0), (16, ds_ n b w), (21, .i .i64 z.2.2.1), (22, .p 3 [] 0), (24, .i .i64 n'), (25, .p 3 [] 0)], [.ro len 1 (byF g), .var dz, .var dz, .var (srcD len g z.1 z.2.1), .var (ds_ n b w), .var (ds_ n' b' w')]⟩) (fun z => z.1 ≤ len ∧ 0 ≤ z.2.2.2.1 ∧ z.2.2.2.1 < 24) ?_ (fun hS16 => ?_)
  · rintro ⟨a1, h1, y1, y2, y3⟩ ⟨ha1, hy, hy9⟩
    dsimp only at ha1 hy hy9
    dsimp only
    have hq := q23 hy hy9
    refine w2 1 10 ?_ ?_
    · refine wq ?_
      refine wC [0, 1, 2, 3, 4, 5] [(2, .p 1 [] 0), (3, .p 2 [] 0), (7, .p 4 [] 0), (8, .p 5 [] 0), (16, ds_ n b w), (17, ds_ n' b' w'), (21, .i .i64 y1), (22, .p 3 [] 0), (24, .i .i64 n'), (25, .p 3 [] 0)] [.ro len 1 (byF g), .var dz, .var dz, .var (srcD len g a1 h1), .var (ds_ n b w), .var (ds_ n' b' w')] (leC (leC (leC (leC (leC (leC leZ)))))) ?_
      exact hS6 (a1, h1, y1, y2, y3) ⟨ha1, hy, hy9⟩
    · have hnx := l01Next_fn len g hg a1 h1 24 ha1 hl
      refine wNx (fun a' h' => [.ro len 1 (byF g), .var dz, .var dz, .var (srcD len g a' h'), .var (ds_ n b w), .var (ds_ n' b' w')]) hnx ?_
      intro y a4 h4 hz ha4
      obtain ⟨z0, z1⟩ := hz (by decide)
      have hq9 := q23 z0 z1
      refine WA.takesD T false tok [11, 12] (f' := 6) (by kernel_rfl) (by rfl) (by rfl) (by exact byObl) (by rfl) (by rfl) ?_
      refine wC [0, 1, 2, 3, 4, 5] [(2, .p 1 [] 0), (3, .p 2 [] 0), (7, .p 4 [] 0), (8, .p 5 [] 0), (16, ds_ n b w), (21, .i .i64 y1), (22, .p 3 [] 0), (28, .i .i64 (n' + y.tdiv 23))] [.ro len 1 (byF g), .var dz, .var dz, .var (srcD len g a4 h4), .var (ds_ n b w), .var (ds_ n' b' w')] (leC (leC (leC (leC (leC (leC leZ)))))) ?_
      exact hS15 (a4, h4, y1, y, y3) ⟨ha4, z0, z1⟩
  refine WA.lets (f0 := 8) (l0 := #[true, false, true, true, true, true, true, true, false, true, true, true, false, false, false, false, false, false]) (fun z : Nat × Int × Int × Int × Int => ⟨lst [(2, .p 1 [] 0), (3, .p 2 [] 0), (7, .p 4 [] 0), (8, .p 5 [] 0), (16, ds_ n b w), (21, .i .i64 z.2.2.1), (22, .p 3 [] 0), (23, .p 5 [0] 0), (27, .i .i64 (z.2.2.2.1.tdiv 23))], [.ro len 1 (byF g), .var dz, .var dz, .var (srcD len g z.1 z.2.1), .var (ds_ n b w), .var (ds_ n' b' w')]⟩) (fun z => z.1 ≤ len ∧ 0 ≤ z.2.2.2.1 ∧ z.2.2.2.1 < 24) ?_ (fun hS17 => ?_)
  · rintro ⟨a1, h1, y1, y2, y3⟩ ⟨ha1, hy, hy9⟩
    dsimp only at ha1 hy hy9
    dsimp only
    have hq := q23 hy hy9
    refine w2 1 8 ?_ ?_
    · refine wq ?_
      refine wC [0, 1, 2, 3, 4, 5] [(2, .p 1 [] 0), (3, .p 2 [] 0), (7, .p 4 [] 0), (8, .p 5 [] 0), (16, ds_ n b w), (17, ds_ n' b' w'), (21, .i .i64 y1), (22, .p 3 [] 0), (23, .p 5 [0] 0), (27, .i .i64 (y2.tdiv 23))] [.ro len 1 (byF g), .var dz, .var dz, .var (srcD len g a1 h1), .var (ds_ n b w), .var (ds_ n' b' w')] (leC (leC (leC (leC (leC (leC leZ)))))) ?_
      exact hS7 (a1, h1, y1, y2, y3) ⟨ha1, hy, hy9⟩
    · refine wq ?_
      refine WA.takesD T false tok [12] (f' := 6) (by kernel_rfl) (by rfl) (by rfl) (by exact byObl) (by rfl) (by rfl) ?_
      refine wC [0, 1, 2, 3, 4, 5] [(2, .p 1 [] 0), (3, .p 2 [] 0), (7, .p 4 [] 0), (8, .p 5 [] 0), (16, ds_ n b w), (21, .i .i64 y1), (22, .p 3 [] 0), (28, .i .i64 (n' + y2.tdiv 23))] [.ro len 1 (byF g), .var dz, .var dz, .var (srcD len g a1 h1), .var (ds_ n b w), .var (ds_ n' b' w')] (leC (leC (leC (leC (leC (leC leZ)))))) ?_
      exact hS15 (a1, h1, y1, y2, y3) ⟨ha1, hy, hy9⟩
  refine WA.lets (f0 := 10) (l0 := #[true, false, true, true, true, true, true, true, false, true, false, false, false, false, false, false, false, false]) (fun z : Nat × Int × Int × Int × Int => ⟨lst [(2, .p 1 [] 0), (3, .p 2 [] 0), (7, .p 4 [] 0), (8, .p 5 [] 0), (16, ds_ n b w), (21, .i .i64 z.2.2.1), (22, .p 3 [] 0), (23, .p 5 [0] 0), (25, .p 3 [] 0)], [.ro len 1 (byF g), .var dz, .var dz, .var (srcD len g z.1 z.2.1), .var (ds_ n b w), .var (ds_ n' b' w')]⟩) (fun z => z.1 ≤ len ∧ 0 ≤ z.2.2.2.1 ∧ z.2.2.2.1 < 24) ?_ (fun hS18 => ?_)
  · rintro ⟨a1, h1, y1, y2, y3⟩ ⟨ha1, hy, hy9⟩
    dsimp only at ha1 hy hy9
    dsimp only
    have hq := q23 hy hy9
    refine w3 1 8 10 ?_ ?_ ?_
    · refine wq ?_
      refine wC [0, 1, 2, 3, 4, 5] [(2, .p 1 [] 0), (3, .p 2 [] 0), (7, .p 4 [] 0), (8, .p 5 [] 0), (16, ds_ n b w), (17, ds_ n' b' w'), (21, .i .i64 y1), (22, .p 3 [] 0), (23, .p 5 [0] 0), (25, .p 3 [] 0)] [.ro len 1 (byF g), .var dz, .var dz, .var (srcD len g a1 h1), .var (ds_ n b w), .var (ds_ n' b' w')] (leC (leC (leC (leC (leC (leC leZ)))))) ?_
      exact hS8 (a1, h1, y1, y2, y3) ⟨ha1, hy, hy9⟩
    · refine wq ?_
      refine wC [0, 1, 2, 3, 4, 5] [(2, .p 1 [] 0), (3, .p 2 [] 0), (7, .p 4 [] 0), (8, .p 5 [] 0), (16, ds_ n b w), (21, .i .i64 y1), (22, .p 3 [] 0), (24, .i .i64 n'), (25, .p 3 [] 0)] [.ro len 1 (byF g), .var dz, .var dz, .var (srcD len g a1 h1), .var (ds_ n b w), .var (ds_ n' b' w')] (leC (leC (leC (leC (leC (leC leZ)))))) ?_
      exact hS16 (a1, h1, y1, y2, y3) ⟨ha1, hy, hy9⟩
    · have hnx := l01Next_fn len g hg a1 h1 24 ha1 hl
      refine wNx (fun a' h' => [.ro len 1 (byF g), .var dz, .var dz, .var (srcD len g a' h'), .var (ds_ n b w), .var (ds_ n' b' w')]) hnx ?_
      intro y a4 h4 hz ha4
      obtain ⟨z0, z1⟩ := hz (by decide)
      have hq9 := q23 z0 z1
      refine WA.takesD T false tok [11] (f' := 8) (by kernel_rfl) (by rfl) (by rfl) (by exact byObl) (by rfl) (by rfl) ?_
      refine wC [0, 1, 2, 3, 4, 5] [(2, .p 1 [] 0), (3, .p 2 [] 0), (7, .p 4 [] 0), (8, .p 5 [] 0), (16, ds_ n b w), (21, .i .i64 y1), (22, .p 3 [] 0), (23, .p 5 [0] 0), (27, .i .i64 (y.tdiv 23))] [.ro len 1 (byF g), .var dz, .var dz, .var (srcD len g a4 h4), .var (ds_ n b w), .var (ds_ n' b' w')] (leC (leC (leC (leC (leC (leC leZ)))))) ?_
      exact hS17 (a4, h4, y1, y, y3) ⟨ha4, z0, z1⟩
  refine WA.lets (f0 := 10) (l0 := #[true, false, true, true, true, false, true, true, true, true, false, false, false, false, false, false, false, false]) (fun z : Nat × Int × Int × Int × Int => ⟨lst [(2, .p 1 [] 0), (3, .p 2 [] 0), (7, .p 4 [] 0), (8, .p 5 [] 0), (16, ds_ n b w), (18, .p 3 [] 0), (20, .i .i64 n), (22, .p 3 [] 0), (24, .i .i64 n'), (25, .p 3 [] 0)], [.ro len 1 (byF g), .var dz, .var dz, .var (srcD len g z.1 z.2.1), .var (ds_ n b w), .var (ds_ n' b' w')]⟩) (fun z => z.1 ≤ len ∧ 0 ≤ z.2.2.2.1 ∧ z.2.2.2.1 < 24) ?_ (fun hS19 => ?_)
  · rintro ⟨a1, h1, y1, y2, y3⟩ ⟨ha1, hy, hy9⟩
    dsimp only at ha1 hy hy9
    dsimp only
    have hq := q23 hy hy9
    refine w2 1 5 ?_ ?_
    · refine wq ?_
      refine wC [0, 1, 2, 3, 4, 5] [(2, .p 1 [] 0), (3, .p 2 [] 0), (7, .p 4 [] 0), (8, .p 5 [] 0), (16, ds_ n b w), (17, ds_ n' b' w'), (18, .p 3 [] 0), (20, .i .i64 n), (22, .p 3 [] 0), (24, .i .i64 n'), (25, .p 3 [] 0)] [.ro len 1 (byF g), .var dz, .var dz, .var (srcD len g a1 h1), .var (ds_ n b w), .var (ds_ n' b' w')] (leC (leC (leC (leC (leC (leC leZ)))))) ?_
      exact hS9 (a1, h1, y1, y2, y3) ⟨ha1, hy, hy9⟩
    · have hnx := l01Next_fn len g hg a1 h1 n ha1 hl
      refine wNx (fun a' h' => [.ro len 1 (byF g), .var dz, .var dz, .var (srcD len g a' h'), .var (ds_ n b w), .var (ds_ n' b' w')]) hnx ?_
      intro y a4 h4 _ ha4
      refine wC [0, 1, 2, 3, 4, 5] [(2, .p 1 [] 0), (3, .p 2 [] 0), (7, .p 4 [] 0), (8, .p 5 [] 0), (16, ds_ n b w), (21, .i .i64 y), (22, .p 3 [] 0), (24, .i .i64 n'), (25, .p 3 [] 0)] [.ro len 1 (byF g), .var dz, .var dz, .var (srcD len g a4 h4), .var (ds_ n b w), .var (ds_ n' b' w')] (leC (leC (leC (leC (leC (leC leZ)))))) ?_
      exact hS16 (a4, h4, y, y2, y3) ⟨ha4, hy, hy9⟩
  refine WA.lets (f0 := 11) (l0 := #[true, false, true, true, true, false, true, true, false, true, false, false, false, false, false, false, false, false]) (fun z : Nat × Int × Int × Int × Int => ⟨lst [(2, .p 1 [] 0), (3, .p 2 [] 0), (7, .p 4 [] 0), (8, .p 5 [] 0), (16, ds_ n b w), (18, .p 3 [] 0), (20, .i .i64 n), (22, .p 3 [] 0), (23, .p 5 [0] 0), (25, .p 3 [] 0)], [.ro len 1 (byF g), .var dz, .var dz, .var (srcD len g z.1 z.2.1), .var (ds_ n b w), .var (ds_ n' b' w')]⟩) (fun z => z.1 ≤ len ∧ 0 ≤ z.2.2.2.1 ∧ z.2.2.2.1 < 24) ?_ (fun hS20 => ?_)
  · rintro ⟨a1, h1, y1, y2, y3⟩ ⟨ha1, hy, hy9⟩
    dsimp only at ha1 hy hy9
    dsimp only
    have hq := q23 hy hy9
    refine w3 1 5 8 ?_ ?_ ?_
    · refine wq ?_
      refine wC [0, 1, 2, 3, 4, 5] [(2, .p 1 [] 0), (3, .p 2 [] 0), (7, .p 4 [] 0), (8, .p 5 [] 0), (16, ds_ n b w), (17, ds_ n' b' w'), (18, .p 3 [] 0), (20, .i .i64 n), (22, .p 3 [] 0), (23, .p 5 [0] 0), (25, .p 3 [] 0)] [.ro len 1 (byF g), .var dz, .var dz, .var (srcD len g a1 h1), .var (ds_ n b w), .var (ds_ n' b' w')] (leC (leC (leC (leC (leC (leC leZ)))))) ?_
      exact hS10 (a1, h1, y1, y2, y3) ⟨ha1, hy, hy9⟩
    · have hnx := l01Next_fn len g hg a1 h1 n ha1 hl
      refine wNx (fun a' h' => [.ro len 1 (byF g), .var dz, .var dz, .var (srcD len g a' h'), .var (ds_ n b w), .var (ds_ n' b' w')]) hnx ?_
      intro y a4 h4 _ ha4
      refine wC [0, 1, 2, 3, 4, 5] [(2, .p 1 [] 0), (3, .p 2 [] 0), (7, .p 4 [] 0), (8, .p 5 [] 0), (16, ds_ n b w), (21, .i .i64 y), (22, .p 3 [] 0), (23, .p 5 [0] 0), (25, .p 3 [] 0)] [.ro len 1 (byF g), .var dz, .var dz, .var (srcD len g a4 h4), .var (ds_ n b w), .var (ds_ n' b' w')] (leC (leC (leC (leC (leC (leC leZ)))))) ?_
      exact hS18 (a4, h4, y, y2, y3) ⟨ha4, hy, hy9⟩
    · refine wq ?_
      refine wC [0, 1, 2, 3, 4, 5] [(2, .p 1 [] 0), (3, .p 2 [] 0), (7, .p 4 [] 0), (8, .p 5 [] 0), (16, ds_ n b w), (18, .p 3 [] 0), (20, .i .i64 n), (22, .p 3 [] 0), (24, .i .i64 n'), (25, .p 3 [] 0)] [.ro len 1 (byF g), .var dz, .var dz, .var (srcD len g a1 h1), .var (ds_ n b w), .var (ds_ n' b' w')] (leC (leC (leC (leC (leC (leC leZ)))))) ?_
      exact hS19 (a1, h1, y1, y2, y3) ⟨ha1, hy, hy9⟩
  refine WA.lets (f0 := 11) (l0 := #[true, false, true, true, false, false, true, true, true, true, false, false, false, false, false, false, false, false]) (fun z : Nat × Int × Int × Int × Int => ⟨lst [(2, .p 1 [] 0), (3, .p 2 [] 0), (7, .p 4 [] 0), (8, .p 5 [] 0), (16, ds_ n b w), (18, .p 3 [] 0), (19, .p 4 [0] 0), (22, .p 3 [] 0), (24, .i .i64 n'), (25, .p 3 [] 0)], [.ro len 1 (byF g), .var dz, .var dz, .var (srcD len g z.1 z.2.1), .var (ds_ n b w), .var (ds_ n' b' w')]⟩) (fun z => z.1 ≤ len ∧ 0 ≤ z.2.2.2.1 ∧ z.2.2.2.1 < 24) ?_ (fun hS21 => ?_)
  · rintro ⟨a1, h1, y1, y2, y3⟩ ⟨ha1, hy, hy9⟩
    dsimp only at ha1 hy hy9
    dsimp only
    have hq := q23 hy hy9
    refine w2 1 4 ?_ ?_
    · refine wq ?_
      refine wC [0, 1, 2, 3, 4, 5] [(2, .p 1 [] 0), (3, .p 2 [] 0), (7, .p 4 [] 0), (8, .p 5 [] 0), (16, ds_ n b w), (17, ds_ n' b' w'), (18, .p 3 [] 0), (19, .p 4 [0] 0), (22, .p 3 [] 0), (24, .i .i64 n'), (25, .p 3 [] 0)] [.ro len 1 (byF g), .var dz, .var dz, .var (srcD len g a1 h1), .var (ds_ n b w), .var (ds_ n' b' w')] (leC (leC (leC (leC (leC (leC leZ)))))) ?_
      exact hS11 (a1, h1, y1, y2, y3) ⟨ha1, hy, hy9⟩
    · refine wq ?_
      refine wC [0, 1, 2, 3, 4, 5] [(2, .p 1 [] 0), (3, .p 2 [] 0), (7, .p 4 [] 0), (8, .p 5 [] 0), (16, ds_ n b w), (18, .p 3 [] 0), (20, .i .i64 n), (22, .p 3 [] 0), (24, .i .i64 n'), (25, .p 3 [] 0)] [.ro len 1 (byF g), .var dz, .var dz, .var (srcD len g a1 h1), .var (ds_ n b w), .var (ds_ n' b' w')] (leC (leC (leC (leC (leC (leC leZ)))))) ?_
      exact hS19 (a1, h1, y1, y2, y3) ⟨ha1, hy, hy9⟩
  refine WA.lets (f0 := 12) (l0 := #[true, false, true, true, false, false, true, true, false, true, false, false, false, false, false, false, false, false]) (fun z : Nat × Int × Int × Int × Int => ⟨lst [(2, .p 1 [] 0), (3, .p 2 [] 0), (7, .p 4 [] 0), (8, .p 5 [] 0), (16, ds_ n b w), (18, .p 3 [] 0), (19, .p 4 [0] 0), (22, .p 3 [] 0), (23, .p 5 [0] 0), (25, .p 3 [] 0)], [.ro len 1 (byF g), .var dz, .var dz, .var (srcD len g z.1 z.2.1), .var (ds_ n b w), .var (ds_ n' b' w')]⟩) (fun z => z.1 ≤ len ∧ 0 ≤ z.2.2.2.1 ∧ z.2.2.2.1 < 24) ?_ (fun hS22 => ?_)
  · rintro ⟨a1, h1, y1, y2, y3⟩ ⟨ha1, hy, hy9⟩
    dsimp only at ha1 hy hy9
    dsimp only
    have hq := q23 hy hy9
    refine w3 1 4 8 ?_ ?_ ?_
    · refine wq ?_
      refine wC [0, 1, 2, 3, 4, 5] [(2, .p 1 [] 0), (3, .p 2 [] 0), (7, .p 4 [] 0), (8, .p 5 [] 0), (16, ds_ n b w), (17, ds_ n' b' w'), (18, .p 3 [] 0), (19, .p 4 [0] 0), (22, .p 3 [] 0), (23, .p 5 [0] 0), (25, .p 3 [] 0)] [.ro len 1 (byF g), .var dz, .var dz, .var (srcD len g a1 h1), .var (ds_ n b w), .var (ds_ n' b' w')] (leC (leC (leC (leC (leC (leC leZ)))))) ?_
      exact hS12 (a1, h1, y1, y2, y3) ⟨ha1, hy, hy9⟩
    · refine wq ?_
      refine wC [0, 1, 2, 3, 4, 5] [(2, .p 1 [] 0), (3, .p 2 [] 0), (7, .p 4 [] 0), (8, .p 5 [] 0), (16, ds_ n b w), (18, .p 3 [] 0), (20, .i .i64 n), (22, .p 3 [] 0), (23, .p 5 [0] 0), (25, .p 3 [] 0)] [.ro len 1 (byF g), .var dz, .var dz, .var (srcD len g a1 h1), .var (ds_ n b w), .var (ds_ n' b' w')] (leC (leC (leC (leC (leC (leC leZ)))))) ?_
      exact hS20 (a1, h1, y1, y2, y3) ⟨ha1, hy, hy9⟩
    · refine wq ?_
      refine wC [0, 1, 2, 3, 4, 5] [(2, .p 1 [] 0), (3, .p 2 [] 0), (7, .p 4 [] 0), (8, .p 5 [] 0), (16, ds_ n b w), (18, .p 3 [] 0), (19, .p 4 [0] 0), (22, .p 3 [] 0), (24, .i .i64 n'), (25, .p 3 [] 0)] [.ro len 1 (byF g), .var dz, .var dz, .var (srcD len g a1 h1), .var (ds_ n b w), .var (ds_ n' b' w')] (leC (leC (leC (leC (leC (leC leZ)))))) ?_
      exact hS21 (a1, h1, y1, y2, y3) ⟨ha1, hy, hy9⟩
  refine WA.lets (f0 := 5) (l0 := #[false, true, true, true, true, true, true, true, true, true, true, true, true, true, false, false, false, false]) (fun z : Nat × Int × Int × Int × Int => ⟨lst [(2, .p 1 [] 0), (3, .p 2 [] 0), (7, .p 4 [] 0), (8, .p 5 [] 0), (17, ds_ n' b' w'), (21, .i .i64 z.2.2.1), (29, .i .i64 z.2.2.2.2)], [.ro len 1 (byF g), .var dz, .var dz, .var (srcD len g z.1 z.2.1), .var (ds_ n b w), .var (ds_ n' b' w')]⟩) (fun z => z.1 ≤ len ∧ 0 ≤ z.2.2.2.1 ∧ z.2.2.2.1 < 24) ?_ (fun hS23 => ?_)
  · rintro ⟨a1, h1, y1, y2, y3⟩ ⟨ha1, hy, hy9⟩
    dsimp only at ha1 hy hy9
    dsimp only
    have hq := q23 hy hy9
    refine w1 0 ?_
    refine wq ?_
    refine wC [0, 1, 2, 3, 4, 5] [(2, .p 1 [] 0), (3, .p 2 [] 0), (7, .p 4 [] 0), (8, .p 5 [] 0), (16, ds_ n b w), (17, ds_ n' b' w'), (21, .i .i64 y1), (29, .i .i64 y3)] [.ro len 1 (byF g), .var dz, .var dz, .var (srcD len g a1 h1), .var (ds_ n b w), .var (ds_ n' b' w')] (leC (leC (leC (leC (leC (leC leZ)))))) ?_
    exact hS4 (a1, h1, y1, y2, y3) ⟨ha1, hy, hy9⟩
  refine WA.lets (f0 := 6) (l0 := #[false, true, true, true, true, true, true, true, true, true, true, true, true, false, false, false, false, false]) (fun z : Nat × Int × Int × Int × Int => ⟨lst [(2, .p 1 [] 0), (3, .p 2 [] 0), (7, .p 4 [] 0), (8, .p 5 [] 0), (17, ds_ n' b' w'), (21, .i .i64 z.2.2.1), (22, .p 3 [] 0), (28, .i .i64 (n' + z.2.2.2.1.tdiv 23))], [.ro len 1 (byF g), .var dz, .var dz, .var (srcD len g z.1 z.2.1), .var (ds_ n b w), .var (ds_ n' b' w')]⟩) (fun z => z.1 ≤ len ∧ 0 ≤ z.2.2.2.1 ∧ z.2.2.2.1 < 24) ?_ (fun hS24 => ?_)
  · rintro ⟨a1, h1, y1, y2, y3⟩ ⟨ha1, hy, hy9⟩
    dsimp only at ha1 hy hy9
    dsimp only
    have hq := q23 hy hy9
    refine w2 0 13 ?_ ?_
    · refine wq ?_
      refine wC [0, 1, 2, 3, 4, 5] [(2, .p 1 [] 0), (3, .p 2 [] 0), (7, .p 4 [] 0), (8, .p 5 [] 0), (16, ds_ n b w), (17, ds_ n' b' w'), (21, .i .i64 y1), (22, .p 3 [] 0), (28, .i .i64 (n' + y2.tdiv 23))] [.ro len 1 (byF g), .var dz, .var dz, .var (srcD len g a1 h1), .var (ds_ n b w), .var (ds_ n' b' w')] (leC (leC (leC (leC (leC (leC leZ)))))) ?_
      exact hS5 (a1, h1, y1, y2, y3) ⟨ha1, hy, hy9⟩
    · have hnx := l01Next_fn len g hg a1 h1 (n' + y2.tdiv 23) ha1 hl
      refine wNx (fun a' h' => [.ro len 1 (byF g), .var dz, .var dz, .var (srcD len g a' h'), .var (ds_ n b w), .var (ds_ n' b' w')]) hnx ?_
      intro y a4 h4 _ ha4
      refine wC [0, 1, 2, 3, 4, 5] [(2, .p 1 [] 0), (3, .p 2 [] 0), (7, .p 4 [] 0), (8, .p 5 [] 0), (17, ds_ n' b' w'), (21, .i .i64 y1), (29, .i .i64 y)] [.ro len 1 (byF g), .var dz, .var dz, .var (srcD len g a4 h4), .var (ds_ n b w), .var (ds_ n' b' w')] (leC (leC (leC (leC (leC (leC leZ)))))) ?_
      exact hS23 (a4, h4, y1, y2, y) ⟨ha4, hy, hy9⟩
  refine WA.lets (f0 := 9) (l0 := #[false, true, true, true, true, true, true, true, true, true, false, false, false, false, false, false, false, false]) (fun z : Nat × Int × Int × Int × Int => ⟨lst [(2, .p 1 [] 0), (3, .p 2 [] 0), (7, .p 4 [] 0), (8, .p 5 [] 0), (17, ds_ n' b' w'), (21, .i .i64 z.2.2.1), (22, .p 3 [] 0), (24, .i .i64 n'), (25, .p 3 [] 0)], [.ro len 1 (byF g), .var dz, .var dz, .var (srcD len g z.1 z.2.1), .var (ds_ n b w), .var (ds_ n' b' w')]⟩) (fun z => z.1 ≤ len ∧ 0 ≤ z.2.2.2.1 ∧ z.2.2.2.1 < 24) ?_ (fun hS25 => ?_)
  · rintro ⟨a1, h1, y1, y2, y3⟩ ⟨ha1, hy, hy9⟩
    dsimp only at ha1 hy hy9
    dsimp only
    have hq := q23 hy hy9
    refine w2 0 10 ?_ ?_
    · refine wq ?_
      refine wC [0, 1, 2, 3, 4, 5] [(2, .p 1 [] 0), (3, .p 2 [] 0), (7, .p 4 [] 0), (8, .p 5 [] 0), (16, ds_ n b w), (17, ds_ n' b' w'), (21, .i .i64 y1), (22, .p 3 [] 0), (24, .i .i64 n'), (25, .p 3 [] 0)] [.ro len 1 (byF g), .var dz, .var dz, .var (srcD len g a1 h1), .var (ds_ n b w), .var (ds_ n' b' w')] (leC (leC (leC (leC (leC (leC leZ)))))) ?_
      exact hS6 (a1, h1, y1, y2, y3) ⟨ha1, hy, hy9⟩
    · have hnx := l01Next_fn len g hg a1 h1 24 ha1 hl
      refine wNx (fun a' h' => [.ro len 1 (byF g), .var dz, .var dz, .var (srcD len g a' h'), .var (ds_ n b w), .var (ds_ n' b' w')]) hnx ?_
      intro y a4 h4 hz ha4
      obtain ⟨z0, z1⟩ := hz (by decide)
      have hq9 := q23 z0 z1
      refine WA.takesD T false tok [11, 12] (f' := 6) (by kernel_rfl) (by rfl) (by rfl) (by exact byObl) (by rfl) (by rfl) ?_
      refine wC [0, 1, 2, 3, 4, 5] [(2, .p 1 [] 0), (3, .p 2 [] 0), (7, .p 4 [] 0), (8, .p 5 [] 0), (17, ds_ n' b' w'), (21, .i .i64 y1), (22, .p 3 [] 0), (28, .i .i64 (n' + y.tdiv 23))] [.ro len 1 (byF g), .var dz, .var dz, .var (srcD len g a4 h4), .var (ds_ n b w), .var (ds_ n' b' w')] (leC (leC (leC (leC (leC (leC leZ)))))) ?_
      exact hS24 (a4, h4, y1, y, y3) ⟨ha4, z0, z1⟩
  refine WA.lets (f0 := 8) (l0 := #[false, true, true, true, true, true, true, true, false, true, true, true, false, false, false, false, false, false]) (fun z : Nat × Int × Int × Int × Int => ⟨lst [(2, .p 1 [] 0), (3, .p 2 [] 0), (7, .p 4 [] 0), (8, .p 5 [] 0), (17, ds_ n' b' w'), (21, .i .i64 z.2.2.1), (22, .p 3 [] 0), (23, .p 5 [0] 0), (27, .i .i64 (z.2.2.2.1.tdiv 23))], [.ro len 1 (byF g), .var dz, .var dz, .var (srcD len g z.1 z.2.1), .var (ds_ n b w), .var (ds_ n' b' w')]⟩) (fun z => z.1 ≤ len ∧ 0 ≤ z.2.2.2.1 ∧ z.2.2.2.1 < 24) ?_ (fun hS26 => ?_)
  · rintro ⟨a1, h1, y1, y2, y3⟩ ⟨ha1, hy, hy9⟩
    dsimp only at ha1 hy hy9
    dsimp only
    have hq := q23 hy hy9
    refine w2 0 8 ?_ ?_
    · refine wq ?_
      refine wC [0, 1, 2, 3, 4, 5] [(2, .p 1 [] 0), (3, .p 2 [] 0), (7, .p 4 [] 0), (8, .p 5 [] 0), (16, ds_ n b w), (17, ds_ n' b' w'), (21, .i .i64 y1), (22, .p 3 [] 0), (23, .p 5 [0] 0), (27, .i .i64 (y2.tdiv 23))] [.ro len 1 (byF g), .var dz, .var dz, .var (srcD len g a1 h1), .var (ds_ n b w), .var (ds_ n' b' w')] (leC (leC (leC (leC (leC (leC leZ)))))) ?_
      exact hS7 (a1, h1, y1, y2, y3) ⟨ha1, hy, hy9⟩
    · refine wq ?_
      refine WA.takesD T false tok [12] (f' := 6) (by kernel_rfl) (by rfl) (by rfl) (by exact byObl) (by rfl) (by rfl) ?_
      refine wC [0, 1, 2, 3, 4, 5] [(2, .p 1 [] 0), (3, .p 2 [] 0), (7, .p 4 [] 0), (8, .p 5 [] 0), (17, ds_ n' b' w'), (21, .i .i64 y1), (22, .p 3 [] 0), (28, .i .i64 (n' + y2.tdiv 23))] [.ro len 1 (byF g), .var dz, .var dz, .var (srcD len g a1 h1), .var (ds_ n b w), .var (ds_ n' b' w')] (leC (leC (leC (leC (leC (leC leZ)))))) ?_
      exact hS24 (a1, h1, y1, y2, y3) ⟨ha1, hy, hy9⟩
  refine WA.lets (f0 := 10) (l0 := #[false, true, true, true, true, true, true, true, false, true, false, false, false, false, false, false, false, false]) (fun z : Nat × Int × Int × Int × Int => ⟨lst [(2, .p 1 [] 0), (3, .p 2 [] 0), (7, .p 4 [] 0), (8, .p 5 [] 0), (17, ds_ n' b' w'), (21, .i .i64 z.2.2.1), (22, .p 3 [] 0), (23, .p 5 [0] 0), (25, .p 3 [] 0)], [.ro len 1 (byF g), .var dz, .var dz, .var (srcD len g z.1 z.2.1), .var (ds_ n b w), .var (ds_ n' b' w')]⟩) (fun z => z.1 ≤ len ∧ 0 ≤ z.2.2.2.1 ∧ z.2.2.2.1 < 24) ?_ (fun hS27 => ?_)
  · rintro ⟨a1, h1, y1, y2, y3⟩ ⟨ha1, hy, hy9⟩
    dsimp only at ha1 hy hy9
    dsimp only
    have hq := q23 hy hy9
    refine w3 0 8 10 ?_ ?_ ?_
    · refine wq ?_
      refine wC [0, 1, 2, 3, 4, 5] [(2, .p 1 [] 0), (3, .p 2 [] 0), (7, .p 4 [] 0), (8, .p 5 [] 0), (16, ds_ n b w), (17, ds_ n' b' w'), (21, .i .i64 y1), (22, .p 3 [] 0), (23, .p 5 [0] 0), (25, .p 3 [] 0)] [.ro len 1 (byF g), .var dz, .var dz, .var (srcD len g a1 h1), .var (ds_ n b w), .var (ds_ n' b' w')] (leC (leC (leC (leC (leC (leC leZ)))))) ?_
      exact hS8 (a1, h1, y1, y2, y3) ⟨ha1, hy, hy9⟩
    · refine wq ?_
      refine wC [0, 1, 2, 3, 4, 5] [(2, .p 1 [] 0), (3, .p 2 [] 0), (7, .p 4 [] 0), (8, .p 5 [] 0), (17, ds_ n' b' w'), (21, .i .i64 y1), (22, .p 3 [] 0), (24, .i .i64 n'), (25, .p 3 [] 0)] [.ro len 1 (byF g), .var dz, .var dz, .var (srcD len g a1 h1), .var (ds_ n b w), .var (ds_ n' b' w')] (leC (leC (leC (leC (leC (leC leZ)))))) ?_
      exact hS25 (a1, h1, y1, y2, y3) ⟨ha1, hy, hy9⟩
    · have hnx := l01Next_fn len g hg a1 h1 24 ha1 hl
      refine wNx (fun a' h' => [.ro len 1 (byF g), .var dz, .var dz, .var (srcD len g a' h'), .var (ds_ n b w), .var (ds_ n' b' w')]) hnx ?_
      intro y a4 h4 hz ha4
      obtain ⟨z0, z1⟩ := hz (by decide)
      have hq9 := q23 z0 z1
      refine WA.takesD T false tok [11] (f' := 8) (by kernel_rfl) (by rfl) (by rfl) (by exact byObl) (by rfl) (by rfl) ?_
      refine wC [0, 1, 2, 3, 4, 5] [(2, .p 1 [] 0), (3, .p 2 [] 0), (7, .p 4 [] 0), (8, .p 5 [] 0), (17, ds_ n' b' w'), (21, .i .i64 y1), (22, .p 3 [] 0), (23, .p 5 [0] 0), (27, .i .i64 (y.tdiv 23))] [.ro len 1 (byF g), .var dz, .var dz, .var (srcD len g a4 h4), .var (ds_ n b w), .var (ds_ n' b' w')] (leC (leC (leC (leC (leC (leC leZ)))))) ?_
      exact hS26 (a4, h4, y1, y, y3) ⟨ha4, z0, z1⟩
  refine WA.lets (f0 := 10) (l0 := #[false, true, true, true, true, false, true, true, true, true, false, false, false, false, false, false, false, false]) (fun z : Nat × Int × Int × Int × Int => ⟨lst [(2, .p 1 [] 0), (3, .p 2 [] 0), (7, .p 4 [] 0), (8, .p 5 [] 0), (17, ds_ n' b' w'), (18, .p 3 [] 0), (20, .i .i64 n), (22, .p 3 [] 0), (24, .i .i64 n'), (25, .p 3 [] 0)], [.ro len 1 (byF g), .var dz, .var dz, .var (srcD len g z.1 z.2.1), .var (ds_ n b w), .var (ds_ n' b' w')]⟩) (fun z => z.1 ≤ len ∧ 0 ≤ z.2.2.2.1 ∧ z.2.2.2.1 < 24) ?_ (fun hS28 => ?_)
  · rintro ⟨a1, h1, y1, y2, y3⟩ ⟨ha1, hy, hy9⟩
    dsimp only at ha1 hy hy9
    dsimp only
    have hq := q23 hy hy9
    refine w2 0 5 ?_ ?_
    · refine wq ?_
      refine wC [0, 1, 2, 3, 4, 5] [(2, .p 1 [] 0), (3, .p 2 [] 0), (7, .p 4 [] 0), (8, .p 5 [] 0), (16, ds_ n b w), (17, ds_ n' b' w'), (18, .p 3 [] 0), (20, .i .i64 n), (22, .p 3 [] 0), (24, .i .i64 n'), (25, .p 3 [] 0)] [.ro len 1 (byF g), .var dz, .var dz, .var (srcD len g a1 h1), .var (ds_ n b w), .var (ds_ n' b' w')] (leC (leC (leC (leC (leC (leC leZ)))))) ?_
      exact hS9 (a1, h1, y1, y2, y3) ⟨ha1, hy, hy9⟩
    · have hnx := l01Next_fn len g hg a1 h1 n ha1 hl
      refine wNx (fun a' h' => [.ro len 1 (byF g), .var dz, .var dz, .var (srcD len g a' h'), .var (ds_ n b w), .var (ds_ n' b' w')]) hnx ?_
      intro y a4 h4 _ ha4
      refine wC [0, 1, 2, 3, 4, 5] [(2, .p 1 [] 0), (3, .p 2 [] 0), (7, .p 4 [] 0), (8, .p 5 [] 0), (17, ds_ n' b' w'), (21, .i .i64 y), (22, .p 3 [] 0), (24, .i .i64 n'), (25, .p 3 [] 0)] [.ro len 1 (byF g), .var dz, .var dz, .var (srcD len g a4 h4), .var (ds_ n b w), .var (ds_ n' b' w')] (leC (leC (leC (leC (leC (leC leZ)))))) ?_
      exact hS25 (a4, h4, y, y2, y3) ⟨ha4, hy, hy9⟩
  refine WA.lets (f0 := 11) (l0 := #[false, true, true, true, true, false, true, true, false, true, false, false, false, false, false, false, false, false]) (fun z : Nat × Int × Int × Int × Int => ⟨lst [(2, .p 1 [] 0), (3, .p 2 [] 0), (7, .p 4 [] 0), (8, .p 5 [] 0), (17, ds_ n' b' w'), (18, .p 3 [] 0), (20, .i .i64 n), (22, .p 3 [] 0), (23, .p 5 [0] 0), (25, .p 3 [] 0)], [.ro len 1 (byF g), .var dz, .var dz, .var (srcD len g z.1 z.2.1), .var (ds_ n b w), .var (ds_ n' b' w')]⟩) (fun z => z.1 ≤ len ∧ 0 ≤ z.2.2.2.1 ∧ z.2.2.2.1 < 24) ?_ (fun hS29 => ?_)
  · rintro ⟨a1, h1, y1, y2, y3⟩ ⟨ha1, hy, hy9⟩
    dsimp only at ha1 hy hy9
    dsimp only
    have hq := q23 hy hy9
    refine w3 0 5 8 ?_ ?_ ?_
    · refine wq ?_
      refine wC [0, 1, 2, 3, 4, 5] [(2, .p 1 [] 0), (3, .p 2 [] 0), (7, .p 4 [] 0), (8, .p 5 [] 0), (16, ds_ n b w), (17, ds_ n' b' w'), (18, .p 3 [] 0), (20, .i .i64 n), (22, .p 3 [] 0), (23, .p 5 [0] 0), (25, .p 3 [] 0)] [.ro len 1 (byF g), .var dz, .var dz, .var (srcD len g a1 h1), .var (ds_ n b w), .var (ds_ n' b' w')] (leC (leC (leC (leC (leC (leC leZ)))))) ?_
      exact hS10 (a1, h1, y1, y2, y3) ⟨ha1, hy, hy9⟩
    · have hnx := l01Next_fn len g hg a1 h1 n ha1 hl
      refine wNx (fun a' h' => [.ro len 1 (byF g), .var dz, .var dz, .var (srcD len g a' h'), .var (ds_ n b w), .var (ds_ n' b' w')]) hnx ?_
      intro y a4 h4 _ ha4
      refine wC [0, 1, 2, 3, 4, 5] [(2, .p 1 [] 0), (3, .p 2 [] 0), (7, .p 4 [] 0), (8, .p 5 [] 0), (17, ds_ n' b' w'), (21, .i .i64 y), (22, .p 3 [] 0), (23, .p 5 [0] 0), (25, .p 3 [] 0)] [.ro len 1 (byF g), .var dz, .var dz, .var (srcD len g a4 h4), .var (ds_ n b w), .var (ds_ n' b' w')] (leC (leC (leC (leC (leC (leC leZ)))))) ?_
      exact hS27 (a4, h4, y, y2, y3) ⟨ha4, hy, hy9⟩
    · refine wq ?_
      refine wC [0, 1, 2, 3, 4, 5] [(2, .p 1 [] 0), (3, .p 2 [] 0), (7, .p 4 [] 0), (8, .p 5 [] 0), (17, ds_ n' b' w'), (18, .p 3 [] 0), (20, .i .i64 n), (22, .p 3 [] 0), (24, .i .i64 n'), (25, .p 3 [] 0)] [.ro len 1 (byF g), .var dz, .var dz, .var (srcD len g a1 h1), .var (ds_ n b w), .var (ds_ n' b' w')] (leC (leC (leC (leC (leC (leC leZ)))))) ?_
      exact hS28 (a1, h1, y1, y2, y3) ⟨ha1, hy, hy9⟩
  refine WA.lets (f0 := 11) (l0 := #[false, true, true, true, false, false, true, true, true, true, false, false, false, false, false, false, false, false]) (fun z : Nat × Int × Int × Int × Int => ⟨lst [(2, .p 1 [] 0), (3, .p 2 [] 0), (7, .p 4 [] 0), (8, .p 5 [] 0), (17, ds_ n' b' w'), (18, .p 3 [] 0), (19, .p 4 [0] 0), (22, .p 3 [] 0), (24, .i .i64 n'), (25, .p 3 [] 0)], [.ro len 1 (byF g), .var dz, .var dz, .var (srcD len g z.1 z.2.1), .var (ds_ n b w), .var (ds_ n' b' w')]⟩) (fun z => z.1 ≤ len ∧ 0 ≤ z.2.2.2.1 ∧ z.2.2.2.1 < 24) ?_ (fun hS30 => ?_)
  · rintro ⟨a1, h1, y1, y2, y3⟩ ⟨ha1, hy, hy9⟩
    dsimp only at ha1 hy hy9
    dsimp only
    have hq := q23 hy hy9
    refine w2 0 4 ?_ ?_
    · refine wq ?_
      refine wC [0, 1, 2, 3, 4, 5] [(2, .p 1 [] 0), (3, .p 2 [] 0), (7, .p 4 [] 0), (8, .p 5 [] 0), (16, ds_ n b w), (17, ds_ n' b' w'), (18, .p 3 [] 0), (19, .p 4 [0] 0), (22, .p 3 [] 0), (24, .i .i64 n'), (25, .p 3 [] 0)] [.ro len 1 (byF g), .var dz, .var dz, .var (srcD len g a1 h1), .var (ds_ n b w), .var (ds_ n' b' w')] (leC (leC (leC (leC (leC (leC leZ)))))) ?_
      exact hS11 (a1, h1, y1, y2, y3) ⟨ha1, hy, hy9⟩
    · refine wq ?_
      refine wC [0, 1, 2, 3, 4, 5] [(2, .p 1 [] 0), (3, .p 2 [] 0), (7, .p 4 [] 0), (8, .p 5 [] 0), (17, ds_ n' b' w'), (18, .p 3 [] 0), (20, .i .i64 n), (22, .p 3 [] 0), (24, .i .i64 n'), (25, .p 3 [] 0)] [.ro len 1 (byF g), .var dz, .var dz, .var (srcD len g a1 h1), .var (ds_ n b w), .var (ds_ n' b' w')] (leC (leC (leC (leC (leC (leC leZ)))))) ?_
      exact hS28 (a1, h1, y1, y2, y3) ⟨ha1, hy, hy9⟩
  refine WA.lets (f0 := 12) (l0 := #[false, true, true, true, false, false, true, true, false, true, false, false, false, false, false, false, false, false]) (fun z : Nat × Int × Int × Int × Int => ⟨lst [(2, .p 1 [] 0), (3, .p 2 [] 0), (7, .p 4 [] 0), (8, .p 5 [] 0), (17, ds_ n' b' w'), (18, .p 3 [] 0), (19, .p 4 [0] 0), (22, .p 3 [] 0), (23, .p 5 [0] 0), (25, .p 3 [] 0)], [.ro len 1 (byF g), .var dz, .var dz, .var (srcD len g z.1 z.2.1), .var (ds_ n b w), .var (ds_ n' b' w')]⟩) (fun z => z.1 ≤ len ∧ 0 ≤ z.2.2.2.1 ∧ z.2.2.2.1 < 24) ?_ (fun hS31 => ?_)
  · rintro ⟨a1, h1, y1, y2, y3⟩ ⟨ha1, hy, hy9⟩
    dsimp only at ha1 hy hy9
    dsimp only
    have hq := q23 hy hy9
    refine w3 0 4 8 ?_ ?_ ?_
    · refine wq ?_
      refine wC [0, 1, 2, 3, 4, 5] [(2, .p 1 [] 0), (3, .p 2 [] 0), (7, .p 4 [] 0), (8, .p 5 [] 0), (16, ds_ n b w), (17, ds_ n' b' w'), (18, .p 3 [] 0), (19, .p 4 [0] 0), (22, .p 3 [] 0), (23, .p 5 [0] 0), (25, .p 3 [] 0)] [.ro len 1 (byF g), .var dz, .var dz, .var (srcD len g a1 h1), .var (ds_ n b w), .var (ds_ n' b' w')] (leC (leC (leC (leC (leC (leC leZ)))))) ?_
      exact hS12 (a1, h1, y1, y2, y3) ⟨ha1, hy, hy9⟩
    · refine wq ?_
      refine wC [0, 1, 2, 3, 4, 5] [(2, .p 1 [] 0), (3, .p 2 [] 0), (7, .p 4 [] 0), (8, .p 5 [] 0), (17, ds_ n' b' w'), (18, .p 3 [] 0), (20, .i .i64 n), (22, .p 3 [] 0), (23, .p 5 [0] 0), (25, .p 3 [] 0)] [.ro len 1 (byF g), .var dz, .var dz, .var (srcD len g a1 h1), .var (ds_ n b w), .var (ds_ n' b' w')] (leC (leC (leC (leC (leC (leC leZ)))))) ?_
      exact hS29 (a1, h1, y1, y2, y3) ⟨ha1, hy, hy9⟩
    · refine wq ?_
      refine wC [0, 1, 2, 3, 4, 5] [(2, .p 1 [] 0), (3, .p 2 [] 0), (7, .p 4 [] 0), (8, .p 5 [] 0), (17, ds_ n' b' w'), (18, .p 3 [] 0), (19, .p 4 [0] 0), (22, .p 3 [] 0), (24, .i .i64 n'), (25, .p 3 [] 0)] [.ro len 1 (byF g), .var dz, .var dz, .var (srcD len g a1 h1), .var (ds_ n b w), .var (ds_ n' b' w')] (leC (leC (leC (leC (leC (leC leZ)))))) ?_
      exact hS30 (a1, h1, y1, y2, y3) ⟨ha1, hy, hy9⟩
  refine WA.lets (f0 := 6) (l0 := #[false, false, true, true, true, true, true, true, true, true, true, true, true, true, false, false, false, false]) (fun z : Nat × Int × Int × Int × Int => ⟨lst [(2, .p 1 [] 0), (3, .p 2 [] 0), (7, .p 4 [] 0), (8, .p 5 [] 0), (21, .i .i64 z.2.2.1), (29, .i .i64 z.2.2.2.2)], [.ro len 1 (byF g), .var dz, .var dz, .var (srcD len g z.1 z.2.1), .var (ds_ n b w), .var (ds_ n' b' w')]⟩) (fun z => z.1 ≤ len ∧ 0 ≤ z.2.2.2.1 ∧ z.2.2.2.1 < 24) ?_ (fun hS32 => ?_)
  · rintro ⟨a1, h1, y1, y2, y3⟩ ⟨ha1, hy, hy9⟩
    dsimp only at ha1 hy hy9
    dsimp only
    have hq := q23 hy hy9
    refine w2 0 1 ?_ ?_
    · refine wq ?_
      refine wC [0, 1, 2, 3, 4, 5] [(2, .p 1 [] 0), (3, .p 2 [] 0), (7, .p 4 [] 0), (8, .p 5 [] 0), (16, ds_ n b w), (21, .i .i64 y1), (29, .i .i64 y3)] [.ro len 1 (byF g), .var dz, .var dz, .var (srcD len g a1 h1), .var (ds_ n b w), .var (ds_ n' b' w')] (leC (leC (leC (leC (leC (leC leZ)))))) ?_
      exact hS14 (a1, h1, y1, y2, y3) ⟨ha1, hy, hy9⟩
    · refine wq ?_
      refine wC [0, 1, 2, 3, 4, 5] [(2, .p 1 [] 0), (3, .p 2 [] 0), (7, .p 4 [] 0), (8, .p 5 [] 0), (17, ds_ n' b' w'), (21, .i .i64 y1), (29, .i .i64 y3)] [.ro len 1 (byF g), .var dz, .var dz, .var (srcD len g a1 h1), .var (ds_ n b w), .var (ds_ n' b' w')] (leC (leC (leC (leC (leC (leC leZ)))))) ?_
      exact hS23 (a1, h1, y1, y2, y3) ⟨ha1, hy, hy9⟩
  refine WA.lets (f0 := 7) (l0 := #[false, false, true, true, true, true, true, true, true, true, true, true, true, false, false, false, false, false]) (fun z : Nat × Int × Int × Int × Int => ⟨lst [(2, .p 1 [] 0), (3, .p 2 [] 0), (7, .p 4 [] 0), (8, .p 5 [] 0), (21, .i .i64 z.2.2.1), (22, .p 3 [] 0), (28, .i .i64 (n' + z.2.2.2.1.tdiv 23))], [.ro len 1 (byF g), .var dz, .var dz, .var (srcD len g z.1 z.2.1), .var (ds_ n b w), .var (ds_ n' b' w')]⟩) (fun z => z.1 ≤ len ∧ 0 ≤ z.2.2.2.1 ∧ z.2.2.2.1 < 24) ?_ (fun hS33 => ?_)
  · rintro ⟨a1, h1, y1, y2, y3⟩ ⟨ha1, hy, hy9⟩
    dsimp only at ha1 hy hy9
    dsimp only
    have hq := q23 hy hy9
    refine w3 0 1 13 ?_ ?_ ?_
    · refine wq ?_
      refine wC [0, 1, 2, 3, 4, 5] [(2, .p 1 [] 0), (3, .p 2 [] 0), (7, .p 4 [] 0), (8, .p 5 [] 0), (16, ds_ n b w), (21, .i .i64 y1), (22, .p 3 [] 0), (28, .i .i64 (n' + y2.tdiv 23))] [.ro len 1 (byF g), .var dz, .var dz, .var (srcD len g a1 h1), .var (ds_ n b w), .var (ds_ n' b' w')] (leC (leC (leC (leC (leC (leC leZ)))))) ?_
      exact hS15 (a1, h1, y1, y2, y3) ⟨ha1, hy, hy9⟩
    · refine wq ?_
      refine wC [0, 1, 2, 3, 4, 5] [(2, .p 1 [] 0), (3, .p 2 [] 0), (7, .p 4 [] 0), (8, .p 5 [] 0), (17, ds_ n' b' w'), (21, .i .i64 y1), (22, .p 3 [] 0), (28, .i .i64 (n' + y2.tdiv 23))] [.ro len 1 (byF g), .var dz, .var dz, .var (srcD len g a1 h1), .var (ds_ n b w), .var (ds_ n' b' w')] (leC (leC (leC (leC (leC (leC leZ)))))) ?_
      exact hS24 (a1, h1, y1, y2, y3) ⟨ha1, hy, hy9⟩
    · have hnx := l01Next_fn len g hg a1 h1 (n' + y2.tdiv 23) ha1 hl
      refine wNx (fun a' h' => [.ro len 1 (byF g), .var dz, .var dz, .var (srcD len g a' h'), .var (ds_ n b w), .var (ds_ n' b' w')]) hnx ?_
      intro y a4 h4 _ ha4
      refine wC [0, 1, 2, 3, 4, 5] [(2, .p 1 [] 0), (3, .p 2 [] 0), (7, .p 4 [] 0), (8, .p 5 [] 0), (21, .i .i64 y1), (29, .i .i64 y)] [.ro len 1 (byF g), .var dz, .var dz, .var (srcD len g a4 h4), .var (ds_ n b w), .var (ds_ n' b' w')] (leC (leC (leC (leC (leC (leC leZ)))))) ?_
      exact hS32 (a4, h4, y1, y2, y) ⟨ha4, hy, hy9⟩
  refine WA.lets (f0 := 10) (l0 := #[false, false, true, true, true, true, true, true, true, true, false, false, false, false, false, false, false, false]) (fun z : Nat × Int × Int × Int × Int => ⟨lst [(2, .p 1 [] 0), (3, .p 2 [] 0), (7, .p 4 [] 0), (8, .p 5 [] 0), (21, .i .i64 z.2.2.1), (22, .p 3 [] 0), (24, .i .i64 n'), (25, .p 3 [] 0)], [.ro len 1 (byF g), .var dz, .var dz, .var (srcD len g z.1 z.2.1), .var (ds_ n b w), .var (ds_ n' b' w')]⟩) (fun z => z.1 ≤ len ∧ 0 ≤ z.2.2.2.1 ∧ z.2.2.2.1 < 24) ?_ (fun hS34 => ?_)
  · rintro ⟨a1, h1, y1, y2, y3⟩ ⟨ha1, hy, hy9⟩
    dsimp only at ha1 hy hy9
    dsimp only
    have hq := q23 hy hy9
    refine w3 0 1 10 ?_ ?_ ?_
    · refine wq ?_
      refine wC [0, 1, 2, 3, 4, 5] [(2, .p 1 [] 0), (3, .p 2 [] 0), (7, .p 4 [] 0), (8, .p 5 [] 0), (16, ds_ n b w), (21, .i .i64 y1), (22, .p 3 [] 0), (24, .i .i64 n'), (25, .p 3 [] 0)] [.ro len 1 (byF g), .var dz, .var dz, .var (srcD len g a1 h1), .var (ds_ n b w), .var (ds_ n' b' w')] (leC (leC (leC (leC (leC (leC leZ)))))) ?_
      exact hS16 (a1, h1, y1, y2, y3) ⟨ha1, hy, hy9⟩
    · refine wq ?_
      refine wC [0, 1, 2, 3, 4, 5] [(2, .p 1 [] 0), (3, .p 2 [] 0), (7, .p 4 [] 0), (8, .p 5 [] 0), (17, ds_ n' b' w'), (21, .i .i64 y1), (22, .p 3 [] 0), (24, .i .i64 n'), (25, .p 3 [] 0)] [.ro len 1 (byF g), .var dz, .var dz, .var (srcD len g a1 h1), .var (ds_ n b w), .var (ds_ n' b' w')] (leC (leC (leC (leC (leC (leC leZ)))))) ?_
      exact hS25 (a1, h1, y1, y2, y3) ⟨ha1, hy, hy9⟩
    · have hnx := l01Next_fn len g hg a1 h1 24 ha1 hl
      refine wNx (fun a' h' => [.ro len 1 (byF g), .var dz, .var dz, .var (srcD len g a' h'), .var (ds_ n b w), .var (ds_ n' b' w')]) hnx ?_
      intro y a4 h4 hz ha4
      obtain ⟨z0, z1⟩ := hz (by decide)
      have hq9 := q23 z0 z1
      refine WA.takesD T false tok [11, 12] (f' := 7) (by kernel_rfl) (by rfl) (by rfl) (by exact byObl) (by rfl) (by rfl) ?_
      refine wC [0, 1, 2, 3, 4, 5] [(2, .p 1 [] 0), (3, .p 2 [] 0), (7, .p 4 [] 0), (8, .p 5 [] 0), (21, .i .i64 y1), (22, .p 3 [] 0), (28, .i .i64 (n' + y.tdiv 23))] [.ro len 1 (byF g), .var dz, .var dz, .var (srcD len g a4 h4), .var (ds_ n b w), .var (ds_ n' b' w')] (leC (leC (leC (leC (leC (leC leZ)))))) ?_
      exact hS33 (a4, h4, y1, y, y3) ⟨ha4, z0, z1⟩
  refine WA.lets (f0 := 9) (l0 := #[false, false, true, true, true, true, true, true, false, true, true, true, false, false, false, false, false, false]) (fun z : Nat × Int × Int × Int × Int => ⟨lst [(2, .p 1 [] 0), (3, .p 2 [] 0), (7, .p 4 [] 0), (8, .p 5 [] 0), (21, .i .i64 z.2.2.1), (22, .p 3 [] 0), (23, .p 5 [0] 0), (27, .i .i64 (z.2.2.2.1.tdiv 23))], [.ro len 1 (byF g), .var dz, .var dz, .var (srcD len g z.1 z.2.1), .var (ds_ n b w), .var (ds_ n' b' w')]⟩) (fun z => z.1 ≤ len ∧ 0 ≤ z.2.2.2.1 ∧ z.2.2.2.1 < 24) ?_ (fun hS35 => ?_)
  · rintro ⟨a1, h1, y1, y2, y3⟩ ⟨ha1, hy, hy9⟩
    dsimp only at ha1 hy hy9
    dsimp only
    have hq := q23 hy hy9
    refine w3 0 1 8 ?_ ?_ ?_
    · refine wq ?_
      refine wC [0, 1, 2, 3, 4, 5] [(2, .p 1 [] 0), (3, .p 2 [] 0), (7, .p 4 [] 0), (8, .p 5 [] 0), (16, ds_ n b w), (21, .i .i64 y1), (22, .p 3 [] 0), (23, .p 5 [0] 0), (27, .i .i64 (y2.tdiv 23))] [.ro len 1 (byF g), .var dz, .var dz, .var (srcD len g a1 h1), .var (ds_ n b w), .var (ds_ n' b' w')] (leC (leC (leC (leC (leC (leC leZ)))))) ?_
      exact hS17 (a1, h1, y1, y2, y3) ⟨ha1, hy, hy9⟩
    · refine wq ?_
      refine wC [0, 1, 2, 3, 4, 5] [(2, .p 1 [] 0), (3, .p 2 [] 0), (7, .p 4 [] 0), (8, .p 5 [] 0), (17, ds_ n' b' w'), (21, .i .i64 y1), (22, .p 3 [] 0), (23, .p 5 [0] 0), (27, .i .i64 (y2.tdiv 23))] [.ro len 1 (byF g), .var dz, .var dz, .var (srcD len g a1 h1), .var (ds_ n b w), .var (ds_ n' b' w')] (leC (leC (leC (leC (leC (leC leZ)))))) ?_
      exact hS26 (a1, h1, y1, y2, y3) ⟨ha1, hy, hy9⟩
    · refine wq ?_
      refine WA.takesD T false tok [12] (f' := 7) (by kernel_rfl) (by rfl) (by rfl) (by exact byObl) (by rfl) (by rfl) ?_
      refine wC [0, 1, 2, 3, 4, 5] [(2, .p 1 [] 0), (3, .p 2 [] 0), (7, .p 4 [] 0), (8, .p 5 [] 0), (21, .i .i64 y1), (22, .p 3 [] 0), (28, .i .i64 (n' + y2.tdiv 23))] [.ro len 1 (byF g), .var dz, .var dz, .var (srcD len g a1 h1), .var (ds_ n b w), .var (ds_ n' b' w')] (leC (leC (leC (leC (leC (leC leZ)))))) ?_
      exact hS33 (a1, h1, y1, y2, y3) ⟨ha1, hy, hy9⟩
  refine WA.lets (f0 := 11) (l0 := #[false, false, true, true, true, true, true, true, false, true, false, false, false, false, false, false, false, false]) (fun z : Nat × Int × Int × Int × Int => ⟨lst [(2, .p 1 [] 0), (3, .p 2 [] 0), (7, .p 4 [] 0), (8, .p 5 [] 0), (21, .i .i64 z.2.2.1), (22, .p 3 [] 0), (23, .p 5 [0] 0), (25, .p 3 [] 0)], [.ro len 1 (byF g), .var dz, .var dz, .var (srcD len g z.1 z.2.1), .var (ds_ n b w), .var (ds_ n' b' w')]⟩) (fun z => z.1 ≤ len ∧ 0 ≤ z.2.2.2.1 ∧ z.2.2.2.1 < 24) ?_ (fun hS36 => ?_)
  · rintro ⟨a1, h1, y1, y2, y3⟩ ⟨ha1, hy, hy9⟩
    dsimp only at ha1 hy hy9
    dsimp only
    have hq := q23 hy hy9
    refine WA.allTE [0, 1, 8, 10] (by kernel_rfl) (by simp) ?_
    refine List.forall_mem_cons.2 ⟨?_, List.forall_mem_cons.2 ⟨?_, List.forall_mem_cons.2 ⟨?_, List.forall_mem_cons.2 ⟨?_, fun _ h => (by cases h)⟩⟩⟩⟩
    · refine wq ?_
      refine wC [0, 1, 2, 3, 4, 5] [(2, .p 1 [] 0), (3, .p 2 [] 0), (7, .p 4 [] 0), (8, .p 5 [] 0), (16, ds_ n b w), (21, .i .i64 y1), (22, .p 3 [] 0), (23, .p 5 [0] 0), (25, .p 3 [] 0)] [.ro len 1 (byF g), .var dz, .var dz, .var (srcD len g a1 h1), .var (ds_ n b w), .var (ds_ n' b' w')] (leC (leC (leC (leC (leC (leC leZ)))))) ?_
      exact hS18 (a1, h1, y1, y2, y3) ⟨ha1, hy, hy9⟩
    · refine wq ?_
      refine wC [0, 1, 2, 3, 4, 5] [(2, .p 1 [] 0), (3, .p 2 [] 0), (7, .p 4 [] 0), (8, .p 5 [] 0), (17, ds_ n' b' w'), (21, .i .i64 y1), (22, .p 3 [] 0), (23, .p 5 [0] 0), (25, .p 3 [] 0)] [.ro len 1 (byF g), .var dz, .var dz, .var (srcD len g a1 h1), .var (ds_ n b w), .var (ds_ n' b' w')] (leC (leC (leC (leC (leC (leC leZ)))))) ?_
      exact hS27 (a1, h1, y1, y2, y3) ⟨ha1, hy, hy9⟩
    · refine wq ?_
      refine wC [0, 1, 2, 3, 4, 5] [(2, .p 1 [] 0), (3, .p 2 [] 0), (7, .p 4 [] 0), (8, .p 5 [] 0), (21, .i .i64 y1), (22, .p 3 [] 0), (24, .i .i64 n'), (25, .p 3 [] 0)] [.ro len 1 (byF g), .var dz, .var dz, .var (srcD len g a1 h1), .var (ds_ n b w), .var (ds_ n' b' w')] (leC (leC (leC (leC (leC (leC leZ)))))) ?_
      exact hS34 (a1, h1, y1, y2, y3) ⟨ha1, hy, hy9⟩
    · have hnx := l01Next_fn len g hg a1 h1 24 ha1 hl
      refine wNx (fun a' h' => [.ro len 1 (byF g), .var dz, .var dz, .var (srcD len g a' h'), .var (ds_ n b w), .var (ds_ n' b' w')]) hnx ?_
      intro y a4 h4 hz ha4
      obtain ⟨z0, z1⟩ := hz (by decide)
      have hq9 := q23 z0 z1
      refine WA.takesD T false tok [11] (f' := 9) (by kernel_rfl) (by rfl) (by rfl) (by exact byObl) (by rfl) (by rfl) ?_
      refine wC [0, 1, 2, 3, 4, 5] [(2, .p 1 [] 0), (3, .p 2 [] 0), (7, .p 4 [] 0), (8, .p 5 [] 0), (21, .i .i64 y1), (22, .p 3 [] 0), (23, .p 5 [0] 0), (27, .i .i64 (y.tdiv 23))] [.ro len 1 (byF g), .var dz, .var dz, .var (srcD len g a4 h4), .var (ds_ n b w), .var (ds_ n' b' w')] (leC (leC (leC (leC (leC (leC leZ)))))) ?_
      exact hS35 (a4, h4, y1, y, y3) ⟨ha4, z0, z1⟩
  refine WA.lets (f0 := 11) (l0 := #[false, false, true, true, true, false, true, true, true, true, false, false, false, false, false, false, false, false]) (fun z : Nat × Int × Int × Int × Int => ⟨lst [(2, .p 1 [] 0), (3, .p 2 [] 0), (7, .p 4 [] 0), (8, .p 5 [] 0), (18, .p 3 [] 0), (20, .i .i64 n), (22, .p 3 [] 0), (24, .i .i64 n'), (25, .p 3 [] 0)], [.ro len 1 (byF g), .var dz, .var dz, .var (srcD len g z.1 z.2.1), .var (ds_ n b w), .var (ds_ n' b' w')]⟩) (fun z => z.1 ≤ len ∧ 0 ≤ z.2.2.2.1 ∧ z.2.2.2.1 < 24) ?_ (fun hS37 => ?_)
  · rintro ⟨a1, h1, y1, y2, y3⟩ ⟨ha1, hy, hy9⟩
    dsimp only at ha1 hy hy9
    dsimp only
    have hq := q23 hy hy9
    refine w3 0 1 5 ?_ ?_ ?_
    · refine wq ?_
      refine wC [0, 1, 2, 3, 4, 5] [(2, .p 1 [] 0), (3, .p 2 [] 0), (7, .p 4 [] 0), (8, .p 5 [] 0), (16, ds_ n b w), (18, .p 3 [] 0), (20, .i .i64 n), (22, .p 3 [] 0), (24, .i .i64 n'), (25, .p 3 [] 0)] [.ro len 1 (byF g), .var dz, .var dz, .var (srcD len g a1 h1), .var (ds_ n b w), .var (ds_ n' b' w')] (leC (leC (leC (leC (leC (leC leZ)))))) ?_
      exact hS19 (a1, h1, y1, y2, y3) ⟨ha1, hy, hy9⟩
    · refine wq ?_
      refine wC [0, 1, 2, 3, 4, 5] [(2, .p 1 [] 0), (3, .p 2 [] 0), (7, .p 4 [] 0), (8, .p 5 [] 0), (17, ds_ n' b' w'), (18, .p 3 [] 0), (20, .i .i64 n), (22, .p 3 [] 0), (24, .i .i64 n'), (25, .p 3 [] 0)] [.ro len 1 (byF g), .var dz, .var dz, .var (srcD len g a1 h1), .var (ds_ n b w), .var (ds_ n' b' w')] (leC (leC (leC (leC (leC (leC leZ)))))) ?_
      exact hS28 (a1, h1, y1, y2, y3) ⟨ha1, hy, hy9⟩
    · have hnx := l01Next_fn len g hg a1 h1 n ha1 hl
      refine wNx (fun a' h' => [.ro len 1 (byF g), .var dz, .var dz, .var (srcD len g a' h'), .var (ds_ n b w), .var (ds_ n' b' w')]) hnx ?_
      intro y a4 h4 _ ha4
      refine wC [0, 1, 2, 3, 4, 5] [(2, .p 1 [] 0), (3, .p 2 [] 0), (7, .p 4 [] 0), (8, .p 5 [] 0), (21, .i .i64 y), (22, .p 3 [] 0), (24, .i .i64 n'), (25, .p 3 [] 0)] [.ro len 1 (byF g), .var dz, .var dz, .var (srcD len g a4 h4), .var (ds_ n b w), .var (ds_ n' b' w')] (leC (leC (leC (leC (leC (leC leZ)))))) ?_
      exact hS34 (a4, h4, y, y2, y3) ⟨ha4, hy, hy9⟩
  refine WA.lets (f0 := 12) (l0 := #[false, false, true, true, true, false, true, true, false, true, false, false, false, false, false, false, false, false]) (fun z : Nat × Int × Int × Int × Int => ⟨lst [(2, .p 1 [] 0), (3, .p 2 [] 0), (7, .p 4 [] 0), (8, .p 5 [] 0), (18, .p 3 [] 0), (20, .i .i64 n), (22, .p 3 [] 0), (23, .p 5 [0] 0), (25, .p 3 [] 0)], [.ro len 1 (byF g), .var dz, .var dz, .var (srcD len g z.1 z.2.1), .var (ds_ n b w), .var (ds_ n' b' w')]⟩) (fun z => z.1 ≤ len ∧ 0 ≤ z.2.2.2.1 ∧ z.2.2.2.1 < 24) ?_ (fun hS38 => ?_)
  · rintro ⟨a1, h1, y1, y2, y3⟩ ⟨ha1, hy, hy9⟩
    dsimp only at ha1 hy hy9
    dsimp only
    have hq := q23 hy hy9
    refine WA.allTE [0, 1, 5, 8] (by kernel_rfl) (by simp) ?_
    refine List.forall_mem_cons.2 ⟨?_, List.forall_mem_cons.2 ⟨?_, List.forall_mem_cons.2 ⟨?_, List.forall_mem_cons.2 ⟨?_, fun _ h => (by cases h)⟩⟩⟩⟩
    · refine wq ?_
      refine wC [0, 1, 2, 3, 4, 5] [(2, .p 1 [] 0), (3, .p 2 [] 0), (7, .p 4 [] 0), (8, .p 5 [] 0), (16, ds_ n b w), (18, .p 3 [] 0), (20, .i .i64 n), (22, .p 3 [] 0), (23, .p 5 [0] 0), (25, .p 3 [] 0)] [.ro len 1 (byF g), .var dz, .var dz, .var (srcD len g a1 h1), .var (ds_ n b w), .var (ds_ n' b' w')] (leC (leC (leC (leC (leC (leC leZ)))))) ?_
      exact hS20 (a1, h1, y1, y2, y3) ⟨ha1, hy, hy9⟩
    · refine wq ?_
      refine wC [0, 1, 2, 3, 4, 5] [(2, .p 1 [] 0), (3, .p 2 [] 0), (7, .p 4 [] 0), (8, .p 5 [] 0), (17, ds_ n' b' w'), (18, .p 3 [] 0), (20, .i .i64 n), (22, .p 3 [] 0), (23, .p 5 [0] 0), (25, .p 3 [] 0)] [.ro len 1 (byF g), .var dz, .var dz, .var (srcD len g a1 h1), .var (ds_ n b w), .var (ds_ n' b' w')] (leC (leC (leC (leC (leC (leC leZ)))))) ?_
      exact hS29 (a1, h1, y1, y2, y3) ⟨ha1, hy, hy9⟩
    · have hnx := l01Next_fn len g hg a1 h1 n ha1 hl
      refine wNx (fun a' h' => [.ro len 1 (byF g), .var dz, .var dz, .var (srcD len g a' h'), .var (ds_ n b w), .var (ds_ n' b' w')]) hnx ?_
      intro y a4 h4 _ ha4
      refine wC [0, 1, 2, 3, 4, 5] [(2, .p 1 [] 0), (3, .p 2 [] 0), (7, .p 4 [] 0), (8, .p 5 [] 0), (21, .i .i64 y), (22, .p 3 [] 0), (23, .p 5 [0] 0), (25, .p 3 [] 0)] [.ro len 1 (byF g), .var dz, .var dz, .var (srcD len g a4 h4), .var (ds_ n b w), .var (ds_ n' b' w')] (leC (leC (leC (leC (leC (leC leZ)))))) ?_
      exact hS36 (a4, h4, y, y2, y3) ⟨ha4, hy, hy9⟩
    · refine wq ?_
      refine wC [0, 1, 2, 3, 4, 5] [(2, .p 1 [] 0), (3, .p 2 [] 0), (7, .p 4 [] 0), (8, .p 5 [] 0), (18, .p 3 [] 0), (20, .i .i64 n), (22, .p 3 [] 0), (24, .i .i64 n'), (25, .p 3 [] 0)] [.ro len 1 (byF g), .var dz, .var dz, .var (srcD len g a1 h1), .var (ds_ n b w), .var (ds_ n' b' w')] (leC (leC (leC (leC (leC (leC leZ)))))) ?_
      exact hS37 (a1, h1, y1, y2, y3) ⟨ha1, hy, hy9⟩
  refine WA.lets (f0 := 12) (l0 := #[false, false, true, true, false, false, true, true, true, true, false, false, false, false, false, false, false, false]) (fun z : Nat × Int × Int × Int × Int => ⟨lst [(2, .p 1 [] 0), (3, .p 2 [] 0), (7, .p 4 [] 0), (8, .p 5 [] 0), (18, .p 3 [] 0), (19, .p 4 [0] 0), (22, .p 3 [] 0), (24, .i .i64 n'), (25, .p 3 [] 0)], [.ro len 1 (byF g), .var dz, .var dz, .var (srcD len g z.1 z.2.1), .var (ds_ n b w), .var (ds_ n' b' w')]⟩) (fun z => z.1 ≤ len ∧ 0 ≤ z.2.2.2.1 ∧ z.2.2.2.1 < 24) ?_ (fun hS39 => ?_)
  · rintro ⟨a1, h1, y1, y2, y3⟩ ⟨ha1, hy, hy9⟩
    dsimp only at ha1 hy hy9
    dsimp only
    have hq := q23 hy hy9
    refine w3 0 1 4 ?_ ?_ ?_
    · refine wq ?_
      refine wC [0, 1, 2, 3, 4, 5] [(2, .p 1 [] 0), (3, .p 2 [] 0), (7, .p 4 [] 0), (8, .p 5 [] 0), (16, ds_ n b w), (18, .p 3 [] 0), (19, .p 4 [0] 0), (22, .p 3 [] 0), (24, .i .i64 n'), (25, .p 3 [] 0)] [.ro len 1 (byF g), .var dz, .var dz, .var (srcD len g a1 h1), .var (ds_ n b w), .var (ds_ n' b' w')] (leC (leC (leC (leC (leC (leC leZ)))))) ?_
      exact hS21 (a1, h1, y1, y2, y3) ⟨ha1, hy, hy9⟩
    · refine wq ?_
      refine wC [0, 1, 2, 3, 4, 5] [(2, .p 1 [] 0), (3, .p 2 [] 0), (7, .p 4 [] 0), (8, .p 5 [] 0), (17, ds_ n' b' w'), (18, .p 3 [] 0), (19, .p 4 [0] 0), (22, .p 3 [] 0), (24, .i .i64 n'), (25, .p 3 [] 0)] [.ro len 1 (byF g), .var dz, .var dz, .var (srcD len g a1 h1), .var (ds_ n b w), .var (ds_ n' b' w')] (leC (leC (leC (leC (leC (leC leZ)))))) ?_
      exact hS30 (a1, h1, y1, y2, y3) ⟨ha1, hy, hy9⟩
    · refine wq ?_
      refine wC [0, 1, 2, 3, 4, 5] [(2, .p 1 [] 0), (3, .p 2 [] 0), (7, .p 4 [] 0), (8, .p 5 [] 0), (18, .p 3 [] 0), (20, .i .i64 n), (22, .p 3 [] 0), (24, .i .i64 n'), (25, .p 3 [] 0)] [.ro len 1 (byF g), .var dz, .var dz, .var (srcD len g a1 h1), .var (ds_ n b w), .var (ds_ n' b' w')] (leC (leC (leC (leC (leC (leC leZ)))))) ?_
      exact hS37 (a1, h1, y1, y2, y3) ⟨ha1, hy, hy9⟩
  refine WA.lets (f0 := 13) (l0 := #[false, false, true, true, false, false, true, true, false, true, false, false, false, false, false, false, false, false]) (fun z : Nat × Int × Int × Int × Int => ⟨lst [(2, .p 1 [] 0), (3, .p 2 [] 0), (7, .p 4 [] 0), (8, .p 5 [] 0), (18, .p 3 [] 0), (19, .p 4 [0] 0), (22, .p 3 [] 0), (23, .p 5 [0] 0), (25, .p 3 [] 0)], [.ro len 1 (byF g), .var dz, .var dz, .var (srcD len g z.1 z.2.1), .var (ds_ n b w), .var (ds_ n' b' w')]⟩) (fun z => z.1 ≤ len ∧ 0 ≤ z.2.2.2.1 ∧ z.2.2.2.1 < 24) ?_ (fun hS40 => ?_)
  · rintro ⟨a1, h1, y1, y2, y3⟩ ⟨ha1, hy, hy9⟩
    dsimp only at ha1 hy hy9
    dsimp only
    have hq := q23 hy hy9
    refine WA.allTE [0, 1, 4, 8] (by kernel_rfl) (by simp) ?_
    refine List.forall_mem_cons.2 ⟨?_, List.forall_mem_cons.2 ⟨?_, List.forall_mem_cons.2 ⟨?_, List.forall_mem_cons.2 ⟨?_, fun _ h => (by cases h)⟩⟩⟩⟩
    · refine wq ?_
      refine wC [0, 1, 2, 3, 4, 5] [(2, .p 1 [] 0), (3, .p 2 [] 0), (7, .p 4 [] 0), (8, .p 5 [] 0), (16, ds_ n b w), (18, .p 3 [] 0), (19, .p 4 [0] 0), (22, .p 3 [] 0), (23, .p 5 [0] 0), (25, .p 3 [] 0)] [.ro len 1 (byF g), .var dz, .var dz, .var (srcD len g a1 h1), .var (ds_ n b w), .var (ds_ n' b' w')] (leC (leC (leC (leC (leC (leC leZ)))))) ?_
      exact hS22 (a1, h1, y1, y2, y3) ⟨ha1, hy, hy9⟩
    · refine wq ?_
      refine wC [0, 1, 2, 3, 4, 5] [(2, .p 1 [] 0), (3, .p 2 [] 0), (7, .p 4 [] 0), (8, .p 5 [] 0), (17, ds_ n' b' w'), (18, .p 3 [] 0), (19, .p 4 [0] 0), (22, .p 3 [] 0), (23, .p 5 [0] 0), (25, .p 3 [] 0)] [.ro len 1 (byF g), .var dz, .var dz, .var (srcD len g a1 h1), .var (ds_ n b w), .var (ds_ n' b' w')] (leC (leC (leC (leC (leC (leC leZ)))))) ?_
      exact hS31 (a1, h1, y1, y2, y3) ⟨ha1, hy, hy9⟩
    · refine wq ?_
      refine wC [0, 1, 2, 3, 4, 5] [(2, .p 1 [] 0), (3, .p 2 [] 0), (7, .p 4 [] 0), (8, .p 5 [] 0), (18, .p 3 [] 0), (20, .i .i64 n), (22, .p 3 [] 0), (23, .p 5 [0] 0), (25, .p 3 [] 0)] [.ro len 1 (byF g), .var dz, .var dz, .var (srcD len g a1 h1), .var (ds_ n b w), .var (ds_ n' b' w')] (leC (leC (leC (leC (leC (leC leZ)))))) ?_
      exact hS38 (a1, h1, y1, y2, y3) ⟨ha1, hy, hy9⟩
    · refine wq ?_
      refine wC [0, 1, 2, 3, 4, 5] [(2, .p 1 [] 0), (3, .p 2 [] 0), (7, .p 4 [] 0), (8, .p 5 [] 0), (18, .p 3 [] 0), (19, .p 4 [0] 0), (22, .p 3 [] 0), (24, .i .i64 n'), (25, .p 3 [] 0)] [.ro len 1 (byF g), .var dz, .var dz, .var (srcD len g a1 h1), .var (ds_ n b w), .var (ds_ n' b' w')] (leC (leC (leC (leC (leC (leC leZ)))))) ?_
      exact hS39 (a1, h1, y1, y2, y3) ⟨ha1, hy, hy9⟩
  refine WA.takesD T false tok [2, 3, 6, 7, 9] (f' := 13) (by kernel_rfl) (by rfl) (by rfl) (by exact byObl) (by rfl) (by rfl) ?_
  refine wC [0, 1, 2, 3, 4, 5] [(2, .p 1 [] 0), (3, .p 2 [] 0), (7, .p 4 [] 0), (8, .p 5 [] 0), (18, .p 3 [] 0), (19, .p 4 [0] 0), (22, .p 3 [] 0), (23, .p 5 [0] 0), (25, .p 3 [] 0)] [.ro len 1 (byF g), .var dz, .var dz, .var (srcD len g 0 h1), .var (ds_ n b w), .var (ds_ n' b' w')] (leC (leC (leC (leC (leC (leC leZ)))))) ?_
  exact hS40 (0, h1, 0, 0, 0) ⟨Nat.zero_le _, Int.le_refl 0, (by show (0 : Int) < 24; omega)⟩
end Go.Proofs.Ythjnmlpibafbnaa
