import Derived.Test.YtaafldclbdlgfaaX121
/- Types of elements: the reference's side, the region that makes the rows. Printed by tools/gen120.py. -/
namespace Go.Proofs.Ytaafldclbdlgfaa
open Go.RowKit DM
set_option linter.unusedSimpArgs false
set_option linter.unusedVariables false
set_option maxRecDepth 100000
set_option maxHeartbeats 1000000

set_option maxHeartbeats 20000000 in
theorem reg6 {N : Nat} {b w : Nat → Nat} {C : Chn} {E : List (Nat → Nat)} (hN : N ≤ 16) (hE5 : E.length ≤ 5000) (hall : FnS Try.prog 39 [.p 0 [] 0, .i .i64 ((N : Int) - 1), pl (fillF (fun i => i) N), .ns] [.var (chn N C)] fun r m' => r = .sl 1 0 E.length 16 ∧ m' = [.var (chn N C), .row 25 E.length 16 (rowP E)]) : ∀ {Q : Exit → St → Prop}, WP Try.prog Try.f12.ntmps 0 (regF Try.f12 6) (Then (fun s' => Ghost 0 s' ⟨lst [(1, .p 0 [] 0), (6, .sl 1 0 E.length 16), (7, .sl 2 0 0 1), (8, .sl 3 0 0 1)], [.var (ds_ N b w), .ro E.length 16 (rowP E), .row 34 0 1 (rowsR []), .row 2 0 1 (numsF [])]⟩) Q) ⟨lst [(1, .p 0 [] 0), (5, .p 1 [] 0)], [.var (ds_ N b w), .var (chn N C)]⟩ := by
  have hSc : ∀ (k e n : Nat) (L : List (Nat → Nat)), Sc k (.ow e n 16 (rowP L)) := fun k _ _ L j _ => sc_row k L j
  conv in (regF _ _) => whnf
  intro Q
  refine WP.da (by kernel_rfl) 7 (by kernel_rfl) ?_
  refine WA.takesD T false tok [0, 1, 4] (f' := 10) (by kernel_rfl) (by rfl) (by rfl) (by exact byObl) (by rfl) (by rfl) ?_
  refine WA.allT [2, 5, 8, 9] (by kernel_rfl) (by simp) ?_; intro i' hi'; simp only [List.mem_cons, List.not_mem_nil, or_false] at hi'
  rcases hi' with rfl | rfl | rfl | rfl
  · refine ⟨_, _, _, rfl, by rfl, by rfl, .inl (MK.q (evalOp_q tok (wm := false) (by rfl) (by rfl) (by exact byObl))), ?_⟩
    refine WA.takesD T false tok [3] (f' := 8) (by kernel_rfl) (by rfl) (by rfl) (by exact byObl) (by rfl) (by rfl) ?_
    refine WA.allT [5, 8, 9] (by kernel_rfl) (by simp) ?_; intro i' hi'; simp only [List.mem_cons, List.not_mem_nil, or_false] at hi'
    rcases hi' with rfl | rfl | rfl
    · refine ⟨_, _, _, rfl, by rfl, by rfl, .inl (MK.q (evalOp_q tok (wm := false) (by rfl) (by rfl) (by exact byObl))), ?_⟩
      refine WA.allT [6, 8, 9] (by kernel_rfl) (by simp) ?_; intro i' hi'; simp only [List.mem_cons, List.not_mem_nil, or_false] at hi'
      rcases hi' with rfl | rfl | rfl
      · refine ⟨_, _, _, rfl, by rfl, by rfl, .inl (MK.callP (l01Same_fn N hN) (by rfl) (by simp [Sc, sc_pl, sc_ds, pl_ne, ds_ne])), ?_⟩
        refine WA.allT [7, 8, 9] (by kernel_rfl) (by simp) ?_; intro i' hi'; simp only [List.mem_cons, List.not_mem_nil, or_false] at hi'
        rcases hi' with rfl | rfl | rfl
        · refine ⟨_, _, _, rfl, by rfl, by rfl, .inr ⟨by decide, TK.callN [1] (.sl 2 0 E.length 16) (hall) (LeAll.cons (by rfl) (by first | with_reducible exact Root.Le.refl _ | with_reducible exact le_dead | (skip; done) | exact byLeq) (by exact byCon) (trivial)) (by rfl) (by rfl) (by exact byArgs) (by simp [Sc, sc_pl, sc_ds]) (by exact byAllc) (by rfl) (by exact bySc) rfl⟩, ?_⟩
          refine WA.takesD T false tok [10] (f' := 4) (by kernel_rfl) (by rfl) (by rfl) (by exact byObl) (by rfl) (by rfl) ?_
          refine WA.allT [8, 9] (by kernel_rfl) (by simp) ?_; intro i' hi'; simp only [List.mem_cons, List.not_mem_nil, or_false] at hi'
          rcases hi' with rfl | rfl
          · refine ⟨_, _, _, rfl, by rfl, by rfl, .inl (MK.of tok (wm := false) (by rfl) (by exact byObl) (by rfl) (by exact byObl)), ?_⟩
            refine WA.takesD T false tok [11] (f' := 2) (by kernel_rfl) (by rfl) (by rfl) (by exact byObl) (by rfl) (by rfl) ?_
            refine WA.allT [9] (by kernel_rfl) (by simp) ?_; intro i' hi'; simp only [List.mem_cons, List.not_mem_nil, or_false] at hi'
            subst hi'
            refine ⟨_, _, _, rfl, by rfl, by rfl, .inl (MK.of tok (wm := false) (by rfl) (by exact byObl) (by rfl) (by exact byObl)), ?_⟩
            refine WA.takesD T false tok [12] (f' := 0) (by kernel_rfl) (by rfl) (by rfl) (by exact byObl) (by rfl) (by rfl) ?_
            refine WA.end rfl (by kernel_rfl) (noPan ?_)
            exact cut6 2 3 4 rfl rfl rfl rfl rfl rfl rfl rfl rfl
          · refine ⟨_, _, _, rfl, by rfl, by rfl, .inl (MK.of tok (wm := false) (by rfl) (by exact byObl) (by rfl) (by exact byObl)), ?_⟩
            refine WA.allT [8] (by kernel_rfl) (by simp) ?_; intro i' hi'; simp only [List.mem_cons, List.not_mem_nil, or_false] at hi'
            subst hi'
            refine ⟨_, _, _, rfl, by rfl, by rfl, .inl (MK.of tok (wm := false) (by rfl) (by exact byObl) (by rfl) (by exact byObl)), ?_⟩
            refine WA.takesD T false tok [11, 12] (f' := 0) (by kernel_rfl) (by rfl) (by rfl) (by exact byObl) (by rfl) (by rfl) ?_
            refine WA.end rfl (by kernel_rfl) (noPan ?_)
            exact cut6 2 4 3 rfl rfl rfl rfl rfl rfl rfl rfl rfl
        · refine ⟨_, _, _, rfl, by rfl, by rfl, .inl (MK.of tok (wm := false) (by rfl) (by exact byObl) (by rfl) (by exact byObl)), ?_⟩
          refine WA.allT [7, 9] (by kernel_rfl) (by simp) ?_; intro i' hi'; simp only [List.mem_cons, List.not_mem_nil, or_false] at hi'
          rcases hi' with rfl | rfl
          · refine ⟨_, _, _, rfl, by rfl, by rfl, .inr ⟨by decide, TK.callN [1] (.sl 3 0 E.length 16) (hall) (LeAll.cons (by rfl) (by first | with_reducible exact Root.Le.refl _ | with_reducible exact le_dead | (skip; done) | exact byLeq) (by exact byCon) (trivial)) (by rfl) (by rfl) (by exact byArgs) (by simp [Sc, sc_pl, sc_ds]) (by exact byAllc) (by rfl) (by exact bySc) rfl⟩, ?_⟩
            refine WA.takesD T false tok [10, 11] (f' := 2) (by kernel_rfl) (by rfl) (by rfl) (by exact byObl) (by rfl) (by rfl) ?_
            refine WA.allT [9] (by kernel_rfl) (by simp) ?_; intro i' hi'; simp only [List.mem_cons, List.not_mem_nil, or_false] at hi'
            subst hi'
            refine ⟨_, _, _, rfl, by rfl, by rfl, .inl (MK.of tok (wm := false) (by rfl) (by exact byObl) (by rfl) (by exact byObl)), ?_⟩
            refine WA.takesD T false tok [12] (f' := 0) (by kernel_rfl) (by rfl) (by rfl) (by exact byObl) (by rfl) (by rfl) ?_
            refine WA.end rfl (by kernel_rfl) (noPan ?_)
            exact cut6 3 2 4 rfl rfl rfl rfl rfl rfl rfl rfl rfl
          · refine ⟨_, _, _, rfl, by rfl, by rfl, .inl (MK.of tok (wm := false) (by rfl) (by exact byObl) (by rfl) (by exact byObl)), ?_⟩
            refine WA.allT [7] (by kernel_rfl) (by simp) ?_; intro i' hi'; simp only [List.mem_cons, List.not_mem_nil, or_false] at hi'
            subst hi'
            refine ⟨_, _, _, rfl, by rfl, by rfl, .inr ⟨by decide, TK.callN [1] (.sl 4 0 E.length 16) (hall) (LeAll.cons (by rfl) (by first | with_reducible exact Root.Le.refl _ | with_reducible exact le_dead | (skip; done) | exact byLeq) (by exact byCon) (trivial)) (by rfl) (by rfl) (by exact byArgs) (by simp [Sc, sc_pl, sc_ds]) (by exact byAllc) (by rfl) (by exact bySc) rfl⟩, ?_⟩
            refine WA.takesD T false tok [10, 11, 12] (f' := 0) (by kernel_rfl) (by rfl) (by rfl) (by exact byObl) (by rfl) (by rfl) ?_
            refine WA.end rfl (by kernel_rfl) (noPan ?_)
            exact cut6 4 2 3 rfl rfl rfl rfl rfl rfl rfl rfl rfl
        · refine ⟨_, _, _, rfl, by rfl, by rfl, .inl (MK.of tok (wm := false) (by rfl) (by exact byObl) (by rfl) (by exact byObl)), ?_⟩
          refine WA.allT [7, 8] (by kernel_rfl) (by simp) ?_; intro i' hi'; simp only [List.mem_cons, List.not_mem_nil, or_false] at hi'
          rcases hi' with rfl | rfl
          · refine ⟨_, _, _, rfl, by rfl, by rfl, .inr ⟨by decide, TK.callN [1] (.sl 3 0 E.length 16) (hall) (LeAll.cons (by rfl) (by first | with_reducible exact Root.Le.refl _ | with_reducible exact le_dead | (skip; done) | exact byLeq) (by exact byCon) (trivial)) (by rfl) (by rfl) (by exact byArgs) (by simp [Sc, sc_pl, sc_ds]) (by exact byAllc) (by rfl) (by exact bySc) rfl⟩, ?_⟩
            refine WA.takesD T false tok [10] (f' := 3) (by kernel_rfl) (by rfl) (by rfl) (by exact byObl) (by rfl) (by rfl) ?_
            refine WA.allT [8] (by kernel_rfl) (by simp) ?_; intro i' hi'; simp only [List.mem_cons, List.not_mem_nil, or_false] at hi'
            subst hi'
            refine ⟨_, _, _, rfl, by rfl, by rfl, .inl (MK.of tok (wm := false) (by rfl) (by exact byObl) (by rfl) (by exact byObl)), ?_⟩
            refine WA.takesD T false tok [11, 12] (f' := 0) (by kernel_rfl) (by rfl) (by rfl) (by exact byObl) (by rfl) (by rfl) ?_
            refine WA.end rfl (by kernel_rfl) (noPan ?_)
            exact cut6 3 4 2 rfl rfl rfl rfl rfl rfl rfl rfl rfl
          · refine ⟨_, _, _, rfl, by rfl, by rfl, .inl (MK.of tok (wm := false) (by rfl) (by exact byObl) (by rfl) (by exact byObl)), ?_⟩
            refine WA.allT [7] (by kernel_rfl) (by simp) ?_; intro i' hi'; simp only [List.mem_cons, List.not_mem_nil, or_false] at hi'
            subst hi'
            refine ⟨_, _, _, rfl, by rfl, by rfl, .inr ⟨by decide, TK.callN [1] (.sl 4 0 E.length 16) (hall) (LeAll.cons (by rfl) (by first | with_reducible exact Root.Le.refl _ | with_reducible exact le_dead | (skip; done) | exact byLeq) (by exact byCon) (trivial)) (by rfl) (by rfl) (by exact byArgs) (by simp [Sc, sc_pl, sc_ds]) (by exact byAllc) (by rfl) (by exact bySc) rfl⟩, ?_⟩
            refine WA.takesD T false tok [10, 11, 12] (f' := 0) (by kernel_rfl) (by rfl) (by rfl) (by exact byObl) (by rfl) (by rfl) ?_
            refine WA.end rfl (by kernel_rfl) (noPan ?_)
            exact cut6 4 3 2 rfl rfl rfl rfl rfl rfl rfl rfl rfl
      · refine ⟨_, _, _, rfl, by rfl, by rfl, .inl (MK.of tok (wm := false) (by rfl) (by exact byObl) (by rfl) (by exact byObl)), ?_⟩
        refine WA.allT [6, 9] (by kernel_rfl) (by simp) ?_; intro i' hi'; simp only [List.mem_cons, List.not_mem_nil, or_false] at hi'
        rcases hi' with rfl | rfl
        · refine ⟨_, _, _, rfl, by rfl, by rfl, .inl (MK.callP (l01Same_fn N hN) (by rfl) (by simp [Sc, sc_pl, sc_ds, pl_ne, ds_ne])), ?_⟩
          refine WA.allT [7, 9] (by kernel_rfl) (by simp) ?_; intro i' hi'; simp only [List.mem_cons, List.not_mem_nil, or_false] at hi'
          rcases hi' with rfl | rfl
          · refine ⟨_, _, _, rfl, by rfl, by rfl, .inr ⟨by decide, TK.callN [1] (.sl 3 0 E.length 16) (hall) (LeAll.cons (by rfl) (by first | with_reducible exact Root.Le.refl _ | with_reducible exact le_dead | (skip; done) | exact byLeq) (by exact byCon) (trivial)) (by rfl) (by rfl) (by exact byArgs) (by simp [Sc, sc_pl, sc_ds]) (by exact byAllc) (by rfl) (by exact bySc) rfl⟩, ?_⟩
            refine WA.takesD T false tok [10, 11] (f' := 2) (by kernel_rfl) (by rfl) (by rfl) (by exact byObl) (by rfl) (by rfl) ?_
            refine WA.allT [9] (by kernel_rfl) (by simp) ?_; intro i' hi'; simp only [List.mem_cons, List.not_mem_nil, or_false] at hi'
            subst hi'
            refine ⟨_, _, _, rfl, by rfl, by rfl, .inl (MK.of tok (wm := false) (by rfl) (by exact byObl) (by rfl) (by exact byObl)), ?_⟩
            refine WA.takesD T false tok [12] (f' := 0) (by kernel_rfl) (by rfl) (by rfl) (by exact byObl) (by rfl) (by rfl) ?_
            refine WA.end rfl (by kernel_rfl) (noPan ?_)
            exact cut6 3 2 4 rfl rfl rfl rfl rfl rfl rfl rfl rfl
          · refine ⟨_, _, _, rfl, by rfl, by rfl, .inl (MK.of tok (wm := false) (by rfl) (by exact byObl) (by rfl) (by exact byObl)), ?_⟩
            refine WA.allT [7] (by kernel_rfl) (by simp) ?_; intro i' hi'; simp only [List.mem_cons, List.not_mem_nil, or_false] at hi'
            subst hi'
            refine ⟨_, _, _, rfl, by rfl, by rfl, .inr ⟨by decide, TK.callN [1] (.sl 4 0 E.length 16) (hall) (LeAll.cons (by rfl) (by first | with_reducible exact Root.Le.refl _ | with_reducible exact le_dead | (skip; done) | exact byLeq) (by exact byCon) (trivial)) (by rfl) (by rfl) (by exact byArgs) (by simp [Sc, sc_pl, sc_ds]) (by exact byAllc) (by rfl) (by exact bySc) rfl⟩, ?_⟩
            refine WA.takesD T false tok [10, 11, 12] (f' := 0) (by kernel_rfl) (by rfl) (by rfl) (by exact byObl) (by rfl) (by rfl) ?_
            refine WA.end rfl (by kernel_rfl) (noPan ?_)
            exact cut6 4 2 3 rfl rfl rfl rfl rfl rfl rfl rfl rfl
        · refine ⟨_, _, _, rfl, by rfl, by rfl, .inl (MK.of tok (wm := false) (by rfl) (by exact byObl) (by rfl) (by exact byObl)), ?_⟩
          refine WA.allT [6] (by kernel_rfl) (by simp) ?_; intro i' hi'; simp only [List.mem_cons, List.not_mem_nil, or_false] at hi'
          subst hi'
          refine ⟨_, _, _, rfl, by rfl, by rfl, .inl (MK.callP (l01Same_fn N hN) (by rfl) (by simp [Sc, sc_pl, sc_ds, pl_ne, ds_ne])), ?_⟩
          refine WA.allT [7] (by kernel_rfl) (by simp) ?_; intro i' hi'; simp only [List.mem_cons, List.not_mem_nil, or_false] at hi'
          subst hi'
          refine ⟨_, _, _, rfl, by rfl, by rfl, .inr ⟨by decide, TK.callN [1] (.sl 4 0 E.length 16) (hall) (LeAll.cons (by rfl) (by first | with_reducible exact Root.Le.refl _ | with_reducible exact le_dead | (skip; done) | exact byLeq) (by exact byCon) (trivial)) (by rfl) (by rfl) (by exact byArgs) (by simp [Sc, sc_pl, sc_ds]) (by exact byAllc) (by rfl) (by exact bySc) rfl⟩, ?_⟩
          refine WA.takesD T false tok [10, 11, 12] (f' := 0) (by kernel_rfl) (by rfl) (by rfl) (by exact byObl) (by rfl) (by rfl) ?_
          refine WA.end rfl (by kernel_rfl) (noPan ?_)
          exact cut6 4 2 3 rfl rfl rfl rfl rfl rfl rfl rfl rfl
      · refine ⟨_, _, _, rfl, by rfl, by rfl, .inl (MK.of tok (wm := false) (by rfl) (by exact byObl) (by rfl) (by exact byObl)), ?_⟩
        refine WA.allT [6, 8] (by kernel_rfl) (by simp) ?_; intro i' hi'; simp only [List.mem_cons, List.not_mem_nil, or_false] at hi'
        rcases hi' with rfl | rfl
        · refine ⟨_, _, _, rfl, by rfl, by rfl, .inl (MK.callP (l01Same_fn N hN) (by rfl) (by simp [Sc, sc_pl, sc_ds, pl_ne, ds_ne])), ?_⟩
          refine WA.allT [7, 8] (by kernel_rfl) (by simp) ?_; intro i' hi'; simp only [List.mem_cons, List.not_mem_nil, or_false] at hi'
          rcases hi' with rfl | rfl
          · refine ⟨_, _, _, rfl, by rfl, by rfl, .inr ⟨by decide, TK.callN [1] (.sl 3 0 E.length 16) (hall) (LeAll.cons (by rfl) (by first | with_reducible exact Root.Le.refl _ | with_reducible exact le_dead | (skip; done) | exact byLeq) (by exact byCon) (trivial)) (by rfl) (by rfl) (by exact byArgs) (by simp [Sc, sc_pl, sc_ds]) (by exact byAllc) (by rfl) (by exact bySc) rfl⟩, ?_⟩
            refine WA.takesD T false tok [10] (f' := 3) (by kernel_rfl) (by rfl) (by rfl) (by exact byObl) (by rfl) (by rfl) ?_
            refine WA.allT [8] (by kernel_rfl) (by simp) ?_; intro i' hi'; simp only [List.mem_cons, List.not_mem_nil, or_false] at hi'
            subst hi'
            refine ⟨_, _, _, rfl, by rfl, by rfl, .inl (MK.of tok (wm := false) (by rfl) (by exact byObl) (by rfl) (by exact byObl)), ?_⟩
            refine WA.takesD T false tok [11, 12] (f' := 0) (by kernel_rfl) (by rfl) (by rfl) (by exact byObl) (by rfl) (by rfl) ?_
            refine WA.end rfl (by kernel_rfl) (noPan ?_)
            exact cut6 3 4 2 rfl rfl rfl rfl rfl rfl rfl rfl rfl
          · refine ⟨_, _, _, rfl, by rfl, by rfl, .inl (MK.of tok (wm := false) (by rfl) (by exact byObl) (by rfl) (by exact byObl)), ?_⟩
            refine WA.allT [7] (by kernel_rfl) (by simp) ?_; intro i' hi'; simp only [List.mem_cons, List.not_mem_nil, or_false] at hi'
            subst hi'
            refine ⟨_, _, _, rfl, by rfl, by rfl, .inr ⟨by decide, TK.callN [1] (.sl 4 0 E.length 16) (hall) (LeAll.cons (by rfl) (by first | with_reducible exact Root.Le.refl _ | with_reducible exact le_dead | (skip; done) | exact byLeq) (by exact byCon) (trivial)) (by rfl) (by rfl) (by exact byArgs) (by simp [Sc, sc_pl, sc_ds]) (by exact byAllc) (by rfl) (by exact bySc) rfl⟩, ?_⟩
            refine WA.takesD T false tok [10, 11, 12] (f' := 0) (by kernel_rfl) (by rfl) (by rfl) (by exact byObl) (by rfl) (by rfl) ?_
            refine WA.end rfl (by kernel_rfl) (noPan ?_)
            exact cut6 4 3 2 rfl rfl rfl rfl rfl rfl rfl rfl rfl
        · refine ⟨_, _, _, rfl, by rfl, by rfl, .inl (MK.of tok (wm := false) (by rfl) (by exact byObl) (by rfl) (by exact byObl)), ?_⟩
          refine WA.allT [6] (by kernel_rfl) (by simp) ?_; intro i' hi'; simp only [List.mem_cons, List.not_mem_nil, or_false] at hi'
          subst hi'
          refine ⟨_, _, _, rfl, by rfl, by rfl, .inl (MK.callP (l01Same_fn N hN) (by rfl) (by simp [Sc, sc_pl, sc_ds, pl_ne, ds_ne])), ?_⟩
          refine WA.allT [7] (by kernel_rfl) (by simp) ?_; intro i' hi'; simp only [List.mem_cons, List.not_mem_nil, or_false] at hi'
          subst hi'
          refine ⟨_, _, _, rfl, by rfl, by rfl, .inr ⟨by decide, TK.callN [1] (.sl 4 0 E.length 16) (hall) (LeAll.cons (by rfl) (by first | with_reducible exact Root.Le.refl _ | with_reducible exact le_dead | (skip; done) | exact byLeq) (by exact byCon) (trivial)) (by rfl) (by rfl) (by exact byArgs) (by simp [Sc, sc_pl, sc_ds]) (by exact byAllc) (by rfl) (by exact bySc) rfl⟩, ?_⟩
          refine WA.takesD T false tok [10, 11, 12] (f' := 0) (by kernel_rfl) (by rfl) (by rfl) (by exact byObl) (by rfl) (by rfl) ?_
          refine WA.end rfl (by kernel_rfl) (noPan ?_)
          exact cut6 4 3 2 rfl rfl rfl rfl rfl rfl rfl rfl rfl
    · refine ⟨_, _, _, rfl, by rfl, by rfl, .inl (MK.of tok (wm := false) (by rfl) (by exact byObl) (by rfl) (by exact byObl)), ?_⟩
      refine WA.allT [5, 9] (by kernel_rfl) (by simp) ?_; intro i' hi'; simp only [List.mem_cons, List.not_mem_nil, or_false] at hi'
      rcases hi' with rfl | rfl
      · refine ⟨_, _, _, rfl, by rfl, by rfl, .inl (MK.q (evalOp_q tok (wm := false) (by rfl) (by rfl) (by exact byObl))), ?_⟩
        refine WA.allT [6, 9] (by kernel_rfl) (by simp) ?_; intro i' hi'; simp only [List.mem_cons, List.not_mem_nil, or_false] at hi'
        rcases hi' with rfl | rfl
        · refine ⟨_, _, _, rfl, by rfl, by rfl, .inl (MK.callP (l01Same_fn N hN) (by rfl) (by simp [Sc, sc_pl, sc_ds, pl_ne, ds_ne])), ?_⟩
          refine WA.allT [7, 9] (by kernel_rfl) (by simp) ?_; intro i' hi'; simp only [List.mem_cons, List.not_mem_nil, or_false] at hi'
          rcases hi' with rfl | rfl
          · refine ⟨_, _, _, rfl, by rfl, by rfl, .inr ⟨by decide, TK.callN [1] (.sl 3 0 E.length 16) (hall) (LeAll.cons (by rfl) (by first | with_reducible exact Root.Le.refl _ | with_reducible exact le_dead | (skip; done) | exact byLeq) (by exact byCon) (trivial)) (by rfl) (by rfl) (by exact byArgs) (by simp [Sc, sc_pl, sc_ds]) (by exact byAllc) (by rfl) (by exact bySc) rfl⟩, ?_⟩
            refine WA.takesD T false tok [10, 11] (f' := 2) (by kernel_rfl) (by rfl) (by rfl) (by exact byObl) (by rfl) (by rfl) ?_
            refine WA.allT [9] (by kernel_rfl) (by simp) ?_; intro i' hi'; simp only [List.mem_cons, List.not_mem_nil, or_false] at hi'
            subst hi'
            refine ⟨_, _, _, rfl, by rfl, by rfl, .inl (MK.of tok (wm := false) (by rfl) (by exact byObl) (by rfl) (by exact byObl)), ?_⟩
            refine WA.takesD T false tok [12] (f' := 0) (by kernel_rfl) (by rfl) (by rfl) (by exact byObl) (by rfl) (by rfl) ?_
            refine WA.end rfl (by kernel_rfl) (noPan ?_)
            exact cut6 3 2 4 rfl rfl rfl rfl rfl rfl rfl rfl rfl
          · refine ⟨_, _, _, rfl, by rfl, by rfl, .inl (MK.of tok (wm := false) (by rfl) (by exact byObl) (by rfl) (by exact byObl)), ?_⟩
            refine WA.allT [7] (by kernel_rfl) (by simp) ?_; intro i' hi'; simp only [List.mem_cons, List.not_mem_nil, or_false] at hi'
            subst hi'
            refine ⟨_, _, _, rfl, by rfl, by rfl, .inr ⟨by decide, TK.callN [1] (.sl 4 0 E.length 16) (hall) (LeAll.cons (by rfl) (by first | with_reducible exact Root.Le.refl _ | with_reducible exact le_dead | (skip; done) | exact byLeq) (by exact byCon) (trivial)) (by rfl) (by rfl) (by exact byArgs) (by simp [Sc, sc_pl, sc_ds]) (by exact byAllc) (by rfl) (by exact bySc) rfl⟩, ?_⟩
            refine WA.takesD T false tok [10, 11, 12] (f' := 0) (by kernel_rfl) (by rfl) (by rfl) (by exact byObl) (by rfl) (by rfl) ?_
            refine WA.end rfl (by kernel_rfl) (noPan ?_)
            exact cut6 4 2 3 rfl rfl rfl rfl rfl rfl rfl rfl rfl
        · refine ⟨_, _, _, rfl, by rfl, by rfl, .inl (MK.of tok (wm := false) (by rfl) (by exact byObl) (by rfl) (by exact byObl)), ?_⟩
          refine WA.allT [6] (by kernel_rfl) (by simp) ?_; intro i' hi'; simp only [List.mem_cons, List.not_mem_nil, or_false] at hi'
          subst hi'
          refine ⟨_, _, _, rfl, by rfl, by rfl, .inl (MK.callP (l01Same_fn N hN) (by rfl) (by simp [Sc, sc_pl, sc_ds, pl_ne, ds_ne])), ?_⟩
          refine WA.allT [7] (by kernel_rfl) (by simp) ?_; intro i' hi'; simp only [List.mem_cons, List.not_mem_nil, or_false] at hi'
          subst hi'
          refine ⟨_, _, _, rfl, by rfl, by rfl, .inr ⟨by decide, TK.callN [1] (.sl 4 0 E.length 16) (hall) (LeAll.cons (by rfl) (by first | with_reducible exact Root.Le.refl _ | with_reducible exact le_dead | (skip; done) | exact byLeq) (by exact byCon) (trivial)) (by rfl) (by rfl) (by exact byArgs) (by simp [Sc, sc_pl, sc_ds]) (by exact byAllc) (by rfl) (by exact bySc) rfl⟩, ?_⟩
          refine WA.takesD T false tok [10, 11, 12] (f' := 0) (by kernel_rfl) (by rfl) (by rfl) (by exact byObl) (by rfl) (by rfl) ?_
          refine WA.end rfl (by kernel_rfl) (noPan ?_)
          exact cut6 4 2 3 rfl rfl rfl rfl rfl rfl rfl rfl rfl
      · refine ⟨_, _, _, rfl, by rfl, by rfl, .inl (MK.of tok (wm := false) (by rfl) (by exact byObl) (by rfl) (by exact byObl)), ?_⟩
        refine WA.allT [5] (by kernel_rfl) (by simp) ?_; intro i' hi'; simp only [List.mem_cons, List.not_mem_nil, or_false] at hi'
        subst hi'
        refine ⟨_, _, _, rfl, by rfl, by rfl, .inl (MK.q (evalOp_q tok (wm := false) (by rfl) (by rfl) (by exact byObl))), ?_⟩
        refine WA.allT [6] (by kernel_rfl) (by simp) ?_; intro i' hi'; simp only [List.mem_cons, List.not_mem_nil, or_false] at hi'
        subst hi'
        refine ⟨_, _, _, rfl, by rfl, by rfl, .inl (MK.callP (l01Same_fn N hN) (by rfl) (by simp [Sc, sc_pl, sc_ds, pl_ne, ds_ne])), ?_⟩
        refine WA.allT [7] (by kernel_rfl) (by simp) ?_; intro i' hi'; simp only [List.mem_cons, List.not_mem_nil, or_false] at hi'
        subst hi'
        refine ⟨_, _, _, rfl, by rfl, by rfl, .inr ⟨by decide, TK.callN [1] (.sl 4 0 E.length 16) (hall) (LeAll.cons (by rfl) (by first | with_reducible exact Root.Le.refl _ | with_reducible exact le_dead | (skip; done) | exact byLeq) (by exact byCon) (trivial)) (by rfl) (by rfl) (by exact byArgs) (by simp [Sc, sc_pl, sc_ds]) (by exact byAllc) (by rfl) (by exact bySc) rfl⟩, ?_⟩
        refine WA.takesD T false tok [10, 11, 12] (f' := 0) (by kernel_rfl) (by rfl) (by rfl) (by exact byObl) (by rfl) (by rfl) ?_
        refine WA.end rfl (by kernel_rfl) (noPan ?_)
        exact cut6 4 2 3 rfl rfl rfl rfl rfl rfl rfl rfl rfl
    · refine ⟨_, _, _, rfl, by rfl, by rfl, .inl (MK.of tok (wm := false) (by rfl) (by exact byObl) (by rfl) (by exact byObl)), ?_⟩
      refine WA.allT [5, 8] (by kernel_rfl) (by simp) ?_; intro i' hi'; simp only [List.mem_cons, List.not_mem_nil, or_false] at hi'
      rcases hi' with rfl | rfl
      · refine ⟨_, _, _, rfl, by rfl, by rfl, .inl (MK.q (evalOp_q tok (wm := false) (by rfl) (by rfl) (by exact byObl))), ?_⟩
        refine WA.allT [6, 8] (by kernel_rfl) (by simp) ?_; intro i' hi'; simp only [List.mem_cons, List.not_mem_nil, or_false] at hi'
        rcases hi' with rfl | rfl
        · refine ⟨_, _, _, rfl, by rfl, by rfl, .inl (MK.callP (l01Same_fn N hN) (by rfl) (by simp [Sc, sc_pl, sc_ds, pl_ne, ds_ne])), ?_⟩
          refine WA.allT [7, 8] (by kernel_rfl) (by simp) ?_; intro i' hi'; simp only [List.mem_cons, List.not_mem_nil, or_false] at hi'
          rcases hi' with rfl | rfl
          · refine ⟨_, _, _, rfl, by rfl, by rfl, .inr ⟨by decide, TK.callN [1] (.sl 3 0 E.length 16) (hall) (LeAll.cons (by rfl) (by first | with_reducible exact Root.Le.refl _ | with_reducible exact le_dead | (skip; done) | exact byLeq) (by exact byCon) (trivial)) (by rfl) (by rfl) (by exact byArgs) (by simp [Sc, sc_pl, sc_ds]) (by exact byAllc) (by rfl) (by exact bySc) rfl⟩, ?_⟩
            refine WA.takesD T false tok [10] (f' := 3) (by kernel_rfl) (by rfl) (by rfl) (by exact byObl) (by rfl) (by rfl) ?_
            refine WA.allT [8] (by kernel_rfl) (by simp) ?_; intro i' hi'; simp only [List.mem_cons, List.not_mem_nil, or_false] at hi'
            subst hi'
            refine ⟨_, _, _, rfl, by rfl, by rfl, .inl (MK.of tok (wm := false) (by rfl) (by exact byObl) (by rfl) (by exact byObl)), ?_⟩
            refine WA.takesD T false tok [11, 12] (f' := 0) (by kernel_rfl) (by rfl) (by rfl) (by exact byObl) (by rfl) (by rfl) ?_
            refine WA.end rfl (by kernel_rfl) (noPan ?_)
            exact cut6 3 4 2 rfl rfl rfl rfl rfl rfl rfl rfl rfl
          · refine ⟨_, _, _, rfl, by rfl, by rfl, .inl (MK.of tok (wm := false) (by rfl) (by exact byObl) (by rfl) (by exact byObl)), ?_⟩
            refine WA.allT [7] (by kernel_rfl) (by simp) ?_; intro i' hi'; simp only [List.mem_cons, List.not_mem_nil, or_false] at hi'
            subst hi'
            refine ⟨_, _, _, rfl, by rfl, by rfl, .inr ⟨by decide, TK.callN [1] (.sl 4 0 E.length 16) (hall) (LeAll.cons (by rfl) (by first | with_reducible exact Root.Le.refl _ | with_reducible exact le_dead | (skip; done) | exact byLeq) (by exact byCon) (trivial)) (by rfl) (by rfl) (by exact byArgs) (by simp [Sc, sc_pl, sc_ds]) (by exact byAllc) (by rfl) (by exact bySc) rfl⟩, ?_⟩
            refine WA.takesD T false tok [10, 11, 12] (f' := 0) (by kernel_rfl) (by rfl) (by rfl) (by exact byObl) (by rfl) (by rfl) ?_
            refine WA.end rfl (by kernel_rfl) (noPan ?_)
            exact cut6 4 3 2 rfl rfl rfl rfl rfl rfl rfl rfl rfl
        · refine ⟨_, _, _, rfl, by rfl, by rfl, .inl (MK.of tok (wm := false) (by rfl) (by exact byObl) (by rfl) (by exact byObl)), ?_⟩
          refine WA.allT [6] (by kernel_rfl) (by simp) ?_; intro i' hi'; simp only [List.mem_cons, List.not_mem_nil, or_false] at hi'
          subst hi'
          refine ⟨_, _, _, rfl, by rfl, by rfl, .inl (MK.callP (l01Same_fn N hN) (by rfl) (by simp [Sc, sc_pl, sc_ds, pl_ne, ds_ne])), ?_⟩
          refine WA.allT [7] (by kernel_rfl) (by simp) ?_; intro i' hi'; simp only [List.mem_cons, List.not_mem_nil, or_false] at hi'
          subst hi'
          refine ⟨_, _, _, rfl, by rfl, by rfl, .inr ⟨by decide, TK.callN [1] (.sl 4 0 E.length 16) (hall) (LeAll.cons (by rfl) (by first | with_reducible exact Root.Le.refl _ | with_reducible exact le_dead | (skip; done) | exact byLeq) (by exact byCon) (trivial)) (by rfl) (by rfl) (by exact byArgs) (by simp [Sc, sc_pl, sc_ds]) (by exact byAllc) (by rfl) (by exact bySc) rfl⟩, ?_⟩
          refine WA.takesD T false tok [10, 11, 12] (f' := 0) (by kernel_rfl) (by rfl) (by rfl) (by exact byObl) (by rfl) (by rfl) ?_
          refine WA.end rfl (by kernel_rfl) (noPan ?_)
          exact cut6 4 3 2 rfl rfl rfl rfl rfl rfl rfl rfl rfl
      · refine ⟨_, _, _, rfl, by rfl, by rfl, .inl (MK.of tok (wm := false) (by rfl) (by exact byObl) (by rfl) (by exact byObl)), ?_⟩
        refine WA.allT [5] (by kernel_rfl) (by simp) ?_; intro i' hi'; simp only [List.mem_cons, List.not_mem_nil, or_false] at hi'
        subst hi'
        refine ⟨_, _, _, rfl, by rfl, by rfl, .inl (MK.q (evalOp_q tok (wm := false) (by rfl) (by rfl) (by exact byObl))), ?_⟩
        refine WA.allT [6] (by kernel_rfl) (by simp) ?_; intro i' hi'; simp only [List.mem_cons, List.not_mem_nil, or_false] at hi'
        subst hi'
        refine ⟨_, _, _, rfl, by rfl, by rfl, .inl (MK.callP (l01Same_fn N hN) (by rfl) (by simp [Sc, sc_pl, sc_ds, pl_ne, ds_ne])), ?_⟩
        refine WA.allT [7] (by kernel_rfl) (by simp) ?_; intro i' hi'; simp only [List.mem_cons, List.not_mem_nil, or_false] at hi'
        subst hi'
        refine ⟨_, _, _, rfl, by rfl, by rfl, .inr ⟨by decide, TK.callN [1] (.sl 4 0 E.length 16) (hall) (LeAll.cons (by rfl) (by first | with_reducible exact Root.Le.refl _ | with_reducible exact le_dead | (skip; done) | exact byLeq) (by exact byCon) (trivial)) (by rfl) (by rfl) (by exact byArgs) (by simp [Sc, sc_pl, sc_ds]) (by exact byAllc) (by rfl) (by exact bySc) rfl⟩, ?_⟩
        refine WA.takesD T false tok [10, 11, 12] (f' := 0) (by kernel_rfl) (by rfl) (by rfl) (by exact byObl) (by rfl) (by rfl) ?_
        refine WA.end rfl (by kernel_rfl) (noPan ?_)
        exact cut6 4 3 2 rfl rfl rfl rfl rfl rfl rfl rfl rfl
  · refine ⟨_, _, _, rfl, by rfl, by rfl, .inl (MK.q (evalOp_q tok (wm := false) (by rfl) (by rfl) (by exact byObl))), ?_⟩
    refine WA.allT [2, 6, 8, 9] (by kernel_rfl) (by simp) ?_; intro i' hi'; simp only [List.mem_cons, List.not_mem_nil, or_false] at hi'
    rcases hi' with rfl | rfl | rfl | rfl
    · refine ⟨_, _, _, rfl, by rfl, by rfl, .inl (MK.q (evalOp_q tok (wm := false) (by rfl) (by rfl) (by exact byObl))), ?_⟩
      refine WA.takesD T false tok [3] (f' := 7) (by kernel_rfl) (by rfl) (by rfl) (by exact byObl) (by rfl) (by rfl) ?_
      refine WA.allT [6, 8, 9] (by kernel_rfl) (by simp) ?_; intro i' hi'; simp only [List.mem_cons, List.not_mem_nil, or_false] at hi'
      rcases hi' with rfl | rfl | rfl
      · refine ⟨_, _, _, rfl, by rfl, by rfl, .inl (MK.callP (l01Same_fn N hN) (by rfl) (by simp [Sc, sc_pl, sc_ds, pl_ne, ds_ne])), ?_⟩
        refine WA.allT [7, 8, 9] (by kernel_rfl) (by simp) ?_; intro i' hi'; simp only [List.mem_cons, List.not_mem_nil, or_false] at hi'
        rcases hi' with rfl | rfl | rfl
        · refine ⟨_, _, _, rfl, by rfl, by rfl, .inr ⟨by decide, TK.callN [1] (.sl 2 0 E.length 16) (hall) (LeAll.cons (by rfl) (by first | with_reducible exact Root.Le.refl _ | with_reducible exact le_dead | (skip; done) | exact byLeq) (by exact byCon) (trivial)) (by rfl) (by rfl) (by exact byArgs) (by simp [Sc, sc_pl, sc_ds]) (by exact byAllc) (by rfl) (by exact bySc) rfl⟩, ?_⟩
          refine WA.takesD T false tok [10] (f' := 4) (by kernel_rfl) (by rfl) (by rfl) (by exact byObl) (by rfl) (by rfl) ?_
          refine WA.allT [8, 9] (by kernel_rfl) (by simp) ?_; intro i' hi'; simp only [List.mem_cons, List.not_mem_nil, or_false] at hi'
          rcases hi' with rfl | rfl
          · refine ⟨_, _, _, rfl, by rfl, by rfl, .inl (MK.of tok (wm := false) (by rfl) (by exact byObl) (by rfl) (by exact byObl)), ?_⟩
            refine WA.takesD T false tok [11] (f' := 2) (by kernel_rfl) (by rfl) (by rfl) (by exact byObl) (by rfl) (by rfl) ?_
            refine WA.allT [9] (by kernel_rfl) (by simp) ?_; intro i' hi'; simp only [List.mem_cons, List.not_mem_nil, or_false] at hi'
            subst hi'
            refine ⟨_, _, _, rfl, by rfl, by rfl, .inl (MK.of tok (wm := false) (by rfl) (by exact byObl) (by rfl) (by exact byObl)), ?_⟩
            refine WA.takesD T false tok [12] (f' := 0) (by kernel_rfl) (by rfl) (by rfl) (by exact byObl) (by rfl) (by rfl) ?_
            refine WA.end rfl (by kernel_rfl) (noPan ?_)
            exact cut6 2 3 4 rfl rfl rfl rfl rfl rfl rfl rfl rfl
          · refine ⟨_, _, _, rfl, by rfl, by rfl, .inl (MK.of tok (wm := false) (by rfl) (by exact byObl) (by rfl) (by exact byObl)), ?_⟩
            refine WA.allT [8] (by kernel_rfl) (by simp) ?_; intro i' hi'; simp only [List.mem_cons, List.not_mem_nil, or_false] at hi'
            subst hi'
            refine ⟨_, _, _, rfl, by rfl, by rfl, .inl (MK.of tok (wm := false) (by rfl) (by exact byObl) (by rfl) (by exact byObl)), ?_⟩
            refine WA.takesD T false tok [11, 12] (f' := 0) (by kernel_rfl) (by rfl) (by rfl) (by exact byObl) (by rfl) (by rfl) ?_
            refine WA.end rfl (by kernel_rfl) (noPan ?_)
            exact cut6 2 4 3 rfl rfl rfl rfl rfl rfl rfl rfl rfl
        · refine ⟨_, _, _, rfl, by rfl, by rfl, .inl (MK.of tok (wm := false) (by rfl) (by exact byObl) (by rfl) (by exact byObl)), ?_⟩
          refine WA.allT [7, 9] (by kernel_rfl) (by simp) ?_; intro i' hi'; simp only [List.mem_cons, List.not_mem_nil, or_false] at hi'
          rcases hi' with rfl | rfl
          · refine ⟨_, _, _, rfl, by rfl, by rfl, .inr ⟨by decide, TK.callN [1] (.sl 3 0 E.length 16) (hall) (LeAll.cons (by rfl) (by first | with_reducible exact Root.Le.refl _ | with_reducible exact le_dead | (skip; done) | exact byLeq) (by exact byCon) (trivial)) (by rfl) (by rfl) (by exact byArgs) (by simp [Sc, sc_pl, sc_ds]) (by exact byAllc) (by rfl) (by exact bySc) rfl⟩, ?_⟩
            refine WA.takesD T false tok [10, 11] (f' := 2) (by kernel_rfl) (by rfl) (by rfl) (by exact byObl) (by rfl) (by rfl) ?_
            refine WA.allT [9] (by kernel_rfl) (by simp) ?_; intro i' hi'; simp only [List.mem_cons, List.not_mem_nil, or_false] at hi'
            subst hi'
            refine ⟨_, _, _, rfl, by rfl, by rfl, .inl (MK.of tok (wm := false) (by rfl) (by exact byObl) (by rfl) (by exact byObl)), ?_⟩
            refine WA.takesD T false tok [12] (f' := 0) (by kernel_rfl) (by rfl) (by rfl) (by exact byObl) (by rfl) (by rfl) ?_
            refine WA.end rfl (by kernel_rfl) (noPan ?_)
            exact cut6 3 2 4 rfl rfl rfl rfl rfl rfl rfl rfl rfl
          · refine ⟨_, _, _, rfl, by rfl, by rfl, .inl (MK.of tok (wm := false) (by rfl) (by exact byObl) (by rfl) (by exact byObl)), ?_⟩
            refine WA.allT [7] (by kernel_rfl) (by simp) ?_; intro i' hi'; simp only [List.mem_cons, List.not_mem_nil, or_false] at hi'
            subst hi'
            refine ⟨_, _, _, rfl, by rfl, by rfl, .inr ⟨by decide, TK.callN [1] (.sl 4 0 E.length 16) (hall) (LeAll.cons (by rfl) (by first | with_reducible exact Root.Le.refl _ | with_reducible exact le_dead | (skip; done) | exact byLeq) (by exact byCon) (trivial)) (by rfl) (by rfl) (by exact byArgs) (by simp [Sc, sc_pl, sc_ds]) (by exact byAllc) (by rfl) (by exact bySc) rfl⟩, ?_⟩
            refine WA.takesD T false tok [10, 11, 12] (f' := 0) (by kernel_rfl) (by rfl) (by rfl) (by exact byObl) (by rfl) (by rfl) ?_
            refine WA.end rfl (by kernel_rfl) (noPan ?_)
            exact cut6 4 2 3 rfl rfl rfl rfl rfl rfl rfl rfl rfl
        · refine ⟨_, _, _, rfl, by rfl, by rfl, .inl (MK.of tok (wm := false) (by rfl) (by exact byObl) (by rfl) (by exact byObl)), ?_⟩
          refine WA.allT [7, 8] (by kernel_rfl) (by simp) ?_; intro i' hi'; simp only [List.mem_cons, List.not_mem_nil, or_false] at hi'
          rcases hi' with rfl | rfl
          · refine ⟨_, _, _, rfl, by rfl, by rfl, .inr ⟨by decide, TK.callN [1] (.sl 3 0 E.length 16) (hall) (LeAll.cons (by rfl) (by first | with_reducible exact Root.Le.refl _ | with_reducible exact le_dead | (skip; done) | exact byLeq) (by exact byCon) (trivial)) (by rfl) (by rfl) (by exact byArgs) (by simp [Sc, sc_pl, sc_ds]) (by exact byAllc) (by rfl) (by exact bySc) rfl⟩, ?_⟩
            refine WA.takesD T false tok [10] (f' := 3) (by kernel_rfl) (by rfl) (by rfl) (by exact byObl) (by rfl) (by rfl) ?_
            refine WA.allT [8] (by kernel_rfl) (by simp) ?_; intro i' hi'; simp only [List.mem_cons, List.not_mem_nil, or_false] at hi'
            subst hi'
            refine ⟨_, _, _, rfl, by rfl, by rfl, .inl (MK.of tok (wm := false) (by rfl) (by exact byObl) (by rfl) (by exact byObl)), ?_⟩
            refine WA.takesD T false tok [11, 12] (f' := 0) (by kernel_rfl) (by rfl) (by rfl) (by exact byObl) (by rfl) (by rfl) ?_
            refine WA.end rfl (by kernel_rfl) (noPan ?_)
            exact cut6 3 4 2 rfl rfl rfl rfl rfl rfl rfl rfl rfl
          · refine ⟨_, _, _, rfl, by rfl, by rfl, .inl (MK.of tok (wm := false) (by rfl) (by exact byObl) (by rfl) (by exact byObl)), ?_⟩
            refine WA.allT [7] (by kernel_rfl) (by simp) ?_; intro i' hi'; simp only [List.mem_cons, List.not_mem_nil, or_false] at hi'
            subst hi'
            refine ⟨_, _, _, rfl, by rfl, by rfl, .inr ⟨by decide, TK.callN [1] (.sl 4 0 E.length 16) (hall) (LeAll.cons (by rfl) (by first | with_reducible exact Root.Le.refl _ | with_reducible exact le_dead | (skip; done) | exact byLeq) (by exact byCon) (trivial)) (by rfl) (by rfl) (by exact byArgs) (by simp [Sc, sc_pl, sc_ds]) (by exact byAllc) (by rfl) (by exact bySc) rfl⟩, ?_⟩
            refine WA.takesD T false tok [10, 11, 12] (f' := 0) (by kernel_rfl) (by rfl) (by rfl) (by exact byObl) (by rfl) (by rfl) ?_
            refine WA.end rfl (by kernel_rfl) (noPan ?_)
            exact cut6 4 3 2 rfl rfl rfl rfl rfl rfl rfl rfl rfl
      · refine ⟨_, _, _, rfl, by rfl, by rfl, .inl (MK.of tok (wm := false) (by rfl) (by exact byObl) (by rfl) (by exact byObl)), ?_⟩
        refine WA.allT [6, 9] (by kernel_rfl) (by simp) ?_; intro i' hi'; simp only [List.mem_cons, List.not_mem_nil, or_false] at hi'
        rcases hi' with rfl | rfl
        · refine ⟨_, _, _, rfl, by rfl, by rfl, .inl (MK.callP (l01Same_fn N hN) (by rfl) (by simp [Sc, sc_pl, sc_ds, pl_ne, ds_ne])), ?_⟩
          refine WA.allT [7, 9] (by kernel_rfl) (by simp) ?_; intro i' hi'; simp only [List.mem_cons, List.not_mem_nil, or_false] at hi'
          rcases hi' with rfl | rfl
          · refine ⟨_, _, _, rfl, by rfl, by rfl, .inr ⟨by decide, TK.callN [1] (.sl 3 0 E.length 16) (hall) (LeAll.cons (by rfl) (by first | with_reducible exact Root.Le.refl _ | with_reducible exact le_dead | (skip; done) | exact byLeq) (by exact byCon) (trivial)) (by rfl) (by rfl) (by exact byArgs) (by simp [Sc, sc_pl, sc_ds]) (by exact byAllc) (by rfl) (by exact bySc) rfl⟩, ?_⟩
            refine WA.takesD T false tok [10, 11] (f' := 2) (by kernel_rfl) (by rfl) (by rfl) (by exact byObl) (by rfl) (by rfl) ?_
            refine WA.allT [9] (by kernel_rfl) (by simp) ?_; intro i' hi'; simp only [List.mem_cons, List.not_mem_nil, or_false] at hi'
            subst hi'
            refine ⟨_, _, _, rfl, by rfl, by rfl, .inl (MK.of tok (wm := false) (by rfl) (by exact byObl) (by rfl) (by exact byObl)), ?_⟩
            refine WA.takesD T false tok [12] (f' := 0) (by kernel_rfl) (by rfl) (by rfl) (by exact byObl) (by rfl) (by rfl) ?_
            refine WA.end rfl (by kernel_rfl) (noPan ?_)
            exact cut6 3 2 4 rfl rfl rfl rfl rfl rfl rfl rfl rfl
          · refine ⟨_, _, _, rfl, by rfl, by rfl, .inl (MK.of tok (wm := false) (by rfl) (by exact byObl) (by rfl) (by exact byObl)), ?_⟩
            refine WA.allT [7] (by kernel_rfl) (by simp) ?_; intro i' hi'; simp only [List.mem_cons, List.not_mem_nil, or_false] at hi'
            subst hi'
            refine ⟨_, _, _, rfl, by rfl, by rfl, .inr ⟨by decide, TK.callN [1] (.sl 4 0 E.length 16) (hall) (LeAll.cons (by rfl) (by first | with_reducible exact Root.Le.refl _ | with_reducible exact le_dead | (skip; done) | exact byLeq) (by exact byCon) (trivial)) (by rfl) (by rfl) (by exact byArgs) (by simp [Sc, sc_pl, sc_ds]) (by exact byAllc) (by rfl) (by exact bySc) rfl⟩, ?_⟩
            refine WA.takesD T false tok [10, 11, 12] (f' := 0) (by kernel_rfl) (by rfl) (by rfl) (by exact byObl) (by rfl) (by rfl) ?_
            refine WA.end rfl (by kernel_rfl) (noPan ?_)
            exact cut6 4 2 3 rfl rfl rfl rfl rfl rfl rfl rfl rfl
        · refine ⟨_, _, _, rfl, by rfl, by rfl, .inl (MK.of tok (wm := false) (by rfl) (by exact byObl) (by rfl) (by exact byObl)), ?_⟩
          refine WA.allT [6] (by kernel_rfl) (by simp) ?_; intro i' hi'; simp only [List.mem_cons, List.not_mem_nil, or_false] at hi'
          subst hi'
          refine ⟨_, _, _, rfl, by rfl, by rfl, .inl (MK.callP (l01Same_fn N hN) (by rfl) (by simp [Sc, sc_pl, sc_ds, pl_ne, ds_ne])), ?_⟩
          refine WA.allT [7] (by kernel_rfl) (by simp) ?_; intro i' hi'; simp only [List.mem_cons, List.not_mem_nil, or_false] at hi'
          subst hi'
          refine ⟨_, _, _, rfl, by rfl, by rfl, .inr ⟨by decide, TK.callN [1] (.sl 4 0 E.length 16) (hall) (LeAll.cons (by rfl) (by first | with_reducible exact Root.Le.refl _ | with_reducible exact le_dead | (skip; done) | exact byLeq) (by exact byCon) (trivial)) (by rfl) (by rfl) (by exact byArgs) (by simp [Sc, sc_pl, sc_ds]) (by exact byAllc) (by rfl) (by exact bySc) rfl⟩, ?_⟩
          refine WA.takesD T false tok [10, 11, 12] (f' := 0) (by kernel_rfl) (by rfl) (by rfl) (by exact byObl) (by rfl) (by rfl) ?_
          refine WA.end rfl (by kernel_rfl) (noPan ?_)
          exact cut6 4 2 3 rfl rfl rfl rfl rfl rfl rfl rfl rfl
      · refine ⟨_, _, _, rfl, by rfl, by rfl, .inl (MK.of tok (wm := false) (by rfl) (by exact byObl) (by rfl) (by exact byObl)), ?_⟩
        refine WA.allT [6, 8] (by kernel_rfl) (by simp) ?_; intro i' hi'; simp only [List.mem_cons, List.not_mem_nil, or_false] at hi'
        rcases hi' with rfl | rfl
        · refine ⟨_, _, _, rfl, by rfl, by rfl, .inl (MK.callP (l01Same_fn N hN) (by rfl) (by simp [Sc, sc_pl, sc_ds, pl_ne, ds_ne])), ?_⟩
          refine WA.allT [7, 8] (by kernel_rfl) (by simp) ?_; intro i' hi'; simp only [List.mem_cons, List.not_mem_nil, or_false] at hi'
          rcases hi' with rfl | rfl
          · refine ⟨_, _, _, rfl, by rfl, by rfl, .inr ⟨by decide, TK.callN [1] (.sl 3 0 E.length 16) (hall) (LeAll.cons (by rfl) (by first | with_reducible exact Root.Le.refl _ | with_reducible exact le_dead | (skip; done) | exact byLeq) (by exact byCon) (trivial)) (by rfl) (by rfl) (by exact byArgs) (by simp [Sc, sc_pl, sc_ds]) (by exact byAllc) (by rfl) (by exact bySc) rfl⟩, ?_⟩
            refine WA.takesD T false tok [10] (f' := 3) (by kernel_rfl) (by rfl) (by rfl) (by exact byObl) (by rfl) (by rfl) ?_
            refine WA.allT [8] (by kernel_rfl) (by simp) ?_; intro i' hi'; simp only [List.mem_cons, List.not_mem_nil, or_false] at hi'
            subst hi'
            refine ⟨_, _, _, rfl, by rfl, by rfl, .inl (MK.of tok (wm := false) (by rfl) (by exact byObl) (by rfl) (by exact byObl)), ?_⟩
            refine WA.takesD T false tok [11, 12] (f' := 0) (by kernel_rfl) (by rfl) (by rfl) (by exact byObl) (by rfl) (by rfl) ?_
            refine WA.end rfl (by kernel_rfl) (noPan ?_)
            exact cut6 3 4 2 rfl rfl rfl rfl rfl rfl rfl rfl rfl
          · refine ⟨_, _, _, rfl, by rfl, by rfl, .inl (MK.of tok (wm := false) (by rfl) (by exact byObl) (by rfl) (by exact byObl)), ?_⟩
            refine WA.allT [7] (by kernel_rfl) (by simp) ?_; intro i' hi'; simp only [List.mem_cons, List.not_mem_nil, or_false] at hi'
            subst hi'
            refine ⟨_, _, _, rfl, by rfl, by rfl, .inr ⟨by decide, TK.callN [1] (.sl 4 0 E.length 16) (hall) (LeAll.cons (by rfl) (by first | with_reducible exact Root.Le.refl _ | with_reducible exact le_dead | (skip; done) | exact byLeq) (by exact byCon) (trivial)) (by rfl) (by rfl) (by exact byArgs) (by simp [Sc, sc_pl, sc_ds]) (by exact byAllc) (by rfl) (by exact bySc) rfl⟩, ?_⟩
            refine WA.takesD T false tok [10, 11, 12] (f' := 0) (by kernel_rfl) (by rfl) (by rfl) (by exact byObl) (by rfl) (by rfl) ?_
            refine WA.end rfl (by kernel_rfl) (noPan ?_)
            exact cut6 4 3 2 rfl rfl rfl rfl rfl rfl rfl rfl rfl
        · refine ⟨_, _, _, rfl, by rfl, by rfl, .inl (MK.of tok (wm := false) (by rfl) (by exact byObl) (by rfl) (by exact byObl)), ?_⟩
          refine WA.allT [6] (by kernel_rfl) (by simp) ?_; intro i' hi'; simp only [List.mem_cons, List.not_mem_nil, or_false] at hi'
          subst hi'
          refine ⟨_, _, _, rfl, by rfl, by rfl, .inl (MK.callP (l01Same_fn N hN) (by rfl) (by simp [Sc, sc_pl, sc_ds, pl_ne, ds_ne])), ?_⟩
          refine WA.allT [7] (by kernel_rfl) (by simp) ?_; intro i' hi'; simp only [List.mem_cons, List.not_mem_nil, or_false] at hi'
          subst hi'
          refine ⟨_, _, _, rfl, by rfl, by rfl, .inr ⟨by decide, TK.callN [1] (.sl 4 0 E.length 16) (hall) (LeAll.cons (by rfl) (by first | with_reducible exact Root.Le.refl _ | with_reducible exact le_dead | (skip; done) | exact byLeq) (by exact byCon) (trivial)) (by rfl) (by rfl) (by exact byArgs) (by simp [Sc, sc_pl, sc_ds]) (by exact byAllc) (by rfl) (by exact bySc) rfl⟩, ?_⟩
          refine WA.takesD T false tok [10, 11, 12] (f' := 0) (by kernel_rfl) (by rfl) (by rfl) (by exact byObl) (by rfl) (by rfl) ?_
          refine WA.end rfl (by kernel_rfl) (noPan ?_)
          exact cut6 4 3 2 rfl rfl rfl rfl rfl rfl rfl rfl rfl
    · refine ⟨_, _, _, rfl, by rfl, by rfl, .inl (MK.callP (l01Same_fn N hN) (by rfl) (by simp [Sc, sc_pl, sc_ds, pl_ne, ds_ne])), ?_⟩
      refine WA.allT [2, 8, 9] (by kernel_rfl) (by simp) ?_; intro i' hi'; simp only [List.mem_cons, List.not_mem_nil, or_false] at hi'
      rcases hi' with rfl | rfl | rfl
      · refine ⟨_, _, _, rfl, by rfl, by rfl, .inl (MK.q (evalOp_q tok (wm := false) (by rfl) (by rfl) (by exact byObl))), ?_⟩
        refine WA.takesD T false tok [3] (f' := 6) (by kernel_rfl) (by rfl) (by rfl) (by exact byObl) (by rfl) (by rfl) ?_
        refine WA.allT [7, 8, 9] (by kernel_rfl) (by simp) ?_; intro i' hi'; simp only [List.mem_cons, List.not_mem_nil, or_false] at hi'
        rcases hi' with rfl | rfl | rfl
        · refine ⟨_, _, _, rfl, by rfl, by rfl, .inr ⟨by decide, TK.callN [1] (.sl 2 0 E.length 16) (hall) (LeAll.cons (by rfl) (by first | with_reducible exact Root.Le.refl _ | with_reducible exact le_dead | (skip; done) | exact byLeq) (by exact byCon) (trivial)) (by rfl) (by rfl) (by exact byArgs) (by simp [Sc, sc_pl, sc_ds]) (by exact byAllc) (by rfl) (by exact bySc) rfl⟩, ?_⟩
          refine WA.takesD T false tok [10] (f' := 4) (by kernel_rfl) (by rfl) (by rfl) (by exact byObl) (by rfl) (by rfl) ?_
          refine WA.allT [8, 9] (by kernel_rfl) (by simp) ?_; intro i' hi'; simp only [List.mem_cons, List.not_mem_nil, or_false] at hi'
          rcases hi' with rfl | rfl
          · refine ⟨_, _, _, rfl, by rfl, by rfl, .inl (MK.of tok (wm := false) (by rfl) (by exact byObl) (by rfl) (by exact byObl)), ?_⟩
            refine WA.takesD T false tok [11] (f' := 2) (by kernel_rfl) (by rfl) (by rfl) (by exact byObl) (by rfl) (by rfl) ?_
            refine WA.allT [9] (by kernel_rfl) (by simp) ?_; intro i' hi'; simp only [List.mem_cons, List.not_mem_nil, or_false] at hi'
            subst hi'
            refine ⟨_, _, _, rfl, by rfl, by rfl, .inl (MK.of tok (wm := false) (by rfl) (by exact byObl) (by rfl) (by exact byObl)), ?_⟩
            refine WA.takesD T false tok [12] (f' := 0) (by kernel_rfl) (by rfl) (by rfl) (by exact byObl) (by rfl) (by rfl) ?_
            refine WA.end rfl (by kernel_rfl) (noPan ?_)
            exact cut6 2 3 4 rfl rfl rfl rfl rfl rfl rfl rfl rfl
          · refine ⟨_, _, _, rfl, by rfl, by rfl, .inl (MK.of tok (wm := false) (by rfl) (by exact byObl) (by rfl) (by exact byObl)), ?_⟩
            refine WA.allT [8] (by kernel_rfl) (by simp) ?_; intro i' hi'; simp only [List.mem_cons, List.not_mem_nil, or_false] at hi'
            subst hi'
            refine ⟨_, _, _, rfl, by rfl, by rfl, .inl (MK.of tok (wm := false) (by rfl) (by exact byObl) (by rfl) (by exact byObl)), ?_⟩
            refine WA.takesD T false tok [11, 12] (f' := 0) (by kernel_rfl) (by rfl) (by rfl) (by exact byObl) (by rfl) (by rfl) ?_
            refine WA.end rfl (by kernel_rfl) (noPan ?_)
            exact cut6 2 4 3 rfl rfl rfl rfl rfl rfl rfl rfl rfl
        · refine ⟨_, _, _, rfl, by rfl, by rfl, .inl (MK.of tok (wm := false) (by rfl) (by exact byObl) (by rfl) (by exact byObl)), ?_⟩
          refine WA.allT [7, 9] (by kernel_rfl) (by simp) ?_; intro i' hi'; simp only [List.mem_cons, List.not_mem_nil, or_false] at hi'
          rcases hi' with rfl | rfl
          · refine ⟨_, _, _, rfl, by rfl, by rfl, .inr ⟨by decide, TK.callN [1] (.sl 3 0 E.length 16) (hall) (LeAll.cons (by rfl) (by first | with_reducible exact Root.Le.refl _ | with_reducible exact le_dead | (skip; done) | exact byLeq) (by exact byCon) (trivial)) (by rfl) (by rfl) (by exact byArgs) (by simp [Sc, sc_pl, sc_ds]) (by exact byAllc) (by rfl) (by exact bySc) rfl⟩, ?_⟩
            refine WA.takesD T false tok [10, 11] (f' := 2) (by kernel_rfl) (by rfl) (by rfl) (by exact byObl) (by rfl) (by rfl) ?_
            refine WA.allT [9] (by kernel_rfl) (by simp) ?_; intro i' hi'; simp only [List.mem_cons, List.not_mem_nil, or_false] at hi'
            subst hi'
            refine ⟨_, _, _, rfl, by rfl, by rfl, .inl (MK.of tok (wm := false) (by rfl) (by exact byObl) (by rfl) (by exact byObl)), ?_⟩
            refine WA.takesD T false tok [12] (f' := 0) (by kernel_rfl) (by rfl) (by rfl) (by exact byObl) (by rfl) (by rfl) ?_
            refine WA.end rfl (by kernel_rfl) (noPan ?_)
            exact cut6 3 2 4 rfl rfl rfl rfl rfl rfl rfl rfl rfl
          · refine ⟨_, _, _, rfl, by rfl, by rfl, .inl (MK.of tok (wm := false) (by rfl) (by exact byObl) (by rfl) (by exact byObl)), ?_⟩
            refine WA.allT [7] (by kernel_rfl) (by simp) ?_; intro i' hi'; simp only [List.mem_cons, List.not_mem_nil, or_false] at hi'
            subst hi'
            refine ⟨_, _, _, rfl, by rfl, by rfl, .inr ⟨by decide, TK.callN [1] (.sl 4 0 E.length 16) (hall) (LeAll.cons (by rfl) (by first | with_reducible exact Root.Le.refl _ | with_reducible exact le_dead | (skip; done) | exact byLeq) (by exact byCon) (trivial)) (by rfl) (by rfl) (by exact byArgs) (by simp [Sc, sc_pl, sc_ds]) (by exact byAllc) (by rfl) (by exact bySc) rfl⟩, ?_⟩
            refine WA.takesD T false tok [10, 11, 12] (f' := 0) (by kernel_rfl) (by rfl) (by rfl) (by exact byObl) (by rfl) (by rfl) ?_
            refine WA.end rfl (by kernel_rfl) (noPan ?_)
            exact cut6 4 2 3 rfl rfl rfl rfl rfl rfl rfl rfl rfl
        · refine ⟨_, _, _, rfl, by rfl, by rfl, .inl (MK.of tok (wm := false) (by rfl) (by exact byObl) (by rfl) (by exact byObl)), ?_⟩
          refine WA.allT [7, 8] (by kernel_rfl) (by simp) ?_; intro i' hi'; simp only [List.mem_cons, List.not_mem_nil, or_false] at hi'
          rcases hi' with rfl | rfl
          · refine ⟨_, _, _, rfl, by rfl, by rfl, .inr ⟨by decide, TK.callN [1] (.sl 3 0 E.length 16) (hall) (LeAll.cons (by rfl) (by first | with_reducible exact Root.Le.refl _ | with_reducible exact le_dead | (skip; done) | exact byLeq) (by exact byCon) (trivial)) (by rfl) (by rfl) (by exact byArgs) (by simp [Sc, sc_pl, sc_ds]) (by exact byAllc) (by rfl) (by exact bySc) rfl⟩, ?_⟩
            refine WA.takesD T false tok [10] (f' := 3) (by kernel_rfl) (by rfl) (by rfl) (by exact byObl) (by rfl) (by rfl) ?_
            refine WA.allT [8] (by kernel_rfl) (by simp) ?_; intro i' hi'; simp only [List.mem_cons, List.not_mem_nil, or_false] at hi'
            subst hi'
            refine ⟨_, _, _, rfl, by rfl, by rfl, .inl (MK.of tok (wm := false) (by rfl) (by exact byObl) (by rfl) (by exact byObl)), ?_⟩
            refine WA.takesD T false tok [11, 12] (f' := 0) (by kernel_rfl) (by rfl) (by rfl) (by exact byObl) (by rfl) (by rfl) ?_
            refine WA.end rfl (by kernel_rfl) (noPan ?_)
            exact cut6 3 4 2 rfl rfl rfl rfl rfl rfl rfl rfl rfl
          · refine ⟨_, _, _, rfl, by rfl, by rfl, .inl (MK.of tok (wm := false) (by rfl) (by exact byObl) (by rfl) (by exact byObl)), ?_⟩
            refine WA.allT [7] (by kernel_rfl) (by simp) ?_; intro i' hi'; simp only [List.mem_cons, List.not_mem_nil, or_false] at hi'
            subst hi'
            refine ⟨_, _, _, rfl, by rfl, by rfl, .inr ⟨by decide, TK.callN [1] (.sl 4 0 E.length 16) (hall) (LeAll.cons (by rfl) (by first | with_reducible exact Root.Le.refl _ | with_reducible exact le_dead | (skip; done) | exact byLeq) (by exact byCon) (trivial)) (by rfl) (by rfl) (by exact byArgs) (by simp [Sc, sc_pl, sc_ds]) (by exact byAllc) (by rfl) (by exact bySc) rfl⟩, ?_⟩
            refine WA.takesD T false tok [10, 11, 12] (f' := 0) (by kernel_rfl) (by rfl) (by rfl) (by exact byObl) (by rfl) (by rfl) ?_
            refine WA.end rfl (by kernel_rfl) (noPan ?_)
            exact cut6 4 3 2 rfl rfl rfl rfl rfl rfl rfl rfl rfl
      · refine ⟨_, _, _, rfl, by rfl, by rfl, .inl (MK.of tok (wm := false) (by rfl) (by exact byObl) (by rfl) (by exact byObl)), ?_⟩
        refine WA.allT [2, 9] (by kernel_rfl) (by simp) ?_; intro i' hi'; simp only [List.mem_cons, List.not_mem_nil, or_false] at hi'
        rcases hi' with rfl | rfl
        · refine ⟨_, _, _, rfl, by rfl, by rfl, .inl (MK.q (evalOp_q tok (wm := false) (by rfl) (by rfl) (by exact byObl))), ?_⟩
          refine WA.takesD T false tok [3] (f' := 5) (by kernel_rfl) (by rfl) (by rfl) (by exact byObl) (by rfl) (by rfl) ?_
          refine WA.allT [7, 9] (by kernel_rfl) (by simp) ?_; intro i' hi'; simp only [List.mem_cons, List.not_mem_nil, or_false] at hi'
          rcases hi' with rfl | rfl
          · refine ⟨_, _, _, rfl, by rfl, by rfl, .inr ⟨by decide, TK.callN [1] (.sl 3 0 E.length 16) (hall) (LeAll.cons (by rfl) (by first | with_reducible exact Root.Le.refl _ | with_reducible exact le_dead | (skip; done) | exact byLeq) (by exact byCon) (trivial)) (by rfl) (by rfl) (by exact byArgs) (by simp [Sc, sc_pl, sc_ds]) (by exact byAllc) (by rfl) (by exact bySc) rfl⟩, ?_⟩
            refine WA.takesD T false tok [10, 11] (f' := 2) (by kernel_rfl) (by rfl) (by rfl) (by exact byObl) (by rfl) (by rfl) ?_
            refine WA.allT [9] (by kernel_rfl) (by simp) ?_; intro i' hi'; simp only [List.mem_cons, List.not_mem_nil, or_false] at hi'
            subst hi'
            refine ⟨_, _, _, rfl, by rfl, by rfl, .inl (MK.of tok (wm := false) (by rfl) (by exact byObl) (by rfl) (by exact byObl)), ?_⟩
            refine WA.takesD T false tok [12] (f' := 0) (by kernel_rfl) (by rfl) (by rfl) (by exact byObl) (by rfl) (by rfl) ?_
            refine WA.end rfl (by kernel_rfl) (noPan ?_)
            exact cut6 3 2 4 rfl rfl rfl rfl rfl rfl rfl rfl rfl
          · refine ⟨_, _, _, rfl, by rfl, by rfl, .inl (MK.of tok (wm := false) (by rfl) (by exact byObl) (by rfl) (by exact byObl)), ?_⟩
            refine WA.allT [7] (by kernel_rfl) (by simp) ?_; intro i' hi'; simp only [List.mem_cons, List.not_mem_nil, or_false] at hi'
            subst hi'
            refine ⟨_, _, _, rfl, by rfl, by rfl, .inr ⟨by decide, TK.callN [1] (.sl 4 0 E.length 16) (hall) (LeAll.cons (by rfl) (by first | with_reducible exact Root.Le.refl _ | with_reducible exact le_dead | (skip; done) | exact byLeq) (by exact byCon) (trivial)) (by rfl) (by rfl) (by exact byArgs) (by simp [Sc, sc_pl, sc_ds]) (by exact byAllc) (by rfl) (by exact bySc) rfl⟩, ?_⟩
            refine WA.takesD T false tok [10, 11, 12] (f' := 0) (by kernel_rfl) (by rfl) (by rfl) (by exact byObl) (by rfl) (by rfl) ?_
            refine WA.end rfl (by kernel_rfl) (noPan ?_)
            exact cut6 4 2 3 rfl rfl rfl rfl rfl rfl rfl rfl rfl
        · refine ⟨_, _, _, rfl, by rfl, by rfl, .inl (MK.of tok (wm := false) (by rfl) (by exact byObl) (by rfl) (by exact byObl)), ?_⟩
          refine WA.allT [2] (by kernel_rfl) (by simp) ?_; intro i' hi'; simp only [List.mem_cons, List.not_mem_nil, or_false] at hi'
          subst hi'
          refine ⟨_, _, _, rfl, by rfl, by rfl, .inl (MK.q (evalOp_q tok (wm := false) (by rfl) (by rfl) (by exact byObl))), ?_⟩
          refine WA.takesD T false tok [3] (f' := 4) (by kernel_rfl) (by rfl) (by rfl) (by exact byObl) (by rfl) (by rfl) ?_
          refine WA.allT [7] (by kernel_rfl) (by simp) ?_; intro i' hi'; simp only [List.mem_cons, List.not_mem_nil, or_false] at hi'
          subst hi'
          refine ⟨_, _, _, rfl, by rfl, by rfl, .inr ⟨by decide, TK.callN [1] (.sl 4 0 E.length 16) (hall) (LeAll.cons (by rfl) (by first | with_reducible exact Root.Le.refl _ | with_reducible exact le_dead | (skip; done) | exact byLeq) (by exact byCon) (trivial)) (by rfl) (by rfl) (by exact byArgs) (by simp [Sc, sc_pl, sc_ds]) (by exact byAllc) (by rfl) (by exact bySc) rfl⟩, ?_⟩
          refine WA.takesD T false tok [10, 11, 12] (f' := 0) (by kernel_rfl) (by rfl) (by rfl) (by exact byObl) (by rfl) (by rfl) ?_
          refine WA.end rfl (by kernel_rfl) (noPan ?_)
          exact cut6 4 2 3 rfl rfl rfl rfl rfl rfl rfl rfl rfl
      · refine ⟨_, _, _, rfl, by rfl, by rfl, .inl (MK.of tok (wm := false) (by rfl) (by exact byObl) (by rfl) (by exact byObl)), ?_⟩
        refine WA.allT [2, 8] (by kernel_rfl) (by simp) ?_; intro i' hi'; simp only [List.mem_cons, List.not_mem_nil, or_false] at hi'
        rcases hi' with rfl | rfl
        · refine ⟨_, _, _, rfl, by rfl, by rfl, .inl (MK.q (evalOp_q tok (wm := false) (by rfl) (by rfl) (by exact byObl))), ?_⟩
          refine WA.takesD T false tok [3] (f' := 5) (by kernel_rfl) (by rfl) (by rfl) (by exact byObl) (by rfl) (by rfl) ?_
          refine WA.allT [7, 8] (by kernel_rfl) (by simp) ?_; intro i' hi'; simp only [List.mem_cons, List.not_mem_nil, or_false] at hi'
          rcases hi' with rfl | rfl
          · refine ⟨_, _, _, rfl, by rfl, by rfl, .inr ⟨by decide, TK.callN [1] (.sl 3 0 E.length 16) (hall) (LeAll.cons (by rfl) (by first | with_reducible exact Root.Le.refl _ | with_reducible exact le_dead | (skip; done) | exact byLeq) (by exact byCon) (trivial)) (by rfl) (by rfl) (by exact byArgs) (by simp [Sc, sc_pl, sc_ds]) (by exact byAllc) (by rfl) (by exact bySc) rfl⟩, ?_⟩
            refine WA.takesD T false tok [10] (f' := 3) (by kernel_rfl) (by rfl) (by rfl) (by exact byObl) (by rfl) (by rfl) ?_
            refine WA.allT [8] (by kernel_rfl) (by simp) ?_; intro i' hi'; simp only [List.mem_cons, List.not_mem_nil, or_false] at hi'
            subst hi'
            refine ⟨_, _, _, rfl, by rfl, by rfl, .inl (MK.of tok (wm := false) (by rfl) (by exact byObl) (by rfl) (by exact byObl)), ?_⟩
            refine WA.takesD T false tok [11, 12] (f' := 0) (by kernel_rfl) (by rfl) (by rfl) (by exact byObl) (by rfl) (by rfl) ?_
            refine WA.end rfl (by kernel_rfl) (noPan ?_)
            exact cut6 3 4 2 rfl rfl rfl rfl rfl rfl rfl rfl rfl
          · refine ⟨_, _, _, rfl, by rfl, by rfl, .inl (MK.of tok (wm := false) (by rfl) (by exact byObl) (by rfl) (by exact byObl)), ?_⟩
            refine WA.allT [7] (by kernel_rfl) (by simp) ?_; intro i' hi'; simp only [List.mem_cons, List.not_mem_nil, or_false] at hi'
            subst hi'
            refine ⟨_, _, _, rfl, by rfl, by rfl, .inr ⟨by decide, TK.callN [1] (.sl 4 0 E.length 16) (hall) (LeAll.cons (by rfl) (by first | with_reducible exact Root.Le.refl _ | with_reducible exact le_dead | (skip; done) | exact byLeq) (by exact byCon) (trivial)) (by rfl) (by rfl) (by exact byArgs) (by simp [Sc, sc_pl, sc_ds]) (by exact byAllc) (by rfl) (by exact bySc) rfl⟩, ?_⟩
            refine WA.takesD T false tok [10, 11, 12] (f' := 0) (by kernel_rfl) (by rfl) (by rfl) (by exact byObl) (by rfl) (by rfl) ?_
            refine WA.end rfl (by kernel_rfl) (noPan ?_)
            exact cut6 4 3 2 rfl rfl rfl rfl rfl rfl rfl rfl rfl
        · refine ⟨_, _, _, rfl, by rfl, by rfl, .inl (MK.of tok (wm := false) (by rfl) (by exact byObl) (by rfl) (by exact byObl)), ?_⟩
          refine WA.allT [2] (by kernel_rfl) (by simp) ?_; intro i' hi'; simp only [List.mem_cons, List.not_mem_nil, or_false] at hi'
          subst hi'
          refine ⟨_, _, _, rfl, by rfl, by rfl, .inl (MK.q (evalOp_q tok (wm := false) (by rfl) (by rfl) (by exact byObl))), ?_⟩
          refine WA.takesD T false tok [3] (f' := 4) (by kernel_rfl) (by rfl) (by rfl) (by exact byObl) (by rfl) (by rfl) ?_
          refine WA.allT [7] (by kernel_rfl) (by simp) ?_; intro i' hi'; simp only [List.mem_cons, List.not_mem_nil, or_false] at hi'
          subst hi'
          refine ⟨_, _, _, rfl, by rfl, by rfl, .inr ⟨by decide, TK.callN [1] (.sl 4 0 E.length 16) (hall) (LeAll.cons (by rfl) (by first | with_reducible exact Root.Le.refl _ | with_reducible exact le_dead | (skip; done) | exact byLeq) (by exact byCon) (trivial)) (by rfl) (by rfl) (by exact byArgs) (by simp [Sc, sc_pl, sc_ds]) (by exact byAllc) (by rfl) (by exact bySc) rfl⟩, ?_⟩
          refine WA.takesD T false tok [10, 11, 12] (f' := 0) (by kernel_rfl) (by rfl) (by rfl) (by exact byObl) (by rfl) (by rfl) ?_
          refine WA.end rfl (by kernel_rfl) (noPan ?_)
          exact cut6 4 3 2 rfl rfl rfl rfl rfl rfl rfl rfl rfl
    · refine ⟨_, _, _, rfl, by rfl, by rfl, .inl (MK.of tok (wm := false) (by rfl) (by exact byObl) (by rfl) (by exact byObl)), ?_⟩
      refine WA.allT [2, 6, 9] (by kernel_rfl) (by simp) ?_; intro i' hi'; simp only [List.mem_cons, List.not_mem_nil, or_false] at hi'
      rcases hi' with rfl | rfl | rfl
      · refine ⟨_, _, _, rfl, by rfl, by rfl, .inl (MK.q (evalOp_q tok (wm := false) (by rfl) (by rfl) (by exact byObl))), ?_⟩
        refine WA.takesD T false tok [3] (f' := 6) (by kernel_rfl) (by rfl) (by rfl) (by exact byObl) (by rfl) (by rfl) ?_
        refine WA.allT [6, 9] (by kernel_rfl) (by simp) ?_; intro i' hi'; simp only [List.mem_cons, List.not_mem_nil, or_false] at hi'
        rcases hi' with rfl | rfl
        · refine ⟨_, _, _, rfl, by rfl, by rfl, .inl (MK.callP (l01Same_fn N hN) (by rfl) (by simp [Sc, sc_pl, sc_ds, pl_ne, ds_ne])), ?_⟩
          refine WA.allT [7, 9] (by kernel_rfl) (by simp) ?_; intro i' hi'; simp only [List.mem_cons, List.not_mem_nil, or_false] at hi'
          rcases hi' with rfl | rfl
          · refine ⟨_, _, _, rfl, by rfl, by rfl, .inr ⟨by decide, TK.callN [1] (.sl 3 0 E.length 16) (hall) (LeAll.cons (by rfl) (by first | with_reducible exact Root.Le.refl _ | with_reducible exact le_dead | (skip; done) | exact byLeq) (by exact byCon) (trivial)) (by rfl) (by rfl) (by exact byArgs) (by simp [Sc, sc_pl, sc_ds]) (by exact byAllc) (by rfl) (by exact bySc) rfl⟩, ?_⟩
            refine WA.takesD T false tok [10, 11] (f' := 2) (by kernel_rfl) (by rfl) (by rfl) (by exact byObl) (by rfl) (by rfl) ?_
            refine WA.allT [9] (by kernel_rfl) (by simp) ?_; intro i' hi'; simp only [List.mem_cons, List.not_mem_nil, or_false] at hi'
            subst hi'
            refine ⟨_, _, _, rfl, by rfl, by rfl, .inl (MK.of tok (wm := false) (by rfl) (by exact byObl) (by rfl) (by exact byObl)), ?_⟩
            refine WA.takesD T false tok [12] (f' := 0) (by kernel_rfl) (by rfl) (by rfl) (by exact byObl) (by rfl) (by rfl) ?_
            refine WA.end rfl (by kernel_rfl) (noPan ?_)
            exact cut6 3 2 4 rfl rfl rfl rfl rfl rfl rfl rfl rfl
          · refine ⟨_, _, _, rfl, by rfl, by rfl, .inl (MK.of tok (wm := false) (by rfl) (by exact byObl) (by rfl) (by exact byObl)), ?_⟩
            refine WA.allT [7] (by kernel_rfl) (by simp) ?_; intro i' hi'; simp only [List.mem_cons, List.not_mem_nil, or_false] at hi'
            subst hi'
            refine ⟨_, _, _, rfl, by rfl, by rfl, .inr ⟨by decide, TK.callN [1] (.sl 4 0 E.length 16) (hall) (LeAll.cons (by rfl) (by first | with_reducible exact Root.Le.refl _ | with_reducible exact le_dead | (skip; done) | exact byLeq) (by exact byCon) (trivial)) (by rfl) (by rfl) (by exact byArgs) (by simp [Sc, sc_pl, sc_ds]) (by exact byAllc) (by rfl) (by exact bySc) rfl⟩, ?_⟩
            refine WA.takesD T false tok [10, 11, 12] (f' := 0) (by kernel_rfl) (by rfl) (by rfl) (by exact byObl) (by rfl) (by rfl) ?_
            refine WA.end rfl (by kernel_rfl) (noPan ?_)
            exact cut6 4 2 3 rfl rfl rfl rfl rfl rfl rfl rfl rfl
        · refine ⟨_, _, _, rfl, by rfl, by rfl, .inl (MK.of tok (wm := false) (by rfl) (by exact byObl) (by rfl) (by exact byObl)), ?_⟩
          refine WA.allT [6] (by kernel_rfl) (by simp) ?_; intro i' hi'; simp only [List.mem_cons, List.not_mem_nil, or_false] at hi'
          subst hi'
          refine ⟨_, _, _, rfl, by rfl, by rfl, .inl (MK.callP (l01Same_fn N hN) (by rfl) (by simp [Sc, sc_pl, sc_ds, pl_ne, ds_ne])), ?_⟩
          refine WA.allT [7] (by kernel_rfl) (by simp) ?_; intro i' hi'; simp only [List.mem_cons, List.not_mem_nil, or_false] at hi'
          subst hi'
          refine ⟨_, _, _, rfl, by rfl, by rfl, .inr ⟨by decide, TK.callN [1] (.sl 4 0 E.length 16) (hall) (LeAll.cons (by rfl) (by first | with_reducible exact Root.Le.refl _ | with_reducible exact le_dead | (skip; done) | exact byLeq) (by exact byCon) (trivial)) (by rfl) (by rfl) (by exact byArgs) (by simp [Sc, sc_pl, sc_ds]) (by exact byAllc) (by rfl) (by exact bySc) rfl⟩, ?_⟩
          refine WA.takesD T false tok [10, 11, 12] (f' := 0) (by kernel_rfl) (by rfl) (by rfl) (by exact byObl) (by rfl) (by rfl) ?_
          refine WA.end rfl (by kernel_rfl) (noPan ?_)
          exact cut6 4 2 3 rfl rfl rfl rfl rfl rfl rfl rfl rfl
      · refine ⟨_, _, _, rfl, by rfl, by rfl, .inl (MK.callP (l01Same_fn N hN) (by rfl) (by simp [Sc, sc_pl, sc_ds, pl_ne, ds_ne])), ?_⟩
        refine WA.allT [2, 9] (by kernel_rfl) (by simp) ?_; intro i' hi'; simp only [List.mem_cons, List.not_mem_nil, or_false] at hi'
        rcases hi' with rfl | rfl
        · refine ⟨_, _, _, rfl, by rfl, by rfl, .inl (MK.q (evalOp_q tok (wm := false) (by rfl) (by rfl) (by exact byObl))), ?_⟩
          refine WA.takesD T false tok [3] (f' := 5) (by kernel_rfl) (by rfl) (by rfl) (by exact byObl) (by rfl) (by rfl) ?_
          refine WA.allT [7, 9] (by kernel_rfl) (by simp) ?_; intro i' hi'; simp only [List.mem_cons, List.not_mem_nil, or_false] at hi'
          rcases hi' with rfl | rfl
          · refine ⟨_, _, _, rfl, by rfl, by rfl, .inr ⟨by decide, TK.callN [1] (.sl 3 0 E.length 16) (hall) (LeAll.cons (by rfl) (by first | with_reducible exact Root.Le.refl _ | with_reducible exact le_dead | (skip; done) | exact byLeq) (by exact byCon) (trivial)) (by rfl) (by rfl) (by exact byArgs) (by simp [Sc, sc_pl, sc_ds]) (by exact byAllc) (by rfl) (by exact bySc) rfl⟩, ?_⟩
            refine WA.takesD T false tok [10, 11] (f' := 2) (by kernel_rfl) (by rfl) (by rfl) (by exact byObl) (by rfl) (by rfl) ?_
            refine WA.allT [9] (by kernel_rfl) (by simp) ?_; intro i' hi'; simp only [List.mem_cons, List.not_mem_nil, or_false] at hi'
            subst hi'
            refine ⟨_, _, _, rfl, by rfl, by rfl, .inl (MK.of tok (wm := false) (by rfl) (by exact byObl) (by rfl) (by exact byObl)), ?_⟩
            refine WA.takesD T false tok [12] (f' := 0) (by kernel_rfl) (by rfl) (by rfl) (by exact byObl) (by rfl) (by rfl) ?_
            refine WA.end rfl (by kernel_rfl) (noPan ?_)
            exact cut6 3 2 4 rfl rfl rfl rfl rfl rfl rfl rfl rfl
          · refine ⟨_, _, _, rfl, by rfl, by rfl, .inl (MK.of tok (wm := false) (by rfl) (by exact byObl) (by rfl) (by exact byObl)), ?_⟩
            refine WA.allT [7] (by kernel_rfl) (by simp) ?_; intro i' hi'; simp only [List.mem_cons, List.not_mem_nil, or_false] at hi'
            subst hi'
            refine ⟨_, _, _, rfl, by rfl, by rfl, .inr ⟨by decide, TK.callN [1] (.sl 4 0 E.length 16) (hall) (LeAll.cons (by rfl) (by first | with_reducible exact Root.Le.refl _ | with_reducible exact le_dead | (skip; done) | exact byLeq) (by exact byCon) (trivial)) (by rfl) (by rfl) (by exact byArgs) (by simp [Sc, sc_pl, sc_ds]) (by exact byAllc) (by rfl) (by exact bySc) rfl⟩, ?_⟩
            refine WA.takesD T false tok [10, 11, 12] (f' := 0) (by kernel_rfl) (by rfl) (by rfl) (by exact byObl) (by rfl) (by rfl) ?_
            refine WA.end rfl (by kernel_rfl) (noPan ?_)
            exact cut6 4 2 3 rfl rfl rfl rfl rfl rfl rfl rfl rfl
        · refine ⟨_, _, _, rfl, by rfl, by rfl, .inl (MK.of tok (wm := false) (by rfl) (by exact byObl) (by rfl) (by exact byObl)), ?_⟩
          refine WA.allT [2] (by kernel_rfl) (by simp) ?_; intro i' hi'; simp only [List.mem_cons, List.not_mem_nil, or_false] at hi'
          subst hi'
          refine ⟨_, _, _, rfl, by rfl, by rfl, .inl (MK.q (evalOp_q tok (wm := false) (by rfl) (by rfl) (by exact byObl))), ?_⟩
          refine WA.takesD T false tok [3] (f' := 4) (by kernel_rfl) (by rfl) (by rfl) (by exact byObl) (by rfl) (by rfl) ?_
          refine WA.allT [7] (by kernel_rfl) (by simp) ?_; intro i' hi'; simp only [List.mem_cons, List.not_mem_nil, or_false] at hi'
          subst hi'
          refine ⟨_, _, _, rfl, by rfl, by rfl, .inr ⟨by decide, TK.callN [1] (.sl 4 0 E.length 16) (hall) (LeAll.cons (by rfl) (by first | with_reducible exact Root.Le.refl _ | with_reducible exact le_dead | (skip; done) | exact byLeq) (by exact byCon) (trivial)) (by rfl) (by rfl) (by exact byArgs) (by simp [Sc, sc_pl, sc_ds]) (by exact byAllc) (by rfl) (by exact bySc) rfl⟩, ?_⟩
          refine WA.takesD T false tok [10, 11, 12] (f' := 0) (by kernel_rfl) (by rfl) (by rfl) (by exact byObl) (by rfl) (by rfl) ?_
          refine WA.end rfl (by kernel_rfl) (noPan ?_)
          exact cut6 4 2 3 rfl rfl rfl rfl rfl rfl rfl rfl rfl
      · refine ⟨_, _, _, rfl, by rfl, by rfl, .inl (MK.of tok (wm := false) (by rfl) (by exact byObl) (by rfl) (by exact byObl)), ?_⟩
        refine WA.allT [2, 6] (by kernel_rfl) (by simp) ?_; intro i' hi'; simp only [List.mem_cons, List.not_mem_nil, or_false] at hi'
        rcases hi' with rfl | rfl
        · refine ⟨_, _, _, rfl, by rfl, by rfl, .inl (MK.q (evalOp_q tok (wm := false) (by rfl) (by rfl) (by exact byObl))), ?_⟩
          refine WA.takesD T false tok [3] (f' := 5) (by kernel_rfl) (by rfl) (by rfl) (by exact byObl) (by rfl) (by rfl) ?_
          refine WA.allT [6] (by kernel_rfl) (by simp) ?_; intro i' hi'; simp only [List.mem_cons, List.not_mem_nil, or_false] at hi'
          subst hi'
          refine ⟨_, _, _, rfl, by rfl, by rfl, .inl (MK.callP (l01Same_fn N hN) (by rfl) (by simp [Sc, sc_pl, sc_ds, pl_ne, ds_ne])), ?_⟩
          refine WA.allT [7] (by kernel_rfl) (by simp) ?_; intro i' hi'; simp only [List.mem_cons, List.not_mem_nil, or_false] at hi'
          subst hi'
          refine ⟨_, _, _, rfl, by rfl, by rfl, .inr ⟨by decide, TK.callN [1] (.sl 4 0 E.length 16) (hall) (LeAll.cons (by rfl) (by first | with_reducible exact Root.Le.refl _ | with_reducible exact le_dead | (skip; done) | exact byLeq) (by exact byCon) (trivial)) (by rfl) (by rfl) (by exact byArgs) (by simp [Sc, sc_pl, sc_ds]) (by exact byAllc) (by rfl) (by exact bySc) rfl⟩, ?_⟩
          refine WA.takesD T false tok [10, 11, 12] (f' := 0) (by kernel_rfl) (by rfl) (by rfl) (by exact byObl) (by rfl) (by rfl) ?_
          refine WA.end rfl (by kernel_rfl) (noPan ?_)
          exact cut6 4 2 3 rfl rfl rfl rfl rfl rfl rfl rfl rfl
        · refine ⟨_, _, _, rfl, by rfl, by rfl, .inl (MK.callP (l01Same_fn N hN) (by rfl) (by simp [Sc, sc_pl, sc_ds, pl_ne, ds_ne])), ?_⟩
          refine WA.allT [2] (by kernel_rfl) (by simp) ?_; intro i' hi'; simp only [List.mem_cons, List.not_mem_nil, or_false] at hi'
          subst hi'
          refine ⟨_, _, _, rfl, by rfl, by rfl, .inl (MK.q (evalOp_q tok (wm := false) (by rfl) (by rfl) (by exact byObl))), ?_⟩
          refine WA.takesD T false tok [3] (f' := 4) (by kernel_rfl) (by rfl) (by rfl) (by exact byObl) (by rfl) (by rfl) ?_
          refine WA.allT [7] (by kernel_rfl) (by simp) ?_; intro i' hi'; simp only [List.mem_cons, List.not_mem_nil, or_false] at hi'
          subst hi'
          refine ⟨_, _, _, rfl, by rfl, by rfl, .inr ⟨by decide, TK.callN [1] (.sl 4 0 E.length 16) (hall) (LeAll.cons (by rfl) (by first | with_reducible exact Root.Le.refl _ | with_reducible exact le_dead | (skip; done) | exact byLeq) (by exact byCon) (trivial)) (by rfl) (by rfl) (by exact byArgs) (by simp [Sc, sc_pl, sc_ds]) (by exact byAllc) (by rfl) (by exact bySc) rfl⟩, ?_⟩
          refine WA.takesD T false tok [10, 11, 12] (f' := 0) (by kernel_rfl) (by rfl) (by rfl) (by exact byObl) (by rfl) (by rfl) ?_
          refine WA.end rfl (by kernel_rfl) (noPan ?_)
          exact cut6 4 2 3 rfl rfl rfl rfl rfl rfl rfl rfl rfl
    · refine ⟨_, _, _, rfl, by rfl, by rfl, .inl (MK.of tok (wm := false) (by rfl) (by exact byObl) (by rfl) (by exact byObl)), ?_⟩
      refine WA.allT [2, 6, 8] (by kernel_rfl) (by simp) ?_; intro i' hi'; simp only [List.mem_cons, List.not_mem_nil, or_false] at hi'
      rcases hi' with rfl | rfl | rfl
      · refine ⟨_, _, _, rfl, by rfl, by rfl, .inl (MK.q (evalOp_q tok (wm := false) (by rfl) (by rfl) (by exact byObl))), ?_⟩
        refine WA.takesD T false tok [3] (f' := 6) (by kernel_rfl) (by rfl) (by rfl) (by exact byObl) (by rfl) (by rfl) ?_
        refine WA.allT [6, 8] (by kernel_rfl) (by simp) ?_; intro i' hi'; simp only [List.mem_cons, List.not_mem_nil, or_false] at hi'
        rcases hi' with rfl | rfl
        · refine ⟨_, _, _, rfl, by rfl, by rfl, .inl (MK.callP (l01Same_fn N hN) (by rfl) (by simp [Sc, sc_pl, sc_ds, pl_ne, ds_ne])), ?_⟩
          refine WA.allT [7, 8] (by kernel_rfl) (by simp) ?_; intro i' hi'; simp only [List.mem_cons, List.not_mem_nil, or_false] at hi'
          rcases hi' with rfl | rfl
          · refine ⟨_, _, _, rfl, by rfl, by rfl, .inr ⟨by decide, TK.callN [1] (.sl 3 0 E.length 16) (hall) (LeAll.cons (by rfl) (by first | with_reducible exact Root.Le.refl _ | with_reducible exact le_dead | (skip; done) | exact byLeq) (by exact byCon) (trivial)) (by rfl) (by rfl) (by exact byArgs) (by simp [Sc, sc_pl, sc_ds]) (by exact byAllc) (by rfl) (by exact bySc) rfl⟩, ?_⟩
            refine WA.takesD T false tok [10] (f' := 3) (by kernel_rfl) (by rfl) (by rfl) (by exact byObl) (by rfl) (by rfl) ?_
            refine WA.allT [8] (by kernel_rfl) (by simp) ?_; intro i' hi'; simp only [List.mem_cons, List.not_mem_nil, or_false] at hi'
            subst hi'
            refine ⟨_, _, _, rfl, by rfl, by rfl, .inl (MK.of tok (wm := false) (by rfl) (by exact byObl) (by rfl) (by exact byObl)), ?_⟩
            refine WA.takesD T false tok [11, 12] (f' := 0) (by kernel_rfl) (by rfl) (by rfl) (by exact byObl) (by rfl) (by rfl) ?_
            refine WA.end rfl (by kernel_rfl) (noPan ?_)
            exact cut6 3 4 2 rfl rfl rfl rfl rfl rfl rfl rfl rfl
          · refine ⟨_, _, _, rfl, by rfl, by rfl, .inl (MK.of tok (wm := false) (by rfl) (by exact byObl) (by rfl) (by exact byObl)), ?_⟩
            refine WA.allT [7] (by kernel_rfl) (by simp) ?_; intro i' hi'; simp only [List.mem_cons, List.not_mem_nil, or_false] at hi'
            subst hi'
            refine ⟨_, _, _, rfl, by rfl, by rfl, .inr ⟨by decide, TK.callN [1] (.sl 4 0 E.length 16) (hall) (LeAll.cons (by rfl) (by first | with_reducible exact Root.Le.refl _ | with_reducible exact le_dead | (skip; done) | exact byLeq) (by exact byCon) (trivial)) (by rfl) (by rfl) (by exact byArgs) (by simp [Sc, sc_pl, sc_ds]) (by exact byAllc) (by rfl) (by exact bySc) rfl⟩, ?_⟩
            refine WA.takesD T false tok [10, 11, 12] (f' := 0) (by kernel_rfl) (by rfl) (by rfl) (by exact byObl) (by rfl) (by rfl) ?_
            refine WA.end rfl (by kernel_rfl) (noPan ?_)
            exact cut6 4 3 2 rfl rfl rfl rfl rfl rfl rfl rfl rfl
        · refine ⟨_, _, _, rfl, by rfl, by rfl, .inl (MK.of tok (wm := false) (by rfl) (by exact byObl) (by rfl) (by exact byObl)), ?_⟩
          refine WA.allT [6] (by kernel_rfl) (by simp) ?_; intro i' hi'; simp only [List.mem_cons, List.not_mem_nil, or_false] at hi'
          subst hi'
          refine ⟨_, _, _, rfl, by rfl, by rfl, .inl (MK.callP (l01Same_fn N hN) (by rfl) (by simp [Sc, sc_pl, sc_ds, pl_ne, ds_ne])), ?_⟩
          refine WA.allT [7] (by kernel_rfl) (by simp) ?_; intro i' hi'; simp only [List.mem_cons, List.not_mem_nil, or_false] at hi'
          subst hi'
          refine ⟨_, _, _, rfl, by rfl, by rfl, .inr ⟨by decide, TK.callN [1] (.sl 4 0 E.length 16) (hall) (LeAll.cons (by rfl) (by first | with_reducible exact Root.Le.refl _ | with_reducible exact le_dead | (skip; done) | exact byLeq) (by exact byCon) (trivial)) (by rfl) (by rfl) (by exact byArgs) (by simp [Sc, sc_pl, sc_ds]) (by exact byAllc) (by rfl) (by exact bySc) rfl⟩, ?_⟩
          refine WA.takesD T false tok [10, 11, 12] (f' := 0) (by kernel_rfl) (by rfl) (by rfl) (by exact byObl) (by rfl) (by rfl) ?_
          refine WA.end rfl (by kernel_rfl) (noPan ?_)
          exact cut6 4 3 2 rfl rfl rfl rfl rfl rfl rfl rfl rfl
      · refine ⟨_, _, _, rfl, by rfl, by rfl, .inl (MK.callP (l01Same_fn N hN) (by rfl) (by simp [Sc, sc_pl, sc_ds, pl_ne, ds_ne])), ?_⟩
        refine WA.allT [2, 8] (by kernel_rfl) (by simp) ?_; intro i' hi'; simp only [List.mem_cons, List.not_mem_nil, or_false] at hi'
        rcases hi' with rfl | rfl
        · refine ⟨_, _, _, rfl, by rfl, by rfl, .inl (MK.q (evalOp_q tok (wm := false) (by rfl) (by rfl) (by exact byObl))), ?_⟩
          refine WA.takesD T false tok [3] (f' := 5) (by kernel_rfl) (by rfl) (by rfl) (by exact byObl) (by rfl) (by rfl) ?_
          refine WA.allT [7, 8] (by kernel_rfl) (by simp) ?_; intro i' hi'; simp only [List.mem_cons, List.not_mem_nil, or_false] at hi'
          rcases hi' with rfl | rfl
          · refine ⟨_, _, _, rfl, by rfl, by rfl, .inr ⟨by decide, TK.callN [1] (.sl 3 0 E.length 16) (hall) (LeAll.cons (by rfl) (by first | with_reducible exact Root.Le.refl _ | with_reducible exact le_dead | (skip; done) | exact byLeq) (by exact byCon) (trivial)) (by rfl) (by rfl) (by exact byArgs) (by simp [Sc, sc_pl, sc_ds]) (by exact byAllc) (by rfl) (by exact bySc) rfl⟩, ?_⟩
            refine WA.takesD T false tok [10] (f' := 3) (by kernel_rfl) (by rfl) (by rfl) (by exact byObl) (by rfl) (by rfl) ?_
            refine WA.allT [8] (by kernel_rfl) (by simp) ?_; intro i' hi'; simp only [List.mem_cons, List.not_mem_nil, or_false] at hi'
            subst hi'
            refine ⟨_, _, _, rfl, by rfl, by rfl, .inl (MK.of tok (wm := false) (by rfl) (by exact byObl) (by rfl) (by exact byObl)), ?_⟩
            refine WA.takesD T false tok [11, 12] (f' := 0) (by kernel_rfl) (by rfl) (by rfl) (by exact byObl) (by rfl) (by rfl) ?_
            refine WA.end rfl (by kernel_rfl) (noPan ?_)
            exact cut6 3 4 2 rfl rfl rfl rfl rfl rfl rfl rfl rfl
          · refine ⟨_, _, _, rfl, by rfl, by rfl, .inl (MK.of tok (wm := false) (by rfl) (by exact byObl) (by rfl) (by exact byObl)), ?_⟩
            refine WA.allT [7] (by kernel_rfl) (by simp) ?_; intro i' hi'; simp only [List.mem_cons, List.not_mem_nil, or_false] at hi'
            subst hi'
            refine ⟨_, _, _, rfl, by rfl, by rfl, .inr ⟨by decide, TK.callN [1] (.sl 4 0 E.length 16) (hall) (LeAll.cons (by rfl) (by first | with_reducible exact Root.Le.refl _ | with_reducible exact le_dead | (skip; done) | exact byLeq) (by exact byCon) (trivial)) (by rfl) (by rfl) (by exact byArgs) (by simp [Sc, sc_pl, sc_ds]) (by exact byAllc) (by rfl) (by exact bySc) rfl⟩, ?_⟩
            refine WA.takesD T false tok [10, 11, 12] (f' := 0) (by kernel_rfl) (by rfl) (by rfl) (by exact byObl) (by rfl) (by rfl) ?_
            refine WA.end rfl (by kernel_rfl) (noPan ?_)
            exact cut6 4 3 2 rfl rfl rfl rfl rfl rfl rfl rfl rfl
        · refine ⟨_, _, _, rfl, by rfl, by rfl, .inl (MK.of tok (wm := false) (by rfl) (by exact byObl) (by rfl) (by exact byObl)), ?_⟩
          refine WA.allT [2] (by kernel_rfl) (by simp) ?_; intro i' hi'; simp only [List.mem_cons, List.not_mem_nil, or_false] at hi'
          subst hi'
          refine ⟨_, _, _, rfl, by rfl, by rfl, .inl (MK.q (evalOp_q tok (wm := false) (by rfl) (by rfl) (by exact byObl))), ?_⟩
          refine WA.takesD T false tok [3] (f' := 4) (by kernel_rfl) (by rfl) (by rfl) (by exact byObl) (by rfl) (by rfl) ?_
          refine WA.allT [7] (by kernel_rfl) (by simp) ?_; intro i' hi'; simp only [List.mem_cons, List.not_mem_nil, or_false] at hi'
          subst hi'
          refine ⟨_, _, _, rfl, by rfl, by rfl, .inr ⟨by decide, TK.callN [1] (.sl 4 0 E.length 16) (hall) (LeAll.cons (by rfl) (by first | with_reducible exact Root.Le.refl _ | with_reducible exact le_dead | (skip; done) | exact byLeq) (by exact byCon) (trivial)) (by rfl) (by rfl) (by exact byArgs) (by simp [Sc, sc_pl, sc_ds]) (by exact byAllc) (by rfl) (by exact bySc) rfl⟩, ?_⟩
          refine WA.takesD T false tok [10, 11, 12] (f' := 0) (by kernel_rfl) (by rfl) (by rfl) (by exact byObl) (by rfl) (by rfl) ?_
          refine WA.end rfl (by kernel_rfl) (noPan ?_)
          exact cut6 4 3 2 rfl rfl rfl rfl rfl rfl rfl rfl rfl
      · refine ⟨_, _, _, rfl, by rfl, by rfl, .inl (MK.of tok (wm := false) (by rfl) (by exact byObl) (by rfl) (by exact byObl)), ?_⟩
        refine WA.allT [2, 6] (by kernel_rfl) (by simp) ?_; intro i' hi'; simp only [List.mem_cons, List.not_mem_nil, or_false] at hi'
        rcases hi' with rfl | rfl
        · refine ⟨_, _, _, rfl, by rfl, by rfl, .inl (MK.q (evalOp_q tok (wm := false) (by rfl) (by rfl) (by exact byObl))), ?_⟩
          refine WA.takesD T false tok [3] (f' := 5) (by kernel_rfl) (by rfl) (by rfl) (by exact byObl) (by rfl) (by rfl) ?_
          refine WA.allT [6] (by kernel_rfl) (by simp) ?_; intro i' hi'; simp only [List.mem_cons, List.not_mem_nil, or_false] at hi'
          subst hi'
          refine ⟨_, _, _, rfl, by rfl, by rfl, .inl (MK.callP (l01Same_fn N hN) (by rfl) (by simp [Sc, sc_pl, sc_ds, pl_ne, ds_ne])), ?_⟩
          refine WA.allT [7] (by kernel_rfl) (by simp) ?_; intro i' hi'; simp only [List.mem_cons, List.not_mem_nil, or_false] at hi'
          subst hi'
          refine ⟨_, _, _, rfl, by rfl, by rfl, .inr ⟨by decide, TK.callN [1] (.sl 4 0 E.length 16) (hall) (LeAll.cons (by rfl) (by first | with_reducible exact Root.Le.refl _ | with_reducible exact le_dead | (skip; done) | exact byLeq) (by exact byCon) (trivial)) (by rfl) (by rfl) (by exact byArgs) (by simp [Sc, sc_pl, sc_ds]) (by exact byAllc) (by rfl) (by exact bySc) rfl⟩, ?_⟩
          refine WA.takesD T false tok [10, 11, 12] (f' := 0) (by kernel_rfl) (by rfl) (by rfl) (by exact byObl) (by rfl) (by rfl) ?_
          refine WA.end rfl (by kernel_rfl) (noPan ?_)
          exact cut6 4 3 2 rfl rfl rfl rfl rfl rfl rfl rfl rfl
        · refine ⟨_, _, _, rfl, by rfl, by rfl, .inl (MK.callP (l01Same_fn N hN) (by rfl) (by simp [Sc, sc_pl, sc_ds, pl_ne, ds_ne])), ?_⟩
          refine WA.allT [2] (by kernel_rfl) (by simp) ?_; intro i' hi'; simp only [List.mem_cons, List.not_mem_nil, or_false] at hi'
          subst hi'
          refine ⟨_, _, _, rfl, by rfl, by rfl, .inl (MK.q (evalOp_q tok (wm := false) (by rfl) (by rfl) (by exact byObl))), ?_⟩
          refine WA.takesD T false tok [3] (f' := 4) (by kernel_rfl) (by rfl) (by rfl) (by exact byObl) (by rfl) (by rfl) ?_
          refine WA.allT [7] (by kernel_rfl) (by simp) ?_; intro i' hi'; simp only [List.mem_cons, List.not_mem_nil, or_false] at hi'
          subst hi'
          refine ⟨_, _, _, rfl, by rfl, by rfl, .inr ⟨by decide, TK.callN [1] (.sl 4 0 E.length 16) (hall) (LeAll.cons (by rfl) (by first | with_reducible exact Root.Le.refl _ | with_reducible exact le_dead | (skip; done) | exact byLeq) (by exact byCon) (trivial)) (by rfl) (by rfl) (by exact byArgs) (by simp [Sc, sc_pl, sc_ds]) (by exact byAllc) (by rfl) (by exact bySc) rfl⟩, ?_⟩
          refine WA.takesD T false tok [10, 11, 12] (f' := 0) (by kernel_rfl) (by rfl) (by rfl) (by exact byObl) (by rfl) (by rfl) ?_
          refine WA.end rfl (by kernel_rfl) (noPan ?_)
          exact cut6 4 3 2 rfl rfl rfl rfl rfl rfl rfl rfl rfl
  · refine ⟨_, _, _, rfl, by rfl, by rfl, .inl (MK.of tok (wm := false) (by rfl) (by exact byObl) (by rfl) (by exact byObl)), ?_⟩
    refine WA.allT [2, 5, 9] (by kernel_rfl) (by simp) ?_; intro i' hi'; simp only [List.mem_cons, List.not_mem_nil, or_false] at hi'
    rcases hi' with rfl | rfl | rfl
    · refine ⟨_, _, _, rfl, by rfl, by rfl, .inl (MK.q (evalOp_q tok (wm := false) (by rfl) (by rfl) (by exact byObl))), ?_⟩
      refine WA.takesD T false tok [3] (f' := 7) (by kernel_rfl) (by rfl) (by rfl) (by exact byObl) (by rfl) (by rfl) ?_
      refine WA.allT [5, 9] (by kernel_rfl) (by simp) ?_; intro i' hi'; simp only [List.mem_cons, List.not_mem_nil, or_false] at hi'
      rcases hi' with rfl | rfl
      · refine ⟨_, _, _, rfl, by rfl, by rfl, .inl (MK.q (evalOp_q tok (wm := false) (by rfl) (by rfl) (by exact byObl))), ?_⟩
        refine WA.allT [6, 9] (by kernel_rfl) (by simp) ?_; intro i' hi'; simp only [List.mem_cons, List.not_mem_nil, or_false] at hi'
        rcases hi' with rfl | rfl
        · refine ⟨_, _, _, rfl, by rfl, by rfl, .inl (MK.callP (l01Same_fn N hN) (by rfl) (by simp [Sc, sc_pl, sc_ds, pl_ne, ds_ne])), ?_⟩
          refine WA.allT [7, 9] (by kernel_rfl) (by simp) ?_; intro i' hi'; simp only [List.mem_cons, List.not_mem_nil, or_false] at hi'
          rcases hi' with rfl | rfl
          · refine ⟨_, _, _, rfl, by rfl, by rfl, .inr ⟨by decide, TK.callN [1] (.sl 3 0 E.length 16) (hall) (LeAll.cons (by rfl) (by first | with_reducible exact Root.Le.refl _ | with_reducible exact le_dead | (skip; done) | exact byLeq) (by exact byCon) (trivial)) (by rfl) (by rfl) (by exact byArgs) (by simp [Sc, sc_pl, sc_ds]) (by exact byAllc) (by rfl) (by exact bySc) rfl⟩, ?_⟩
            refine WA.takesD T false tok [10, 11] (f' := 2) (by kernel_rfl) (by rfl) (by rfl) (by exact byObl) (by rfl) (by rfl) ?_
            refine WA.allT [9] (by kernel_rfl) (by simp) ?_; intro i' hi'; simp only [List.mem_cons, List.not_mem_nil, or_false] at hi'
            subst hi'
            refine ⟨_, _, _, rfl, by rfl, by rfl, .inl (MK.of tok (wm := false) (by rfl) (by exact byObl) (by rfl) (by exact byObl)), ?_⟩
            refine WA.takesD T false tok [12] (f' := 0) (by kernel_rfl) (by rfl) (by rfl) (by exact byObl) (by rfl) (by rfl) ?_
            refine WA.end rfl (by kernel_rfl) (noPan ?_)
            exact cut6 3 2 4 rfl rfl rfl rfl rfl rfl rfl rfl rfl
          · refine ⟨_, _, _, rfl, by rfl, by rfl, .inl (MK.of tok (wm := false) (by rfl) (by exact byObl) (by rfl) (by exact byObl)), ?_⟩
            refine WA.allT [7] (by kernel_rfl) (by simp) ?_; intro i' hi'; simp only [List.mem_cons, List.not_mem_nil, or_false] at hi'
            subst hi'
            refine ⟨_, _, _, rfl, by rfl, by rfl, .inr ⟨by decide, TK.callN [1] (.sl 4 0 E.length 16) (hall) (LeAll.cons (by rfl) (by first | with_reducible exact Root.Le.refl _ | with_reducible exact le_dead | (skip; done) | exact byLeq) (by exact byCon) (trivial)) (by rfl) (by rfl) (by exact byArgs) (by simp [Sc, sc_pl, sc_ds]) (by exact byAllc) (by rfl) (by exact bySc) rfl⟩, ?_⟩
            refine WA.takesD T false tok [10, 11, 12] (f' := 0) (by kernel_rfl) (by rfl) (by rfl) (by exact byObl) (by rfl) (by rfl) ?_
            refine WA.end rfl (by kernel_rfl) (noPan ?_)
            exact cut6 4 2 3 rfl rfl rfl rfl rfl rfl rfl rfl rfl
        · refine ⟨_, _, _, rfl, by rfl, by rfl, .inl (MK.of tok (wm := false) (by rfl) (by exact byObl) (by rfl) (by exact byObl)), ?_⟩
          refine WA.allT [6] (by kernel_rfl) (by simp) ?_; intro i' hi'; simp only [List.mem_cons, List.not_mem_nil, or_false] at hi'
          subst hi'
          refine ⟨_, _, _, rfl, by rfl, by rfl, .inl (MK.callP (l01Same_fn N hN) (by rfl) (by simp [Sc, sc_pl, sc_ds, pl_ne, ds_ne])), ?_⟩
          refine WA.allT [7] (by kernel_rfl) (by simp) ?_; intro i' hi'; simp only [List.mem_cons, List.not_mem_nil, or_false] at hi'
          subst hi'
          refine ⟨_, _, _, rfl, by rfl, by rfl, .inr ⟨by decide, TK.callN [1] (.sl 4 0 E.length 16) (hall) (LeAll.cons (by rfl) (by first | with_reducible exact Root.Le.refl _ | with_reducible exact le_dead | (skip; done) | exact byLeq) (by exact byCon) (trivial)) (by rfl) (by rfl) (by exact byArgs) (by simp [Sc, sc_pl, sc_ds]) (by exact byAllc) (by rfl) (by exact bySc) rfl⟩, ?_⟩
          refine WA.takesD T false tok [10, 11, 12] (f' := 0) (by kernel_rfl) (by rfl) (by rfl) (by exact byObl) (by rfl) (by rfl) ?_
          refine WA.end rfl (by kernel_rfl) (noPan ?_)
          exact cut6 4 2 3 rfl rfl rfl rfl rfl rfl rfl rfl rfl
      · refine ⟨_, _, _, rfl, by rfl, by rfl, .inl (MK.of tok (wm := false) (by rfl) (by exact byObl) (by rfl) (by exact byObl)), ?_⟩
        refine WA.allT [5] (by kernel_rfl) (by simp) ?_; intro i' hi'; simp only [List.mem_cons, List.not_mem_nil, or_false] at hi'
        subst hi'
        refine ⟨_, _, _, rfl, by rfl, by rfl, .inl (MK.q (evalOp_q tok (wm := false) (by rfl) (by rfl) (by exact byObl))), ?_⟩
        refine WA.allT [6] (by kernel_rfl) (by simp) ?_; intro i' hi'; simp only [List.mem_cons, List.not_mem_nil, or_false] at hi'
        subst hi'
        refine ⟨_, _, _, rfl, by rfl, by rfl, .inl (MK.callP (l01Same_fn N hN) (by rfl) (by simp [Sc, sc_pl, sc_ds, pl_ne, ds_ne])), ?_⟩
        refine WA.allT [7] (by kernel_rfl) (by simp) ?_; intro i' hi'; simp only [List.mem_cons, List.not_mem_nil, or_false] at hi'
        subst hi'
        refine ⟨_, _, _, rfl, by rfl, by rfl, .inr ⟨by decide, TK.callN [1] (.sl 4 0 E.length 16) (hall) (LeAll.cons (by rfl) (by first | with_reducible exact Root.Le.refl _ | with_reducible exact le_dead | (skip; done) | exact byLeq) (by exact byCon) (trivial)) (by rfl) (by rfl) (by exact byArgs) (by simp [Sc, sc_pl, sc_ds]) (by exact byAllc) (by rfl) (by exact bySc) rfl⟩, ?_⟩
        refine WA.takesD T false tok [10, 11, 12] (f' := 0) (by kernel_rfl) (by rfl) (by rfl) (by exact byObl) (by rfl) (by rfl) ?_
        refine WA.end rfl (by kernel_rfl) (noPan ?_)
        exact cut6 4 2 3 rfl rfl rfl rfl rfl rfl rfl rfl rfl
    · refine ⟨_, _, _, rfl, by rfl, by rfl, .inl (MK.q (evalOp_q tok (wm := false) (by rfl) (by rfl) (by exact byObl))), ?_⟩
      refine WA.allT [2, 6, 9] (by kernel_rfl) (by simp) ?_; intro i' hi'; simp only [List.mem_cons, List.not_mem_nil, or_false] at hi'
      rcases hi' with rfl | rfl | rfl
      · refine ⟨_, _, _, rfl, by rfl, by rfl, .inl (MK.q (evalOp_q tok (wm := false) (by rfl) (by rfl) (by exact byObl))), ?_⟩
        refine WA.takesD T false tok [3] (f' := 6) (by kernel_rfl) (by rfl) (by rfl) (by exact byObl) (by rfl) (by rfl) ?_
        refine WA.allT [6, 9] (by kernel_rfl) (by simp) ?_; intro i' hi'; simp only [List.mem_cons, List.not_mem_nil, or_false] at hi'
        rcases hi' with rfl | rfl
        · refine ⟨_, _, _, rfl, by rfl, by rfl, .inl (MK.callP (l01Same_fn N hN) (by rfl) (by simp [Sc, sc_pl, sc_ds, pl_ne, ds_ne])), ?_⟩
          refine WA.allT [7, 9] (by kernel_rfl) (by simp) ?_; intro i' hi'; simp only [List.mem_cons, List.not_mem_nil, or_false] at hi'
          rcases hi' with rfl | rfl
          · refine ⟨_, _, _, rfl, by rfl, by rfl, .inr ⟨by decide, TK.callN [1] (.sl 3 0 E.length 16) (hall) (LeAll.cons (by rfl) (by first | with_reducible exact Root.Le.refl _ | with_reducible exact le_dead | (skip; done) | exact byLeq) (by exact byCon) (trivial)) (by rfl) (by rfl) (by exact byArgs) (by simp [Sc, sc_pl, sc_ds]) (by exact byAllc) (by rfl) (by exact bySc) rfl⟩, ?_⟩
            refine WA.takesD T false tok [10, 11] (f' := 2) (by kernel_rfl) (by rfl) (by rfl) (by exact byObl) (by rfl) (by rfl) ?_
            refine WA.allT [9] (by kernel_rfl) (by simp) ?_; intro i' hi'; simp only [List.mem_cons, List.not_mem_nil, or_false] at hi'
            subst hi'
            refine ⟨_, _, _, rfl, by rfl, by rfl, .inl (MK.of tok (wm := false) (by rfl) (by exact byObl) (by rfl) (by exact byObl)), ?_⟩
            refine WA.takesD T false tok [12] (f' := 0) (by kernel_rfl) (by rfl) (by rfl) (by exact byObl) (by rfl) (by rfl) ?_
            refine WA.end rfl (by kernel_rfl) (noPan ?_)
            exact cut6 3 2 4 rfl rfl rfl rfl rfl rfl rfl rfl rfl
          · refine ⟨_, _, _, rfl, by rfl, by rfl, .inl (MK.of tok (wm := false) (by rfl) (by exact byObl) (by rfl) (by exact byObl)), ?_⟩
            refine WA.allT [7] (by kernel_rfl) (by simp) ?_; intro i' hi'; simp only [List.mem_cons, List.not_mem_nil, or_false] at hi'
            subst hi'
            refine ⟨_, _, _, rfl, by rfl, by rfl, .inr ⟨by decide, TK.callN [1] (.sl 4 0 E.length 16) (hall) (LeAll.cons (by rfl) (by first | with_reducible exact Root.Le.refl _ | with_reducible exact le_dead | (skip; done) | exact byLeq) (by exact byCon) (trivial)) (by rfl) (by rfl) (by exact byArgs) (by simp [Sc, sc_pl, sc_ds]) (by exact byAllc) (by rfl) (by exact bySc) rfl⟩, ?_⟩
            refine WA.takesD T false tok [10, 11, 12] (f' := 0) (by kernel_rfl) (by rfl) (by rfl) (by exact byObl) (by rfl) (by rfl) ?_
            refine WA.end rfl (by kernel_rfl) (noPan ?_)
            exact cut6 4 2 3 rfl rfl rfl rfl rfl rfl rfl rfl rfl
        · refine ⟨_, _, _, rfl, by rfl, by rfl, .inl (MK.of tok (wm := false) (by rfl) (by exact byObl) (by rfl) (by exact byObl)), ?_⟩
          refine WA.allT [6] (by kernel_rfl) (by simp) ?_; intro i' hi'; simp only [List.mem_cons, List.not_mem_nil, or_false] at hi'
          subst hi'
          refine ⟨_, _, _, rfl, by rfl, by rfl, .inl (MK.callP (l01Same_fn N hN) (by rfl) (by simp [Sc, sc_pl, sc_ds, pl_ne, ds_ne])), ?_⟩
          refine WA.allT [7] (by kernel_rfl) (by simp) ?_; intro i' hi'; simp only [List.mem_cons, List.not_mem_nil, or_false] at hi'
          subst hi'
          refine ⟨_, _, _, rfl, by rfl, by rfl, .inr ⟨by decide, TK.callN [1] (.sl 4 0 E.length 16) (hall) (LeAll.cons (by rfl) (by first | with_reducible exact Root.Le.refl _ | with_reducible exact le_dead | (skip; done) | exact byLeq) (by exact byCon) (trivial)) (by rfl) (by rfl) (by exact byArgs) (by simp [Sc, sc_pl, sc_ds]) (by exact byAllc) (by rfl) (by exact bySc) rfl⟩, ?_⟩
          refine WA.takesD T false tok [10, 11, 12] (f' := 0) (by kernel_rfl) (by rfl) (by rfl) (by exact byObl) (by rfl) (by rfl) ?_
          refine WA.end rfl (by kernel_rfl) (noPan ?_)
          exact cut6 4 2 3 rfl rfl rfl rfl rfl rfl rfl rfl rfl
      · refine ⟨_, _, _, rfl, by rfl, by rfl, .inl (MK.callP (l01Same_fn N hN) (by rfl) (by simp [Sc, sc_pl, sc_ds, pl_ne, ds_ne])), ?_⟩
        refine WA.allT [2, 9] (by kernel_rfl) (by simp) ?_; intro i' hi'; simp only [List.mem_cons, List.not_mem_nil, or_false] at hi'
        rcases hi' with rfl | rfl
        · refine ⟨_, _, _, rfl, by rfl, by rfl, .inl (MK.q (evalOp_q tok (wm := false) (by rfl) (by rfl) (by exact byObl))), ?_⟩
          refine WA.takesD T false tok [3] (f' := 5) (by kernel_rfl) (by rfl) (by rfl) (by exact byObl) (by rfl) (by rfl) ?_
          refine WA.allT [7, 9] (by kernel_rfl) (by simp) ?_; intro i' hi'; simp only [List.mem_cons, List.not_mem_nil, or_false] at hi'
          rcases hi' with rfl | rfl
          · refine ⟨_, _, _, rfl, by rfl, by rfl, .inr ⟨by decide, TK.callN [1] (.sl 3 0 E.length 16) (hall) (LeAll.cons (by rfl) (by first | with_reducible exact Root.Le.refl _ | with_reducible exact le_dead | (skip; done) | exact byLeq) (by exact byCon) (trivial)) (by rfl) (by rfl) (by exact byArgs) (by simp [Sc, sc_pl, sc_ds]) (by exact byAllc) (by rfl) (by exact bySc) rfl⟩, ?_⟩
            refine WA.takesD T false tok [10, 11] (f' := 2) (by kernel_rfl) (by rfl) (by rfl) (by exact byObl) (by rfl) (by rfl) ?_
            refine WA.allT [9] (by kernel_rfl) (by simp) ?_; intro i' hi'; simp only [List.mem_cons, List.not_mem_nil, or_false] at hi'
            subst hi'
            refine ⟨_, _, _, rfl, by rfl, by rfl, .inl (MK.of tok (wm := false) (by rfl) (by exact byObl) (by rfl) (by exact byObl)), ?_⟩
            refine WA.takesD T false tok [12] (f' := 0) (by kernel_rfl) (by rfl) (by rfl) (by exact byObl) (by rfl) (by rfl) ?_
            refine WA.end rfl (by kernel_rfl) (noPan ?_)
            exact cut6 3 2 4 rfl rfl rfl rfl rfl rfl rfl rfl rfl
          · refine ⟨_, _, _, rfl, by rfl, by rfl, .inl (MK.of tok (wm := false) (by rfl) (by exact byObl) (by rfl) (by exact byObl)), ?_⟩
            refine WA.allT [7] (by kernel_rfl) (by simp) ?_; intro i' hi'; simp only [List.mem_cons, List.not_mem_nil, or_false] at hi'
            subst hi'
            refine ⟨_, _, _, rfl, by rfl, by rfl, .inr ⟨by decide, TK.callN [1] (.sl 4 0 E.length 16) (hall) (LeAll.cons (by rfl) (by first | with_reducible exact Root.Le.refl _ | with_reducible exact le_dead | (skip; done) | exact byLeq) (by exact byCon) (trivial)) (by rfl) (by rfl) (by exact byArgs) (by simp [Sc, sc_pl, sc_ds]) (by exact byAllc) (by rfl) (by exact bySc) rfl⟩, ?_⟩
            refine WA.takesD T false tok [10, 11, 12] (f' := 0) (by kernel_rfl) (by rfl) (by rfl) (by exact byObl) (by rfl) (by rfl) ?_
            refine WA.end rfl (by kernel_rfl) (noPan ?_)
            exact cut6 4 2 3 rfl rfl rfl rfl rfl rfl rfl rfl rfl
        · refine ⟨_, _, _, rfl, by rfl, by rfl, .inl (MK.of tok (wm := false) (by rfl) (by exact byObl) (by rfl) (by exact byObl)), ?_⟩
          refine WA.allT [2] (by kernel_rfl) (by simp) ?_; intro i' hi'; simp only [List.mem_cons, List.not_mem_nil, or_false] at hi'
          subst hi'
          refine ⟨_, _, _, rfl, by rfl, by rfl, .inl (MK.q (evalOp_q tok (wm := false) (by rfl) (by rfl) (by exact byObl))), ?_⟩
          refine WA.takesD T false tok [3] (f' := 4) (by kernel_rfl) (by rfl) (by rfl) (by exact byObl) (by rfl) (by rfl) ?_
          refine WA.allT [7] (by kernel_rfl) (by simp) ?_; intro i' hi'; simp only [List.mem_cons, List.not_mem_nil, or_false] at hi'
          subst hi'
          refine ⟨_, _, _, rfl, by rfl, by rfl, .inr ⟨by decide, TK.callN [1] (.sl 4 0 E.length 16) (hall) (LeAll.cons (by rfl) (by first | with_reducible exact Root.Le.refl _ | with_reducible exact le_dead | (skip; done) | exact byLeq) (by exact byCon) (trivial)) (by rfl) (by rfl) (by exact byArgs) (by simp [Sc, sc_pl, sc_ds]) (by exact byAllc) (by rfl) (by exact bySc) rfl⟩, ?_⟩
          refine WA.takesD T false tok [10, 11, 12] (f' := 0) (by kernel_rfl) (by rfl) (by rfl) (by exact byObl) (by rfl) (by rfl) ?_
          refine WA.end rfl (by kernel_rfl) (noPan ?_)
          exact cut6 4 2 3 rfl rfl rfl rfl rfl rfl rfl rfl rfl
      · refine ⟨_, _, _, rfl, by rfl, by rfl, .inl (MK.of tok (wm := false) (by rfl) (by exact byObl) (by rfl) (by exact byObl)), ?_⟩
        refine WA.allT [2, 6] (by kernel_rfl) (by simp) ?_; intro i' hi'; simp only [List.mem_cons, List.not_mem_nil, or_false] at hi'
        rcases hi' with rfl | rfl
        · refine ⟨_, _, _, rfl, by rfl, by rfl, .inl (MK.q (evalOp_q tok (wm := false) (by rfl) (by rfl) (by exact byObl))), ?_⟩
          refine WA.takesD T false tok [3] (f' := 5) (by kernel_rfl) (by rfl) (by rfl) (by exact byObl) (by rfl) (by rfl) ?_
          refine WA.allT [6] (by kernel_rfl) (by simp) ?_; intro i' hi'; simp only [List.mem_cons, List.not_mem_nil, or_false] at hi'
          subst hi'
          refine ⟨_, _, _, rfl, by rfl, by rfl, .inl (MK.callP (l01Same_fn N hN) (by rfl) (by simp [Sc, sc_pl, sc_ds, pl_ne, ds_ne])), ?_⟩
          refine WA.allT [7] (by kernel_rfl) (by simp) ?_; intro i' hi'; simp only [List.mem_cons, List.not_mem_nil, or_false] at hi'
          subst hi'
          refine ⟨_, _, _, rfl, by rfl, by rfl, .inr ⟨by decide, TK.callN [1] (.sl 4 0 E.length 16) (hall) (LeAll.cons (by rfl) (by first | with_reducible exact Root.Le.refl _ | with_reducible exact le_dead | (skip; done) | exact byLeq) (by exact byCon) (trivial)) (by rfl) (by rfl) (by exact byArgs) (by simp [Sc, sc_pl, sc_ds]) (by exact byAllc) (by rfl) (by exact bySc) rfl⟩, ?_⟩
          refine WA.takesD T false tok [10, 11, 12] (f' := 0) (by kernel_rfl) (by rfl) (by rfl) (by exact byObl) (by rfl) (by rfl) ?_
          refine WA.end rfl (by kernel_rfl) (noPan ?_)
          exact cut6 4 2 3 rfl rfl rfl rfl rfl rfl rfl rfl rfl
        · refine ⟨_, _, _, rfl, by rfl, by rfl, .inl (MK.callP (l01Same_fn N hN) (by rfl) (by simp [Sc, sc_pl, sc_ds, pl_ne, ds_ne])), ?_⟩
          refine WA.allT [2] (by kernel_rfl) (by simp) ?_; intro i' hi'; simp only [List.mem_cons, List.not_mem_nil, or_false] at hi'
          subst hi'
          refine ⟨_, _, _, rfl, by rfl, by rfl, .inl (MK.q (evalOp_q tok (wm := false) (by rfl) (by rfl) (by exact byObl))), ?_⟩
          refine WA.takesD T false tok [3] (f' := 4) (by kernel_rfl) (by rfl) (by rfl) (by exact byObl) (by rfl) (by rfl) ?_
          refine WA.allT [7] (by kernel_rfl) (by simp) ?_; intro i' hi'; simp only [List.mem_cons, List.not_mem_nil, or_false] at hi'
          subst hi'
          refine ⟨_, _, _, rfl, by rfl, by rfl, .inr ⟨by decide, TK.callN [1] (.sl 4 0 E.length 16) (hall) (LeAll.cons (by rfl) (by first | with_reducible exact Root.Le.refl _ | with_reducible exact le_dead | (skip; done) | exact byLeq) (by exact byCon) (trivial)) (by rfl) (by rfl) (by exact byArgs) (by simp [Sc, sc_pl, sc_ds]) (by exact byAllc) (by rfl) (by exact bySc) rfl⟩, ?_⟩
          refine WA.takesD T false tok [10, 11, 12] (f' := 0) (by kernel_rfl) (by rfl) (by rfl) (by exact byObl) (by rfl) (by rfl) ?_
          refine WA.end rfl (by kernel_rfl) (noPan ?_)
          exact cut6 4 2 3 rfl rfl rfl rfl rfl rfl rfl rfl rfl
    · refine ⟨_, _, _, rfl, by rfl, by rfl, .inl (MK.of tok (wm := false) (by rfl) (by exact byObl) (by rfl) (by exact byObl)), ?_⟩
      refine WA.allT [2, 5] (by kernel_rfl) (by simp) ?_; intro i' hi'; simp only [List.mem_cons, List.not_mem_nil, or_false] at hi'
      rcases hi' with rfl | rfl
      · refine ⟨_, _, _, rfl, by rfl, by rfl, .inl (MK.q (evalOp_q tok (wm := false) (by rfl) (by rfl) (by exact byObl))), ?_⟩
        refine WA.takesD T false tok [3] (f' := 6) (by kernel_rfl) (by rfl) (by rfl) (by exact byObl) (by rfl) (by rfl) ?_
        refine WA.allT [5] (by kernel_rfl) (by simp) ?_; intro i' hi'; simp only [List.mem_cons, List.not_mem_nil, or_false] at hi'
        subst hi'
        refine ⟨_, _, _, rfl, by rfl, by rfl, .inl (MK.q (evalOp_q tok (wm := false) (by rfl) (by rfl) (by exact byObl))), ?_⟩
        refine WA.allT [6] (by kernel_rfl) (by simp) ?_; intro i' hi'; simp only [List.mem_cons, List.not_mem_nil, or_false] at hi'
        subst hi'
        refine ⟨_, _, _, rfl, by rfl, by rfl, .inl (MK.callP (l01Same_fn N hN) (by rfl) (by simp [Sc, sc_pl, sc_ds, pl_ne, ds_ne])), ?_⟩
        refine WA.allT [7] (by kernel_rfl) (by simp) ?_; intro i' hi'; simp only [List.mem_cons, List.not_mem_nil, or_false] at hi'
        subst hi'
        refine ⟨_, _, _, rfl, by rfl, by rfl, .inr ⟨by decide, TK.callN [1] (.sl 4 0 E.length 16) (hall) (LeAll.cons (by rfl) (by first | with_reducible exact Root.Le.refl _ | with_reducible exact le_dead | (skip; done) | exact byLeq) (by exact byCon) (trivial)) (by rfl) (by rfl) (by exact byArgs) (by simp [Sc, sc_pl, sc_ds]) (by exact byAllc) (by rfl) (by exact bySc) rfl⟩, ?_⟩
        refine WA.takesD T false tok [10, 11, 12] (f' := 0) (by kernel_rfl) (by rfl) (by rfl) (by exact byObl) (by rfl) (by rfl) ?_
        refine WA.end rfl (by kernel_rfl) (noPan ?_)
        exact cut6 4 2 3 rfl rfl rfl rfl rfl rfl rfl rfl rfl
      · refine ⟨_, _, _, rfl, by rfl, by rfl, .inl (MK.q (evalOp_q tok (wm := false) (by rfl) (by rfl) (by exact byObl))), ?_⟩
        refine WA.allT [2, 6] (by kernel_rfl) (by simp) ?_; intro i' hi'; simp only [List.mem_cons, List.not_mem_nil, or_false] at hi'
        rcases hi' with rfl | rfl
        · refine ⟨_, _, _, rfl, by rfl, by rfl, .inl (MK.q (evalOp_q tok (wm := false) (by rfl) (by rfl) (by exact byObl))), ?_⟩
          refine WA.takesD T false tok [3] (f' := 5) (by kernel_rfl) (by rfl) (by rfl) (by exact byObl) (by rfl) (by rfl) ?_
          refine WA.allT [6] (by kernel_rfl) (by simp) ?_; intro i' hi'; simp only [List.mem_cons, List.not_mem_nil, or_false] at hi'
          subst hi'
          refine ⟨_, _, _, rfl, by rfl, by rfl, .inl (MK.callP (l01Same_fn N hN) (by rfl) (by simp [Sc, sc_pl, sc_ds, pl_ne, ds_ne])), ?_⟩
          refine WA.allT [7] (by kernel_rfl) (by simp) ?_; intro i' hi'; simp only [List.mem_cons, List.not_mem_nil, or_false] at hi'
          subst hi'
          refine ⟨_, _, _, rfl, by rfl, by rfl, .inr ⟨by decide, TK.callN [1] (.sl 4 0 E.length 16) (hall) (LeAll.cons (by rfl) (by first | with_reducible exact Root.Le.refl _ | with_reducible exact le_dead | (skip; done) | exact byLeq) (by exact byCon) (trivial)) (by rfl) (by rfl) (by exact byArgs) (by simp [Sc, sc_pl, sc_ds]) (by exact byAllc) (by rfl) (by exact bySc) rfl⟩, ?_⟩
          refine WA.takesD T false tok [10, 11, 12] (f' := 0) (by kernel_rfl) (by rfl) (by rfl) (by exact byObl) (by rfl) (by rfl) ?_
          refine WA.end rfl (by kernel_rfl) (noPan ?_)
          exact cut6 4 2 3 rfl rfl rfl rfl rfl rfl rfl rfl rfl
        · refine ⟨_, _, _, rfl, by rfl, by rfl, .inl (MK.callP (l01Same_fn N hN) (by rfl) (by simp [Sc, sc_pl, sc_ds, pl_ne, ds_ne])), ?_⟩
          refine WA.allT [2] (by kernel_rfl) (by simp) ?_; intro i' hi'; simp only [List.mem_cons, List.not_mem_nil, or_false] at hi'
          subst hi'
          refine ⟨_, _, _, rfl, by rfl, by rfl, .inl (MK.q (evalOp_q tok (wm := false) (by rfl) (by rfl) (by exact byObl))), ?_⟩
          refine WA.takesD T false tok [3] (f' := 4) (by kernel_rfl) (by rfl) (by rfl) (by exact byObl) (by rfl) (by rfl) ?_
          refine WA.allT [7] (by kernel_rfl) (by simp) ?_; intro i' hi'; simp only [List.mem_cons, List.not_mem_nil, or_false] at hi'
          subst hi'
          refine ⟨_, _, _, rfl, by rfl, by rfl, .inr ⟨by decide, TK.callN [1] (.sl 4 0 E.length 16) (hall) (LeAll.cons (by rfl) (by first | with_reducible exact Root.Le.refl _ | with_reducible exact le_dead | (skip; done) | exact byLeq) (by exact byCon) (trivial)) (by rfl) (by rfl) (by exact byArgs) (by simp [Sc, sc_pl, sc_ds]) (by exact byAllc) (by rfl) (by exact bySc) rfl⟩, ?_⟩
          refine WA.takesD T false tok [10, 11, 12] (f' := 0) (by kernel_rfl) (by rfl) (by rfl) (by exact byObl) (by rfl) (by rfl) ?_
          refine WA.end rfl (by kernel_rfl) (noPan ?_)
          exact cut6 4 2 3 rfl rfl rfl rfl rfl rfl rfl rfl rfl
  · refine ⟨_, _, _, rfl, by rfl, by rfl, .inl (MK.of tok (wm := false) (by rfl) (by exact byObl) (by rfl) (by exact byObl)), ?_⟩
    refine WA.allT [2, 5, 8] (by kernel_rfl) (by simp) ?_; intro i' hi'; simp only [List.mem_cons, List.not_mem_nil, or_false] at hi'
    rcases hi' with rfl | rfl | rfl
    · refine ⟨_, _, _, rfl, by rfl, by rfl, .inl (MK.q (evalOp_q tok (wm := false) (by rfl) (by rfl) (by exact byObl))), ?_⟩
      refine WA.takesD T false tok [3] (f' := 7) (by kernel_rfl) (by rfl) (by rfl) (by exact byObl) (by rfl) (by rfl) ?_
      refine WA.allT [5, 8] (by kernel_rfl) (by simp) ?_; intro i' hi'; simp only [List.mem_cons, List.not_mem_nil, or_false] at hi'
      rcases hi' with rfl | rfl
      · refine ⟨_, _, _, rfl, by rfl, by rfl, .inl (MK.q (evalOp_q tok (wm := false) (by rfl) (by rfl) (by exact byObl))), ?_⟩
        refine WA.allT [6, 8] (by kernel_rfl) (by simp) ?_; intro i' hi'; simp only [List.mem_cons, List.not_mem_nil, or_false] at hi'
        rcases hi' with rfl | rfl
        · refine ⟨_, _, _, rfl, by rfl, by rfl, .inl (MK.callP (l01Same_fn N hN) (by rfl) (by simp [Sc, sc_pl, sc_ds, pl_ne, ds_ne])), ?_⟩
          refine WA.allT [7, 8] (by kernel_rfl) (by simp) ?_; intro i' hi'; simp only [List.mem_cons, List.not_mem_nil, or_false] at hi'
          rcases hi' with rfl | rfl
          · refine ⟨_, _, _, rfl, by rfl, by rfl, .inr ⟨by decide, TK.callN [1] (.sl 3 0 E.length 16) (hall) (LeAll.cons (by rfl) (by first | with_reducible exact Root.Le.refl _ | with_reducible exact le_dead | (skip; done) | exact byLeq) (by exact byCon) (trivial)) (by rfl) (by rfl) (by exact byArgs) (by simp [Sc, sc_pl, sc_ds]) (by exact byAllc) (by rfl) (by exact bySc) rfl⟩, ?_⟩
            refine WA.takesD T false tok [10] (f' := 3) (by kernel_rfl) (by rfl) (by rfl) (by exact byObl) (by rfl) (by rfl) ?_
            refine WA.allT [8] (by kernel_rfl) (by simp) ?_; intro i' hi'; simp only [List.mem_cons, List.not_mem_nil, or_false] at hi'
            subst hi'
            refine ⟨_, _, _, rfl, by rfl, by rfl, .inl (MK.of tok (wm := false) (by rfl) (by exact byObl) (by rfl) (by exact byObl)), ?_⟩
            refine WA.takesD T false tok [11, 12] (f' := 0) (by kernel_rfl) (by rfl) (by rfl) (by exact byObl) (by rfl) (by rfl) ?_
            refine WA.end rfl (by kernel_rfl) (noPan ?_)
            exact cut6 3 4 2 rfl rfl rfl rfl rfl rfl rfl rfl rfl
          · refine ⟨_, _, _, rfl, by rfl, by rfl, .inl (MK.of tok (wm := false) (by rfl) (by exact byObl) (by rfl) (by exact byObl)), ?_⟩
            refine WA.allT [7] (by kernel_rfl) (by simp) ?_; intro i' hi'; simp only [List.mem_cons, List.not_mem_nil, or_false] at hi'
            subst hi'
            refine ⟨_, _, _, rfl, by rfl, by rfl, .inr ⟨by decide, TK.callN [1] (.sl 4 0 E.length 16) (hall) (LeAll.cons (by rfl) (by first | with_reducible exact Root.Le.refl _ | with_reducible exact le_dead | (skip; done) | exact byLeq) (by exact byCon) (trivial)) (by rfl) (by rfl) (by exact byArgs) (by simp [Sc, sc_pl, sc_ds]) (by exact byAllc) (by rfl) (by exact bySc) rfl⟩, ?_⟩
            refine WA.takesD T false tok [10, 11, 12] (f' := 0) (by kernel_rfl) (by rfl) (by rfl) (by exact byObl) (by rfl) (by rfl) ?_
            refine WA.end rfl (by kernel_rfl) (noPan ?_)
            exact cut6 4 3 2 rfl rfl rfl rfl rfl rfl rfl rfl rfl
        · refine ⟨_, _, _, rfl, by rfl, by rfl, .inl (MK.of tok (wm := false) (by rfl) (by exact byObl) (by rfl) (by exact byObl)), ?_⟩
          refine WA.allT [6] (by kernel_rfl) (by simp) ?_; intro i' hi'; simp only [List.mem_cons, List.not_mem_nil, or_false] at hi'
          subst hi'
          refine ⟨_, _, _, rfl, by rfl, by rfl, .inl (MK.callP (l01Same_fn N hN) (by rfl) (by simp [Sc, sc_pl, sc_ds, pl_ne, ds_ne])), ?_⟩
          refine WA.allT [7] (by kernel_rfl) (by simp) ?_; intro i' hi'; simp only [List.mem_cons, List.not_mem_nil, or_false] at hi'
          subst hi'
          refine ⟨_, _, _, rfl, by rfl, by rfl, .inr ⟨by decide, TK.callN [1] (.sl 4 0 E.length 16) (hall) (LeAll.cons (by rfl) (by first | with_reducible exact Root.Le.refl _ | with_reducible exact le_dead | (skip; done) | exact byLeq) (by exact byCon) (trivial)) (by rfl) (by rfl) (by exact byArgs) (by simp [Sc, sc_pl, sc_ds]) (by exact byAllc) (by rfl) (by exact bySc) rfl⟩, ?_⟩
          refine WA.takesD T false tok [10, 11, 12] (f' := 0) (by kernel_rfl) (by rfl) (by rfl) (by exact byObl) (by rfl) (by rfl) ?_
          refine WA.end rfl (by kernel_rfl) (noPan ?_)
          exact cut6 4 3 2 rfl rfl rfl rfl rfl rfl rfl rfl rfl
      · refine ⟨_, _, _, rfl, by rfl, by rfl, .inl (MK.of tok (wm := false) (by rfl) (by exact byObl) (by rfl) (by exact byObl)), ?_⟩
        refine WA.allT [5] (by kernel_rfl) (by simp) ?_; intro i' hi'; simp only [List.mem_cons, List.not_mem_nil, or_false] at hi'
        subst hi'
        refine ⟨_, _, _, rfl, by rfl, by rfl, .inl (MK.q (evalOp_q tok (wm := false) (by rfl) (by rfl) (by exact byObl))), ?_⟩
        refine WA.allT [6] (by kernel_rfl) (by simp) ?_; intro i' hi'; simp only [List.mem_cons, List.not_mem_nil, or_false] at hi'
        subst hi'
        refine ⟨_, _, _, rfl, by rfl, by rfl, .inl (MK.callP (l01Same_fn N hN) (by rfl) (by simp [Sc, sc_pl, sc_ds, pl_ne, ds_ne])), ?_⟩
        refine WA.allT [7] (by kernel_rfl) (by simp) ?_; intro i' hi'; simp only [List.mem_cons, List.not_mem_nil, or_false] at hi'
        subst hi'
        refine ⟨_, _, _, rfl, by rfl, by rfl, .inr ⟨by decide, TK.callN [1] (.sl 4 0 E.length 16) (hall) (LeAll.cons (by rfl) (by first | with_reducible exact Root.Le.refl _ | with_reducible exact le_dead | (skip; done) | exact byLeq) (by exact byCon) (trivial)) (by rfl) (by rfl) (by exact byArgs) (by simp [Sc, sc_pl, sc_ds]) (by exact byAllc) (by rfl) (by exact bySc) rfl⟩, ?_⟩
        refine WA.takesD T false tok [10, 11, 12] (f' := 0) (by kernel_rfl) (by rfl) (by rfl) (by exact byObl) (by rfl) (by rfl) ?_
        refine WA.end rfl (by kernel_rfl) (noPan ?_)
        exact cut6 4 3 2 rfl rfl rfl rfl rfl rfl rfl rfl rfl
    · refine ⟨_, _, _, rfl, by rfl, by rfl, .inl (MK.q (evalOp_q tok (wm := false) (by rfl) (by rfl) (by exact byObl))), ?_⟩
      refine WA.allT [2, 6, 8] (by kernel_rfl) (by simp) ?_; intro i' hi'; simp only [List.mem_cons, List.not_mem_nil, or_false] at hi'
      rcases hi' with rfl | rfl | rfl
      · refine ⟨_, _, _, rfl, by rfl, by rfl, .inl (MK.q (evalOp_q tok (wm := false) (by rfl) (by rfl) (by exact byObl))), ?_⟩
        refine WA.takesD T false tok [3] (f' := 6) (by kernel_rfl) (by rfl) (by rfl) (by exact byObl) (by rfl) (by rfl) ?_
        refine WA.allT [6, 8] (by kernel_rfl) (by simp) ?_; intro i' hi'; simp only [List.mem_cons, List.not_mem_nil, or_false] at hi'
        rcases hi' with rfl | rfl
        · refine ⟨_, _, _, rfl, by rfl, by rfl, .inl (MK.callP (l01Same_fn N hN) (by rfl) (by simp [Sc, sc_pl, sc_ds, pl_ne, ds_ne])), ?_⟩
          refine WA.allT [7, 8] (by kernel_rfl) (by simp) ?_; intro i' hi'; simp only [List.mem_cons, List.not_mem_nil, or_false] at hi'
          rcases hi' with rfl | rfl
          · refine ⟨_, _, _, rfl, by rfl, by rfl, .inr ⟨by decide, TK.callN [1] (.sl 3 0 E.length 16) (hall) (LeAll.cons (by rfl) (by first | with_reducible exact Root.Le.refl _ | with_reducible exact le_dead | (skip; done) | exact byLeq) (by exact byCon) (trivial)) (by rfl) (by rfl) (by exact byArgs) (by simp [Sc, sc_pl, sc_ds]) (by exact byAllc) (by rfl) (by exact bySc) rfl⟩, ?_⟩
            refine WA.takesD T false tok [10] (f' := 3) (by kernel_rfl) (by rfl) (by rfl) (by exact byObl) (by rfl) (by rfl) ?_
            refine WA.allT [8] (by kernel_rfl) (by simp) ?_; intro i' hi'; simp only [List.mem_cons, List.not_mem_nil, or_false] at hi'
            subst hi'
            refine ⟨_, _, _, rfl, by rfl, by rfl, .inl (MK.of tok (wm := false) (by rfl) (by exact byObl) (by rfl) (by exact byObl)), ?_⟩
            refine WA.takesD T false tok [11, 12] (f' := 0) (by kernel_rfl) (by rfl) (by rfl) (by exact byObl) (by rfl) (by rfl) ?_
            refine WA.end rfl (by kernel_rfl) (noPan ?_)
            exact cut6 3 4 2 rfl rfl rfl rfl rfl rfl rfl rfl rfl
          · refine ⟨_, _, _, rfl, by rfl, by rfl, .inl (MK.of tok (wm := false) (by rfl) (by exact byObl) (by rfl) (by exact byObl)), ?_⟩
            refine WA.allT [7] (by kernel_rfl) (by simp) ?_; intro i' hi'; simp only [List.mem_cons, List.not_mem_nil, or_false] at hi'
            subst hi'
            refine ⟨_, _, _, rfl, by rfl, by rfl, .inr ⟨by decide, TK.callN [1] (.sl 4 0 E.length 16) (hall) (LeAll.cons (by rfl) (by first | with_reducible exact Root.Le.refl _ | with_reducible exact le_dead | (skip; done) | exact byLeq) (by exact byCon) (trivial)) (by rfl) (by rfl) (by exact byArgs) (by simp [Sc, sc_pl, sc_ds]) (by exact byAllc) (by rfl) (by exact bySc) rfl⟩, ?_⟩
            refine WA.takesD T false tok [10, 11, 12] (f' := 0) (by kernel_rfl) (by rfl) (by rfl) (by exact byObl) (by rfl) (by rfl) ?_
            refine WA.end rfl (by kernel_rfl) (noPan ?_)
            exact cut6 4 3 2 rfl rfl rfl rfl rfl rfl rfl rfl rfl
        · refine ⟨_, _, _, rfl, by rfl, by rfl, .inl (MK.of tok (wm := false) (by rfl) (by exact byObl) (by rfl) (by exact byObl)), ?_⟩
          refine WA.allT [6] (by kernel_rfl) (by simp) ?_; intro i' hi'; simp only [List.mem_cons, List.not_mem_nil, or_false] at hi'
          subst hi'
          refine ⟨_, _, _, rfl, by rfl, by rfl, .inl (MK.callP (l01Same_fn N hN) (by rfl) (by simp [Sc, sc_pl, sc_ds, pl_ne, ds_ne])), ?_⟩
          refine WA.allT [7] (by kernel_rfl) (by simp) ?_; intro i' hi'; simp only [List.mem_cons, List.not_mem_nil, or_false] at hi'
          subst hi'
          refine ⟨_, _, _, rfl, by rfl, by rfl, .inr ⟨by decide, TK.callN [1] (.sl 4 0 E.length 16) (hall) (LeAll.cons (by rfl) (by first | with_reducible exact Root.Le.refl _ | with_reducible exact le_dead | (skip; done) | exact byLeq) (by exact byCon) (trivial)) (by rfl) (by rfl) (by exact byArgs) (by simp [Sc, sc_pl, sc_ds]) (by exact byAllc) (by rfl) (by exact bySc) rfl⟩, ?_⟩
          refine WA.takesD T false tok [10, 11, 12] (f' := 0) (by kernel_rfl) (by rfl) (by rfl) (by exact byObl) (by rfl) (by rfl) ?_
          refine WA.end rfl (by kernel_rfl) (noPan ?_)
          exact cut6 4 3 2 rfl rfl rfl rfl rfl rfl rfl rfl rfl
      · refine ⟨_, _, _, rfl, by rfl, by rfl, .inl (MK.callP (l01Same_fn N hN) (by rfl) (by simp [Sc, sc_pl, sc_ds, pl_ne, ds_ne])), ?_⟩
        refine WA.allT [2, 8] (by kernel_rfl) (by simp) ?_; intro i' hi'; simp only [List.mem_cons, List.not_mem_nil, or_false] at hi'
        rcases hi' with rfl | rfl
        · refine ⟨_, _, _, rfl, by rfl, by rfl, .inl (MK.q (evalOp_q tok (wm := false) (by rfl) (by rfl) (by exact byObl))), ?_⟩
          refine WA.takesD T false tok [3] (f' := 5) (by kernel_rfl) (by rfl) (by rfl) (by exact byObl) (by rfl) (by rfl) ?_
          refine WA.allT [7, 8] (by kernel_rfl) (by simp) ?_; intro i' hi'; simp only [List.mem_cons, List.not_mem_nil, or_false] at hi'
          rcases hi' with rfl | rfl
          · refine ⟨_, _, _, rfl, by rfl, by rfl, .inr ⟨by decide, TK.callN [1] (.sl 3 0 E.length 16) (hall) (LeAll.cons (by rfl) (by first | with_reducible exact Root.Le.refl _ | with_reducible exact le_dead | (skip; done) | exact byLeq) (by exact byCon) (trivial)) (by rfl) (by rfl) (by exact byArgs) (by simp [Sc, sc_pl, sc_ds]) (by exact byAllc) (by rfl) (by exact bySc) rfl⟩, ?_⟩
            refine WA.takesD T false tok [10] (f' := 3) (by kernel_rfl) (by rfl) (by rfl) (by exact byObl) (by rfl) (by rfl) ?_
            refine WA.allT [8] (by kernel_rfl) (by simp) ?_; intro i' hi'; simp only [List.mem_cons, List.not_mem_nil, or_false] at hi'
            subst hi'
            refine ⟨_, _, _, rfl, by rfl, by rfl, .inl (MK.of tok (wm := false) (by rfl) (by exact byObl) (by rfl) (by exact byObl)), ?_⟩
            refine WA.takesD T false tok [11, 12] (f' := 0) (by kernel_rfl) (by rfl) (by rfl) (by exact byObl) (by rfl) (by rfl) ?_
            refine WA.end rfl (by kernel_rfl) (noPan ?_)
            exact cut6 3 4 2 rfl rfl rfl rfl rfl rfl rfl rfl rfl
          · refine ⟨_, _, _, rfl, by rfl, by rfl, .inl (MK.of tok (wm := false) (by rfl) (by exact byObl) (by rfl) (by exact byObl)), ?_⟩
            refine WA.allT [7] (by kernel_rfl) (by simp) ?_; intro i' hi'; simp only [List.mem_cons, List.not_mem_nil, or_false] at hi'
            subst hi'
            refine ⟨_, _, _, rfl, by rfl, by rfl, .inr ⟨by decide, TK.callN [1] (.sl 4 0 E.length 16) (hall) (LeAll.cons (by rfl) (by first | with_reducible exact Root.Le.refl _ | with_reducible exact le_dead | (skip; done) | exact byLeq) (by exact byCon) (trivial)) (by rfl) (by rfl) (by exact byArgs) (by simp [Sc, sc_pl, sc_ds]) (by exact byAllc) (by rfl) (by exact bySc) rfl⟩, ?_⟩
            refine WA.takesD T false tok [10, 11, 12] (f' := 0) (by kernel_rfl) (by rfl) (by rfl) (by exact byObl) (by rfl) (by rfl) ?_
            refine WA.end rfl (by kernel_rfl) (noPan ?_)
            exact cut6 4 3 2 rfl rfl rfl rfl rfl rfl rfl rfl rfl
        · refine ⟨_, _, _, rfl, by rfl, by rfl, .inl (MK.of tok (wm := false) (by rfl) (by exact byObl) (by rfl) (by exact byObl)), ?_⟩
          refine WA.allT [2] (by kernel_rfl) (by simp) ?_; intro i' hi'; simp only [List.mem_cons, List.not_mem_nil, or_false] at hi'
          subst hi'
          refine ⟨_, _, _, rfl, by rfl, by rfl, .inl (MK.q (evalOp_q tok (wm := false) (by rfl) (by rfl) (by exact byObl))), ?_⟩
          refine WA.takesD T false tok [3] (f' := 4) (by kernel_rfl) (by rfl) (by rfl) (by exact byObl) (by rfl) (by rfl) ?_
          refine WA.allT [7] (by kernel_rfl) (by simp) ?_; intro i' hi'; simp only [List.mem_cons, List.not_mem_nil, or_false] at hi'
          subst hi'
          refine ⟨_, _, _, rfl, by rfl, by rfl, .inr ⟨by decide, TK.callN [1] (.sl 4 0 E.length 16) (hall) (LeAll.cons (by rfl) (by first | with_reducible exact Root.Le.refl _ | with_reducible exact le_dead | (skip; done) | exact byLeq) (by exact byCon) (trivial)) (by rfl) (by rfl) (by exact byArgs) (by simp [Sc, sc_pl, sc_ds]) (by exact byAllc) (by rfl) (by exact bySc) rfl⟩, ?_⟩
          refine WA.takesD T false tok [10, 11, 12] (f' := 0) (by kernel_rfl) (by rfl) (by rfl) (by exact byObl) (by rfl) (by rfl) ?_
          refine WA.end rfl (by kernel_rfl) (noPan ?_)
          exact cut6 4 3 2 rfl rfl rfl rfl rfl rfl rfl rfl rfl
      · refine ⟨_, _, _, rfl, by rfl, by rfl, .inl (MK.of tok (wm := false) (by rfl) (by exact byObl) (by rfl) (by exact byObl)), ?_⟩
        refine WA.allT [2, 6] (by kernel_rfl) (by simp) ?_; intro i' hi'; simp only [List.mem_cons, List.not_mem_nil, or_false] at hi'
        rcases hi' with rfl | rfl
        · refine ⟨_, _, _, rfl, by rfl, by rfl, .inl (MK.q (evalOp_q tok (wm := false) (by rfl) (by rfl) (by exact byObl))), ?_⟩
          refine WA.takesD T false tok [3] (f' := 5) (by kernel_rfl) (by rfl) (by rfl) (by exact byObl) (by rfl) (by rfl) ?_
          refine WA.allT [6] (by kernel_rfl) (by simp) ?_; intro i' hi'; simp only [List.mem_cons, List.not_mem_nil, or_false] at hi'
          subst hi'
          refine ⟨_, _, _, rfl, by rfl, by rfl, .inl (MK.callP (l01Same_fn N hN) (by rfl) (by simp [Sc, sc_pl, sc_ds, pl_ne, ds_ne])), ?_⟩
          refine WA.allT [7] (by kernel_rfl) (by simp) ?_; intro i' hi'; simp only [List.mem_cons, List.not_mem_nil, or_false] at hi'
          subst hi'
          refine ⟨_, _, _, rfl, by rfl, by rfl, .inr ⟨by decide, TK.callN [1] (.sl 4 0 E.length 16) (hall) (LeAll.cons (by rfl) (by first | with_reducible exact Root.Le.refl _ | with_reducible exact le_dead | (skip; done) | exact byLeq) (by exact byCon) (trivial)) (by rfl) (by rfl) (by exact byArgs) (by simp [Sc, sc_pl, sc_ds]) (by exact byAllc) (by rfl) (by exact bySc) rfl⟩, ?_⟩
          refine WA.takesD T false tok [10, 11, 12] (f' := 0) (by kernel_rfl) (by rfl) (by rfl) (by exact byObl) (by rfl) (by rfl) ?_
          refine WA.end rfl (by kernel_rfl) (noPan ?_)
          exact cut6 4 3 2 rfl rfl rfl rfl rfl rfl rfl rfl rfl
        · refine ⟨_, _, _, rfl, by rfl, by rfl, .inl (MK.callP (l01Same_fn N hN) (by rfl) (by simp [Sc, sc_pl, sc_ds, pl_ne, ds_ne])), ?_⟩
          refine WA.allT [2] (by kernel_rfl) (by simp) ?_; intro i' hi'; simp only [List.mem_cons, List.not_mem_nil, or_false] at hi'
          subst hi'
          refine ⟨_, _, _, rfl, by rfl, by rfl, .inl (MK.q (evalOp_q tok (wm := false) (by rfl) (by rfl) (by exact byObl))), ?_⟩
          refine WA.takesD T false tok [3] (f' := 4) (by kernel_rfl) (by rfl) (by rfl) (by exact byObl) (by rfl) (by rfl) ?_
          refine WA.allT [7] (by kernel_rfl) (by simp) ?_; intro i' hi'; simp only [List.mem_cons, List.not_mem_nil, or_false] at hi'
          subst hi'
          refine ⟨_, _, _, rfl, by rfl, by rfl, .inr ⟨by decide, TK.callN [1] (.sl 4 0 E.length 16) (hall) (LeAll.cons (by rfl) (by first | with_reducible exact Root.Le.refl _ | with_reducible exact le_dead | (skip; done) | exact byLeq) (by exact byCon) (trivial)) (by rfl) (by rfl) (by exact byArgs) (by simp [Sc, sc_pl, sc_ds]) (by exact byAllc) (by rfl) (by exact bySc) rfl⟩, ?_⟩
          refine WA.takesD T false tok [10, 11, 12] (f' := 0) (by kernel_rfl) (by rfl) (by rfl) (by exact byObl) (by rfl) (by rfl) ?_
          refine WA.end rfl (by kernel_rfl) (noPan ?_)
          exact cut6 4 3 2 rfl rfl rfl rfl rfl rfl rfl rfl rfl
    · refine ⟨_, _, _, rfl, by rfl, by rfl, .inl (MK.of tok (wm := false) (by rfl) (by exact byObl) (by rfl) (by exact byObl)), ?_⟩
      refine WA.allT [2, 5] (by kernel_rfl) (by simp) ?_; intro i' hi'; simp only [List.mem_cons, List.not_mem_nil, or_false] at hi'
      rcases hi' with rfl | rfl
      · refine ⟨_, _, _, rfl, by rfl, by rfl, .inl (MK.q (evalOp_q tok (wm := false) (by rfl) (by rfl) (by exact byObl))), ?_⟩
        refine WA.takesD T false tok [3] (f' := 6) (by kernel_rfl) (by rfl) (by rfl) (by exact byObl) (by rfl) (by rfl) ?_
        refine WA.allT [5] (by kernel_rfl) (by simp) ?_; intro i' hi'; simp only [List.mem_cons, List.not_mem_nil, or_false] at hi'
        subst hi'
        refine ⟨_, _, _, rfl, by rfl, by rfl, .inl (MK.q (evalOp_q tok (wm := false) (by rfl) (by rfl) (by exact byObl))), ?_⟩
        refine WA.allT [6] (by kernel_rfl) (by simp) ?_; intro i' hi'; simp only [List.mem_cons, List.not_mem_nil, or_false] at hi'
        subst hi'
        refine ⟨_, _, _, rfl, by rfl, by rfl, .inl (MK.callP (l01Same_fn N hN) (by rfl) (by simp [Sc, sc_pl, sc_ds, pl_ne, ds_ne])), ?_⟩
        refine WA.allT [7] (by kernel_rfl) (by simp) ?_; intro i' hi'; simp only [List.mem_cons, List.not_mem_nil, or_false] at hi'
        subst hi'
        refine ⟨_, _, _, rfl, by rfl, by rfl, .inr ⟨by decide, TK.callN [1] (.sl 4 0 E.length 16) (hall) (LeAll.cons (by rfl) (by first | with_reducible exact Root.Le.refl _ | with_reducible exact le_dead | (skip; done) | exact byLeq) (by exact byCon) (trivial)) (by rfl) (by rfl) (by exact byArgs) (by simp [Sc, sc_pl, sc_ds]) (by exact byAllc) (by rfl) (by exact bySc) rfl⟩, ?_⟩
        refine WA.takesD T false tok [10, 11, 12] (f' := 0) (by kernel_rfl) (by rfl) (by rfl) (by exact byObl) (by rfl) (by rfl) ?_
        refine WA.end rfl (by kernel_rfl) (noPan ?_)
        exact cut6 4 3 2 rfl rfl rfl rfl rfl rfl rfl rfl rfl
      · refine ⟨_, _, _, rfl, by rfl, by rfl, .inl (MK.q (evalOp_q tok (wm := false) (by rfl) (by rfl) (by exact byObl))), ?_⟩
        refine WA.allT [2, 6] (by kernel_rfl) (by simp) ?_; intro i' hi'; simp only [List.mem_cons, List.not_mem_nil, or_false] at hi'
        rcases hi' with rfl | rfl
        · refine ⟨_, _, _, rfl, by rfl, by rfl, .inl (MK.q (evalOp_q tok (wm := false) (by rfl) (by rfl) (by exact byObl))), ?_⟩
          refine WA.takesD T false tok [3] (f' := 5) (by kernel_rfl) (by rfl) (by rfl) (by exact byObl) (by rfl) (by rfl) ?_
          refine WA.allT [6] (by kernel_rfl) (by simp) ?_; intro i' hi'; simp only [List.mem_cons, List.not_mem_nil, or_false] at hi'
          subst hi'
          refine ⟨_, _, _, rfl, by rfl, by rfl, .inl (MK.callP (l01Same_fn N hN) (by rfl) (by simp [Sc, sc_pl, sc_ds, pl_ne, ds_ne])), ?_⟩
          refine WA.allT [7] (by kernel_rfl) (by simp) ?_; intro i' hi'; simp only [List.mem_cons, List.not_mem_nil, or_false] at hi'
          subst hi'
          refine ⟨_, _, _, rfl, by rfl, by rfl, .inr ⟨by decide, TK.callN [1] (.sl 4 0 E.length 16) (hall) (LeAll.cons (by rfl) (by first | with_reducible exact Root.Le.refl _ | with_reducible exact le_dead | (skip; done) | exact byLeq) (by exact byCon) (trivial)) (by rfl) (by rfl) (by exact byArgs) (by simp [Sc, sc_pl, sc_ds]) (by exact byAllc) (by rfl) (by exact bySc) rfl⟩, ?_⟩
          refine WA.takesD T false tok [10, 11, 12] (f' := 0) (by kernel_rfl) (by rfl) (by rfl) (by exact byObl) (by rfl) (by rfl) ?_
          refine WA.end rfl (by kernel_rfl) (noPan ?_)
          exact cut6 4 3 2 rfl rfl rfl rfl rfl rfl rfl rfl rfl
        · refine ⟨_, _, _, rfl, by rfl, by rfl, .inl (MK.callP (l01Same_fn N hN) (by rfl) (by simp [Sc, sc_pl, sc_ds, pl_ne, ds_ne])), ?_⟩
          refine WA.allT [2] (by kernel_rfl) (by simp) ?_; intro i' hi'; simp only [List.mem_cons, List.not_mem_nil, or_false] at hi'
          subst hi'
          refine ⟨_, _, _, rfl, by rfl, by rfl, .inl (MK.q (evalOp_q tok (wm := false) (by rfl) (by rfl) (by exact byObl))), ?_⟩
          refine WA.takesD T false tok [3] (f' := 4) (by kernel_rfl) (by rfl) (by rfl) (by exact byObl) (by rfl) (by rfl) ?_
          refine WA.allT [7] (by kernel_rfl) (by simp) ?_; intro i' hi'; simp only [List.mem_cons, List.not_mem_nil, or_false] at hi'
          subst hi'
          refine ⟨_, _, _, rfl, by rfl, by rfl, .inr ⟨by decide, TK.callN [1] (.sl 4 0 E.length 16) (hall) (LeAll.cons (by rfl) (by first | with_reducible exact Root.Le.refl _ | with_reducible exact le_dead | (skip; done) | exact byLeq) (by exact byCon) (trivial)) (by rfl) (by rfl) (by exact byArgs) (by simp [Sc, sc_pl, sc_ds]) (by exact byAllc) (by rfl) (by exact bySc) rfl⟩, ?_⟩
          refine WA.takesD T false tok [10, 11, 12] (f' := 0) (by kernel_rfl) (by rfl) (by rfl) (by exact byObl) (by rfl) (by rfl) ?_
          refine WA.end rfl (by kernel_rfl) (noPan ?_)
          exact cut6 4 3 2 rfl rfl rfl rfl rfl rfl rfl rfl rfl

end Go.Proofs.Ytaafldclbdlgfaa
