import Derived.Test.YtakapfgjdhliaaaX132
import Derived.Test.YtakapfgjdhliaaaL3
/- Draws: any permutation and number. -/
namespace Go.Proofs.Ytakapfgjdhliaaa
open Go.RowKit DM
set_option linter.unusedSimpArgs false
set_option linter.unusedVariables false
set_option maxRecDepth 100000
set_option maxHeartbeats 1000000

theorem l01Any_fn (len : Nat) (g : Nat → Nat) (hg : ∀ j, g j < 256) (hl : len ≤ 4294967296) :
    FnS Try.prog 42 [.sl 0 0 len 1] [.ro len 1 (byF g)] fun r m' => ∃ (p : Nat → Nat) (n : Int), r = t2 (pl p) (.i .i64 n) ∧ Bt 256 p ∧ -1 ≤ n ∧ n ≤ 17 ∧ m' = [.ro len 1 (byF g)] := by
  have hfr := l01From_fn len g hg hl
  refine FnS.intoE T tok Try.func42 (by rfl) rfl rfl rfl (by simp) ?_
  refine WP.rs T false tok (by rfl) (by exact byObl) ?_
  refine WP.rw ?_
  refine WPL.run T false 1 tok (by rfl) (by exact byObl) ?_
  refine WPL.callE [0] (hfr) (LeAll.cons (by rfl) (by first | with_reducible exact Root.Le.refl _ | with_reducible exact le_dead | (skip; done) | exact byLeq) (by exact byCon) (trivial)) (by rfl) (by rfl) (by exact byArgs) (by rfl) (by rfl) (by simp [Sc, sc_pl, sc_ds]) ?_
  rintro _ _ ⟨rfl, h1, rfl⟩
  refine ⟨⟨fun d hd => by cases hd; exact fun _ _ => trivial, fun d hd => by cases hd; exact sc_src _ _ _ _ _, trivial⟩, .p 2 [] 0, rfl, sc_p rfl, ?_⟩
  refine WPL.mem (by rfl) ?_
  refine WPL.fin T false tok (by rfl) (by exact byObl) ?_
  have hSc : ∀ (k : Nat) (h : Int), Sc k (srcD len g 0 h) := fun k h => sc_src k len g 0 h
  have hnx := l01Next_fn len g hg 0 h1 16 (Nat.zero_le _) hl
  refine WP.rw ?_
  refine WPL.run T false 1 tok (by rfl) (by exact byObl) ?_
  refine WPL.callE [2] (hnx) (LeAll.cons (by rfl) (by first | with_reducible exact Root.Le.refl _ | with_reducible exact le_dead | (skip; done) | exact byLeq) (by exact byCon) (trivial)) (by rfl) (by rfl) (by exact byArgs) (by rfl) (by rfl) (by simp [Sc, sc_pl, sc_ds]) ?_
  rintro _ _ ⟨y, a', h2, rfl, hy1, _, ha', rfl⟩
  obtain ⟨y0, y1⟩ := hy1 (by omega)
  obtain ⟨n, rfl, hn1, hn2⟩ : ∃ n : Nat, y = (n : Int) - 1 ∧ 1 ≤ n ∧ n ≤ 16 := ⟨(y + 1).toNat, by omega, by omega, by omega⟩
  refine ⟨⟨fun d hd => by cases hd; exact sc_src _ _ _ _ _, trivial⟩, .i .i64 ((n : Int) - 1), ⟨rfl, trivial⟩, trivial, ?_⟩
  refine WPL.mem (by rfl) ?_
  refine WPL.run T false 1 tok (by rfl) (by exact byObl) ?_
  have en : (1 : Int) + ((n : Int) - 1) = n := by omega
  rw [en]
  refine WPL.fin T false tok (by rfl) (by exact byObl) ?_
  have hSc : ∀ (k : Nat) (h : Int), Sc k (srcD len g a' h) := fun k h => sc_src k len g a' h
  let F : Nat → Int := fun j => if j = 0 then 2 else if j = 1 then 4 else (n : Int)
  have hpk := l01Pick_fn len g hg a' h2 3 F (by omega) (by omega) ha' hl
  refine WP.rw ?_
  refine WPL.run T false 5 tok (by rfl) (by exact byObl) ?_
  refine WPL.callE [2, 3] (hpk) (LeAll.cons (by rfl) (by first | with_reducible exact Root.Le.refl _ | with_reducible exact le_dead | (exact le_row (Nat.le_refl _) (fun j hj => by obtain rfl | rfl | rfl : j = 0 ∨ j = 1 ∨ j = 2 := (by omega) <;> rfl)) | exact byLeq) (by exact byCon) (LeAll.cons (by rfl) (by first | with_reducible exact Root.Le.refl _ | with_reducible exact le_dead | (exact le_row (Nat.le_refl _) (fun j hj => by obtain rfl | rfl | rfl : j = 0 ∨ j = 1 ∨ j = 2 := (by omega) <;> rfl)) | exact byLeq) (by exact byCon) (trivial))) (by rfl) (by rfl) (by exact byArgs) (by rfl) (by rfl) (by simp [Sc, sc_pl, sc_ds]) ?_
  rintro _ _ ⟨j, a3, h3, rfl, hj, ha3, rfl⟩
  have hFj : F j ≤ 1000 := by
    show (if j = 0 then (2 : Int) else if j = 1 then 4 else (n : Int)) ≤ 1000
    split
    · omega
    · split <;> omega
  refine ⟨⟨fun d hd => by cases hd; exact sc_src _ _ _ _ _, fun d hd => by cases hd; exact fun _ _ => trivial, trivial⟩, .i .i64 (F j), ⟨rfl, trivial⟩, trivial, ?_⟩
  refine WPL.mem (by rfl) ?_
  have hSc : ∀ (k : Nat) (h : Int), Sc k (srcD len g a3 h) := fun k h => sc_src k len g a3 h
  have hps := l01Pairs_fn len g hg a3 h3 n (F j) hn1 hn2 hFj ha3 hl
  refine WPL.callE [2] (hps) (LeAll.cons (by rfl) (by first | with_reducible exact Root.Le.refl _ | with_reducible exact le_dead | (skip; done) | exact byLeq) (by exact byCon) (trivial)) (by rfl) (by rfl) (by exact byArgs) (by rfl) (by rfl) (by simp [Sc, sc_pl, sc_ds]) ?_
  rintro _ _ ⟨p, a4, h4, rfl, hp, ha4, rfl⟩
  refine ⟨⟨fun d hd => by cases hd; exact sc_src _ _ _ _ _, trivial⟩, pl p, ⟨rfl, sc_pl _ _⟩, sc_pl _ _, ?_⟩
  refine WPL.mem (by rfl) ?_
  have hSc : ∀ (k : Nat) (h : Int), Sc k (srcD len g a4 h) := fun k h => sc_src k len g a4 h
  refine WPL.fin T false tok (by rfl) (by exact byObl) ?_
  refine WP.ghost (Ghost.cut (Nat.le_refl _) (tauOf [0, 1, 2, 4]) [(2, .p 1 [] 0), (4, .p 2 [] 0), (5, .i .i64 (n : Int)), (6, .p 3 [] 0)] [.ro len 1 (byF g), .var (pl fun _ => 0), .var (srcD len g a4 h4), .var (pl p)] (Taken.of [0, 1, 2, 4] (LeAll.cons (by rfl) (by first | with_reducible exact Root.Le.refl _ | with_reducible exact le_dead | (skip; done) | exact byLeq) (by exact byCon) (LeAll.cons (by rfl) (by first | with_reducible exact Root.Le.refl _ | with_reducible exact le_dead | (skip; done) | exact byLeq) (by exact byCon) (LeAll.cons (by rfl) (by first | with_reducible exact Root.Le.refl _ | with_reducible exact le_dead | (skip; done) | exact byLeq) (by exact byCon) (LeAll.cons (by rfl) (by first | with_reducible exact Root.Le.refl _ | with_reducible exact le_dead | (skip; done) | exact byLeq) (by exact byCon) (trivial))))) rfl rfl) (by exact bySlots)) ?_
  have hnx2 := l01Next_fn len g hg a4 h4 20 ha4 hl
  refine WP.seq ?_
  refine WP.rw ?_
  refine WPL.run T false 1 tok (by rfl) (by exact byObl) ?_
  refine WPL.callE [2] (hnx2) (LeAll.cons (by rfl) (by first | with_reducible exact Root.Le.refl _ | with_reducible exact le_dead | (skip; done) | exact byLeq) (by exact byCon) (trivial)) (by rfl) (by rfl) (by exact byArgs) (by rfl) (by rfl) (by simp [Sc, sc_pl, sc_ds]) ?_
  rintro _ _ ⟨z, a5, h5, rfl, hz1, _, ha5, rfl⟩
  refine ⟨⟨fun d hd => by cases hd; exact sc_src _ _ _ _ _, trivial⟩, .i .i64 z, ⟨rfl, trivial⟩, trivial, ?_⟩
  refine WPL.mem (by rfl) ?_
  have hSc : ∀ (k : Nat) (h : Int), Sc k (srcD len g a5 h) := fun k h => sc_src k len g a5 h
  refine WPL.fin T false tok (by rfl) (by exact byObl) ?_
  refine WP.block ?_
  refine WP.rs T false tok (by rfl) (by exact byObl) ?_
  refine WP.cond (by rfl) (fun hz => ?_) (fun hz => ?_)
  · have hnx3 := l01Next_fn len g hg a5 h5 16 ha5 hl
    refine WP.region ?_
    refine WPL.run T false 1 tok (by rfl) (by exact byObl) ?_
    refine WPL.callE [2] (hnx3) (LeAll.cons (by rfl) (by first | with_reducible exact Root.Le.refl _ | with_reducible exact le_dead | (skip; done) | exact byLeq) (by exact byCon) (trivial)) (by rfl) (by rfl) (by exact byArgs) (by rfl) (by rfl) (by simp [Sc, sc_pl, sc_ds]) ?_
    rintro _ _ ⟨y, a6, h6, rfl, hy3, _, ha6, rfl⟩
    obtain ⟨y0, y1⟩ := hy3 (by omega)
    obtain ⟨k, rfl⟩ : ∃ k : Nat, y = k := ⟨y.toNat, by omega⟩
    refine ⟨⟨fun d hd => by cases hd; exact sc_src _ _ _ _ _, trivial⟩, .i .i64 (k : Int), ⟨rfl, trivial⟩, trivial, ?_⟩
    refine WPL.mem (by rfl) ?_
    have hSc : ∀ (k : Nat) (h : Int), Sc k (srcD len g a6 h) := fun k h => sc_src k len g a6 h
    let F2 : Nat → Int := fun j => if j = 0 then 0 else if j = 1 then 1 else if j = 2 then 16 else 255
    have hpk2 := l01Pick_fn len g hg a6 h6 4 F2 (by omega) (by omega) ha6 hl
    refine WPL.run T false 2 tok (by rfl) (by exact byObl) ?_
    refine WPL.callE [2, 4] (hpk2) (LeAll.cons (by rfl) (by first | with_reducible exact Root.Le.refl _ | with_reducible exact le_dead | (exact le_row (Nat.le_refl _) (fun j hj => by obtain rfl | rfl | rfl | rfl : j = 0 ∨ j = 1 ∨ j = 2 ∨ j = 3 := (by omega) <;> rfl)) | exact byLeq) (by exact byCon) (LeAll.cons (by rfl) (by first | with_reducible exact Root.Le.refl _ | with_reducible exact le_dead | (exact le_row (Nat.le_refl _) (fun j hj => by obtain rfl | rfl | rfl | rfl : j = 0 ∨ j = 1 ∨ j = 2 ∨ j = 3 := (by omega) <;> rfl)) | exact byLeq) (by exact byCon) (trivial))) (by rfl) (by rfl) (by exact byArgs) (by rfl) (by rfl) (by simp [Sc, sc_pl, sc_ds]) ?_
    rintro _ _ ⟨j2, a7, h7, rfl, hj2, ha7, rfl⟩
    obtain ⟨v, hv, hv2⟩ : ∃ v : Nat, F2 j2 = v ∧ v < 256 := by
      show ∃ v : Nat, (if j2 = 0 then (0 : Int) else if j2 = 1 then 1 else if j2 = 2 then 16 else 255) = v ∧ v < 256
      obtain rfl | rfl | rfl | rfl : j2 = 0 ∨ j2 = 1 ∨ j2 = 2 ∨ j2 = 3 := by omega
      · exact ⟨0, rfl, by omega⟩
      · exact ⟨1, rfl, by omega⟩
      · exact ⟨16, rfl, by omega⟩
      · exact ⟨255, rfl, by omega⟩
    refine ⟨⟨fun d hd => by cases hd; exact sc_src _ _ _ _ _, fun d hd => by cases hd; exact fun _ _ => trivial, trivial⟩, .i .i64 (v : Int), ⟨congrArg (Dat.i .i64) hv.symm, trivial⟩, trivial, ?_⟩
    refine WPL.mem (by rfl) ?_
    have hSc : ∀ (k : Nat) (h : Int), Sc k (srcD len g a7 h) := fun k h => sc_src k len g a7 h
    refine WPL.fin T false tok (by rfl) (by exact byObl) ?_
    refine WP.ghost (Ghost.cut (Nat.le_refl _) (tauOf [0, 1, 2, 3]) [(2, .p 1 [] 0), (5, .i .i64 (n : Int)), (6, .p 3 [] 0)] [.ro len 1 (byF g), .var (pl fun _ => 0), .var (srcD len g a7 h7), .var (pl (up p k v))] (Taken.of [0, 1, 2, 3] (LeAll.cons (by rfl) (by first | with_reducible exact Root.Le.refl _ | with_reducible exact le_dead | (skip; done) | exact byLeq) (by exact byCon) (LeAll.cons (by rfl) (by first | with_reducible exact Root.Le.refl _ | with_reducible exact le_dead | (skip; done) | exact byLeq) (by exact byCon) (LeAll.cons (by rfl) (by first | with_reducible exact Root.Le.refl _ | with_reducible exact le_dead | (skip; done) | exact byLeq) (by exact byCon) (LeAll.cons (by rfl) (by first | with_reducible exact Root.Le.refl _ | with_reducible exact le_dead | (skip; done) | exact byLeq) (by exact byCon) (trivial))))) rfl rfl) (by exact bySlots)) ?_
    refine WP.rs T false tok (by rfl) (by exact byObl) ?_
    exact WP.ret (Ends.newE [0] (⟨up p k v, (n : Int), rfl, (hp.mono (by omega)).up (by omega) hv2, by omega, by omega, rfl⟩) (.inl rfl) (by rfl) (by exact byObl) (LeAll.cons (by rfl) (by first | with_reducible exact Root.Le.refl _ | with_reducible exact le_dead | (skip; done) | exact byLeq) (by exact byCon) (trivial)) rfl rfl (ren_t2 ⟨rfl, sc_pl _ _⟩ ⟨rfl, trivial⟩) (sc_t2 (sc_pl _ _) trivial))
  · refine WP.rs T false tok (by rfl) (by exact byObl) ?_
    refine WP.cond (by rfl) (fun hz2 => ?_) (fun hz2 => ?_)
    · let F3 : Nat → Int := fun j => if j = 0 then 0 else if j = 1 then 17 else if j = 2 then -1 else (n : Int) - 1
      have hpk3 := l01Pick_fn len g hg a5 h5 4 F3 (by omega) (by omega) ha5 hl
      refine WP.region ?_
      refine WPL.run T false 4 tok (by rfl) (by exact byObl) ?_
      refine WPL.callE [2, 4] (hpk3) (LeAll.cons (by rfl) (by first | with_reducible exact Root.Le.refl _ | with_reducible exact le_dead | (exact le_row (Nat.le_refl _) (fun j hj => by obtain rfl | rfl | rfl | rfl : j = 0 ∨ j = 1 ∨ j = 2 ∨ j = 3 := (by omega) <;> rfl)) | exact byLeq) (by exact byCon) (LeAll.cons (by rfl) (by first | with_reducible exact Root.Le.refl _ | with_reducible exact le_dead | (exact le_row (Nat.le_refl _) (fun j hj => by obtain rfl | rfl | rfl | rfl : j = 0 ∨ j = 1 ∨ j = 2 ∨ j = 3 := (by omega) <;> rfl)) | exact byLeq) (by exact byCon) (trivial))) (by rfl) (by rfl) (by exact byArgs) (by rfl) (by rfl) (by simp [Sc, sc_pl, sc_ds]) ?_
      rintro _ _ ⟨j3, a6, h6, rfl, hj3, ha6, rfl⟩
      have hF3 : -1 ≤ F3 j3 ∧ F3 j3 ≤ 17 := by
        show -1 ≤ (if j3 = 0 then (0 : Int) else if j3 = 1 then 17 else if j3 = 2 then -1 else (n : Int) - 1) ∧ (if j3 = 0 then (0 : Int) else if j3 = 1 then 17 else if j3 = 2 then -1 else (n : Int) - 1) ≤ 17
        obtain rfl | rfl | rfl | rfl : j3 = 0 ∨ j3 = 1 ∨ j3 = 2 ∨ j3 = 3 := by omega
        · exact ⟨(show (-1 : Int) ≤ 0 by decide), (show (0 : Int) ≤ 17 by decide)⟩
        · exact ⟨(show (-1 : Int) ≤ 17 by decide), (show (17 : Int) ≤ 17 by decide)⟩
        · exact ⟨(show (-1 : Int) ≤ -1 by decide), (show (-1 : Int) ≤ 17 by decide)⟩
        · show -1 ≤ (n : Int) - 1 ∧ (n : Int) - 1 ≤ 17; omega
      refine ⟨⟨fun d hd => by cases hd; exact sc_src _ _ _ _ _, fun d hd => by cases hd; exact fun _ _ => trivial, trivial⟩, .i .i64 (F3 j3), ⟨rfl, trivial⟩, trivial, ?_⟩
      refine WPL.mem (by rfl) ?_
      have hSc : ∀ (k : Nat) (h : Int), Sc k (srcD len g a6 h) := fun k h => sc_src k len g a6 h
      refine WPL.fin T false tok (by rfl) (by exact byObl) ?_
      refine WP.rs T false tok (by rfl) (by exact byObl) ?_
      exact WP.ret (Ends.newE [0] (⟨p, F3 j3, rfl, hp.mono (by omega), hF3.1, hF3.2, rfl⟩) (.inl rfl) (by rfl) (by exact byObl) (LeAll.cons (by rfl) (by first | with_reducible exact Root.Le.refl _ | with_reducible exact le_dead | (skip; done) | exact byLeq) (by exact byCon) (trivial)) rfl rfl (ren_t2 ⟨rfl, sc_pl _ _⟩ ⟨rfl, trivial⟩) (sc_t2 (sc_pl _ _) trivial))
    · refine WP.skip ?_
      refine WP.rs T false tok (by rfl) (by exact byObl) ?_
      exact WP.ret (Ends.newE [0] (⟨p, (n : Int), rfl, hp.mono (by omega), by omega, by omega, rfl⟩) (.inl rfl) (by rfl) (by exact byObl) (LeAll.cons (by rfl) (by first | with_reducible exact Root.Le.refl _ | with_reducible exact le_dead | (skip; done) | exact byLeq) (by exact byCon) (trivial)) rfl rfl (ren_t2 ⟨rfl, sc_pl _ _⟩ ⟨rfl, trivial⟩) (sc_t2 (sc_pl _ _) trivial))

end Go.Proofs.Ytakapfgjdhliaaa
