import Derived.Test.YtakapfgjdhliaaaX8
import Derived.Test.YtakapfgjdhliaaaX3
import Derived.Test.YtakapfgjdhliaaaL2
import Derived.Test.YtakapfgjdhliaaaX131
/- What is a dessin: both sides. -/
namespace Go.Proofs.Ytakapfgjdhliaaa
open Go.RowKit DM
set_option linter.unusedSimpArgs false
set_option linter.unusedVariables false
set_option maxRecDepth 100000
set_option maxHeartbeats 1000000

/-- Whether the numbers and the two arrays are a dessin. -/
noncomputable def desB (n : Int) (b w : Nat → Nat) : Bool := permB b n && (permB w n && decide (((bfs b w).length : Int) = n))

/-- What a dessin is. -/
structure Des (N : Nat) (b w : Nat → Nat) : Prop where
  pos : 1 ≤ N
  le : N ≤ 16
  pb : Perm N b
  pw : Perm N w
  all : (bfs b w).length = N

theorem des_of_B {n : Int} {b w : Nat → Nat} (h : desB n b w = true) : ∃ N : Nat, n = N ∧ Des N b w := by
  unfold desB at h
  simp only [Bool.and_eq_true, decide_eq_true_eq] at h
  obtain ⟨N, rfl, h1, h2, h3⟩ := perm_of_B h.1
  obtain ⟨N', e, _, _, h3'⟩ := perm_of_B h.2.1
  have : N' = N := by omega
  subst this
  exact ⟨N', rfl, h1, h2, h3, h3', by have := h.2.2; omega⟩

theorem l01Is_fn (n : Int) (b w : Nat → Nat) (hb : ∀ i, b i < 256) (hw : ∀ i, w i < 256) : FnP Try.prog 70 [ds_ n b w] (.b (desB n b w)) := by
  refine FnS.into T tok Try.func70 (by rfl) rfl rfl rfl (by simp) ?_
  refine WP.rs T false tok (by rfl) (by exact byObl) ?_
  cases h1 : permB b n
  · have e : desB n b w = false := by unfold desB; rw [h1]; rfl
    refine WP.rw ?_
    refine WPL.run T false 4 tok (by rfl) (by exact byObl) ?_
    refine WPL.call (h1 ▸ l01Perm_fn b hb n) (by rfl) (by rfl) (by rfl) (by simp [Sc, sc_pl, sc_ds, pl_ne, ds_ne]) ?_
    refine WPL.fin T false tok (by rfl) (by exact byObl) ?_
    rw [e]
    exact WP.ret (Ends.val (by rfl) (by exact byObl) (by rfl) (by trivial))
  cases h2 : permB w n
  · have e : desB n b w = false := by unfold desB; rw [h1, h2]; rfl
    refine WP.rw ?_
    refine WPL.run T false 4 tok (by rfl) (by exact byObl) ?_
    refine WPL.call (h1 ▸ l01Perm_fn b hb n) (by rfl) (by rfl) (by rfl) (by simp [Sc, sc_pl, sc_ds, pl_ne, ds_ne]) ?_
    refine WPL.run T false 5 tok (by rfl) (by exact byObl) ?_
    refine WPL.call (h2 ▸ l01Perm_fn w hw n) (by rfl) (by rfl) (by rfl) (by simp [Sc, sc_pl, sc_ds, pl_ne, ds_ne]) ?_
    refine WPL.fin T false tok (by rfl) (by exact byObl) ?_
    rw [e]
    exact WP.ret (Ends.val (by rfl) (by exact byObl) (by rfl) (by trivial))
  have e : desB n b w = decide (((bfs b w).length : Int) = n) := by unfold desB; rw [h1, h2]; rfl
  obtain ⟨N, rfl, g1, g2, hP⟩ := perm_of_B h1
  obtain ⟨N', eN, _, _, hP'⟩ := perm_of_B h2
  obtain rfl : N = N' := by omega
  refine WP.rw ?_
  refine WPL.run T false 4 tok (by rfl) (by exact byObl) ?_
  refine WPL.call (h1 ▸ l01Perm_fn b hb N) (by rfl) (by rfl) (by rfl) (by simp [Sc, sc_pl, sc_ds, pl_ne, ds_ne]) ?_
  refine WPL.run T false 5 tok (by rfl) (by exact byObl) ?_
  refine WPL.call (h2 ▸ l01Perm_fn w hw N) (by rfl) (by rfl) (by rfl) (by simp [Sc, sc_pl, sc_ds, pl_ne, ds_ne]) ?_
  refine WPL.run T false 8 tok (by rfl) (by exact byObl) ?_
  refine WPL.call (l01Connected_fn b w N g1 g2 hP.lt hP'.lt) (by rfl) (by rfl) (by rfl) (by simp [Sc, sc_pl, sc_ds, pl_ne, ds_ne]) ?_
  refine WPL.fin T false tok (by rfl) (by exact byObl) ?_
  rw [e]
  exact WP.ret (Ends.val (by rfl) (by exact byObl) (by rfl) (by trivial))

theorem implIsDessin_fn (n : Int) (b w : Nat → Nat) (hb : ∀ i, b i < 256) (hw : ∀ i, w i < 256) : FnP Try.prog 65 [ds_ n b w] (.b (desB n b w)) := by
  refine FnS.into T tok Try.func65 (by rfl) rfl rfl rfl (by simp) ?_
  refine WP.rs T false tok (by rfl) (by exact byObl) ?_
  refine WP.rs T false tok (by rfl) (by exact byObl) ?_
  cases h1 : permB b n
  · have e : desB n b w = false := by unfold desB; rw [h1]; rfl
    refine WP.rw ?_
    refine WPL.run T false 3 tok (by rfl) (by exact byObl) ?_
    refine WPL.call (h1 ▸ IsPermutation_fn b hb n) (by rfl) (by rfl) (by rfl) (by simp [Sc, sc_pl, sc_ds, pl_ne, ds_ne]) ?_
    refine WPL.fin T false tok (by rfl) (by exact byObl) ?_
    rw [e]
    exact WP.ret (Ends.val (by rfl) (by exact byObl) (by rfl) (by trivial))
  cases h2 : permB w n
  · have e : desB n b w = false := by unfold desB; rw [h1, h2]; rfl
    refine WP.rw ?_
    refine WPL.run T false 3 tok (by rfl) (by exact byObl) ?_
    refine WPL.call (h1 ▸ IsPermutation_fn b hb n) (by rfl) (by rfl) (by rfl) (by simp [Sc, sc_pl, sc_ds, pl_ne, ds_ne]) ?_
    refine WPL.run T false 4 tok (by rfl) (by exact byObl) ?_
    refine WPL.call (h2 ▸ IsPermutation_fn w hw n) (by rfl) (by rfl) (by rfl) (by simp [Sc, sc_pl, sc_ds, pl_ne, ds_ne]) ?_
    refine WPL.fin T false tok (by rfl) (by exact byObl) ?_
    rw [e]
    exact WP.ret (Ends.val (by rfl) (by exact byObl) (by rfl) (by trivial))
  have e : desB n b w = decide (((bfs b w).length : Int) = n) := by unfold desB; rw [h1, h2]; rfl
  obtain ⟨N, rfl, g1, g2, hP⟩ := perm_of_B h1
  obtain ⟨N', eN, _, _, hP'⟩ := perm_of_B h2
  obtain rfl : N = N' := by omega
  refine WP.rw ?_
  refine WPL.run T false 3 tok (by rfl) (by exact byObl) ?_
  refine WPL.call (h1 ▸ IsPermutation_fn b hb N) (by rfl) (by rfl) (by rfl) (by simp [Sc, sc_pl, sc_ds, pl_ne, ds_ne]) ?_
  refine WPL.run T false 4 tok (by rfl) (by exact byObl) ?_
  refine WPL.call (h2 ▸ IsPermutation_fn w hw N) (by rfl) (by rfl) (by rfl) (by simp [Sc, sc_pl, sc_ds, pl_ne, ds_ne]) ?_
  refine WPL.run T false 8 tok (by rfl) (by exact byObl) ?_
  refine WPL.callR [1] (reached_fn b w N g1 g2 hP.lt hP'.lt) (by rfl) (LeAll.cons (by rfl) (by first | with_reducible exact Root.Le.refl _ | with_reducible exact le_dead | (exact le_frz (Nat.le_refl _) (fun j hj => by rcases j with _ | _ | j <;> first | rfl | omega)) | exact byLeq) (by exact byCon) (trivial)) (by exact byArgs) (by rfl) (by rfl) (by simp [Sc, sc_pl, sc_ds]) ?_
  refine WPL.fin T false tok (by rfl) (by exact byObl) ?_
  rw [e]
  exact WP.ret (Ends.val (by rfl) (by exact byObl) (by rfl) (by trivial))

end Go.Proofs.Ytakapfgjdhliaaa

/- Draws: dessins. -/
namespace Go.Proofs.Ytakapfgjdhliaaa
open Go.RowKit DM
set_option linter.unusedSimpArgs false
set_option linter.unusedVariables false
set_option maxRecDepth 100000
set_option maxHeartbeats 1000000

theorem bt_star {n : Nat} (h1 : 1 ≤ n) (hn : n ≤ 16) : Bt n (fillF (fun i => (i + 1) % n) n) := ⟨fun i => by
  show (if i < n then (i + 1) % n else 0) < n
  split
  · exact Nat.mod_lt _ (by omega)
  · omega, fun i hi => by
  show (if i < n then (i + 1) % n else 0) = 0
  rw [if_neg (by omega)]⟩
theorem Bt.b256 {n : Nat} {p : Nat → Nat} (h : Bt n p) (hn : n ≤ 256) : ∀ i, p i < 256 := fun i => Nat.lt_of_lt_of_le (h.lt i) hn

theorem l01Draw_fn (len : Nat) (g : Nat → Nat) (hg : ∀ j, g j < 256) (a : Nat) (h : Int) (most : Int) (hm1 : 1 ≤ most) (hm : most ≤ 16) (ha : a ≤ len) (hl : len ≤ 4294967296) :
    FnS Try.prog 93 [.p 0 [] 0, .i .i64 most] [.var (srcD len g a h)] fun r m' => ∃ (n : Nat) (b w : Nat → Nat) (a' : Nat) (h' : Int), r = ds_ n b w ∧ 1 ≤ n ∧ (n : Int) ≤ most ∧ Bt n b ∧ Bt n w ∧ a' ≤ len ∧ m' = [.var (srcD len g a' h')] := by
  have hSc : ∀ (k a : Nat) (h : Int), Sc k (srcD len g a h) := fun k a h => sc_src k len g a h
  have sc_ch := hSc
  have hnx := l01Next_fn len g hg a h most ha hl
  refine FnS.intoE T tok Try.func93 (by rfl) rfl rfl rfl (by simp) ?_
  refine WP.rs T false tok (by rfl) (by exact byObl) ?_
  refine WP.rw ?_
  refine WPL.run T false 2 tok (by rfl) (by exact byObl) ?_
  refine WPL.callE [0] (hnx) (LeAll.cons (by rfl) (by first | with_reducible exact Root.Le.refl _ | with_reducible exact le_dead | (skip; done) | exact byLeq) (by exact byCon) (trivial)) (by rfl) (by rfl) (by exact byArgs) (by rfl) (by rfl) (by simp [Sc, sc_pl, sc_ds]) ?_
  rintro _ _ ⟨y, a', h2, rfl, hy1, _, ha', rfl⟩
  obtain ⟨y0, y1⟩ := hy1 hm1
  obtain ⟨n, rfl, hn1, hn2⟩ : ∃ n : Nat, y = (n : Int) - 1 ∧ 1 ≤ n ∧ (n : Int) ≤ most := ⟨(y + 1).toNat, by omega, by omega, by omega⟩
  have hn16 : n ≤ 16 := by omega
  refine ⟨⟨fun d hd => by cases hd; exact sc_src _ _ _ _ _, trivial⟩, .i .i64 ((n : Int) - 1), ⟨rfl, trivial⟩, trivial, ?_⟩
  refine WPL.mem (by rfl) ?_
  refine WPL.run T false 1 tok (by rfl) (by exact byObl) ?_
  have en : (1 : Int) + ((n : Int) - 1) = n := by omega
  rw [en]
  refine WPL.fin T false tok (by rfl) (by exact byObl) ?_
  refine WP.seq ?_
  refine WP.rs T false tok (by rfl) (by exact byObl) ?_
  refine WP.block ?_
  refine WP.loopH (⟨fun z : Nat × Nat × Int => z.1 ≤ 8 ∧ z.2.1 ≤ len, fun z => [(0, .p 0 [] 0), (4, .p 1 [] 0), (5, .i .i64 (n : Int)), (6, .i .i64 (z.1 : Int))], fun z => [.var (srcD len g z.2.1 z.2.2), .var (ds_ 0 (fun _ => 0) (fun _ => 0))], fun z => 8 - z.1⟩) ((0, a', h2)) (⟨Nat.zero_le _, ha'⟩) (Ghost.cut (Nat.le_refl _) (tauOf [0, 1]) _ _ (Taken.of [0, 1] (LeAll.cons (by rfl) (by first | with_reducible exact Root.Le.refl _ | with_reducible exact le_dead | (exact le_var (dsf_of rfl rfl rfl fun _ => rfl).symm) | exact byLeq) (by exact byCon) (LeAll.cons (by rfl) (by first | with_reducible exact Root.Le.refl _ | with_reducible exact le_dead | (exact le_var (dsf_of rfl rfl rfl fun _ => rfl).symm) | exact byLeq) (by exact byCon) (trivial))) rfl rfl) (by exact bySlots)) ?_
  rintro ⟨k, c, h3⟩ ⟨hk, hcl⟩
  dsimp only at hk hcl
  dsimp only [Hd.at]
  refine WP.seq ?_
  refine WP.rs T false tok (by rfl) (by exact byObl) ?_
  refine WP.cond (by rfl) (fun hc => WP.skip ?_) (fun hc => WP.exit ?_)
  · have hk : k < 8 := by have := of_decide_eq_true hc; omega
    clear hc
    let F1 : Nat → Int := fun j => if j = 0 then 2 else if j = 1 then 3 else if j = 2 then 4 else (n : Int)
    let F2 : Nat → Int := fun j => if j = 0 then 2 else if j = 1 then 2 else if j = 2 then 3 else (n : Int)
    have hF1 : ∀ j, F1 j ≤ 1000 := fun j => by
      show (if j = 0 then (2 : Int) else if j = 1 then 3 else if j = 2 then 4 else (n : Int)) ≤ 1000
      split
      · omega
      · split
        · omega
        · split <;> omega
    have hF2 : ∀ j, F2 j ≤ 1000 := fun j => by
      show (if j = 0 then (2 : Int) else if j = 1 then 2 else if j = 2 then 3 else (n : Int)) ≤ 1000
      split
      · omega
      · split
        · omega
        · split <;> omega
    have hp1 := l01Pick_fn len g hg c h3 4 F1 (by omega) (by omega) hcl hl
    refine WP.seq (WP.block ?_)
    refine WP.rw ?_
    refine WPL.run T false 6 tok (by rfl) (by exact byObl) ?_
    refine WPL.callE [0, 2] (hp1) (LeAll.cons (by rfl) (by first | with_reducible exact Root.Le.refl _ | with_reducible exact le_dead | (exact le_row (Nat.le_refl _) (fun j hj => by obtain rfl | rfl | rfl | rfl : j = 0 ∨ j = 1 ∨ j = 2 ∨ j = 3 := (by omega) <;> rfl)) | exact byLeq) (by exact byCon) (LeAll.cons (by rfl) (by first | with_reducible exact Root.Le.refl _ | with_reducible exact le_dead | (exact le_row (Nat.le_refl _) (fun j hj => by obtain rfl | rfl | rfl | rfl : j = 0 ∨ j = 1 ∨ j = 2 ∨ j = 3 := (by omega) <;> rfl)) | exact byLeq) (by exact byCon) (trivial))) (by rfl) (by rfl) (by exact byArgs) (by rfl) (by rfl) (by simp [Sc, sc_pl, sc_ds]) ?_
    rintro _ _ ⟨j1, c1, g1, rfl, hj1, hc1, rfl⟩
    refine ⟨⟨fun d hd => by cases hd; exact sc_src _ _ _ _ _, fun d hd => by cases hd; exact fun _ _ => trivial, trivial⟩, .i .i64 (F1 j1), ⟨rfl, trivial⟩, trivial, ?_⟩
    refine WPL.mem (by rfl) ?_
    have hp2 := l01Pairs_fn len g hg c1 g1 n (F1 j1) hn1 hn16 (hF1 _) hc1 hl
    refine WPL.callE [0] (hp2) (LeAll.cons (by rfl) (by first | with_reducible exact Root.Le.refl _ | with_reducible exact le_dead | (skip; done) | exact byLeq) (by exact byCon) (trivial)) (by rfl) (by rfl) (by exact byArgs) (by rfl) (by rfl) (by simp [Sc, sc_pl, sc_ds]) ?_
    rintro _ _ ⟨b, c2, g2, rfl, hb, hc2, rfl⟩
    refine ⟨⟨fun d hd => by cases hd; exact sc_src _ _ _ _ _, trivial⟩, pl b, ⟨rfl, sc_pl _ _⟩, sc_pl _ _, ?_⟩
    refine WPL.mem (by rfl) ?_
    have hp3 := l01Pick_fn len g hg c2 g2 4 F2 (by omega) (by omega) hc2 hl
    refine WPL.run T false 5 tok (by rfl) (by exact byObl) ?_
    refine WPL.callE [0, 3] (hp3) (LeAll.cons (by rfl) (by first | with_reducible exact Root.Le.refl _ | with_reducible exact le_dead | (exact le_row (Nat.le_refl _) (fun j hj => by obtain rfl | rfl | rfl | rfl : j = 0 ∨ j = 1 ∨ j = 2 ∨ j = 3 := (by omega) <;> rfl)) | exact byLeq) (by exact byCon) (LeAll.cons (by rfl) (by first | with_reducible exact Root.Le.refl _ | with_reducible exact le_dead | (exact le_row (Nat.le_refl _) (fun j hj => by obtain rfl | rfl | rfl | rfl : j = 0 ∨ j = 1 ∨ j = 2 ∨ j = 3 := (by omega) <;> rfl)) | exact byLeq) (by exact byCon) (trivial))) (by rfl) (by rfl) (by exact byArgs) (by rfl) (by rfl) (by simp [Sc, sc_pl, sc_ds]) ?_
    rintro _ _ ⟨j3, c3, g3, rfl, hj3, hc3, rfl⟩
    refine ⟨⟨fun d hd => by cases hd; exact sc_src _ _ _ _ _, fun d hd => by cases hd; exact fun _ _ => trivial, trivial⟩, .i .i64 (F2 j3), ⟨rfl, trivial⟩, trivial, ?_⟩
    refine WPL.mem (by rfl) ?_
    have hp4 := l01Pairs_fn len g hg c3 g3 n (F2 j3) hn1 hn16 (hF2 _) hc3 hl
    refine WPL.callE [0] (hp4) (LeAll.cons (by rfl) (by first | with_reducible exact Root.Le.refl _ | with_reducible exact le_dead | (skip; done) | exact byLeq) (by exact byCon) (trivial)) (by rfl) (by rfl) (by exact byArgs) (by rfl) (by rfl) (by simp [Sc, sc_pl, sc_ds]) ?_
    rintro _ _ ⟨w, c4, g4, rfl, hw, hc4, rfl⟩
    refine ⟨⟨fun d hd => by cases hd; exact sc_src _ _ _ _ _, trivial⟩, pl w, ⟨rfl, sc_pl _ _⟩, sc_pl _ _, ?_⟩
    refine WPL.mem (by rfl) ?_
    refine WPL.fin T false tok (by rfl) (by exact byObl) ?_
    refine WP.ghost (Ghost.cut (Nat.le_refl _) (tauOf [0, 1, 4]) [(0, .p 0 [] 0), (4, .p 1 [] 0), (5, .i .i64 (n : Int)), (6, .i .i64 (k : Int)), (7, .p 2 [] 0)] [.var (srcD len g c4 g4), .var (ds_ 0 (fun _ => 0) (fun _ => 0)), .var (ds_ n b w)] (Taken.of [0, 1, 4] (LeAll.cons (by rfl) (by first | with_reducible exact Root.Le.refl _ | with_reducible exact le_dead | (exact le_var (dsf_of rfl rfl rfl fun _ => rfl).symm) | exact byLeq) (by exact byCon) (LeAll.cons (by rfl) (by first | with_reducible exact Root.Le.refl _ | with_reducible exact le_dead | (exact le_var (dsf_of rfl rfl rfl fun _ => rfl).symm) | exact byLeq) (by exact byCon) (LeAll.cons (by rfl) (by first | with_reducible exact Root.Le.refl _ | with_reducible exact le_dead | (exact le_var (dsf_of rfl rfl rfl fun _ => rfl).symm) | exact byLeq) (by exact byCon) (trivial)))) rfl rfl) (by exact bySlots)) ?_
    have his := l01Is_fn n b w (hb.b256 (by omega)) (hw.b256 (by omega))
    refine WP.rw ?_
    refine WPL.run T false 1 tok (by rfl) (by exact byObl) ?_
    refine WPL.call (his) (by rfl) (by rfl) (by rfl) (by simp [Sc, sc_pl, sc_ds, pl_ne, ds_ne]) ?_
    refine WPL.fin T false tok (by rfl) (by exact byObl) ?_
    refine WP.cond (by rfl) (fun hx => ?_) (fun hx => ?_)
    · refine WP.rs T false tok (by rfl) (by exact byObl) ?_
      exact WP.ret (Ends.newE [0] (⟨n, b, w, c4, g4, rfl, hn1, hn2, hb, hw, hc4, rfl⟩) (.inl rfl) (by rfl) (by exact byObl) (LeAll.cons (by rfl) (by first | with_reducible exact Root.Le.refl _ | with_reducible exact le_dead | (skip; done) | exact byLeq) (by exact byCon) (trivial)) rfl rfl (⟨rfl, sc_ds _ _ _ _⟩) (sc_ds _ _ _ _))
    · refine WP.skip ?_
      refine WP.run T false tok (by rfl) (by exact byObl) ?_
      refine Again.next ((k + 1, c4, g4)) (Ghost.cut (Nat.le_refl _) (tauOf [0, 1]) _ _ (Taken.of [0, 1] (LeAll.cons (by rfl) (by first | with_reducible exact Root.Le.refl _ | with_reducible exact le_dead | (skip; done) | exact byLeq) (by exact byCon) (LeAll.cons (by rfl) (by first | with_reducible exact Root.Le.refl _ | with_reducible exact le_dead | (skip; done) | exact byLeq) (by exact byCon) (trivial))) rfl rfl) (by exact bySlots)) (⟨by omega, hc4⟩) (by dsimp only; omega)
  clear hc
  refine WP.rw ?_
  refine WPL.run T false 1 tok (by rfl) (by exact byObl) ?_
  refine WPL.call (l01Star_fn n hn1 hn16) (by rfl) (by rfl) (by rfl) (by simp [Sc, sc_pl, sc_ds, pl_ne, ds_ne]) ?_
  refine WPL.fin T false tok (by rfl) (by exact byObl) ?_
  have hdp := l01DrawPlaces_fn len g hg c h3 (n : Int) (by omega) (by omega) hcl hl
  refine WP.rw ?_
  refine WPL.run T false 2 tok (by rfl) (by exact byObl) ?_
  refine WPL.callE [0] (hdp) (LeAll.cons (by rfl) (by first | with_reducible exact Root.Le.refl _ | with_reducible exact le_dead | (skip; done) | exact byLeq) (by exact byCon) (trivial)) (by rfl) (by rfl) (by exact byArgs) (by rfl) (by rfl) (by simp [Sc, sc_pl, sc_ds]) ?_
  rintro _ _ ⟨w, c', h4, rfl, hw, hc', rfl⟩
  rw [bN_nat hn1] at hw
  refine ⟨⟨fun d hd => by cases hd; exact sc_src _ _ _ _ _, trivial⟩, pl w, ⟨rfl, sc_pl _ _⟩, sc_pl _ _, ?_⟩
  refine WPL.mem (by rfl) ?_
  refine WPL.fin T false tok (by rfl) (by exact byObl) ?_
  refine WP.ghost (Ghost.cut (Nat.le_refl _) (tauOf [0, 1, 2]) [(0, .p 0 [] 0), (4, .p 1 [] 0), (8, .p 2 [] 0)] [.var (srcD len g c' h4), .var (ds_ 0 (fun _ => 0) (fun _ => 0)), .var (ds_ n (fillF (fun i => (i + 1) % n) n) w)] (Taken.of [0, 1, 2] (LeAll.cons (by rfl) (by first | with_reducible exact Root.Le.refl _ | with_reducible exact le_dead | (skip; done) | exact byLeq) (by exact byCon) (LeAll.cons (by rfl) (by first | with_reducible exact Root.Le.refl _ | with_reducible exact le_dead | (skip; done) | exact byLeq) (by exact byCon) (LeAll.cons (by rfl) (by first | with_reducible exact Root.Le.refl _ | with_reducible exact le_dead | (skip; done) | exact byLeq) (by exact byCon) (trivial)))) rfl rfl) (by exact bySlots)) ?_
  refine WP.rs T false tok (by rfl) (by exact byObl) ?_
  exact WP.ret (Ends.newE [0] (⟨n, _, w, c', h4, rfl, hn1, hn2, bt_star hn1 hn16, hw, hc', rfl⟩) (.inl rfl) (by rfl) (by exact byObl) (LeAll.cons (by rfl) (by first | with_reducible exact Root.Le.refl _ | with_reducible exact le_dead | (skip; done) | exact byLeq) (by exact byCon) (trivial)) rfl rfl (⟨rfl, sc_ds _ _ _ _⟩) (sc_ds _ _ _ _))

end Go.Proofs.Ytakapfgjdhliaaa

/- Cycles: the same walk on both sides, on plain numbers. -/
namespace Go.Proofs.Ytakapfgjdhliaaa
open Go.RowKit DM

/-- A row of numbers. -/
def numsF (l : List Nat) (j : Nat) : Dat := .i .i64 ((l.getD j 0 : Nat) : Int)
/-- .. inside another row. -/
def owN (l : List Nat) : Dat := .ow 2 l.length 1 (numsF l)
def rowsF (L : List (List Nat)) (i : Nat) : Dat := owN (L.getD i [])

theorem getD_snoc_lt {α : Type} (l : List α) (y d : α) {j : Nat} (h : j < l.length) : (l ++ [y]).getD j d = l.getD j d := by
  simp only [List.getD_eq_getElem?_getD]; rw [List.getElem?_append_left h]
theorem getD_snoc {α : Type} (l : List α) (y d : α) : (l ++ [y]).getD l.length d = y := by
  simp [List.getD_eq_getElem?_getD]

theorem blt_true {a b : Nat} (h : a < b) : Nat.blt a b = true := by rw [Nat.blt_eq]; exact h
theorem blt_false {a b : Nat} (h : ¬ a < b) : Nat.blt a b = false := by cases e : Nat.blt a b with | false => rfl | true => rw [Nat.blt_eq] at e; exact absurd e h

theorem ap_nums (l : List Nat) (y : Nat) (z : Dat) (j : Nat) (hj : j < l.length + 1) : numsF (l ++ [y]) j = apF l.length (numsF l) 0 (fup (fun _ => z) 0 (.i .i64 ((y : Nat) : Int))) j := by
  unfold apF numsF
  by_cases h : j < l.length
  · rw [blt_true h, getD_snoc_lt l y 0 h]; rfl
  · have e : j = l.length := by omega
    subst e
    rw [blt_false (Nat.lt_irrefl _), getD_snoc]
    simp [fup]

theorem ap_rows (L : List (List Nat)) (l : List Nat) (g : Nat → Dat) (j : Nat) (hj : j < L.length + 1) : rowsF (L ++ [l]) j = fup (apF L.length (rowsF L) 0 g) L.length (owN l) j := by
  unfold apF rowsF
  by_cases h : j < L.length
  · rw [fup_ne _ _ (by omega), blt_true h, getD_snoc_lt L l [] h]; rfl
  · have e : j = L.length := by omega
    subst e
    rw [fup_same, getD_snoc]

/-- The rest of a cycle. -/
def cyRun (p : Nat → Nat) : Nat → Nat → List Nat → (Nat → Bool) → List Nat × (Nat → Bool)
  | 0, _, l, met => (l, met)
  | f + 1, k, l, met => bif met k then (l, met) else cyRun p f (p k) (l ++ [k]) (up met k true)

def cyc (p : Nat → Nat) (k : Nat) (l : List Nat) (met : Nat → Bool) : List Nat × (Nat → Bool) := cyRun p (cntU 16 met) k l met

theorem cyc_old {p : Nat → Nat} {k : Nat} {l : List Nat} {met : Nat → Bool} (h : met k = true) : cyc p k l met = (l, met) := by
  unfold cyc
  cases cntU 16 met with
  | zero => rfl
  | succ n => simp only [cyRun, h, cond_true]

theorem cyc_new {p : Nat → Nat} {k : Nat} {l : List Nat} {met : Nat → Bool} (hk : k < 16) (h : met k = false) : cyc p k l met = cyc p (p k) (l ++ [k]) (up met k true) := by
  unfold cyc
  rw [cntU_up hk h]
  simp only [cyRun, h, cond_false]

theorem cyRun_mono (p : Nat → Nat) : ∀ (f k : Nat) (l : List Nat) (met : Nat → Bool), l.length ≤ (cyRun p f k l met).1.length
  | 0, k, l, met => Nat.le_refl _
  | f + 1, k, l, met => by
    simp only [cyRun]
    cases met k
    · have := cyRun_mono p f (p k) (l ++ [k]) (up met k true)
      simp only [List.length_append, List.length_singleton] at this
      simp only [cond_false]; omega
    · simp

theorem cyc_pos {p : Nat → Nat} {k : Nat} {met : Nat → Bool} (hk : k < 16) (h : met k = false) : 1 ≤ (cyc p k [] met).1.length := by
  rw [cyc_new hk h]
  have := cyRun_mono p (cntU 16 (up met k true)) (p k) ([] ++ [k]) (up met k true)
  exact this

/-- What is known while a cycle is walked. -/
structure CInv (n : Nat) (k : Nat) (l : List Nat) (met : Nat → Bool) : Prop where
  small : ∀ x ∈ l, x < n
  here : k < n
  len : l.length + cntU 16 met ≤ 16

theorem CInv.step {n : Nat} (hn : n ≤ 16) {p : Nat → Nat} (hp : ∀ i, i < n → p i < n) {k : Nat} {l : List Nat} {met : Nat → Bool} (h : CInv n k l met) (hm : met k = false) : CInv n (p k) (l ++ [k]) (up met k true) := by
  have hc := cntU_up (met := met) (y := k) (by have := h.here; omega) hm
  refine ⟨fun x hx => ?_, hp _ h.here, ?_⟩
  · simp only [List.mem_append, List.mem_singleton] at hx
    rcases hx with hx | rfl
    · exact h.small x hx
    · exact h.here
  · have := h.len
    simp only [List.length_append, List.length_singleton]; omega

theorem cntU_le : ∀ (n : Nat) (f : Nat → Bool), cntU n f ≤ n
  | 0, _ => Nat.le_refl _
  | n + 1, f => by
    have := cntU_le n f
    simp only [cntU]
    cases f n <;> simp <;> omega

/-- All cycles of the numbers below i. -/
def cyTo (p : Nat → Nat) : Nat → List (List Nat) × (Nat → Bool)
  | 0 => ([], fun _ => false)
  | i + 1 => bif (cyTo p i).2 i then cyTo p i else ((cyTo p i).1 ++ [(cyc p i [] (cyTo p i).2).1], (cyc p i [] (cyTo p i).2).2)

def cycs (p : Nat → Nat) (n : Nat) : List (List Nat) := (cyTo p n).1

theorem cyTo_len (p : Nat → Nat) : ∀ i, (cyTo p i).1.length ≤ i
  | 0 => Nat.le_refl _
  | i + 1 => by
    have := cyTo_len p i
    simp only [cyTo]
    cases (cyTo p i).2 i
    · simp only [cond_false, List.length_append, List.length_singleton]; omega
    · simp only [cond_true]; omega

theorem cyTo_old {p : Nat → Nat} {i : Nat} (h : (cyTo p i).2 i = true) : cyTo p (i + 1) = cyTo p i := by
  show (bif (cyTo p i).2 i then _ else _) = _
  rw [h]; rfl
theorem cyTo_new {p : Nat → Nat} {i : Nat} (h : (cyTo p i).2 i = false) : cyTo p (i + 1) = ((cyTo p i).1 ++ [(cyc p i [] (cyTo p i).2).1], (cyc p i [] (cyTo p i).2).2) := by
  show (bif (cyTo p i).2 i then _ else _) = _
  rw [h]; rfl

theorem cyRun_ok {n : Nat} (hn : n ≤ 16) {p : Nat → Nat} (hp : ∀ i, i < n → p i < n) : ∀ (f k : Nat) (l : List Nat) (met : Nat → Bool), CInv n k l met → (∀ x ∈ (cyRun p f k l met).1, x < n) ∧ (cyRun p f k l met).1.length + cntU 16 (cyRun p f k l met).2 ≤ 16
  | 0, k, l, met, h => ⟨h.small, h.len⟩
  | f + 1, k, l, met, h => by
    simp only [cyRun]
    cases hm : met k
    · simp only [cond_false]; exact cyRun_ok hn hp f _ _ _ (h.step hn hp hm)
    · simp only [cond_true]; exact ⟨h.small, h.len⟩

theorem cyTo_ok {n : Nat} (hn : n ≤ 16) {p : Nat → Nat} (hp : ∀ i, i < n → p i < n) : ∀ i, i ≤ n → ∀ l ∈ (cyTo p i).1, (∀ x ∈ l, x < n) ∧ l.length ≤ 16
  | 0, _, l, hl => by simp [cyTo] at hl
  | i + 1, hi, l, hl => by
    cases hm : (cyTo p i).2 i
    · rw [cyTo_new hm] at hl
      simp only [List.mem_append, List.mem_singleton] at hl
      rcases hl with hl | rfl
      · exact cyTo_ok hn hp i (by omega) l hl
      · have := cyRun_ok hn hp (cntU 16 (cyTo p i).2) i [] (cyTo p i).2 ⟨by simp, by omega, by have := cntU_le 16 (cyTo p i).2; simpa using this⟩
        exact ⟨this.1, by have := this.2; unfold cyc; omega⟩
    · rw [cyTo_old hm] at hl
      exact cyTo_ok hn hp i (by omega) l hl

theorem cycs_ok {n : Nat} (hn : n ≤ 16) {p : Nat → Nat} (hp : ∀ i, i < n → p i < n) {j : Nat} : ((cycs p n).getD j []).length ≤ 16 ∧ ∀ x ∈ (cycs p n).getD j [], x < n := by
  by_cases h : j < (cycs p n).length
  · have := cyTo_ok hn hp n (Nat.le_refl _) ((cycs p n).getD j []) (by rw [List.getD_eq_getElem?_getD, List.getElem?_eq_getElem h]; exact List.getElem_mem h)
    exact ⟨this.2, this.1⟩
  · rw [List.getD_eq_getElem?_getD, List.getElem?_eq_none (by omega)]; simp

theorem ren_t2 {τ : Nat → Nat} {a b a' b' : Dat} (h1 : renD τ a a') (h2 : renD τ b b') : renD τ (t2 a b) (t2 a' b') :=
  ⟨_, rfl, fun i _ => by cases i with | zero => exact h1 | succ i => exact h2⟩

end Go.Proofs.Ytakapfgjdhliaaa

/- Cycles: both sides. -/
namespace Go.Proofs.Ytakapfgjdhliaaa
open Go.RowKit DM
set_option linter.unusedSimpArgs false
set_option linter.unusedVariables false
set_option maxRecDepth 100000
set_option maxHeartbeats 1000000

theorem l01Cycles_fn (p : Nat → Nat) (n : Nat) (hn : n ≤ 16) (hp : ∀ i, i < n → p i < n) : FnS Try.prog 51 [pl p, .i .i64 n] [] (fun r m' => r = .sl 0 0 (cycs p n).length 1 ∧ m' = [.row 39 (cycs p n).length 1 (rowsF (cycs p n))]) := by
  refine FnS.intoN T tok Try.func51 (by rfl) rfl rfl rfl (by simp) ?_
  refine WP.rs T false tok (by rfl) (by exact byObl) ?_
  refine WP.rs T false tok (by rfl) (by exact byObl) ?_
  refine WP.seq ?_
  refine WP.rs T false tok (by rfl) (by exact byObl) ?_
  refine WP.block ?_
  refine WP.loopH (⟨fun x : Nat × List (List Nat) × (Nat → Bool) => x.1 ≤ n ∧ x.2 = cyTo p x.1, fun x => [(1, .i .i64 n), (2, .p 0 [] 0), (5, .sl 2 0 x.2.1.length 1), (6, .p 1 [] 0), (7, .i .i64 (x.1 : Int))], fun x => [.var (pl p), .var (bl x.2.2), .row 39 x.2.1.length 1 (rowsF x.2.1)], fun x => n - x.1⟩) ((0, [], fun _ => false)) (⟨Nat.zero_le _, rfl⟩) (Ghost.cut (Nat.le_refl _) (tauOf [0, 2, 1]) _ _ (Taken.of [0, 2, 1] (LeAll.cons (by rfl) (by first | with_reducible exact Root.Le.refl _ | with_reducible exact le_dead | (exact le_row (Nat.le_refl _) (fun j hj => absurd hj (Nat.not_lt_zero _))) | exact byLeq) (by exact byCon) (LeAll.cons (by rfl) (by first | with_reducible exact Root.Le.refl _ | with_reducible exact le_dead | (exact le_row (Nat.le_refl _) (fun j hj => absurd hj (Nat.not_lt_zero _))) | exact byLeq) (by exact byCon) (LeAll.cons (by rfl) (by first | with_reducible exact Root.Le.refl _ | with_reducible exact le_dead | (exact le_row (Nat.le_refl _) (fun j hj => absurd hj (Nat.not_lt_zero _))) | exact byLeq) (by exact byCon) (trivial)))) rfl rfl) (by exact bySlots)) ?_
  rintro ⟨i, L, M⟩ ⟨hi, hT⟩
  have hlen := cyTo_len p i
  dsimp only at hi hT
  rw [← hT] at hlen
  simp only at hlen
  dsimp only [Hd.at]
  refine WP.seq ?_
  refine WP.rs T false tok (by rfl) (by exact byObl) ?_
  refine WP.cond (by rfl) (fun hc => WP.skip ?_) (fun hc => WP.exit ?_)
  · have hi : i < n := by have := of_decide_eq_true hc; omega
    clear hc
    refine WP.seq (WP.block ?_)
    refine WP.rs T false tok (by rfl) (by exact byObl) ?_
    refine WP.seq ?_
    refine WP.rs T false tok (by rfl) (by exact byObl) ?_
    refine WP.block ?_
    refine WP.loopH (⟨fun x : Nat × List Nat × (Nat → Bool) => CInv n x.1 x.2.1 x.2.2 ∧ cyc p x.1 x.2.1 x.2.2 = cyc p i [] M, fun x => [(1, .i .i64 n), (2, .p 0 [] 0), (5, .sl 2 0 L.length 1), (6, .p 1 [] 0), (7, .i .i64 (i : Int)), (8, .sl 3 0 x.2.1.length 1), (9, .i .i64 (x.1 : Int))], fun x => [.var (pl p), .var (bl x.2.2), .row 39 L.length 1 (rowsF L), .row 2 x.2.1.length 1 (numsF x.2.1)], fun x => cntU 16 x.2.2⟩) ((i, [], M)) (⟨⟨by simp, hi, by have := cntU_le 16 M; simpa using this⟩, rfl⟩) (Ghost.cut (Nat.le_refl _) (tauOf [0, 1, 2, 3]) _ _ (Taken.of [0, 1, 2, 3] (LeAll.cons (by rfl) (by first | with_reducible exact Root.Le.refl _ | with_reducible exact le_dead | (exact le_row (Nat.le_refl _) (fun j hj => absurd hj (Nat.not_lt_zero _))) | exact byLeq) (by exact byCon) (LeAll.cons (by rfl) (by first | with_reducible exact Root.Le.refl _ | with_reducible exact le_dead | (exact le_row (Nat.le_refl _) (fun j hj => absurd hj (Nat.not_lt_zero _))) | exact byLeq) (by exact byCon) (LeAll.cons (by rfl) (by first | with_reducible exact Root.Le.refl _ | with_reducible exact le_dead | (exact le_row (Nat.le_refl _) (fun j hj => absurd hj (Nat.not_lt_zero _))) | exact byLeq) (by exact byCon) (LeAll.cons (by rfl) (by first | with_reducible exact Root.Le.refl _ | with_reducible exact le_dead | (exact le_row (Nat.le_refl _) (fun j hj => absurd hj (Nat.not_lt_zero _))) | exact byLeq) (by exact byCon) (trivial))))) rfl rfl) (by exact bySlots)) ?_
    rintro ⟨k, l, mt⟩ ⟨hI, hF⟩
    simp only at hI hF
    dsimp only [Hd.at]
    have hk16 : k < 16 := by have := hI.here; omega
    have hl16 : l.length ≤ 16 := by have := hI.len; omega
    have hpk := hp _ hI.here
    refine WP.seq ?_
    refine WP.rs T false tok (by rfl) (by exact byObl) ?_
    refine WP.cond (by rfl) (fun hc => WP.skip ?_) (fun hc => WP.exit ?_)
    · have hm : mt k = false := by simpa using hc
      clear hc
      have hI' := hI.step hn hp hm
      have hc' := cyc_new (p := p) (l := l) hk16 hm
      have hcu := cntU_up (met := mt) hk16 hm
      refine WP.seq (WP.block ?_)
      refine WP.rs T false tok (by rfl) (by exact byObl) ?_
      refine WP.run T false tok (by rfl) (by exact byObl) ?_
      refine WP.run T false tok (by rfl) (by exact byObl) ?_
      refine Again.next ((p k, l ++ [k], up mt k true)) (Ghost.cut (Nat.le_refl _) (tauOf [0, 1, 2, 5]) _ _ (Taken.of [0, 1, 2, 5] (LeAll.cons (by rfl) (by first | with_reducible exact Root.Le.refl _ | with_reducible exact le_dead | (exact le_row (by simp) (fun j hj => ap_nums l k _ j (by simpa using hj))) | exact byLeq) (by exact byCon) (LeAll.cons (by rfl) (by first | with_reducible exact Root.Le.refl _ | with_reducible exact le_dead | (exact le_row (by simp) (fun j hj => ap_nums l k _ j (by simpa using hj))) | exact byLeq) (by exact byCon) (LeAll.cons (by rfl) (by first | with_reducible exact Root.Le.refl _ | with_reducible exact le_dead | (exact le_row (by simp) (fun j hj => ap_nums l k _ j (by simpa using hj))) | exact byLeq) (by exact byCon) (LeAll.cons (by rfl) (by first | with_reducible exact Root.Le.refl _ | with_reducible exact le_dead | (exact le_row (by simp) (fun j hj => ap_nums l k _ j (by simpa using hj))) | exact byLeq) (by exact byCon) (trivial))))) rfl rfl) (by exact bySlots)) (⟨hI', hc'.symm.trans hF⟩) (by dsimp only; omega)
    · have hm : mt k = true := by simpa using hc
      clear hc
      rw [cyc_old hm] at hF
      refine WP.rs T false tok (by rfl) (by exact byObl) ?_
      cases hMi : M i
      · have hl1 : 1 ≤ l.length := by
          have := cyc_pos (p := p) (k := i) (by omega) hMi
          rw [← hF] at this; exact this
        have hn1 : cyTo p (i + 1) = (L ++ [l], mt) := by rw [cyTo_new (by rw [← hT]; exact hMi), ← hT]; simp only; rw [← hF]
        refine WP.cond (by rfl) (fun h => ?_) (fun h => WP.skip ?_)
        · clear h
          refine WP.run T false tok (by rfl) (by exact byObl) ?_
          refine WP.run T false tok (by rfl) (by exact byObl) ?_
          refine Again.step (Ghost.giveLast 5 3 (by rfl) rfl rfl (by rfl) (by rfl) (Nat.le_refl _)) ?_
          refine Again.next ((i + 1, L ++ [l], mt)) (Ghost.cut (Nat.le_refl _) (tauOf [0, 1, 5]) _ _ (Taken.of [0, 1, 5] (LeAll.cons (by rfl) (by first | with_reducible exact Root.Le.refl _ | with_reducible exact le_dead | (exact le_row (by simp) (fun j hj => ap_rows L l _ j (by simpa using hj))) | exact byLeq) (by exact byCon) (LeAll.cons (by rfl) (by first | with_reducible exact Root.Le.refl _ | with_reducible exact le_dead | (exact le_row (by simp) (fun j hj => ap_rows L l _ j (by simpa using hj))) | exact byLeq) (by exact byCon) (LeAll.cons (by rfl) (by first | with_reducible exact Root.Le.refl _ | with_reducible exact le_dead | (exact le_row (by simp) (fun j hj => ap_rows L l _ j (by simpa using hj))) | exact byLeq) (by exact byCon) (trivial)))) rfl rfl) (by exact bySlots)) (⟨hi, hn1.symm⟩) (by dsimp only; omega)
        · have := of_decide_eq_false h; omega
      · rw [cyc_old hMi] at hF
        cases hF
        refine WP.cond (by rfl) (fun h => ?_) (fun h => WP.skip ?_)
        · have := of_decide_eq_true h; simp at this
        · have hn1 : cyTo p (i + 1) = (L, M) := by rw [cyTo_old (by rw [← hT]; exact hMi), ← hT]
          refine WP.run T false tok (by rfl) (by exact byObl) ?_
          refine Again.next ((i + 1, L, M)) (Ghost.cut (Nat.le_refl _) (tauOf [0, 1, 2]) _ _ (Taken.of [0, 1, 2] (LeAll.cons (by rfl) (by first | with_reducible exact Root.Le.refl _ | with_reducible exact le_dead | (skip; done) | exact byLeq) (by exact byCon) (LeAll.cons (by rfl) (by first | with_reducible exact Root.Le.refl _ | with_reducible exact le_dead | (skip; done) | exact byLeq) (by exact byCon) (LeAll.cons (by rfl) (by first | with_reducible exact Root.Le.refl _ | with_reducible exact le_dead | (skip; done) | exact byLeq) (by exact byCon) (trivial)))) rfl rfl) (by exact bySlots)) (⟨hi, hn1.symm⟩) (by dsimp only; omega)
  · have hi : i = n := by have := of_decide_eq_false hc; omega
    subst hi
    have hc' : cycs p i = L := by unfold cycs; rw [← hT]
    rw [hc']
    refine WP.rs T false tok (by rfl) (by exact byObl) ?_
    exact WP.ret (Ends.new [2] (by rfl) (by exact byObl) (LeAll.cons (by rfl) (by first | with_reducible exact Root.Le.refl _ | with_reducible exact le_dead | (skip; done) | exact byLeq) (by exact byCon) (trivial)) rfl rfl (rfl) (sc_sl rfl))

end Go.Proofs.Ytakapfgjdhliaaa

/- Even dessins; the Face permutation: both sides; the laws. -/
namespace Go.Proofs.Ytakapfgjdhliaaa
open Go.RowKit DM
set_option linter.unusedSimpArgs false
set_option linter.unusedVariables false
set_option maxRecDepth 100000
set_option maxHeartbeats 1000000

/-! ### Faces -/
theorem Perm.then {N : Nat} {p q : Nat → Nat} (hp : Perm N p) (hq : Perm N q) : ∀ i, i < N → fillF (fun i => q (p i)) N i < N := fun i hi => by
  unfold fillF; rw [if_pos hi]; exact hq.lt _ (hp.lt _ hi)

end Go.Proofs.Ytakapfgjdhliaaa
