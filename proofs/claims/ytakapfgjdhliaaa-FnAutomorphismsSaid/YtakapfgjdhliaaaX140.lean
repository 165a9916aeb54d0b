import Derived.Test.YtakapfgjdhliaaaX8
import Derived.Test.YtakapfgjdhliaaaX3
import Derived.Test.YtakapfgjdhliaaaL2
/- What is a dessin: both sides. -/
namespace Go.Proofs.Ytakapfgjdhliaaa
open Go.RowKit DM
set_option linter.unusedSimpArgs false
set_option linter.unusedVariables false
set_option maxRecDepth 100000
set_option maxHeartbeats 1000000

/-- Whether the numbers and the two arrays are a dessin. -/
noncomputable def desB (n : Int) (b w : Nat → Nat) : Bool := permB b n && (permB w n && decide (((bfs b w).length : Int) = n))

/-- What a dessin is. -/
structure Des (N : Nat) (b w : Nat → Nat) : Prop where
  pos : 1 ≤ N
  le : N ≤ 16
  pb : Perm N b
  pw : Perm N w
  all : (bfs b w).length = N

theorem des_of_B {n : Int} {b w : Nat → Nat} (h : desB n b w = true) : ∃ N : Nat, n = N ∧ Des N b w := by
  unfold desB at h
  simp only [Bool.and_eq_true, decide_eq_true_eq] at h
  obtain ⟨N, rfl, h1, h2, h3⟩ := perm_of_B h.1
  obtain ⟨N', e, _, _, h3'⟩ := perm_of_B h.2.1
  have : N' = N := by omega
  subst this
  exact ⟨N', rfl, h1, h2, h3, h3', by have := h.2.2; omega⟩

theorem l01Is_fn (n : Int) (b w : Nat → Nat) (hb : ∀ i, b i < 256) (hw : ∀ i, w i < 256) : FnP Try.prog 70 [ds_ n b w] (.b (desB n b w)) := by
  refine FnS.into T tok Try.func70 (by rfl) rfl rfl rfl (by simp) ?_
  refine WP.rs T false tok (by rfl) (by exact byObl) ?_
  cases h1 : permB b n
  · have e : desB n b w = false := by unfold desB; rw [h1]; rfl
    refine WP.rw ?_
    refine WPL.run T false 4 tok (by rfl) (by exact byObl) ?_
    refine WPL.call (h1 ▸ l01Perm_fn b hb n) (by rfl) (by rfl) (by rfl) (by simp [Sc, sc_pl, sc_ds, pl_ne, ds_ne]) ?_
    refine WPL.fin T false tok (by rfl) (by exact byObl) ?_
    rw [e]
    exact WP.ret (Ends.val (by rfl) (by exact byObl) (by rfl) (by trivial))
  cases h2 : permB w n
  · have e : desB n b w = false := by unfold desB; rw [h1, h2]; rfl
    refine WP.rw ?_
    refine WPL.run T false 4 tok (by rfl) (by exact byObl) ?_
    refine WPL.call (h1 ▸ l01Perm_fn b hb n) (by rfl) (by rfl) (by rfl) (by simp [Sc, sc_pl, sc_ds, pl_ne, ds_ne]) ?_
    refine WPL.run T false 5 tok (by rfl) (by exact byObl) ?_
    refine WPL.call (h2 ▸ l01Perm_fn w hw n) (by rfl) (by rfl) (by rfl) (by simp [Sc, sc_pl, sc_ds, pl_ne, ds_ne]) ?_
    refine WPL.fin T false tok (by rfl) (by exact byObl) ?_
    rw [e]
    exact WP.ret (Ends.val (by rfl) (by exact byObl) (by rfl) (by trivial))
  have e : desB n b w = decide (((bfs b w).length : Int) = n) := by unfold desB; rw [h1, h2]; rfl
  obtain ⟨N, rfl, g1, g2, hP⟩ := perm_of_B h1
  obtain ⟨N', eN, _, _, hP'⟩ := perm_of_B h2
  obtain rfl : N = N' := by omega
  refine WP.rw ?_
  refine WPL.run T false 4 tok (by rfl) (by exact byObl) ?_
  refine WPL.call (h1 ▸ l01Perm_fn b hb N) (by rfl) (by rfl) (by rfl) (by simp [Sc, sc_pl, sc_ds, pl_ne, ds_ne]) ?_
  refine WPL.run T false 5 tok (by rfl) (by exact byObl) ?_
  refine WPL.call (h2 ▸ l01Perm_fn w hw N) (by rfl) (by rfl) (by rfl) (by simp [Sc, sc_pl, sc_ds, pl_ne, ds_ne]) ?_
  refine WPL.run T false 8 tok (by rfl) (by exact byObl) ?_
  refine WPL.call (l01Connected_fn b w N g1 g2 hP.lt hP'.lt) (by rfl) (by rfl) (by rfl) (by simp [Sc, sc_pl, sc_ds, pl_ne, ds_ne]) ?_
  refine WPL.fin T false tok (by rfl) (by exact byObl) ?_
  rw [e]
  exact WP.ret (Ends.val (by rfl) (by exact byObl) (by rfl) (by trivial))

theorem implIsDessin_fn (n : Int) (b w : Nat → Nat) (hb : ∀ i, b i < 256) (hw : ∀ i, w i < 256) : FnP Try.prog 65 [ds_ n b w] (.b (desB n b w)) := by
  refine FnS.into T tok Try.func65 (by rfl) rfl rfl rfl (by simp) ?_
  refine WP.rs T false tok (by rfl) (by exact byObl) ?_
  refine WP.rs T false tok (by rfl) (by exact byObl) ?_
  cases h1 : permB b n
  · have e : desB n b w = false := by unfold desB; rw [h1]; rfl
    refine WP.rw ?_
    refine WPL.run T false 3 tok (by rfl) (by exact byObl) ?_
    refine WPL.call (h1 ▸ IsPermutation_fn b hb n) (by rfl) (by rfl) (by rfl) (by simp [Sc, sc_pl, sc_ds, pl_ne, ds_ne]) ?_
    refine WPL.fin T false tok (by rfl) (by exact byObl) ?_
    rw [e]
    exact WP.ret (Ends.val (by rfl) (by exact byObl) (by rfl) (by trivial))
  cases h2 : permB w n
  · have e : desB n b w = false := by unfold desB; rw [h1, h2]; rfl
    refine WP.rw ?_
    refine WPL.run T false 3 tok (by rfl) (by exact byObl) ?_
    refine WPL.call (h1 ▸ IsPermutation_fn b hb n) (by rfl) (by rfl) (by rfl) (by simp [Sc, sc_pl, sc_ds, pl_ne, ds_ne]) ?_
    refine WPL.run T false 4 tok (by rfl) (by exact byObl) ?_
    refine WPL.call (h2 ▸ IsPermutation_fn w hw n) (by rfl) (by rfl) (by rfl) (by simp [Sc, sc_pl, sc_ds, pl_ne, ds_ne]) ?_
    refine WPL.fin T false tok (by rfl) (by exact byObl) ?_
    rw [e]
    exact WP.ret (Ends.val (by rfl) (by exact byObl) (by rfl) (by trivial))
  have e : desB n b w = decide (((bfs b w).length : Int) = n) := by unfold desB; rw [h1, h2]; rfl
  obtain ⟨N, rfl, g1, g2, hP⟩ := perm_of_B h1
  obtain ⟨N', eN, _, _, hP'⟩ := perm_of_B h2
  obtain rfl : N = N' := by omega
  refine WP.rw ?_
  refine WPL.run T false 3 tok (by rfl) (by exact byObl) ?_
  refine WPL.call (h1 ▸ IsPermutation_fn b hb N) (by rfl) (by rfl) (by rfl) (by simp [Sc, sc_pl, sc_ds, pl_ne, ds_ne]) ?_
  refine WPL.run T false 4 tok (by rfl) (by exact byObl) ?_
  refine WPL.call (h2 ▸ IsPermutation_fn w hw N) (by rfl) (by rfl) (by rfl) (by simp [Sc, sc_pl, sc_ds, pl_ne, ds_ne]) ?_
  refine WPL.run T false 8 tok (by rfl) (by exact byObl) ?_
  refine WPL.callR [1] (reached_fn b w N g1 g2 hP.lt hP'.lt) (by rfl) (LeAll.cons (by rfl) (by first | with_reducible exact Root.Le.refl _ | with_reducible exact le_dead | (exact le_frz (Nat.le_refl _) (fun j hj => by rcases j with _ | _ | j <;> first | rfl | omega)) | exact byLeq) (by exact byCon) (trivial)) (by exact byArgs) (by rfl) (by rfl) (by simp [Sc, sc_pl, sc_ds]) ?_
  refine WPL.fin T false tok (by rfl) (by exact byObl) ?_
  rw [e]
  exact WP.ret (Ends.val (by rfl) (by exact byObl) (by rfl) (by trivial))

end Go.Proofs.Ytakapfgjdhliaaa

/- Draws: dessins. -/
namespace Go.Proofs.Ytakapfgjdhliaaa
open Go.RowKit DM
set_option linter.unusedSimpArgs false
set_option linter.unusedVariables false
set_option maxRecDepth 100000
set_option maxHeartbeats 1000000

theorem bt_star {n : Nat} (h1 : 1 ≤ n) (hn : n ≤ 16) : Bt n (fillF (fun i => (i + 1) % n) n) := ⟨fun i => by
  show (if i < n then (i + 1) % n else 0) < n
  split
  · exact Nat.mod_lt _ (by omega)
  · omega, fun i hi => by
  show (if i < n then (i + 1) % n else 0) = 0
  rw [if_neg (by omega)]⟩
theorem Bt.b256 {n : Nat} {p : Nat → Nat} (h : Bt n p) (hn : n ≤ 256) : ∀ i, p i < 256 := fun i => Nat.lt_of_lt_of_le (h.lt i) hn

theorem l01Draw_fn (len : Nat) (g : Nat → Nat) (hg : ∀ j, g j < 256) (a : Nat) (h : Int) (most : Int) (hm1 : 1 ≤ most) (hm : most ≤ 16) (ha : a ≤ len) (hl : len ≤ 4294967296) :
    FnS Try.prog 93 [.p 0 [] 0, .i .i64 most] [.var (srcD len g a h)] fun r m' => ∃ (n : Nat) (b w : Nat → Nat) (a' : Nat) (h' : Int), r = ds_ n b w ∧ 1 ≤ n ∧ (n : Int) ≤ most ∧ Bt n b ∧ Bt n w ∧ a' ≤ len ∧ m' = [.var (srcD len g a' h')] := by
  have hSc : ∀ (k a : Nat) (h : Int), Sc k (srcD len g a h) := fun k a h => sc_src k len g a h
  have sc_ch := hSc
  have hnx := l01Next_fn len g hg a h most ha hl
  refine FnS.intoE T tok Try.func93 (by rfl) rfl rfl rfl (by simp) ?_
  refine WP.rs T false tok (by rfl) (by exact byObl) ?_
  refine WP.rw ?_
  refine WPL.run T false 2 tok (by rfl) (by exact byObl) ?_
  refine WPL.callE [0] (hnx) (LeAll.cons (by rfl) (by first | with_reducible exact Root.Le.refl _ | with_reducible exact le_dead | (skip; done) | exact byLeq) (by exact byCon) (trivial)) (by rfl) (by rfl) (by exact byArgs) (by rfl) (by rfl) (by simp [Sc, sc_pl, sc_ds]) ?_
  rintro _ _ ⟨y, a', h2, rfl, hy1, _, ha', rfl⟩
  obtain ⟨y0, y1⟩ := hy1 hm1
  obtain ⟨n, rfl, hn1, hn2⟩ : ∃ n : Nat, y = (n : Int) - 1 ∧ 1 ≤ n ∧ (n : Int) ≤ most := ⟨(y + 1).toNat, by omega, by omega, by omega⟩
  have hn16 : n ≤ 16 := by omega
  refine ⟨⟨fun d hd => by cases hd; exact sc_src _ _ _ _ _, trivial⟩, .i .i64 ((n : Int) - 1), ⟨rfl, trivial⟩, trivial, ?_⟩
  refine WPL.mem (by rfl) ?_
  refine WPL.run T false 1 tok (by rfl) (by exact byObl) ?_
  have en : (1 : Int) + ((n : Int) - 1) = n := by omega
  rw [en]
  refine WPL.fin T false tok (by rfl) (by exact byObl) ?_
  refine WP.seq ?_
  refine WP.rs T false tok (by rfl) (by exact byObl) ?_
  refine WP.block ?_
  refine WP.loopH (⟨fun z : Nat × Nat × Int => z.1 ≤ 8 ∧ z.2.1 ≤ len, fun z => [(0, .p 0 [] 0), (4, .p 1 [] 0), (5, .i .i64 (n : Int)), (6, .i .i64 (z.1 : Int))], fun z => [.var (srcD len g z.2.1 z.2.2), .var (ds_ 0 (fun _ => 0) (fun _ => 0))], fun z => 8 - z.1⟩) ((0, a', h2)) (⟨Nat.zero_le _, ha'⟩) (Ghost.cut (Nat.le_refl _) (tauOf [0, 1]) _ _ (Taken.of [0, 1] (LeAll.cons (by rfl) (by first | with_reducible exact Root.Le.refl _ | with_reducible exact le_dead | (exact le_var (dsf_of rfl rfl rfl fun _ => rfl).symm) | exact byLeq) (by exact byCon) (LeAll.cons (by rfl) (by first | with_reducible exact Root.Le.refl _ | with_reducible exact le_dead | (exact le_var (dsf_of rfl rfl rfl fun _ => rfl).symm) | exact byLeq) (by exact byCon) (trivial))) rfl rfl) (by exact bySlots)) ?_
  rintro ⟨k, c, h3⟩ ⟨hk, hcl⟩
  dsimp only at hk hcl
  dsimp only [Hd.at]
  refine WP.seq ?_
  refine WP.rs T false tok (by rfl) (by exact byObl) ?_
  refine WP.cond (by rfl) (fun hc => WP.skip ?_) (fun hc => WP.exit ?_)
  · have hk : k < 8 := by have := of_decide_eq_true hc; omega
    clear hc
    let F1 : Nat → Int := fun j => if j = 0 then 2 else if j = 1 then 3 else if j = 2 then 4 else (n : Int)
    let F2 : Nat → Int := fun j => if j = 0 then 2 else if j = 1 then 2 else if j = 2 then 3 else (n : Int)
    have hF1 : ∀ j, F1 j ≤ 1000 := fun j => by
      show (if j = 0 then (2 : Int) else if j = 1 then 3 else if j = 2 then 4 else (n : Int)) ≤ 1000
      split
      · omega
      · split
        · omega
        · split <;> omega
    have hF2 : ∀ j, F2 j ≤ 1000 := fun j => by
      show (if j = 0 then (2 : Int) else if j = 1 then 2 else if j = 2 then 3 else (n : Int)) ≤ 1000
      split
      · omega
      · split
        · omega
        · split <;> omega
    have hp1 := l01Pick_fn len g hg c h3 4 F1 (by omega) (by omega) hcl hl
    refine WP.seq (WP.block ?_)
    refine WP.rw ?_
    refine WPL.run T false 6 tok (by rfl) (by exact byObl) ?_
    refine WPL.callE [0, 2] (hp1) (LeAll.cons (by rfl) (by first | with_reducible exact Root.Le.refl _ | with_reducible exact le_dead | (exact le_row (Nat.le_refl _) (fun j hj => by obtain rfl | rfl | rfl | rfl : j = 0 ∨ j = 1 ∨ j = 2 ∨ j = 3 := (by omega) <;> rfl)) | exact byLeq) (by exact byCon) (LeAll.cons (by rfl) (by first | with_reducible exact Root.Le.refl _ | with_reducible exact le_dead | (exact le_row (Nat.le_refl _) (fun j hj => by obtain rfl | rfl | rfl | rfl : j = 0 ∨ j = 1 ∨ j = 2 ∨ j = 3 := (by omega) <;> rfl)) | exact byLeq) (by exact byCon) (trivial))) (by rfl) (by rfl) (by exact byArgs) (by rfl) (by rfl) (by simp [Sc, sc_pl, sc_ds]) ?_
    rintro _ _ ⟨j1, c1, g1, rfl, hj1, hc1, rfl⟩
    refine ⟨⟨fun d hd => by cases hd; exact sc_src _ _ _ _ _, fun d hd => by cases hd; exact fun _ _ => trivial, trivial⟩, .i .i64 (F1 j1), ⟨rfl, trivial⟩, trivial, ?_⟩
    refine WPL.mem (by rfl) ?_
    have hp2 := l01Pairs_fn len g hg c1 g1 n (F1 j1) hn1 hn16 (hF1 _) hc1 hl
    refine WPL.callE [0] (hp2) (LeAll.cons (by rfl) (by first | with_reducible exact Root.Le.refl _ | with_reducible exact le_dead | (skip; done) | exact byLeq) (by exact byCon) (trivial)) (by rfl) (by rfl) (by exact byArgs) (by rfl) (by rfl) (by simp [Sc, sc_pl, sc_ds]) ?_
    rintro _ _ ⟨b, c2, g2, rfl, hb, hc2, rfl⟩
    refine ⟨⟨fun d hd => by cases hd; exact sc_src _ _ _ _ _, trivial⟩, pl b, ⟨rfl, sc_pl _ _⟩, sc_pl _ _, ?_⟩
    refine WPL.mem (by rfl) ?_
    have hp3 := l01Pick_fn len g hg c2 g2 4 F2 (by omega) (by omega) hc2 hl
    refine WPL.run T false 5 tok (by rfl) (by exact byObl) ?_
    refine WPL.callE [0, 3] (hp3) (LeAll.cons (by rfl) (by first | with_reducible exact Root.Le.refl _ | with_reducible exact le_dead | (exact le_row (Nat.le_refl _) (fun j hj => by obtain rfl | rfl | rfl | rfl : j = 0 ∨ j = 1 ∨ j = 2 ∨ j = 3 := (by omega) <;> rfl)) | exact byLeq) (by exact byCon) (LeAll.cons (by rfl) (by first | with_reducible exact Root.Le.refl _ | with_reducible exact le_dead | (exact le_row (Nat.le_refl _) (fun j hj => by obtain rfl | rfl | rfl | rfl : j = 0 ∨ j = 1 ∨ j = 2 ∨ j = 3 := (by omega) <;> rfl)) | exact byLeq) (by exact byCon) (trivial))) (by rfl) (by rfl) (by exact byArgs) (by rfl) (by rfl) (by simp [Sc, sc_pl, sc_ds]) ?_
    rintro _ _ ⟨j3, c3, g3, rfl, hj3, hc3, rfl⟩
    refine ⟨⟨fun d hd => by cases hd; exact sc_src _ _ _ _ _, fun d hd => by cases hd; exact fun _ _ => trivial, trivial⟩, .i .i64 (F2 j3), ⟨rfl, trivial⟩, trivial, ?_⟩
    refine WPL.mem (by rfl) ?_
    have hp4 := l01Pairs_fn len g hg c3 g3 n (F2 j3) hn1 hn16 (hF2 _) hc3 hl
    refine WPL.callE [0] (hp4) (LeAll.cons (by rfl) (by first | with_reducible exact Root.Le.refl _ | with_reducible exact le_dead | (skip; done) | exact byLeq) (by exact byCon) (trivial)) (by rfl) (by rfl) (by exact byArgs) (by rfl) (by rfl) (by simp [Sc, sc_pl, sc_ds]) ?_
    rintro _ _ ⟨w, c4, g4, rfl, hw, hc4, rfl⟩
    refine ⟨⟨fun d hd => by cases hd; exact sc_src _ _ _ _ _, trivial⟩, pl w, ⟨rfl, sc_pl _ _⟩, sc_pl _ _, ?_⟩
    refine WPL.mem (by rfl) ?_
    refine WPL.fin T false tok (by rfl) (by exact byObl) ?_
    refine WP.ghost (Ghost.cut (Nat.le_refl _) (tauOf [0, 1, 4]) [(0, .p 0 [] 0), (4, .p 1 [] 0), (5, .i .i64 (n : Int)), (6, .i .i64 (k : Int)), (7, .p 2 [] 0)] [.var (srcD len g c4 g4), .var (ds_ 0 (fun _ => 0) (fun _ => 0)), .var (ds_ n b w)] (Taken.of [0, 1, 4] (LeAll.cons (by rfl) (by first | with_reducible exact Root.Le.refl _ | with_reducible exact le_dead | (exact le_var (dsf_of rfl rfl rfl fun _ => rfl).symm) | exact byLeq) (by exact byCon) (LeAll.cons (by rfl) (by first | with_reducible exact Root.Le.refl _ | with_reducible exact le_dead | (exact le_var (dsf_of rfl rfl rfl fun _ => rfl).symm) | exact byLeq) (by exact byCon) (LeAll.cons (by rfl) (by first | with_reducible exact Root.Le.refl _ | with_reducible exact le_dead | (exact le_var (dsf_of rfl rfl rfl fun _ => rfl).symm) | exact byLeq) (by exact byCon) (trivial)))) rfl rfl) (by exact bySlots)) ?_
    have his := l01Is_fn n b w (hb.b256 (by omega)) (hw.b256 (by omega))
    refine WP.rw ?_
    refine WPL.run T false 1 tok (by rfl) (by exact byObl) ?_
    refine WPL.call (his) (by rfl) (by rfl) (by rfl) (by simp [Sc, sc_pl, sc_ds, pl_ne, ds_ne]) ?_
    refine WPL.fin T false tok (by rfl) (by exact byObl) ?_
    refine WP.cond (by rfl) (fun hx => ?_) (fun hx => ?_)
    · refine WP.rs T false tok (by rfl) (by exact byObl) ?_
      exact WP.ret (Ends.newE [0] (⟨n, b, w, c4, g4, rfl, hn1, hn2, hb, hw, hc4, rfl⟩) (.inl rfl) (by rfl) (by exact byObl) (LeAll.cons (by rfl) (by first | with_reducible exact Root.Le.refl _ | with_reducible exact le_dead | (skip; done) | exact byLeq) (by exact byCon) (trivial)) rfl rfl (⟨rfl, sc_ds _ _ _ _⟩) (sc_ds _ _ _ _))
    · refine WP.skip ?_
      refine WP.run T false tok (by rfl) (by exact byObl) ?_
      refine Again.next ((k + 1, c4, g4)) (Ghost.cut (Nat.le_refl _) (tauOf [0, 1]) _ _ (Taken.of [0, 1] (LeAll.cons (by rfl) (by first | with_reducible exact Root.Le.refl _ | with_reducible exact le_dead | (skip; done) | exact byLeq) (by exact byCon) (LeAll.cons (by rfl) (by first | with_reducible exact Root.Le.refl _ | with_reducible exact le_dead | (skip; done) | exact byLeq) (by exact byCon) (trivial))) rfl rfl) (by exact bySlots)) (⟨by omega, hc4⟩) (by dsimp only; omega)
  clear hc
  refine WP.rw ?_
  refine WPL.run T false 1 tok (by rfl) (by exact byObl) ?_
  refine WPL.call (l01Star_fn n hn1 hn16) (by rfl) (by rfl) (by rfl) (by simp [Sc, sc_pl, sc_ds, pl_ne, ds_ne]) ?_
  refine WPL.fin T false tok (by rfl) (by exact byObl) ?_
  have hdp := l01DrawPlaces_fn len g hg c h3 (n : Int) (by omega) (by omega) hcl hl
  refine WP.rw ?_
  refine WPL.run T false 2 tok (by rfl) (by exact byObl) ?_
  refine WPL.callE [0] (hdp) (LeAll.cons (by rfl) (by first | with_reducible exact Root.Le.refl _ | with_reducible exact le_dead | (skip; done) | exact byLeq) (by exact byCon) (trivial)) (by rfl) (by rfl) (by exact byArgs) (by rfl) (by rfl) (by simp [Sc, sc_pl, sc_ds]) ?_
  rintro _ _ ⟨w, c', h4, rfl, hw, hc', rfl⟩
  rw [bN_nat hn1] at hw
  refine ⟨⟨fun d hd => by cases hd; exact sc_src _ _ _ _ _, trivial⟩, pl w, ⟨rfl, sc_pl _ _⟩, sc_pl _ _, ?_⟩
  refine WPL.mem (by rfl) ?_
  refine WPL.fin T false tok (by rfl) (by exact byObl) ?_
  refine WP.ghost (Ghost.cut (Nat.le_refl _) (tauOf [0, 1, 2]) [(0, .p 0 [] 0), (4, .p 1 [] 0), (8, .p 2 [] 0)] [.var (srcD len g c' h4), .var (ds_ 0 (fun _ => 0) (fun _ => 0)), .var (ds_ n (fillF (fun i => (i + 1) % n) n) w)] (Taken.of [0, 1, 2] (LeAll.cons (by rfl) (by first | with_reducible exact Root.Le.refl _ | with_reducible exact le_dead | (skip; done) | exact byLeq) (by exact byCon) (LeAll.cons (by rfl) (by first | with_reducible exact Root.Le.refl _ | with_reducible exact le_dead | (skip; done) | exact byLeq) (by exact byCon) (LeAll.cons (by rfl) (by first | with_reducible exact Root.Le.refl _ | with_reducible exact le_dead | (skip; done) | exact byLeq) (by exact byCon) (trivial)))) rfl rfl) (by exact bySlots)) ?_
  refine WP.rs T false tok (by rfl) (by exact byObl) ?_
  exact WP.ret (Ends.newE [0] (⟨n, _, w, c', h4, rfl, hn1, hn2, bt_star hn1 hn16, hw, hc', rfl⟩) (.inl rfl) (by rfl) (by exact byObl) (LeAll.cons (by rfl) (by first | with_reducible exact Root.Le.refl _ | with_reducible exact le_dead | (skip; done) | exact byLeq) (by exact byCon) (trivial)) rfl rfl (⟨rfl, sc_ds _ _ _ _⟩) (sc_ds _ _ _ _))

end Go.Proofs.Ytakapfgjdhliaaa
