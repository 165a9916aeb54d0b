import Derived.Test.YthjnmlpibafbnaaL3
import Derived.Test.YthjnmlpibafbnaaD37
import Derived.Test.YthjnmlpibafbnaaD30
namespace Go.Proofs.Ythjnmlpibafbnaa
open Go.RowKit DM
set_option linter.unusedSimpArgs false
set_option linter.unusedVariables false
set_option maxRecDepth 100000
set_option maxHeartbeats 1000000
theorem l01Spoil_fn (len : Nat) (g : Nat → Nat) (hg : ∀ j, g j < 256) (a : Nat) (h : Int) (most : Int) (hm1 : 1 ≤ most) (hm : most ≤ 16) (ha : a ≤ len) (hl : len ≤ 4294967296) :
    FnS Try.prog 49 [.p 0 [] 0, .i .i64 most] [.var (srcD len g a h)] fun r m' => ∃ (n : Int) (b w : Nat → Nat) (a' : Nat) (h' : Int), r = ds_ n b w ∧ -1 ≤ n ∧ n ≤ 17 ∧ Bt 256 b ∧ Bt 256 w ∧ a' ≤ len ∧ m' = [.var (srcD len g a' h')] := by
  have hSc : ∀ (k a : Nat) (h : Int), Sc k (srcD len g a h) := fun k a h => sc_src k len g a h
  have sc_ch := hSc
  have hdr := l01Draw_fn len g hg a h most hm1 hm ha hl
  refine FnS.intoE T tok Try.func49 (by rfl) rfl rfl rfl (by simp) ?_
  refine rS ?_
  refine WP.rw ?_
  refine rU 2 ?_
  refine WPL.callE [0] (hdr) (leC leZ) (by rfl) (by rfl) (by exact byArgs) (by rfl) (by rfl) (by simp [Sc, sc_pl, sc_ds]) ?_
  rintro _ _ ⟨n, b, w, a1, h1, rfl, hn1, hn2, hb, hw, ha1, rfl⟩
  have hn16 : n ≤ 16 := by omega
  have hb0 := hb.lt 0
  have hb0' := hb.lt (Int.toNat 0)
  refine ⟨⟨fun d hd => by cases hd; exact sc_src _ _ _ _ _, trivial⟩, ds_ n b w, ⟨rfl, sc_ds _ _ _ _⟩, sc_ds _ _ _ _, ?_⟩
  refine WPL.mem (by rfl) ?_
  refine rF ?_
  refine WP.ghost (gC [0, 1, 2] (leC (leC (leC leZ))) (l := [(0, .p 0 [] 0), (4, .p 1 [] 0), (5, .p 2 [] 0)]) (m' := [.var (srcD len g a1 h1), .var (ds_ 0 (fun _ => 0) (fun _ => 0)), .var (ds_ n b w)])) ?_
  have hnx := l01Next_fn len g hg a1 h1 40 ha1 hl
  have hB := hb.mono (show n ≤ 256 by omega)
  have hW := hw.mono (show n ≤ 256 by omega)
  refine WP.seq ?_
  refine WP.rw ?_
  refine rU 1 ?_
  refine WPL.callE [0] (hnx) (leC leZ) (by rfl) (by rfl) (by exact byArgs) (by rfl) (by rfl) (by simp [Sc, sc_pl, sc_ds]) ?_
  rintro _ _ ⟨z, a2, h2, rfl, _, _, ha2, rfl⟩
  refine ⟨⟨fun d hd => by cases hd; exact sc_src _ _ _ _ _, trivial⟩, .i .i64 z, ⟨rfl, trivial⟩, trivial, ?_⟩
  refine WPL.mem (by rfl) ?_
  refine rF ?_
  refine WP.block ?_
  refine rS ?_
  refine WP.cond (by rfl) (fun hz => ?_) (fun hz => ?_)
  · refine WP.region ?_
    refine rF ?_
    refine WP.ghost (gC [0, 1, 2] (leC (leC (leC leZ))) (l := [(0, .p 0 [] 0), (4, .p 1 [] 0), (5, .p 2 [] 0)]) (m' := [.var (srcD len g a2 h2), .var (ds_ 0 (fun _ => 0) (fun _ => 0)), .var (ds_ n (up b 0 (b 0 + 1)) w)])) ?_
    refine rS ?_
    exact WP.ret (Ends.newE [0] (⟨n, up b 0 (b 0 + 1), w, a2, h2, rfl, by omega, by omega, hB.up (by omega) (by omega), hW, ha2, rfl⟩) (.inl rfl) (by rfl) (by exact byObl) (leC leZ) rfl rfl (⟨rfl, sc_ds _ _ _ _⟩) (sc_ds _ _ _ _))
  refine rS ?_
  refine WP.cond (by rfl) (fun hz => ?_) (fun hz => ?_)
  · let F : Nat → Int := fun j => if j = 0 then 0 else if j = 1 then 17 else if j = 2 then -1 else if j = 3 then (n : Int) + 1 else (n : Int) - 1
    have hF : ∀ j, -1 ≤ F j ∧ F j ≤ 17 := fun j => by
      show -1 ≤ (if j = 0 then (0 : Int) else if j = 1 then 17 else if j = 2 then -1 else if j = 3 then (n : Int) + 1 else (n : Int) - 1) ∧ (if j = 0 then (0 : Int) else if j = 1 then 17 else if j = 2 then -1 else if j = 3 then (n : Int) + 1 else (n : Int) - 1) ≤ 17
      split
      · omega
      · split
        · omega
        · split
          · omega
          · split <;> omega
    have hpk := l01Pick_fn len g hg a2 h2 5 F (by omega) (by omega) ha2 hl
    refine WP.region ?_
    refine rU 8 ?_
    refine WPL.callE [0, 3] (hpk) (LeAll.cons (by rfl) (by first | with_reducible exact Root.Le.refl _ | with_reducible exact le_dead | (exact le_row (Nat.le_refl _) (fun j hj => by obtain rfl | rfl | rfl | rfl | rfl : j = 0 ∨ j = 1 ∨ j = 2 ∨ j = 3 ∨ j = 4 := (by omega) <;> rfl)) | exact byLeq) (by exact byCon) (LeAll.cons (by rfl) (by first | with_reducible exact Root.Le.refl _ | with_reducible exact le_dead | (exact le_row (Nat.le_refl _) (fun j hj => by obtain rfl | rfl | rfl | rfl | rfl : j = 0 ∨ j = 1 ∨ j = 2 ∨ j = 3 ∨ j = 4 := (by omega) <;> rfl)) | exact byLeq) (by exact byCon) (leZ))) (by rfl) (by rfl) (by exact byArgs) (by rfl) (by rfl) (by simp [Sc, sc_pl, sc_ds]) ?_
    rintro _ _ ⟨j1, a3, h3, rfl, _, ha3, rfl⟩
    refine ⟨⟨fun d hd => by cases hd; exact sc_src _ _ _ _ _, fun d hd => by cases hd; exact fun _ _ => trivial, trivial⟩, .i .i64 (F j1), ⟨rfl, trivial⟩, trivial, ?_⟩
    refine WPL.mem (by rfl) ?_
    refine rF ?_
    refine WP.ghost (gC [0, 1, 2] (leC (leC (leC leZ))) (l := [(0, .p 0 [] 0), (4, .p 1 [] 0), (5, .p 2 [] 0)]) (m' := [.var (srcD len g a3 h3), .var (ds_ 0 (fun _ => 0) (fun _ => 0)), .var (ds_ (F j1) b w)])) ?_
    refine rS ?_
    exact WP.ret (Ends.newE [0] (⟨F j1, b, w, a3, h3, rfl, (hF _).1, (hF _).2, hB, hW, ha3, rfl⟩) (.inl rfl) (by rfl) (by exact byObl) (leC leZ) rfl rfl (⟨rfl, sc_ds _ _ _ _⟩) (sc_ds _ _ _ _))
  refine rS ?_
  refine WP.cond (by rfl) (fun hz => ?_) (fun hz => ?_)
  · refine WP.region ?_
    refine rU 2 ?_
    refine WPL.op (by rfl) (by rfl) (QOK.op (minD_ok rfl rfl rfl)) ?_
    rw [if_neg (by omega : ¬ (16 : Int) < (n : Int))]
    refine cA (l01Same_fn n hn16) ?_
    refine rF ?_
    refine WP.ghost (gC [0, 1, 2] (leC (leC (leC leZ))) (l := [(0, .p 0 [] 0), (4, .p 1 [] 0), (5, .p 2 [] 0)]) (m' := [.var (srcD len g a2 h2), .var (ds_ 0 (fun _ => 0) (fun _ => 0)), .var (ds_ n b (fillF (fun i => i) n))])) ?_
    have hbf := bt_fill (n := (n : Int)) (by omega)
    rw [bN_nat hn1] at hbf
    refine rS ?_
    exact WP.ret (Ends.newE [0] (⟨n, b, fillF (fun i => i) n, a2, h2, rfl, by omega, by omega, hB, hbf.mono (by omega), ha2, rfl⟩) (.inl rfl) (by rfl) (by exact byObl) (leC leZ) rfl rfl (⟨rfl, sc_ds _ _ _ _⟩) (sc_ds _ _ _ _))
  refine rS ?_
  refine WP.cond (by rfl) (fun hz => ?_) (fun hz => ?_)
  · let F : Nat → Int := fun j => if j = 0 then 1 else 255
    have hpk := l01Pick_fn len g hg a2 h2 2 F (by omega) (by omega) ha2 hl
    refine WP.region ?_
    refine rU 2 ?_
    refine WPL.callE [0, 3] (hpk) (LeAll.cons (by rfl) (by first | with_reducible exact Root.Le.refl _ | with_reducible exact le_dead | (exact le_row (Nat.le_refl _) (fun j hj => by obtain rfl | rfl : j = 0 ∨ j = 1 := (by omega) <;> rfl)) | exact byLeq) (by exact byCon) (LeAll.cons (by rfl) (by first | with_reducible exact Root.Le.refl _ | with_reducible exact le_dead | (exact le_row (Nat.le_refl _) (fun j hj => by obtain rfl | rfl : j = 0 ∨ j = 1 := (by omega) <;> rfl)) | exact byLeq) (by exact byCon) (leZ))) (by rfl) (by rfl) (by exact byArgs) (by rfl) (by rfl) (by simp [Sc, sc_pl, sc_ds]) ?_
    rintro _ _ ⟨j1, a3, h3, rfl, hj1, ha3, rfl⟩
    obtain ⟨v, hv, hv2⟩ : ∃ v : Nat, F j1 = v ∧ v < 256 := by
      show ∃ v : Nat, (if j1 = 0 then (1 : Int) else 255) = v ∧ v < 256
      split
      · exact ⟨1, rfl, by omega⟩
      · exact ⟨255, rfl, by omega⟩
    refine ⟨⟨fun d hd => by cases hd; exact sc_src _ _ _ _ _, fun d hd => by cases hd; exact fun _ _ => trivial, trivial⟩, .i .i64 (v : Int), ⟨congrArg (Dat.i .i64) hv.symm, trivial⟩, trivial, ?_⟩
    refine WPL.mem (by rfl) ?_
    refine rF ?_
    refine WP.ghost (gC [0, 1, 2] (leC (leC (leC leZ))) (l := [(0, .p 0 [] 0), (4, .p 1 [] 0), (5, .p 2 [] 0)]) (m' := [.var (srcD len g a3 h3), .var (ds_ 0 (fun _ => 0) (fun _ => 0)), .var (ds_ n b (up w 15 v))])) ?_
    refine rS ?_
    exact WP.ret (Ends.newE [0] (⟨n, b, up w 15 v, a3, h3, rfl, by omega, by omega, hB, hW.up (by omega) hv2, ha3, rfl⟩) (.inl rfl) (by rfl) (by exact byObl) (leC leZ) rfl rfl (⟨rfl, sc_ds _ _ _ _⟩) (sc_ds _ _ _ _))
  · refine WP.skip ?_
    refine rS ?_
    exact WP.ret (Ends.newE [0] (⟨n, b, w, a2, h2, rfl, by omega, by omega, hB, hW, ha2, rfl⟩) (.inl rfl) (by rfl) (by exact byObl) (leC leZ) rfl rfl (⟨rfl, sc_ds _ _ _ _⟩) (sc_ds _ _ _ _))
theorem l02Symmetric_fn (len : Nat) (g : Nat → Nat) (hg : ∀ j, g j < 256) (a : Nat) (h : Int) (ha : a ≤ len) (hl : len ≤ 4294967296) :
    FnS Try.prog 48 [.p 0 [] 0] [.var (srcD len g a h)] fun r m' => ∃ (n : Nat) (b w : Nat → Nat) (a' : Nat) (h' : Int), r = ds_ n b w ∧ 1 ≤ n ∧ n ≤ 16 ∧ Bt n b ∧ Bt n w ∧ a' ≤ len ∧ m' = [.var (srcD len g a' h')] := by
  have hSc : ∀ (k a : Nat) (h : Int), Sc k (srcD len g a h) := fun k a h => sc_src k len g a h
  have sc_ch := hSc
  have hnx := l01Next_fn len g hg a h 12 ha hl
  refine FnS.intoE T tok Try.func48 (by rfl) rfl rfl rfl (by simp) ?_
  refine rS ?_
  refine WP.rw ?_
  refine rU 1 ?_
  refine WPL.callE [0] (hnx) (leC leZ) (by rfl) (by rfl) (by exact byArgs) (by rfl) (by rfl) (by simp [Sc, sc_pl, sc_ds]) ?_
  rintro _ _ ⟨y, a1, h1, rfl, hy1, _, ha1, rfl⟩
  obtain ⟨y0, y1⟩ := hy1 (by omega)
  obtain ⟨n, rfl, hn1, hn2⟩ : ∃ n : Nat, y = (n : Int) - 1 ∧ 1 ≤ n ∧ n ≤ 12 := ⟨(y + 1).toNat, by omega, by omega, by omega⟩
  have hn16 : n ≤ 16 := by omega
  refine ⟨⟨fun d hd => by cases hd; exact sc_src _ _ _ _ _, trivial⟩, .i .i64 ((n : Int) - 1), ⟨rfl, trivial⟩, trivial, ?_⟩
  refine WPL.mem (by rfl) ?_
  refine rU 1 ?_
  have en : (1 : Int) + ((n : Int) - 1) = n := by omega
  rw [en]
  refine rF ?_
  have hbf := bt_fill (n := (n : Int)) (by omega)
  rw [bN_nat hn1, Int.toNat_natCast] at hbf
  refine WP.rw ?_
  refine rU 1 ?_
  refine cA (l01Same_fn n hn16) ?_
  refine rF ?_
  refine WP.seq ?_
  refine rS ?_
  refine WP.block ?_
  refine WP.loopH (⟨fun z : Nat × (Nat → Nat) => z.1 ≤ n ∧ Bt n z.2, fun z => [(0, .p 0 [] 0), (2, .p 1 [] 0), (3, .i .i64 (n : Int)), (4, .p 2 [] 0), (5, .i .i64 (z.1 : Int))], fun z => [.var (srcD len g a1 h1), .var (ds_ 0 (fun _ => 0) (fun _ => 0)), .var (pl z.2)], fun z => n - z.1⟩) ((0, fillF (fun i => i) n)) (⟨Nat.zero_le _, hbf⟩) (gC [0, 1, 2] (leC (leC (leC leZ)))) ?_
  rintro ⟨x, t⟩ ⟨hx, ht⟩
  dsimp only at hx ht
  dsimp only [Hd.at]
  refine WP.seq ?_
  refine rS ?_
  refine WP.cond (by rfl) (fun hc => WP.skip ?_) (fun hc => WP.exit ?_)
  · have hx : x < n := by have := of_decide_eq_true hc; omega
    clear hc
    have hm : (x + 1) % n < n := Nat.mod_lt _ (by omega)
    have hrem : ((x : Int) + 1).tmod (n : Int) = (((x + 1) % n : Nat) : Int) := by rw [Int.tmod_eq_emod_of_nonneg (by omega)]; first | rfl | (push_cast; rfl) | simp
    refine WP.seq (WP.block ?_)
    refine WP.region ?_
    refine rU 5 ?_
    rw [hrem]
    generalize (x + 1) % n = v at *
    refine rF ?_
    refine rE ?_
    refine Again.next ((x + 1, up t x v)) (gC [0, 1, 2] (leC (leC (leC leZ)))) (⟨hx, ht.up (by omega) hm⟩) (by dsimp only; omega)
  clear hc
  have hnx2 := l01Next_fn len g hg a1 h1 (n : Int) ha1 hl
  refine WP.rw ?_
  refine rU 2 ?_
  refine WPL.callE [0] (hnx2) (leC leZ) (by rfl) (by rfl) (by exact byArgs) (by rfl) (by rfl) (by simp [Sc, sc_pl, sc_ds]) ?_
  rintro _ _ ⟨y, a2, h2, rfl, hy1, _, ha2, rfl⟩
  obtain ⟨y0, y1⟩ := hy1 (by omega)
  obtain ⟨k, rfl⟩ : ∃ k : Nat, y = k := ⟨y.toNat, by omega⟩
  refine ⟨⟨fun d hd => by cases hd; exact sc_src _ _ _ _ _, trivial⟩, .i .i64 (k : Int), ⟨rfl, trivial⟩, trivial, ?_⟩
  refine WPL.mem (by rfl) ?_
  refine rU 1 ?_
  refine cA (l01Same_fn n hn16) ?_
  refine rF ?_
  refine WP.seq ?_
  refine rS ?_
  refine WP.block ?_
  refine WP.loopH (⟨fun z : Nat × (Nat → Nat) => z.1 ≤ n ∧ Bt n z.2, fun z => [(0, .p 0 [] 0), (2, .p 1 [] 0), (3, .i .i64 (n : Int)), (4, .p 2 [] 0), (6, .i .i64 (k : Int)), (7, .p 3 [] 0), (8, .i .i64 (z.1 : Int))], fun z => [.var (srcD len g a2 h2), .var (ds_ 0 (fun _ => 0) (fun _ => 0)), .var (pl t), .var (pl z.2)], fun z => n - z.1⟩) ((0, fillF (fun i => i) n)) (⟨Nat.zero_le _, hbf⟩) (gC [0, 1, 2, 3] (leC (leC (leC (leC leZ))))) ?_
  rintro ⟨x, s⟩ ⟨hx, hs⟩
  dsimp only at hx hs
  dsimp only [Hd.at]
  refine WP.seq ?_
  refine rS ?_
  refine WP.cond (by rfl) (fun hc => WP.skip ?_) (fun hc => WP.exit ?_)
  · have hx : x < n := by have := of_decide_eq_true hc; omega
    clear hc
    have hm : (x + k) % n < n := Nat.mod_lt _ (by omega)
    have hrem : ((x : Int) + (k : Int)).tmod (n : Int) = (((x + k) % n : Nat) : Int) := by rw [Int.tmod_eq_emod_of_nonneg (by omega)]; first | rfl | (push_cast; rfl) | simp
    refine WP.seq (WP.block ?_)
    refine WP.region ?_
    refine rU 6 ?_
    rw [hrem]
    generalize (x + k) % n = v at *
    refine rF ?_
    refine rE ?_
    refine Again.next ((x + 1, up s x v)) (gC [0, 1, 2, 3] (leC (leC (leC (leC leZ))))) (⟨hx, hs.up (by omega) hm⟩) (by dsimp only; omega)
  clear hc
  refine rS ?_
  refine WP.ghost (gC [0, 1, 2, 3, 4] (leC (leC (leC (leC (leC leZ))))) (l := [(0, .p 0 [] 0), (2, .p 1 [] 0), (4, .p 2 [] 0), (7, .p 3 [] 0), (9, .p 4 [] 0)]) (m' := [.var (srcD len g a2 h2), .var (ds_ 0 (fun _ => 0) (fun _ => 0)), .var (pl t), .var (pl s), .var (ds_ n t s)])) ?_
  have hnx3 := l01Next_fn len g hg a2 h2 2 ha2 hl
  refine WP.seq ?_
  refine WP.rw ?_
  refine rU 1 ?_
  refine WPL.callE [0] (hnx3) (leC leZ) (by rfl) (by rfl) (by exact byArgs) (by rfl) (by rfl) (by simp [Sc, sc_pl, sc_ds]) ?_
  rintro _ _ ⟨z, a3, h3, rfl, _, _, ha3, rfl⟩
  refine ⟨⟨fun d hd => by cases hd; exact sc_src _ _ _ _ _, trivial⟩, .i .i64 z, ⟨rfl, trivial⟩, trivial, ?_⟩
  refine WPL.mem (by rfl) ?_
  refine rF ?_
  refine WP.cond (by rfl) (fun hz => ?_) (fun hz => ?_)
  · refine rS ?_
    refine rE ?_
    refine WP.ghost (gC [0, 1, 4] (LeAll.cons (by rfl) (by first | with_reducible exact Root.Le.refl _ | with_reducible exact le_dead | (exact le_var (by rw [show fup (fup (dsf n t s) 1 (pl s)) 2 (pl t) = dsf n s t from by rw [show fup (dsf n t s) 1 (pl s) = dsf n s s from dsf_up1 _ _ _ _]; exact dsf_up2 _ _ _ _]; rfl)) | exact byLeq) (by exact byCon) (LeAll.cons (by rfl) (by first | with_reducible exact Root.Le.refl _ | with_reducible exact le_dead | (exact le_var (by rw [show fup (fup (dsf n t s) 1 (pl s)) 2 (pl t) = dsf n s t from by rw [show fup (dsf n t s) 1 (pl s) = dsf n s s from dsf_up1 _ _ _ _]; exact dsf_up2 _ _ _ _]; rfl)) | exact byLeq) (by exact byCon) (LeAll.cons (by rfl) (by first | with_reducible exact Root.Le.refl _ | with_reducible exact le_dead | (exact le_var (by rw [show fup (fup (dsf n t s) 1 (pl s)) 2 (pl t) = dsf n s t from by rw [show fup (dsf n t s) 1 (pl s) = dsf n s s from dsf_up1 _ _ _ _]; exact dsf_up2 _ _ _ _]; rfl)) | exact byLeq) (by exact byCon) (leZ)))) (l := [(0, .p 0 [] 0), (2, .p 1 [] 0), (9, .p 2 [] 0)]) (m' := [.var (srcD len g a3 h3), .var (ds_ 0 (fun _ => 0) (fun _ => 0)), .var (ds_ n s t)])) ?_
    refine rS ?_
    exact WP.ret (Ends.newE [0] (⟨n, s, t, a3, h3, rfl, hn1, hn16, hs, ht, ha3, rfl⟩) (.inl rfl) (by rfl) (by exact byObl) (leC leZ) rfl rfl (⟨rfl, sc_ds _ _ _ _⟩) (sc_ds _ _ _ _))
  · refine WP.skip ?_
    refine rS ?_
    exact WP.ret (Ends.newE [0] (⟨n, t, s, a3, h3, rfl, hn1, hn16, ht, hs, ha3, rfl⟩) (.inl rfl) (by rfl) (by exact byObl) (leC leZ) rfl rfl (⟨rfl, sc_ds _ _ _ _⟩) (sc_ds _ _ _ _))
theorem renTo_bt {p b : Nat → Nat} (hp : ∀ i, p i < 16) : ∀ k, Bt 16 (renTo p b k)
  | 0 => ⟨fun _ => Nat.zero_lt_succ _, fun _ _ => rfl⟩
  | k + 1 => (renTo_bt hp k).up (hp k) (hp _)
theorem l02Some_fn (len : Nat) (g : Nat → Nat) (hg : ∀ j, g j < 256) (a : Nat) (h : Int) (ha : a ≤ len) (hl : len ≤ 4294967296) :
    FnS Try.prog 26 [.p 0 [] 0] [.var (srcD len g a h)] fun r m' => ∃ (n : Int) (b w : Nat → Nat) (a' : Nat) (h' : Int), r = ds_ n b w ∧ -1 ≤ n ∧ n ≤ 17 ∧ Bt 256 b ∧ Bt 256 w ∧ a' ≤ len ∧ m' = [.var (srcD len g a' h')] := by
  have hSc : ∀ (k a : Nat) (h : Int), Sc k (srcD len g a h) := fun k a h => sc_src k len g a h
  have sc_ch := hSc
  have hnx := l01Next_fn len g hg a h 3 ha hl
  refine FnS.intoE T tok Try.func26 (by rfl) rfl rfl rfl (by simp) ?_
  refine rS ?_
  refine WP.seq ?_
  refine WP.rw ?_
  refine rU 1 ?_
  refine WPL.callE [0] (hnx) (leC leZ) (by rfl) (by rfl) (by exact byArgs) (by rfl) (by rfl) (by simp [Sc, sc_pl, sc_ds]) ?_
  rintro _ _ ⟨y, a1, h1, rfl, _, _, ha1, rfl⟩
  refine ⟨⟨fun d hd => by cases hd; exact sc_src _ _ _ _ _, trivial⟩, .i .i64 y, ⟨rfl, trivial⟩, trivial, ?_⟩
  refine WPL.mem (by rfl) ?_
  refine rF ?_
  refine WP.cond (by rfl) (fun hy => ?_) (fun hy => ?_)
  · have hsy := l02Symmetric_fn len g hg a1 h1 ha1 hl
    refine WP.rw ?_
    refine rU 1 ?_
    refine WPL.callE [0] (hsy) (leC leZ) (by rfl) (by rfl) (by exact byArgs) (by rfl) (by rfl) (by simp [Sc, sc_pl, sc_ds]) ?_
    rintro _ _ ⟨n, b, w, a2, h2, rfl, hn1, hn16, hb, hw, ha2, rfl⟩
    refine ⟨⟨fun d hd => by cases hd; exact sc_src _ _ _ _ _, trivial⟩, ds_ n b w, ⟨rfl, sc_ds _ _ _ _⟩, sc_ds _ _ _ _, ?_⟩
    refine WPL.mem (by rfl) ?_
    refine rF ?_
    refine WP.ghost (gC [0, 1, 2] (leC (leC (leC leZ))) (l := [(0, .p 0 [] 0), (2, .p 1 [] 0), (3, .p 2 [] 0)]) (m' := [.var (srcD len g a2 h2), .var (ds_ 0 (fun _ => 0) (fun _ => 0)), .var (ds_ n b w)])) ?_
    have hdp := l01DrawPlaces_fn len g hg a2 h2 (n : Int) (by omega) (by omega) ha2 hl
    have fin : ∀ p : Nat → Nat, Bt n p → FnP Try.prog 36 [ds_ n b w, pl p] (ds_ n (renTo p b n) (renTo p w n)) := fun p hp => l02Rename_fn n b w p hn16 (fun i _ => Nat.lt_of_lt_of_le (hb.lt i) hn16) (fun i _ => Nat.lt_of_lt_of_le (hw.lt i) hn16) (fun i _ => Nat.lt_of_lt_of_le (hp.lt i) hn16)
    have fin2 : ∀ p : Nat → Nat, Bt n p → Bt 256 (renTo p b n) ∧ Bt 256 (renTo p w n) := fun p hp => ⟨(renTo_bt (fun i => Nat.lt_of_lt_of_le (hp.lt i) hn16) n).mono (by decide), (renTo_bt (fun i => Nat.lt_of_lt_of_le (hp.lt i) hn16) n).mono (by decide)⟩
    have hG : ∀ r m1, (∃ (p : Nat → Nat) (a' : Nat) (h' : Int), r = pl p ∧ Bt (bN (n : Int)) p ∧ a' ≤ len ∧ m1 = [Root.var (srcD len g a' h')]) → ∃ (p : Nat → Nat) (a' : Nat) (h' : Int), r = pl p ∧ Bt n p ∧ a' ≤ len ∧ m1 = [Root.var (srcD len g a' h')] := fun r m1 ⟨p, a', h', e1, e2, e3, e4⟩ => ⟨p, a', h', e1, bN_nat hn1 ▸ e2, e3, e4⟩
    refine WP.seq ?_
    refine WP.da (by kernel_rfl) 4 (by kernel_rfl) ?_
    refine WA.takesD T false tok [1] (f' := 6) (by kernel_rfl) (by rfl) (by rfl) (by exact byObl) (by rfl) (by rfl) ?_
    refine WA.allTE [0, 2] (by kernel_rfl) (by simp) ?_; intro i' hi'; simp only [List.mem_cons, List.not_mem_nil, or_false] at hi'
    rcases hi' with rfl | rfl
    · refine ⟨_, _, rfl, by rfl, by rfl, .inl (MKE.of (MK.q (evalOp_q tok (wm := false) (by rfl) (by rfl) (by exact byObl)))), ?_⟩; rintro _ _ ⟨rfl, rfl⟩
      refine WA.allTE [2] (by kernel_rfl) (by simp) ?_; intro i' hi'; simp only [List.mem_cons, List.not_mem_nil, or_false] at hi'
      subst hi'
      refine ⟨_, _, rfl, by rfl, by rfl, .inl (MKE.of (MK.q (evalOp_q tok (wm := false) (by rfl) (by rfl) (by exact byObl)))), ?_⟩; rintro _ _ ⟨rfl, rfl⟩
      refine WA.allTE [3] (by kernel_rfl) (by simp) ?_; intro i' hi'; simp only [List.mem_cons, List.not_mem_nil, or_false] at hi'
      subst hi'
      refine ⟨_, _, rfl, by rfl, by rfl, .inl (MKE.of (MK.q (evalOp_q tok (wm := false) (by rfl) (by rfl) (by exact byObl)))), ?_⟩; rintro _ _ ⟨rfl, rfl⟩
      refine WA.allTE [4] (by kernel_rfl) (by simp) ?_; intro i' hi'; simp only [List.mem_cons, List.not_mem_nil, or_false] at hi'
      subst hi'
      refine ⟨_, fun v m' => ∃ (p : Nat → Nat) (a' : Nat) (h' : Int), v = pl p ∧ Bt n p ∧ a' ≤ len ∧ m' = [.var (srcD len g a' h'), .var (ds_ 0 (fun _ => 0) (fun _ => 0)), .var (ds_ n b w)], rfl, by rfl, by rfl, .inr ⟨by decide, TKE.call [0] (hdp) (leC leZ) (by rfl) (by rfl) (by exact byArgs) (by simp [Sc, sc_pl, sc_ds]) ?_⟩, ?_⟩
      · intro r m1 hq
        obtain ⟨p, a', h', rfl, hp, ha', rfl⟩ := hG r m1 hq
        exact ⟨⟨fun d hd => by cases hd; exact sc_src _ _ _ _ _, trivial⟩, pl p, ⟨rfl, sc_pl _ _⟩, sc_pl _ _, p, a', h', rfl, hp, ha', rfl⟩
      rintro _ _ ⟨p, a3, h3, rfl, hp, ha3, rfl⟩
      refine WA.allTE [5] (by kernel_rfl) (by simp) ?_; intro i' hi'; simp only [List.mem_cons, List.not_mem_nil, or_false] at hi'
      subst hi'
      refine ⟨_, _, rfl, by rfl, by rfl, .inl (MKE.of (MK.callP (fin p hp) (by rfl) (by simp [Sc, sc_pl, sc_ds, pl_ne, ds_ne]))), ?_⟩; rintro _ _ ⟨rfl, rfl⟩
      refine WA.allTE [6] (by kernel_rfl) (by simp) ?_; intro i' hi'; simp only [List.mem_cons, List.not_mem_nil, or_false] at hi'
      subst hi'
      refine ⟨_, _, rfl, by rfl, by rfl, .inr ⟨by decide, TKE.of (TK.of tok (wm := false) (by rfl) (by exact byObl))⟩, ?_⟩; rintro _ _ ⟨rfl, rfl⟩
      refine WA.end rfl (by kernel_rfl) (noPan ?_)
      refine WP.ghost (gC [0, 1] (leC (leC leZ)) (l := [(2, .p 1 [] 0)]) (m' := [.var (srcD len g a3 h3), .var (ds_ n (renTo p b n) (renTo p w n))])) ?_
      exact WP.ret (Ends.newE [0] (⟨n, _, _, a3, h3, rfl, by omega, by omega, (fin2 p hp).1, (fin2 p hp).2, ha3, rfl⟩) (.inl rfl) (by rfl) (by exact byObl) (leC leZ) rfl rfl (⟨rfl, sc_ds _ _ _ _⟩) (sc_ds _ _ _ _))
    · refine ⟨_, _, rfl, by rfl, by rfl, .inl (MKE.of (MK.q (evalOp_q tok (wm := false) (by rfl) (by rfl) (by exact byObl)))), ?_⟩; rintro _ _ ⟨rfl, rfl⟩
      refine WA.allTE [0, 3] (by kernel_rfl) (by simp) ?_; intro i' hi'; simp only [List.mem_cons, List.not_mem_nil, or_false] at hi'
      rcases hi' with rfl | rfl
      · refine ⟨_, _, rfl, by rfl, by rfl, .inl (MKE.of (MK.q (evalOp_q tok (wm := false) (by rfl) (by rfl) (by exact byObl)))), ?_⟩; rintro _ _ ⟨rfl, rfl⟩
        refine WA.allTE [3] (by kernel_rfl) (by simp) ?_; intro i' hi'; simp only [List.mem_cons, List.not_mem_nil, or_false] at hi'
        subst hi'
        refine ⟨_, _, rfl, by rfl, by rfl, .inl (MKE.of (MK.q (evalOp_q tok (wm := false) (by rfl) (by rfl) (by exact byObl)))), ?_⟩; rintro _ _ ⟨rfl, rfl⟩
        refine WA.allTE [4] (by kernel_rfl) (by simp) ?_; intro i' hi'; simp only [List.mem_cons, List.not_mem_nil, or_false] at hi'
        subst hi'
        refine ⟨_, fun v m' => ∃ (p : Nat → Nat) (a' : Nat) (h' : Int), v = pl p ∧ Bt n p ∧ a' ≤ len ∧ m' = [.var (srcD len g a' h'), .var (ds_ 0 (fun _ => 0) (fun _ => 0)), .var (ds_ n b w)], rfl, by rfl, by rfl, .inr ⟨by decide, TKE.call [0] (hdp) (leC leZ) (by rfl) (by rfl) (by exact byArgs) (by simp [Sc, sc_pl, sc_ds]) ?_⟩, ?_⟩
        · intro r m1 hq
          obtain ⟨p, a', h', rfl, hp, ha', rfl⟩ := hG r m1 hq
          exact ⟨⟨fun d hd => by cases hd; exact sc_src _ _ _ _ _, trivial⟩, pl p, ⟨rfl, sc_pl _ _⟩, sc_pl _ _, p, a', h', rfl, hp, ha', rfl⟩
        rintro _ _ ⟨p, a3, h3, rfl, hp, ha3, rfl⟩
        refine WA.allTE [5] (by kernel_rfl) (by simp) ?_; intro i' hi'; simp only [List.mem_cons, List.not_mem_nil, or_false] at hi'
        subst hi'
        refine ⟨_, _, rfl, by rfl, by rfl, .inl (MKE.of (MK.callP (fin p hp) (by rfl) (by simp [Sc, sc_pl, sc_ds, pl_ne, ds_ne]))), ?_⟩; rintro _ _ ⟨rfl, rfl⟩
        refine WA.allTE [6] (by kernel_rfl) (by simp) ?_; intro i' hi'; simp only [List.mem_cons, List.not_mem_nil, or_false] at hi'
        subst hi'
        refine ⟨_, _, rfl, by rfl, by rfl, .inr ⟨by decide, TKE.of (TK.of tok (wm := false) (by rfl) (by exact byObl))⟩, ?_⟩; rintro _ _ ⟨rfl, rfl⟩
        refine WA.end rfl (by kernel_rfl) (noPan ?_)
        refine WP.ghost (gC [0, 1] (leC (leC leZ)) (l := [(2, .p 1 [] 0)]) (m' := [.var (srcD len g a3 h3), .var (ds_ n (renTo p b n) (renTo p w n))])) ?_
        exact WP.ret (Ends.newE [0] (⟨n, _, _, a3, h3, rfl, by omega, by omega, (fin2 p hp).1, (fin2 p hp).2, ha3, rfl⟩) (.inl rfl) (by rfl) (by exact byObl) (leC leZ) rfl rfl (⟨rfl, sc_ds _ _ _ _⟩) (sc_ds _ _ _ _))
      · refine ⟨_, _, rfl, by rfl, by rfl, .inl (MKE.of (MK.q (evalOp_q tok (wm := false) (by rfl) (by rfl) (by exact byObl)))), ?_⟩; rintro _ _ ⟨rfl, rfl⟩
        refine WA.allTE [0, 4] (by kernel_rfl) (by simp) ?_; intro i' hi'; simp only [List.mem_cons, List.not_mem_nil, or_false] at hi'
        rcases hi' with rfl | rfl
        · refine ⟨_, _, rfl, by rfl, by rfl, .inl (MKE.of (MK.q (evalOp_q tok (wm := false) (by rfl) (by rfl) (by exact byObl)))), ?_⟩; rintro _ _ ⟨rfl, rfl⟩
          refine WA.allTE [4] (by kernel_rfl) (by simp) ?_; intro i' hi'; simp only [List.mem_cons, List.not_mem_nil, or_false] at hi'
          subst hi'
          refine ⟨_, fun v m' => ∃ (p : Nat → Nat) (a' : Nat) (h' : Int), v = pl p ∧ Bt n p ∧ a' ≤ len ∧ m' = [.var (srcD len g a' h'), .var (ds_ 0 (fun _ => 0) (fun _ => 0)), .var (ds_ n b w)], rfl, by rfl, by rfl, .inr ⟨by decide, TKE.call [0] (hdp) (leC leZ) (by rfl) (by rfl) (by exact byArgs) (by simp [Sc, sc_pl, sc_ds]) ?_⟩, ?_⟩
          · intro r m1 hq
            obtain ⟨p, a', h', rfl, hp, ha', rfl⟩ := hG r m1 hq
            exact ⟨⟨fun d hd => by cases hd; exact sc_src _ _ _ _ _, trivial⟩, pl p, ⟨rfl, sc_pl _ _⟩, sc_pl _ _, p, a', h', rfl, hp, ha', rfl⟩
          rintro _ _ ⟨p, a3, h3, rfl, hp, ha3, rfl⟩
          refine WA.allTE [5] (by kernel_rfl) (by simp) ?_; intro i' hi'; simp only [List.mem_cons, List.not_mem_nil, or_false] at hi'
          subst hi'
          refine ⟨_, _, rfl, by rfl, by rfl, .inl (MKE.of (MK.callP (fin p hp) (by rfl) (by simp [Sc, sc_pl, sc_ds, pl_ne, ds_ne]))), ?_⟩; rintro _ _ ⟨rfl, rfl⟩
          refine WA.allTE [6] (by kernel_rfl) (by simp) ?_; intro i' hi'; simp only [List.mem_cons, List.not_mem_nil, or_false] at hi'
          subst hi'
          refine ⟨_, _, rfl, by rfl, by rfl, .inr ⟨by decide, TKE.of (TK.of tok (wm := false) (by rfl) (by exact byObl))⟩, ?_⟩; rintro _ _ ⟨rfl, rfl⟩
          refine WA.end rfl (by kernel_rfl) (noPan ?_)
          refine WP.ghost (gC [0, 1] (leC (leC leZ)) (l := [(2, .p 1 [] 0)]) (m' := [.var (srcD len g a3 h3), .var (ds_ n (renTo p b n) (renTo p w n))])) ?_
          exact WP.ret (Ends.newE [0] (⟨n, _, _, a3, h3, rfl, by omega, by omega, (fin2 p hp).1, (fin2 p hp).2, ha3, rfl⟩) (.inl rfl) (by rfl) (by exact byObl) (leC leZ) rfl rfl (⟨rfl, sc_ds _ _ _ _⟩) (sc_ds _ _ _ _))
        · refine ⟨_, fun v m' => ∃ (p : Nat → Nat) (a' : Nat) (h' : Int), v = pl p ∧ Bt n p ∧ a' ≤ len ∧ m' = [.var (srcD len g a' h'), .var (ds_ 0 (fun _ => 0) (fun _ => 0)), .var (ds_ n b w)], rfl, by rfl, by rfl, .inr ⟨by decide, TKE.call [0] (hdp) (leC leZ) (by rfl) (by rfl) (by exact byArgs) (by simp [Sc, sc_pl, sc_ds]) ?_⟩, ?_⟩
          · intro r m1 hq
            obtain ⟨p, a', h', rfl, hp, ha', rfl⟩ := hG r m1 hq
            exact ⟨⟨fun d hd => by cases hd; exact sc_src _ _ _ _ _, trivial⟩, pl p, ⟨rfl, sc_pl _ _⟩, sc_pl _ _, p, a', h', rfl, hp, ha', rfl⟩
          rintro _ _ ⟨p, a3, h3, rfl, hp, ha3, rfl⟩
          refine WA.allTE [0] (by kernel_rfl) (by simp) ?_; intro i' hi'; simp only [List.mem_cons, List.not_mem_nil, or_false] at hi'
          subst hi'
          refine ⟨_, _, rfl, by rfl, by rfl, .inl (MKE.of (MK.q (evalOp_q tok (wm := false) (by rfl) (by rfl) (by exact byObl)))), ?_⟩; rintro _ _ ⟨rfl, rfl⟩
          refine WA.allTE [5] (by kernel_rfl) (by simp) ?_; intro i' hi'; simp only [List.mem_cons, List.not_mem_nil, or_false] at hi'
          subst hi'
          refine ⟨_, _, rfl, by rfl, by rfl, .inl (MKE.of (MK.callP (fin p hp) (by rfl) (by simp [Sc, sc_pl, sc_ds, pl_ne, ds_ne]))), ?_⟩; rintro _ _ ⟨rfl, rfl⟩
          refine WA.allTE [6] (by kernel_rfl) (by simp) ?_; intro i' hi'; simp only [List.mem_cons, List.not_mem_nil, or_false] at hi'
          subst hi'
          refine ⟨_, _, rfl, by rfl, by rfl, .inr ⟨by decide, TKE.of (TK.of tok (wm := false) (by rfl) (by exact byObl))⟩, ?_⟩; rintro _ _ ⟨rfl, rfl⟩
          refine WA.end rfl (by kernel_rfl) (noPan ?_)
          refine WP.ghost (gC [0, 1] (leC (leC leZ)) (l := [(2, .p 1 [] 0)]) (m' := [.var (srcD len g a3 h3), .var (ds_ n (renTo p b n) (renTo p w n))])) ?_
          exact WP.ret (Ends.newE [0] (⟨n, _, _, a3, h3, rfl, by omega, by omega, (fin2 p hp).1, (fin2 p hp).2, ha3, rfl⟩) (.inl rfl) (by rfl) (by exact byObl) (leC leZ) rfl rfl (⟨rfl, sc_ds _ _ _ _⟩) (sc_ds _ _ _ _))
  refine WP.skip ?_
  let F : Nat → Int := fun j => if j = 0 then 4 else if j = 1 then 6 else if j = 2 then 9 else 16
  have hF : ∀ j, 1 ≤ F j ∧ F j ≤ 16 := fun j => by
    show 1 ≤ (if j = 0 then (4 : Int) else if j = 1 then 6 else if j = 2 then 9 else 16) ∧ (if j = 0 then (4 : Int) else if j = 1 then 6 else if j = 2 then 9 else 16) ≤ 16
    split
    · omega
    · split
      · omega
      · split <;> omega
  have hpk := l01Pick_fn len g hg a1 h1 4 F (by omega) (by omega) ha1 hl
  refine WP.rw ?_
  refine rU 3 ?_
  refine WPL.callE [0, 2] (hpk) (LeAll.cons (by rfl) (by first | with_reducible exact Root.Le.refl _ | with_reducible exact le_dead | (exact le_row (Nat.le_refl _) (fun j hj => by obtain rfl | rfl | rfl | rfl : j = 0 ∨ j = 1 ∨ j = 2 ∨ j = 3 := (by omega) <;> rfl)) | exact byLeq) (by exact byCon) (LeAll.cons (by rfl) (by first | with_reducible exact Root.Le.refl _ | with_reducible exact le_dead | (exact le_row (Nat.le_refl _) (fun j hj => by obtain rfl | rfl | rfl | rfl : j = 0 ∨ j = 1 ∨ j = 2 ∨ j = 3 := (by omega) <;> rfl)) | exact byLeq) (by exact byCon) (leZ))) (by rfl) (by rfl) (by exact byArgs) (by rfl) (by rfl) (by simp [Sc, sc_pl, sc_ds]) ?_
  rintro _ _ ⟨j1, a2, h2, rfl, _, ha2, rfl⟩
  refine ⟨⟨fun d hd => by cases hd; exact sc_src _ _ _ _ _, fun d hd => by cases hd; exact fun _ _ => trivial, trivial⟩, .i .i64 (F j1), ⟨rfl, trivial⟩, trivial, ?_⟩
  refine WPL.mem (by rfl) ?_
  have hsp := l01Spoil_fn len g hg a2 h2 (F j1) (hF _).1 (hF _).2 ha2 hl
  refine WPL.callE [0] (hsp) (leC leZ) (by rfl) (by rfl) (by exact byArgs) (by rfl) (by rfl) (by simp [Sc, sc_pl, sc_ds]) ?_
  rintro _ _ ⟨n, b, w, a3, h3, rfl, hn1, hn2, hb, hw, ha3, rfl⟩
  refine ⟨⟨fun d hd => by cases hd; exact sc_src _ _ _ _ _, trivial⟩, ds_ n b w, ⟨rfl, sc_ds _ _ _ _⟩, sc_ds _ _ _ _, ?_⟩
  refine WPL.mem (by rfl) ?_
  refine rF ?_
  refine WP.ghost (gC [0, 1] (leC (leC leZ)) (l := [(2, .p 1 [] 0)]) (m' := [.var (srcD len g a3 h3), .var (ds_ n b w)])) ?_
  exact WP.ret (Ends.newE [0] (⟨n, b, w, a3, h3, rfl, hn1, hn2, hb, hw, ha3, rfl⟩) (.inl rfl) (by rfl) (by exact byObl) (leC leZ) rfl rfl (⟨rfl, sc_ds _ _ _ _⟩) (sc_ds _ _ _ _))
end Go.Proofs.Ythjnmlpibafbnaa
