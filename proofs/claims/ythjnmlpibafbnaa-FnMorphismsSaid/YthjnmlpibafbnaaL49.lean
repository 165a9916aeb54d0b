import Derived.Test.YthjnmlpibafbnaaX42
import Derived.Test.YthjnmlpibafbnaaX110
import Derived.Test.YthjnmlpibafbnaaL37
import Derived.Test.YthjnmlpibafbnaaL46
namespace Go.Proofs.Ythjnmlpibafbnaa
open Go.RowKit DM
set_option linter.unusedSimpArgs false
set_option linter.unusedVariables false
set_option maxRecDepth 100000
set_option maxHeartbeats 1000000
noncomputable def szR (N M : Nat) (b w b' w' : Nat → Nat) : List Nat := srtN (szAll (prQ (stP b b') (stP w w')) M N).2
noncomputable def szT (n : Int) (b w : Nat → Nat) (n' : Int) (b' w' : Nat → Nat) : Dat × List Root :=
  bif bothB n b w n' b' w' then (t2 (.sl 0 0 (szR n.toNat n'.toNat b w b' w').length 1) (.i .i64 0), [.row 2 (szR n.toNat n'.toNat b w b' w').length 1 (numsF (szR n.toNat n'.toNat b w b' w'))]) else (t2 .ns (.i .i64 1), [])
theorem implProductSizes_fn (n : Int) (b w : Nat → Nat) (n' : Int) (b' w' : Nat → Nat) (hb : ∀ i, b i < 256) (hw : ∀ i, w i < 256) (hb' : ∀ i, b' i < 256) (hw' : ∀ i, w' i < 256) : FnS Try.prog 17 [ds_ n b w, ds_ n' b' w'] [] (fun r m' => r = (szT n b w n' b' w').1 ∧ m' = (szT n b w n' b' w').2) := by
  cases hc : desB n b w
  · have e : szT n b w n' b' w' = (t2 .ns (.i .i64 1), []) := by unfold szT bothB; rw [hc]; rfl
    rw [e]
    refine FnS.intoN T tok Try.func17 (by rfl) rfl rfl rfl (by simp) ?_
    refine rS ?_
    refine WP.seq ?_
    refine WP.rw ?_
    refine rU 1 ?_
    refine cA (hc ▸ implIsDessin_fn n b w hb hw) ?_
    refine rF ?_
    refine WP.cond (by rfl) (fun h => ?_) (fun h => WP.skip ?_)
    · refine rS ?_
      exact WP.ret (Ends.new [] (by rfl) (by exact byObl) leZ rfl rfl (ren_t2 ⟨rfl, trivial⟩ ⟨rfl, trivial⟩) (sc_t2 trivial trivial))
    · cases h
  cases hc' : desB n' b' w'
  · have e : szT n b w n' b' w' = (t2 .ns (.i .i64 1), []) := by unfold szT bothB; rw [hc, hc']; rfl
    rw [e]
    refine FnS.intoN T tok Try.func17 (by rfl) rfl rfl rfl (by simp) ?_
    refine rS ?_
    refine WP.seq ?_
    refine WP.rw ?_
    refine rU 1 ?_
    refine cA (hc ▸ implIsDessin_fn n b w hb hw) ?_
    refine rU 3 ?_
    refine cA (hc' ▸ implIsDessin_fn n' b' w' hb' hw') ?_
    refine rF ?_
    refine WP.cond (by rfl) (fun h => ?_) (fun h => WP.skip ?_)
    · refine rS ?_
      exact WP.ret (Ends.new [] (by rfl) (by exact byObl) leZ rfl rfl (ren_t2 ⟨rfl, trivial⟩ ⟨rfl, trivial⟩) (sc_t2 trivial trivial))
    · cases h
  obtain ⟨N, rfl, hD⟩ := des_of_B hc
  obtain ⟨M, rfl, hE⟩ := des_of_B hc'
  have hN := hD.le
  have hM := hE.le
  have e : szT N b w M b' w' = (t2 (.sl 0 0 (szR N M b w b' w').length 1) (.i .i64 0), [.row 2 (szR N M b w b' w').length 1 (numsF (szR N M b w b' w'))]) := by unfold szT bothB; rw [hc, hc']; rfl
  rw [e]
  unfold szR
  have hpf := fun z hz => pairsFrom_fn N M b w b' w' z hN hM hz hD.pb.lt hD.pw.lt hE.pb.lt hE.pw.lt
  have hql : ∀ z : Nat × Nat, z.1 < N ∧ z.2 < M → (prQ (stP b b') (stP w w') z).length ≤ 256 := fun z hz => (prQ_ok hN hM (f := stP b b') (g := stP w w') (z := z) (fun z hz => ⟨hD.pb.lt _ hz.1, hE.pb.lt _ hz.2⟩) (fun z hz => ⟨hD.pw.lt _ hz.1, hE.pw.lt _ hz.2⟩) hz).1.le hN hM
  have hqs : ∀ z : Nat × Nat, z.1 < N ∧ z.2 < M → ∀ k, k < (prQ (stP b b') (stP w w') z).length → ((prQ (stP b b') (stP w w') z).getD k (0, 0)).1 < N ∧ ((prQ (stP b b') (stP w w') z).getD k (0, 0)).2 < M := fun z hz k hk => (prQ_ok hN hM (f := stP b b') (g := stP w w') (z := z) (fun z hz => ⟨hD.pb.lt _ hz.1, hE.pb.lt _ hz.2⟩) (fun z hz => ⟨hD.pw.lt _ hz.1, hE.pw.lt _ hz.2⟩) hz).1.get hk
  generalize prQ (stP b b') (stP w w') = q at *
  refine FnS.intoN T tok Try.func17 (by rfl) rfl rfl rfl (by simp) ?_
  refine rS ?_
  refine WP.seq ?_
  refine WP.rw ?_
  refine rU 1 ?_
  refine cA (hc ▸ implIsDessin_fn N b w hb hw) ?_
  refine rU 3 ?_
  refine cA (hc' ▸ implIsDessin_fn M b' w' hb' hw') ?_
  refine rF ?_
  refine WP.cond (by rfl) (fun h => ?_) (fun h => WP.skip ?_)
  · cases h
  clear h
  refine WP.rw ?_
  refine WPL.mkMap rfl (by rfl) (by rfl) ?_
  intro mb
  refine rF ?_
  refine rS ?_
  refine WP.seq ?_
  refine rS ?_
  refine WP.block ?_
  refine WP.loopH (⟨fun x : Nat => x ≤ N, fun x => [(2, .p 0 [] 0), (3, .p 1 [] 0), (6, .mv mb), (7, .sl 3 0 (szAll q M x).2.length 1), (25, .i .i64 (N : Int)), (26, .i .i64 (x : Int))], fun x => [.var (ds_ N b w), .var (ds_ M b' w'), .mp mb (entS kyP (szAll q M x).1), .row 2 (szAll q M x).2.length 1 (numsF (szAll q M x).2)], fun x => N - x⟩) (0) (Nat.zero_le _) (gC [0, 1, 2, 3] (LeAll.cons (by rfl) (by first | with_reducible exact Root.Le.refl _ | with_reducible exact le_dead | (first | exact le_mp rfl | exact le_row (Nat.le_refl _) (fun j hj => absurd hj (Nat.not_lt_zero _))) | exact byLeq) (by exact byCon) (LeAll.cons (by rfl) (by first | with_reducible exact Root.Le.refl _ | with_reducible exact le_dead | (first | exact le_mp rfl | exact le_row (Nat.le_refl _) (fun j hj => absurd hj (Nat.not_lt_zero _))) | exact byLeq) (by exact byCon) (LeAll.cons (by rfl) (by first | with_reducible exact Root.Le.refl _ | with_reducible exact le_dead | (first | exact le_mp rfl | exact le_row (Nat.le_refl _) (fun j hj => absurd hj (Nat.not_lt_zero _))) | exact byLeq) (by exact byCon) (LeAll.cons (by rfl) (by first | with_reducible exact Root.Le.refl _ | with_reducible exact le_dead | (first | exact le_mp rfl | exact le_row (Nat.le_refl _) (fun j hj => absurd hj (Nat.not_lt_zero _))) | exact byLeq) (by exact byCon) (leZ)))))) ?_
  intro x hx
  dsimp only at hx
  dsimp only [Hd.at]
  refine rS ?_
  refine WP.seq ?_
  refine WP.cond (by rfl) (fun hc => WP.skip ?_) (fun hc => WP.exit ?_)
  · have hx : x < N := by have := of_decide_eq_true hc; omega
    clear hc
    refine WP.seq (WP.block ?_)
    refine rS ?_
    refine rS ?_
    refine WP.block ?_
    refine WP.loopH (⟨fun y : Nat => y ≤ M, fun y => [(2, .p 0 [] 0), (3, .p 1 [] 0), (6, .mv mb), (7, .sl 3 0 (szRow q x (szAll q M x) y).2.length 1), (8, .i .i64 (x : Int)), (25, .i .i64 (N : Int)), (26, .i .i64 (x : Int)), (30, .i .i64 (M : Int)), (31, .i .i64 (y : Int))], fun y => [.var (ds_ N b w), .var (ds_ M b' w'), .mp mb (entS kyP (szRow q x (szAll q M x) y).1), .row 2 (szRow q x (szAll q M x) y).2.length 1 (numsF (szRow q x (szAll q M x) y).2)], fun y => M - y⟩) (0) (Nat.zero_le _) (gC [0, 1, 2, 3] (LeAll.cons (by rfl) (by first | with_reducible exact Root.Le.refl _ | with_reducible exact le_dead | (first | exact le_mp rfl | exact le_row (Nat.le_refl _) (fun j hj => rfl)) | exact byLeq) (by exact byCon) (LeAll.cons (by rfl) (by first | with_reducible exact Root.Le.refl _ | with_reducible exact le_dead | (first | exact le_mp rfl | exact le_row (Nat.le_refl _) (fun j hj => rfl)) | exact byLeq) (by exact byCon) (LeAll.cons (by rfl) (by first | with_reducible exact Root.Le.refl _ | with_reducible exact le_dead | (first | exact le_mp rfl | exact le_row (Nat.le_refl _) (fun j hj => rfl)) | exact byLeq) (by exact byCon) (LeAll.cons (by rfl) (by first | with_reducible exact Root.Le.refl _ | with_reducible exact le_dead | (first | exact le_mp rfl | exact le_row (Nat.le_refl _) (fun j hj => rfl)) | exact byLeq) (by exact byCon) (leZ)))))) ?_
    intro y hy
    dsimp only at hy
    dsimp only [Hd.at]
    have hsl := sz_len256 q hM (show x < 16 by omega) hy
    refine rS ?_
    refine WP.seq ?_
    refine WP.cond (by rfl) (fun hc => WP.skip ?_) (fun hc => WP.exit ?_)
    · have hy : y < M := by have := of_decide_eq_true hc; omega
      clear hc
      have hst : szRow q x (szAll q M x) (y + 1) = szSt q (szRow q x (szAll q M x) y) (x, y) := rfl
      have hpf := hpf (x, y) ⟨hx, hy⟩
      have hql := hql (x, y) ⟨hx, hy⟩
      have hqs := hqs (x, y) ⟨hx, hy⟩
      generalize szRow q x (szAll q M x) = F at *
      unfold szSt at hst
      generalize q (x, y) = Q at *
      have hx8 : x < 256 := by omega
      have hy8 : y < 256 := by omega
      have hsl' : (F y).2.length ≤ 256 := hsl
      refine WP.seq (WP.block ?_)
      refine rS ?_
      refine rS ?_
      refine WP.seq ?_
      refine WP.rw ?_
      refine rU 2 ?_
      refine WPL.op (by rfl) (by rfl) (QOK.op (map_look (r := 2) (a := (x, y)) (L := (F y).1) tok rfl Try.underlying77 key_pair rfl rfl rfl rfl (by simp [kyP]) rfl)) ?_
      refine rF ?_
      by_cases hm : (x, y) ∈ (F y).1
      · rw [if_pos hm] at hst
        have hLen : (F (y + 1)).2.length = (F y).2.length := by rw [hst]
        refine WP.cond (by rfl) (fun h => ?_) (fun h => ?_)
        case refine_2 => simp [hm] at h
        refine WP.exit ?_
        refine rE ?_
        refine Again.next (y + 1) (gC [0, 1, 2, 3] (LeAll.cons (by rfl) (by first | with_reducible exact Root.Le.refl _ | with_reducible exact le_dead | (first | exact le_mp (by rw [hst]) | exact le_row (Nat.le_of_eq hLen) (fun j _ => by rw [hst])) | exact byLeq) (by exact byCon) (LeAll.cons (by rfl) (by first | with_reducible exact Root.Le.refl _ | with_reducible exact le_dead | (first | exact le_mp (by rw [hst]) | exact le_row (Nat.le_of_eq hLen) (fun j _ => by rw [hst])) | exact byLeq) (by exact byCon) (LeAll.cons (by rfl) (by first | with_reducible exact Root.Le.refl _ | with_reducible exact le_dead | (first | exact le_mp (by rw [hst]) | exact le_row (Nat.le_of_eq hLen) (fun j _ => by rw [hst])) | exact byLeq) (by exact byCon) (LeAll.cons (by rfl) (by first | with_reducible exact Root.Le.refl _ | with_reducible exact le_dead | (first | exact le_mp (by rw [hst]) | exact le_row (Nat.le_of_eq hLen) (fun j _ => by rw [hst])) | exact byLeq) (by exact byCon) (leZ)))))) (hy) (by dsimp only; omega)
      · rw [if_neg hm] at hst
        have hLen : (F (y + 1)).2.length = (F y).2.length + 1 := by rw [hst]; simp
        generalize (F y).1 = S at *
        generalize (F y).2 = O at *
        refine WP.cond (by rfl) (fun h => ?_) (fun h => ?_)
        · simp [hm] at h
        refine WP.skip ?_
        refine WP.rw ?_
        refine rU 3 ?_
        refine WPL.callN [] (.sl 5 0 Q.length 2) (hpf) leZ (by rfl) (by rfl) (by exact byArgs) (by rfl) (by rfl) (by simp [Sc, sc_pl, sc_ds]; exact fun i _ => sc_prU _ _ i) (by exact byAllc) (rfl) (by exact bySc) rfl ?_
        refine rF ?_
        refine WP.seq ?_
        refine rS ?_
        refine WP.block ?_
        refine WP.loopH (⟨fun k : Nat => k ≤ Q.length, fun k => [(2, .p 0 [] 0), (3, .p 1 [] 0), (6, .mv mb), (7, .sl 3 0 O.length 1), (8, .i .i64 (x : Int)), (11, .sl 4 0 Q.length 2), (25, .i .i64 (N : Int)), (26, .i .i64 (x : Int)), (30, .i .i64 (M : Int)), (31, .i .i64 (y : Int)), (46, .sl 4 0 Q.length 2), (47, .i .i64 (Q.length : Int)), (48, .i .i64 (k : Int))], fun k => [.var (ds_ N b w), .var (ds_ M b' w'), .mp mb (entS kyP (mkS S Q k)), .row 2 O.length 1 (numsF O), .ro Q.length 2 (prUF Q)], fun k => Q.length - k⟩) (0) (Nat.zero_le _) (gC [0, 1, 2, 3, 5] (LeAll.cons (by rfl) (by first | with_reducible exact Root.Le.refl _ | with_reducible exact le_dead | (exact le_mp rfl) | exact byLeq) (by exact byCon) (LeAll.cons (by rfl) (by first | with_reducible exact Root.Le.refl _ | with_reducible exact le_dead | (exact le_mp rfl) | exact byLeq) (by exact byCon) (LeAll.cons (by rfl) (by first | with_reducible exact Root.Le.refl _ | with_reducible exact le_dead | (exact le_mp rfl) | exact byLeq) (by exact byCon) (LeAll.cons (by rfl) (by first | with_reducible exact Root.Le.refl _ | with_reducible exact le_dead | (exact le_mp rfl) | exact byLeq) (by exact byCon) (LeAll.cons (by rfl) (by first | with_reducible exact Root.Le.refl _ | with_reducible exact le_dead | (exact le_mp rfl) | exact byLeq) (by exact byCon) (leZ))))))) ?_
        intro k hk
        dsimp only at hk
        dsimp only [Hd.at]
        refine rS ?_
        refine WP.seq ?_
        refine WP.cond (by rfl) (fun hc => WP.skip ?_) (fun hc => WP.exit ?_)
        · have hk : k < Q.length := by have := of_decide_eq_true hc; omega
          clear hc
          have e1 := mkS_succ S Q hk
          refine WP.seq (WP.block ?_)
          refine rS ?_
          refine WP.region ?_
          refine rU 2 ?_
          refine WPL.op (by rfl) (by rfl) (map_put (r := 2) (a := Q.getD k (0, 0)) (L := mkS S Q k) tok (.inl rfl) Try.underlying77 key_pair rfl rfl (by simp [kyP]) rfl rfl) ?_
          rw [← e1]
          refine WPL.nil ?_
          refine rE ?_
          refine Again.next (k + 1) (gC [0, 1, 2, 3, 4] (LeAll.cons (by rfl) (by first | with_reducible exact Root.Le.refl _ | with_reducible exact le_dead | (exact le_mp rfl) | exact byLeq) (by exact byCon) (LeAll.cons (by rfl) (by first | with_reducible exact Root.Le.refl _ | with_reducible exact le_dead | (exact le_mp rfl) | exact byLeq) (by exact byCon) (LeAll.cons (by rfl) (by first | with_reducible exact Root.Le.refl _ | with_reducible exact le_dead | (exact le_mp rfl) | exact byLeq) (by exact byCon) (LeAll.cons (by rfl) (by first | with_reducible exact Root.Le.refl _ | with_reducible exact le_dead | (exact le_mp rfl) | exact byLeq) (by exact byCon) (LeAll.cons (by rfl) (by first | with_reducible exact Root.Le.refl _ | with_reducible exact le_dead | (exact le_mp rfl) | exact byLeq) (by exact byCon) (leZ))))))) (hk) (by dsimp only; omega)
        · have hk : k = Q.length := by have := of_decide_eq_false hc; omega
          subst hk
          clear hc
          refine rE ?_
          refine rE ?_
          refine Again.next (y + 1) (gC [0, 1, 2, 6] (LeAll.cons (by rfl) (by first | with_reducible exact Root.Le.refl _ | with_reducible exact le_dead | (first | exact le_mp (by rw [hst]) | exact le_row (Nat.le_of_eq hLen) (fun j hj => by rw [hst]; exact ap_nums O Q.length _ j (by have := Nat.lt_of_lt_of_le hj (Nat.le_of_eq hLen); omega))) | exact byLeq) (by exact byCon) (LeAll.cons (by rfl) (by first | with_reducible exact Root.Le.refl _ | with_reducible exact le_dead | (first | exact le_mp (by rw [hst]) | exact le_row (Nat.le_of_eq hLen) (fun j hj => by rw [hst]; exact ap_nums O Q.length _ j (by have := Nat.lt_of_lt_of_le hj (Nat.le_of_eq hLen); omega))) | exact byLeq) (by exact byCon) (LeAll.cons (by rfl) (by first | with_reducible exact Root.Le.refl _ | with_reducible exact le_dead | (first | exact le_mp (by rw [hst]) | exact le_row (Nat.le_of_eq hLen) (fun j hj => by rw [hst]; exact ap_nums O Q.length _ j (by have := Nat.lt_of_lt_of_le hj (Nat.le_of_eq hLen); omega))) | exact byLeq) (by exact byCon) (LeAll.cons (by rfl) (by first | with_reducible exact Root.Le.refl _ | with_reducible exact le_dead | (first | exact le_mp (by rw [hst]) | exact le_row (Nat.le_of_eq hLen) (fun j hj => by rw [hst]; exact ap_nums O Q.length _ j (by have := Nat.lt_of_lt_of_le hj (Nat.le_of_eq hLen); omega))) | exact byLeq) (by exact byCon) (leZ)))))) (hy) (by dsimp only; omega)
    · have hy : y = M := by have := of_decide_eq_false hc; omega
      subst hy
      clear hc
      refine rE ?_
      refine Again.next (x + 1) (gC [0, 1, 2, 3] (LeAll.cons (by rfl) (by first | with_reducible exact Root.Le.refl _ | with_reducible exact le_dead | (first | exact le_mp rfl | exact le_row (Nat.le_refl _) (fun j hj => rfl)) | exact byLeq) (by exact byCon) (LeAll.cons (by rfl) (by first | with_reducible exact Root.Le.refl _ | with_reducible exact le_dead | (first | exact le_mp rfl | exact le_row (Nat.le_refl _) (fun j hj => rfl)) | exact byLeq) (by exact byCon) (LeAll.cons (by rfl) (by first | with_reducible exact Root.Le.refl _ | with_reducible exact le_dead | (first | exact le_mp rfl | exact le_row (Nat.le_refl _) (fun j hj => rfl)) | exact byLeq) (by exact byCon) (LeAll.cons (by rfl) (by first | with_reducible exact Root.Le.refl _ | with_reducible exact le_dead | (first | exact le_mp rfl | exact le_row (Nat.le_refl _) (fun j hj => rfl)) | exact byLeq) (by exact byCon) (leZ)))))) (hx) (by dsimp only; omega)
  · have hx : x = N := by have := of_decide_eq_false hc; omega
    subst hx
    clear hc
    have hs := sortN_fn (szAll q M x).2 (by have := sz_len q hM hN; omega)
    have e1 := srtN_len (szAll q M x).2
    generalize srtN (szAll q M x).2 = O at *
    generalize (szAll q M x).2 = O' at *
    refine WP.rw ?_
    refine rU 1 ?_
    refine cN [3] (.tup 0 (fun _ => .un)) (hs) (leC leZ) (⟨_, rfl, fun i hi => absurd hi (Nat.not_lt_zero _)⟩) ?_
    refine rF ?_
    refine rS ?_
    exact WP.ret (Ends.new [3] (by rfl) (by exact byObl) (LeAll.cons (by rfl) (by first | with_reducible exact Root.Le.refl _ | with_reducible exact le_dead | (exact le_row (Nat.le_of_eq e1) (fun _ _ => rfl)) | exact byLeq) (by exact byCon) (leZ)) rfl rfl (ren_t2 (renD_len e1 rfl) ⟨rfl, trivial⟩) (sc_t2 (sc_sl rfl) trivial))
end Go.Proofs.Ythjnmlpibafbnaa

namespace Go.Proofs.Ythjnmlpibafbnaa
open Go.RowKit DM
set_option linter.unusedVariables false
theorem des_mk {n : Nat} {b w : Nat → Nat} (h1 : 1 ≤ n) (h2 : n ≤ 16) (hb : Perm n b) (hw : Perm n w) (h : ∀ S : Nat → Prop, S 0 → Cl n b w S → ∀ z, z < n → S z) : Des n b w := by
  refine ⟨h1, h2, hb, hw, ?_⟩
  obtain ⟨q, c⟩ := bfs_q h2 hb.lt hw.lt (show 0 < n from h1)
  have hs : ∀ z ∈ bfsF b w 0, z < n := (bfsF_inv h2 hb.lt hw.lt (show 0 < n from h1)).small
  have hm : 0 ∈ bfsF b w 0 := by obtain ⟨l, e⟩ := (show ∃ l, bfsF b w 0 = 0 :: l from q.head); rw [e]; simp
  have ha := h (fun z => z ∈ bfsF b w 0) hm fun z _ hz => c z hz
  have l1 := nodup_len n (bfsF b w 0) q.nodup hs
  have l2 := nodup_sub (List.range n) (bfsF b w 0) List.nodup_range fun z hz => ha z (List.mem_range.1 hz)
  rw [List.length_range] at l2
  exact Nat.le_antisymm l1 l2
theorem desB_mk {n : Nat} {b w : Nat → Nat} (hD : Des n b w) (hb : ∀ i, n ≤ i → b i = 0) (hw : ∀ i, n ≤ i → w i = 0) : desB n b w = true := by
  have pB : ∀ {p : Nat → Nat}, Perm n p → (∀ i, n ≤ i → p i = 0) → permB p n = true := fun hp hz => permB_true hD.pos hD.le fun i _ => ⟨fun hi => ⟨hp.lt i hi, fun j hj e => by have := hp.inj j i (by omega) hi e; omega⟩, fun hi => hz i hi⟩
  unfold desB
  rw [pB hD.pb hb, pB hD.pw hw, decide_eq_true (by rw [hD.all])]
  rfl
theorem sum_fibers {c : Nat} (f : Nat → Nat) : ∀ (m : Nat) (l : List Nat), (∀ x ∈ l, f x < m) → (∀ r, r < m → (l.filter fun x => decide (f x = r)).length = c) → l.length = m * c
  | 0, l, hf, _ => by
    cases l with
    | nil => simp
    | cons a l => exact absurd (hf a (List.mem_cons_self ..)) (Nat.not_lt_zero _)
  | m + 1, l, hf, h => by
    have ih := sum_fibers (c := c) f m (l.filter fun x => !decide (f x = m)) (fun x hx => by
      rw [List.mem_filter] at hx
      have h1 := hf x hx.1
      have h2 : f x ≠ m := by simpa using hx.2
      omega) fun r hr => by
      rw [List.filter_filter]
      have e : (l.filter fun x => decide (f x = r) && !decide (f x = m)) = l.filter fun x => decide (f x = r) := List.filter_congr fun x _ => by
        by_cases c : f x = r
        · rw [decide_eq_true c, decide_eq_false (by omega : ¬ f x = m)]; rfl
        · rw [decide_eq_false c]; rfl
      rw [e]; exact h r (by omega)
    rw [len_filter_split (fun x => decide (f x = m)) l, h m (Nat.lt_succ_self _), ih, Nat.succ_mul]; omega
section
variable {N M : Nat} {b w b' w' : Nat → Nat}
def fibN (N : Nat) (f : Nat → Nat) (z : Nat) : Nat := ((List.range N).filter fun x => decide (f x = z)).length
theorem fib_le {f v v' : Nat → Nat} (hv : Perm N v) (h : ∀ x, x < N → f (v x) = v' (f x)) (z : Nat) : fibN N f z ≤ fibN N f (v' z) := by
  have hn : (((List.range N).filter fun x => decide (f x = z)).map v).Nodup := by
    unfold List.Nodup
    rw [List.pairwise_map]
    refine List.Pairwise.imp_of_mem (fun {x y} hx hy hne e => hne ?_) (List.nodup_range.filter _)
    rw [List.mem_filter, List.mem_range] at hx hy
    exact hv.inj x y hx.1 hy.1 e
  have := nodup_sub _ ((List.range N).filter fun x => decide (f x = v' z)) hn fun y hy => by
    obtain ⟨x, hx, rfl⟩ := List.mem_map.1 hy
    rw [List.mem_filter, List.mem_range, decide_eq_true_eq] at hx
    exact List.mem_filter.2 ⟨List.mem_range.2 (hv.lt x hx.1), decide_eq_true (by rw [h x hx.1, hx.2])⟩
  rwa [List.length_map] at this
theorem fib_all (hD : Des N b w) (hD' : Des M b' w') {f : Nat → Nat} (hf : Eqv N b w b' w' f) {x y : Nat} (hx : x < M) (hy : y < M) : fibN N f x ≤ fibN N f y :=
  des_all hD' hx (S := fun y => fibN N f x ≤ fibN N f y) (Nat.le_refl _) (fun z hz h => ⟨Nat.le_trans h (fib_le hD.pb (fun x hx => (hf x hx).1) z), Nat.le_trans h (fib_le hD.pw (fun x hx => (hf x hx).2) z)⟩) hy
theorem fib_count (hD : Des N b w) (hD' : Des M b' w') {f : Nat → Nat} (hf : Eqv N b w b' w' f) (hl : ∀ x, x < N → f x < M) {z : Nat} (hz : z < M) : fibN N f z * M = N := by
  have := sum_fibers (c := fibN N f z) f M (List.range N) (fun x hx => hl x (List.mem_range.1 hx)) fun r hr => Nat.le_antisymm (fib_all hD hD' hf hr hz) (fib_all hD hD' hf hz hr)
  rw [List.length_range] at this
  rw [Nat.mul_comm]; exact this.symm
theorem morL_get {k i : Nat} (hi : i < (morL b w b' w' k).length) : ∃ y, y < k ∧ morF b w b' w' y = some ((morL b w b' w' k).getD i fun _ => 0) := by
  induction k generalizing i with
  | zero => exact absurd hi (Nat.not_lt_zero _)
  | succ k ih =>
    cases h : morF b w b' w' k with
    | none =>
      rw [morL_none h] at hi ⊢
      obtain ⟨y, hy, e⟩ := ih hi
      exact ⟨y, by omega, e⟩
    | some o =>
      rw [morL_some h] at hi ⊢
      by_cases c : i < (morL b w b' w' k).length
      · obtain ⟨y, hy, e⟩ := ih c
        rw [getD_snoc_lt _ _ _ c]
        exact ⟨y, by omega, e⟩
      · have e : i = (morL b w b' w' k).length := by simp at hi; omega
        subst e
        rw [getD_snoc]
        exact ⟨k, by omega, h⟩
theorem morL_mem {k y : Nat} (hy : y < k) {o : Nat → Int} (h : morF b w b' w' y = some o) : ∃ i, i < (morL b w b' w' k).length ∧ (morL b w b' w' k).getD i (fun _ => 0) = o := by
  induction k with
  | zero => exact absurd hy (Nat.not_lt_zero _)
  | succ k ih =>
    by_cases e : y = k
    · subst e
      rw [morL_some h]
      exact ⟨(morL b w b' w' y).length, by simp, getD_snoc _ _ _⟩
    · obtain ⟨i, hi, e2⟩ := ih (by omega)
      cases h2 : morF b w b' w' k with
      | none => rw [morL_none h2]; exact ⟨i, hi, e2⟩
      | some o2 =>
        rw [morL_some h2]
        exact ⟨i, by simp; omega, by rw [getD_snoc_lt _ _ _ hi]; exact e2⟩
theorem mor_is (hD : Des N b w) (hD' : Des M b' w') {i : Nat} (hi : i < (morL b w b' w' M).length) : ∃ f : Nat → Nat, (∀ x, x < N → f x < M) ∧ Eqv N b w b' w' f ∧ ∀ x, x < N → (morL b w b' w' M).getD i (fun _ => 0) x = (f x : Int) := by
  obtain ⟨y, hy, e⟩ := morL_get hi
  generalize (morL b w b' w' M).getD i (fun _ => 0) = o at *
  rcases mor_spec hD hD'.pb.lt hD'.pw.lt hy with ⟨r', _⟩ | ⟨o', r', h0, h3, _⟩
  · rw [e] at r'; cases r'
  obtain rfl : o = o' := Option.some.inj (e.symm.trans r')
  refine ⟨fun x => (o x).toNat, fun x hx => by have := h3 x hx; dsimp only; omega, fun x hx => ?_, fun x hx => by have := h3 x hx; dsimp only; omega⟩
  have h4 := (h3 x hx).2.2
  show (o (b x)).toNat = b' (o x).toNat ∧ (o (w x)).toNat = w' (o x).toNat
  rw [h4.1, h4.2]
  exact ⟨Int.toNat_natCast _, Int.toNat_natCast _⟩
theorem mor_has (hD : Des N b w) (hb' : ∀ i, i < M → b' i < M) (hw' : ∀ i, i < M → w' i < M) {f : Nat → Nat} (hl : ∀ x, x < N → f x < M) (hf : Eqv N b w b' w' f) : ∃ i, i < (morL b w b' w' M).length ∧ ∀ x, x < N → (morL b w b' w' M).getD i (fun _ => 0) x = (f x : Int) := by
  have hy := hl 0 hD.pos
  rcases mor_spec hD hb' hw' hy with ⟨_, hno⟩ | ⟨o, r, _, _, h4⟩
  · exact absurd (hno f rfl hf) id
  · obtain ⟨i, hi, e⟩ := morL_mem hy r
    exact ⟨i, hi, fun x hx => by rw [e]; exact h4 f rfl hf x hx⟩
end
section
variable {N : Nat} {b w p : Nat → Nat}
theorem prt_eqv (hD : Des N b w) (hp : Perm N p) {v : Nat → Nat} (hv : ∀ i, i < N → v i < N) (hc : ∀ x, x < N → p (v x) = v (p x)) {x : Nat} (hx : x < N) : prtF (cycs p N) (v x) = fillF (hdQ (cycs p N) v) (cycs p N).length (prtF (cycs p N) x) := by
  have hN := hD.le
  have h1 := cls_comm hN hp hv hc hx
  have e : ∀ y, y < N → prtF (cycs p N) y = clsF (cycs p N) y := fun y hy => (pt_end hN hp hy).1
  have h3 := (pt_end hN hp hx).2.1
  show _ = if prtF (cycs p N) x < (cycs p N).length then hdQ (cycs p N) v (prtF (cycs p N) x) else 0
  rw [if_pos (prt_lt hN hp hx)]
  unfold hdQ
  rw [e _ (hv x hx), e x hx, h1, e _ (hv _ (head_lt hN hp h3).1)]
theorem prt_onto (hD : Des N b w) (hp : Perm N p) {c : Nat} (hc : c < (cycs p N).length) : ∃ x, x < N ∧ prtF (cycs p N) x = c := by
  have hh := head_lt hD.le hp hc
  have h := cyTo_inv hD.le hp N (Nat.le_refl _)
  refine ⟨_, hh.1, ?_⟩
  rw [show prtF (cycs p N) (((cycs p N).getD c []).getD 0 0) = clsF (cycs p N) (((cycs p N).getD c []).getD 0 0) from (pt_end hD.le hp hh.1).1]
  exact cls_of h.uniq (getD_mem hh.2)
theorem qu_perm (hD : Des N b w) (hp : Perm N p) {v : Nat → Nat} (hv : Perm N v) (hc : ∀ x, x < N → p (v x) = v (p x)) : Perm (cycs p N).length (fillF (hdQ (cycs p N) v) (cycs p N).length) := by
  have hon : ∀ c, c < (cycs p N).length → ∃ d, d < (cycs p N).length ∧ fillF (hdQ (cycs p N) v) (cycs p N).length d = c := fun c h => by
    obtain ⟨x, hx, rfl⟩ := prt_onto hD hp h
    obtain ⟨u, hu, rfl⟩ := perm_surj hD.le hv hx
    exact ⟨_, prt_lt hD.le hp hu, (prt_eqv hD hp hv.lt hc hu).symm⟩
  refine ⟨fun d hd => ?_, inj_of_onto hon⟩
  obtain ⟨x, hx, rfl⟩ := prt_onto hD hp hd
  rw [← prt_eqv hD hp hv.lt hc hx]
  exact prt_lt hD.le hp (hv.lt x hx)
theorem qu_des (hD : Des N b w) (hp : Perm N p) (he : Eqv N b w b w p) : Des (cycs p N).length (fillF (hdQ (cycs p N) b) (cycs p N).length) (fillF (hdQ (cycs p N) w) (cycs p N).length) := by
  have hN := hD.le
  have h0 := prt_lt hN hp (show 0 < N from hD.pos)
  have hlen : (cycs p N).length ≤ N := cyTo_len p N
  refine des_mk (by omega) (by omega) (qu_perm hD hp hD.pb fun x hx => (he x hx).1) (qu_perm hD hp hD.pw fun x hx => (he x hx).2) fun S h0' hS z hz => ?_
  obtain ⟨x0, hx0, e0⟩ := prt_onto hD hp (show 0 < (cycs p N).length by omega)
  obtain ⟨x, hx, rfl⟩ := prt_onto hD hp hz
  refine des_all hD hx0 (S := fun x => S (prtF (cycs p N) x)) (by rw [e0]; exact h0') (fun y hy hSy => ?_) hx
  have := hS _ (prt_lt hN hp hy) hSy
  exact ⟨by show S (prtF (cycs p N) (b y)); rw [prt_eqv hD hp hD.pb.lt (fun x hx => (he x hx).1) hy]; exact this.1, by show S (prtF (cycs p N) (w y)); rw [prt_eqv hD hp hD.pw.lt (fun x hx => (he x hx).2) hy]; exact this.2⟩
theorem qu_eqv (hD : Des N b w) (hp : Perm N p) (he : Eqv N b w b w p) : Eqv N b w (fillF (hdQ (cycs p N) b) (cycs p N).length) (fillF (hdQ (cycs p N) w) (cycs p N).length) (prtF (cycs p N)) :=
  fun x hx => ⟨prt_eqv hD hp hD.pb.lt (fun x hx => (he x hx).1) hx, prt_eqv hD hp hD.pw.lt (fun x hx => (he x hx).2) hx⟩
end
end Go.Proofs.Ythjnmlpibafbnaa
