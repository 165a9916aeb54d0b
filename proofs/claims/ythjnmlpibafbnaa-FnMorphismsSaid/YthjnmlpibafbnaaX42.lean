import Derived.Test.YthjnmlpibafbnaaX110
import Derived.Test.YthjnmlpibafbnaaD37
import Derived.Test.YthjnmlpibafbnaaX14
import Derived.Test.YthjnmlpibafbnaaL37
import Derived.Test.YthjnmlpibafbnaaD35
import Derived.Test.YthjnmlpibafbnaaShelf
import Derived.Test.YthjnmlpibafbnaaL3
import Derived.Test.YthjnmlpibafbnaaD30
import Derived.Sort.OwnSortedInts
import Derived.Test.YthjnmlpibafbnaaL21
import Derived.Test.YthjnmlpibafbnaaL9
namespace Go.Proofs.Ythjnmlpibafbnaa
open Go.RowKit DM
set_option linter.unusedSimpArgs false
set_option linter.unusedVariables false
set_option maxRecDepth 100000
set_option maxHeartbeats 1000000
def stT (Q : List (Nat × Nat)) (p q : Nat → Nat) : Nat → Nat → Nat
  | 0 => fun _ => 0
  | k + 1 => up (stT Q p q k) k (ixP Q (stP p q (Q.getD k (0, 0))))
noncomputable def paR (n : Int) (b w : Nat → Nat) (n' : Int) (b' w' : Nat → Nat) (x y : Int) : Dat :=
  bif desB n b w && desB n' b' w' then
    bif (decide (0 ≤ x) && decide (x < n)) && (decide (0 ≤ y) && decide (y < n')) then
      bif decide (16 < (prQ (stP b b') (stP w w') (x.toNat, y.toNat)).length) then t2 (ds_ 0 (fun _ => 0) (fun _ => 0)) (.i .i64 3)
      else t2 (ds_ (prQ (stP b b') (stP w w') (x.toNat, y.toNat)).length (stT (prQ (stP b b') (stP w w') (x.toNat, y.toNat)) b b' (prQ (stP b b') (stP w w') (x.toNat, y.toNat)).length) (stT (prQ (stP b b') (stP w w') (x.toNat, y.toNat)) w w' (prQ (stP b b') (stP w w') (x.toNat, y.toNat)).length)) (.i .i64 0)
    else t2 (ds_ 0 (fun _ => 0) (fun _ => 0)) (.i .i64 2)
  else t2 (ds_ 0 (fun _ => 0) (fun _ => 0)) (.i .i64 1)
theorem implProductAt_fn (n : Int) (b w : Nat → Nat) (n' : Int) (b' w' : Nat → Nat) (x y : Int) (hb : ∀ i, b i < 256) (hw : ∀ i, w i < 256) (hb' : ∀ i, b' i < 256) (hw' : ∀ i, w' i < 256) : FnP Try.prog 14 [ds_ n b w, ds_ n' b' w', .i .i64 x, .i .i64 y] (paR n b w n' b' w' x y) := by
  have bad : ∀ c : Int, t2 (ds_ 0 (fun _ => 0) (fun _ => 0)) (.i .i64 c) = t2 (ds_ 0 (fun _ => 0) (fun _ => 0)) (.i .i64 c) := fun _ => rfl
  refine FnS.into T tok Try.func14 (by rfl) rfl rfl rfl (by simp) ?_
  refine rS ?_
  refine WP.seq ?_
  cases hc : desB n b w
  · have e : paR n b w n' b' w' x y = t2 (ds_ 0 (fun _ => 0) (fun _ => 0)) (.i .i64 1) := by unfold paR; rw [hc]; rfl
    refine WP.block ?_
    refine WP.rw ?_
    refine rU 1 ?_
    refine cA (hc ▸ implIsDessin_fn n b w hb hw) ?_
    refine rF ?_
    refine WP.cond (by rfl) (fun h => ?_) (fun h => ?_)
    · refine rS ?_
      rw [e]
      exact WP.ret (Ends.val (by rfl) (by exact byObl) (by exact congrArg (t2 · _) (dsf_of rfl rfl rfl fun _ => rfl)) (by exact sc_t2 (sc_ds _ _ _ _) trivial))
    · cases h
  cases hc' : desB n' b' w'
  · have e : paR n b w n' b' w' x y = t2 (ds_ 0 (fun _ => 0) (fun _ => 0)) (.i .i64 1) := by unfold paR; rw [hc, hc']; rfl
    refine WP.block ?_
    refine WP.rw ?_
    refine rU 1 ?_
    refine cA (hc ▸ implIsDessin_fn n b w hb hw) ?_
    refine rU 3 ?_
    refine cA (hc' ▸ implIsDessin_fn n' b' w' hb' hw') ?_
    refine rF ?_
    refine WP.cond (by rfl) (fun h => ?_) (fun h => ?_)
    · refine rS ?_
      rw [e]
      exact WP.ret (Ends.val (by rfl) (by exact byObl) (by exact congrArg (t2 · _) (dsf_of rfl rfl rfl fun _ => rfl)) (by exact sc_t2 (sc_ds _ _ _ _) trivial))
    · cases h
  obtain ⟨N, rfl, hD⟩ := des_of_B hc
  obtain ⟨M, rfl, hE⟩ := des_of_B hc'
  refine WP.block ?_
  refine WP.rw ?_
  refine rU 1 ?_
  refine cA (hc ▸ implIsDessin_fn N b w hb hw) ?_
  refine rU 3 ?_
  refine cA (hc' ▸ implIsDessin_fn M b' w' hb' hw') ?_
  refine rF ?_
  refine WP.cond (by rfl) (fun h => ?_) (fun h => ?_)
  · cases h
  clear h
  refine WP.rw ?_
  refine rU 3 ?_
  refine cR [3] (isDart1_fn N b w x) (LeAll.cons (by rfl) (by first | with_reducible exact Root.Le.refl _ | with_reducible exact le_dead | (exact le_frz (Nat.le_refl _) (fun j hj => by obtain rfl : j = 0 := (by omega); rfl)) | exact byLeq) (by exact byCon) (leZ)) ?_
  cases hx : (decide (0 ≤ x) && decide (x < N))
  · have e : paR N b w M b' w' x y = t2 (ds_ 0 (fun _ => 0) (fun _ => 0)) (.i .i64 2) := by unfold paR; rw [hc, hc', hx]; rfl
    refine rF ?_
    refine WP.cond (by rfl) (fun h => ?_) (fun h => ?_)
    · refine rS ?_
      rw [e]
      exact WP.ret (Ends.val (by rfl) (by exact byObl) (by exact congrArg (t2 · _) (dsf_of rfl rfl rfl fun _ => rfl)) (by exact sc_t2 (sc_ds _ _ _ _) trivial))
    · cases h
  refine rU 5 ?_
  refine cR [4] (isDart1_fn M b' w' y) (LeAll.cons (by rfl) (by first | with_reducible exact Root.Le.refl _ | with_reducible exact le_dead | (exact le_frz (Nat.le_refl _) (fun j hj => by obtain rfl : j = 0 := (by omega); rfl)) | exact byLeq) (by exact byCon) (leZ)) ?_
  cases hy : (decide (0 ≤ y) && decide (y < M))
  · have e : paR N b w M b' w' x y = t2 (ds_ 0 (fun _ => 0) (fun _ => 0)) (.i .i64 2) := by unfold paR; rw [hc, hc', hx, hy]; rfl
    refine rF ?_
    refine WP.cond (by rfl) (fun h => ?_) (fun h => ?_)
    · refine rS ?_
      rw [e]
      exact WP.ret (Ends.val (by rfl) (by exact byObl) (by exact congrArg (t2 · _) (dsf_of rfl rfl rfl fun _ => rfl)) (by exact sc_t2 (sc_ds _ _ _ _) trivial))
    · cases h
  refine rF ?_
  refine WP.cond (by rfl) (fun h => ?_) (fun h => ?_)
  · cases h
  clear h
  refine WP.skip ?_
  simp only [Bool.and_eq_true, decide_eq_true_eq] at hx hy
  obtain ⟨X, rfl⟩ : ∃ X : Nat, x = X := ⟨x.toNat, by omega⟩
  obtain ⟨Y, rfl⟩ : ∃ Y : Nat, y = Y := ⟨y.toNat, by omega⟩
  have hX : X < N := by omega
  have hY : Y < M := by omega
  have hN := hD.le
  have hM := hE.le
  have hpf := pairsFrom_fn N M b w b' w' (X, Y) hN hM ⟨hX, hY⟩ hD.pb.lt hD.pw.lt hE.pb.lt hE.pw.lt
  obtain ⟨hI, hz, hcl⟩ := prQ_ok hN hM (f := stP b b') (g := stP w w') (z := (X, Y)) (fun z hz => ⟨hD.pb.lt _ hz.1, hE.pb.lt _ hz.2⟩) (fun z hz => ⟨hD.pw.lt _ hz.1, hE.pw.lt _ hz.2⟩) ⟨hX, hY⟩
  have e : paR N b w M b' w' X Y = bif decide (16 < (prQ (stP b b') (stP w w') (X, Y)).length) then t2 (ds_ 0 (fun _ => 0) (fun _ => 0)) (.i .i64 3) else t2 (ds_ (prQ (stP b b') (stP w w') (X, Y)).length (stT (prQ (stP b b') (stP w w') (X, Y)) b b' (prQ (stP b b') (stP w w') (X, Y)).length) (stT (prQ (stP b b') (stP w w') (X, Y)) w w' (prQ (stP b b') (stP w w') (X, Y)).length)) (.i .i64 0) := by
    unfold paR
    rw [hc, hc', show (decide ((0 : Int) ≤ X) && decide ((X : Int) < N)) = true from by simp; omega, show (decide ((0 : Int) ≤ Y) && decide ((Y : Int) < M)) = true from by simp; omega]
    rfl
  have hQl := hI.le hN hM
  generalize prQ (stP b b') (stP w w') (X, Y) = Q at *
  refine WP.rw ?_
  refine rU 7 ?_
  refine WPL.callN [] (.sl 5 0 Q.length 2) (hpf) leZ (by rfl) (by rfl) (by exact byArgs) (by rfl) (by rfl) (by simp [Sc, sc_pl, sc_ds]; exact fun i _ => sc_prU _ _ i) (by exact byAllc) (rfl) (by exact bySc) rfl ?_
  refine rF ?_
  refine WP.seq ?_
  refine rS ?_
  cases hq : decide (16 < Q.length)
  · have hq16 : Q.length ≤ 16 := by have := of_decide_eq_false hq; omega
    rw [hq] at e
    refine WP.cond (by rfl) (fun h => ?_) (fun h => ?_)
    · have h := of_decide_eq_true h
      omega
    clear h
    refine WP.skip ?_
    refine rS ?_
    refine WP.seq ?_
    refine rS ?_
    refine WP.block ?_
    refine WP.loopH (⟨fun k : Nat => k ≤ Q.length, fun k => [(4, .p 0 [] 0), (5, .p 1 [] 0), (8, .p 2 [] 0), (9, .i .i64 0), (10, .sl 3 0 Q.length 2), (11, .p 4 [] 0), (54, .sl 3 0 Q.length 2), (55, .i .i64 (Q.length : Int)), (56, .i .i64 (k : Int))], fun k => [.var (ds_ N b w), .var (ds_ M b' w'), .var (ds_ 0 (fun _ => 0) (fun _ => 0)), .ro Q.length 2 (prUF Q), .var (ds_ Q.length (stT Q b b' k) (stT Q w w' k))], fun k => Q.length - k⟩) (0) (Nat.zero_le _) (gC [0, 1, 2, 5, 6] (leC (leC (leC (leC (leC leZ)))))) ?_
    intro k hk
    dsimp only at hk
    dsimp only [Hd.at]
    refine rS ?_
    refine WP.seq ?_
    refine WP.cond (by rfl) (fun hc => WP.skip ?_) (fun hc => WP.exit ?_)
    · have hk : k < Q.length := by have := of_decide_eq_true hc; omega
      clear hc
      have hsp := stepPair_fn N M b w b' w' (Q.getD k (0, 0)) hN hM (hI.get hk)
      have hmem : Q.getD k (0, 0) ∈ Q := by
        rw [List.getD_eq_getElem?_getD, List.getElem?_eq_getElem hk]; exact List.getElem_mem hk
      obtain ⟨ha, hc⟩ := hcl _ hmem
      have hia := slicesIndex_fn Q (stP b b' (Q.getD k (0, 0))) hI.nodup ha (by omega)
      have hic := slicesIndex_fn Q (stP w w' (Q.getD k (0, 0))) hI.nodup hc (by omega)
      have hal := ixP_lt ha
      have hcl' := ixP_lt hc
      refine WP.seq (WP.block ?_)
      refine rS ?_
      refine WP.rw ?_
      refine rU 3 ?_
      refine WPL.call (hsp) (by rfl) (by rfl) (by rfl) (by simp [Sc, sc_pl, sc_ds, pl_ne, ds_ne]; exact fun i _ => sc_prU _ _ i) ?_
      refine rF ?_
      refine WP.rw ?_
      refine rU 4 ?_
      refine WPL.callR [3] (hia) (by rfl) (leC leZ) (by exact byArgs) (by rfl) (by rfl) (by simp [Sc, sc_pl, sc_ds]; exact fun i _ => sc_prU _ _ i) ?_
      refine rF ?_
      refine WP.mem (by simp only [upd, pl, dsf, cast1, Int.toNat_natCast, fup_u8, fup_b, fup_i64, dsf_up0, dsf_up1, dsf_up2]; rfl) ?_
      refine WP.region ?_
      refine rU 4 ?_
      refine WPL.callR [3] (hic) (by rfl) (leC leZ) (by exact byArgs) (by rfl) (by rfl) (by simp [Sc, sc_pl, sc_ds]; exact fun i _ => sc_prU _ _ i) ?_
      refine rF ?_
      refine rE ?_
      refine Again.next (k + 1) (gC [0, 1, 2, 3, 4] (leC (leC (leC (leC (leC leZ)))))) (hk) (by dsimp only; omega)
    · have hk : k = Q.length := by have := of_decide_eq_false hc; omega
      subst hk
      rw [e]
      refine rS ?_
      exact WP.ret (Ends.val (by rfl) (by exact byObl) (by rfl) (by exact sc_t2 (sc_ds _ _ _ _) trivial))
  · rw [hq] at e
    refine WP.cond (by rfl) (fun h => ?_) (fun h => ?_)
    · refine rS ?_
      rw [e]
      exact WP.ret (Ends.val (by rfl) (by exact byObl) (by exact congrArg (t2 · _) (dsf_of rfl rfl rfl fun _ => rfl)) (by exact sc_t2 (sc_ds _ _ _ _) trivial))
    · have h := of_decide_eq_false h
      have := of_decide_eq_true hq
      omega
end Go.Proofs.Ythjnmlpibafbnaa

namespace Go.Proofs.Ythjnmlpibafbnaa
open Go.RowKit DM
set_option linter.unusedVariables false
set_option linter.unusedSimpArgs false
theorem putS_mem {S : List (Nat × Nat)} {a z : Nat × Nat} : z ∈ putS S a ↔ z = a ∨ z ∈ S := by
  unfold putS
  split
  · rename_i h; exact ⟨.inr, fun h2 => h2.elim (fun e => e ▸ h) id⟩
  · simp [or_comm]
def mkS (S Q : List (Nat × Nat)) (k : Nat) : List (Nat × Nat) := (Q.take k).foldl putS S
theorem mkS_succ (S Q : List (Nat × Nat)) {k : Nat} (hk : k < Q.length) : mkS S Q (k + 1) = putS (mkS S Q k) (Q.getD k (0, 0)) := by
  unfold mkS
  rw [List.take_add_one, List.getElem?_eq_getElem hk, List.getD_eq_getElem?_getD, List.getElem?_eq_getElem hk]
  simp only [Option.toList_some, List.foldl_append, List.foldl_cons, List.foldl_nil, Option.getD_some]
abbrev SzT := List (Nat × Nat) × List Nat
def szSt (q : Nat × Nat → List (Nat × Nat)) (s : SzT) (z : Nat × Nat) : SzT := if z ∈ s.1 then s else (mkS s.1 (q z) (q z).length, s.2 ++ [(q z).length])
def szRow (q : Nat × Nat → List (Nat × Nat)) (x : Nat) (s : SzT) : Nat → SzT
  | 0 => s
  | y + 1 => szSt q (szRow q x s y) (x, y)
def szAll (q : Nat × Nat → List (Nat × Nat)) (M : Nat) : Nat → SzT
  | 0 => ([], [])
  | x + 1 => szRow q x (szAll q M x) M
theorem szSt_len (q : Nat × Nat → List (Nat × Nat)) (s : SzT) (z : Nat × Nat) : (szSt q s z).2.length ≤ s.2.length + 1 := by unfold szSt; split <;> simp
theorem szRow_len (q : Nat × Nat → List (Nat × Nat)) (x : Nat) (s : SzT) : ∀ y, (szRow q x s y).2.length ≤ s.2.length + y
  | 0 => Nat.le_refl _
  | y + 1 => by
    have h1 := szRow_len q x s y
    have h2 := szSt_len q (szRow q x s y) (x, y)
    simp only [szRow]; omega
theorem szAll_len (q : Nat × Nat → List (Nat × Nat)) (M : Nat) : ∀ x, (szAll q M x).2.length ≤ x * M
  | 0 => by simp [szAll]
  | x + 1 => by
    have h1 := szAll_len q M x
    have h2 := szRow_len q x (szAll q M x) M
    simp only [szAll]; rw [Nat.add_mul]; omega
theorem sz_len256 (q : Nat × Nat → List (Nat × Nat)) {M x y : Nat} (hM : M ≤ 16) (hx : x < 16) (hy : y ≤ M) : (szRow q x (szAll q M x) y).2.length ≤ 256 := by
  have h1 := szAll_len q M x
  have h2 := szRow_len q x (szAll q M x) y
  have h3 : x * M ≤ 15 * 16 := Nat.mul_le_mul (by omega) hM
  omega
theorem sz_len (q : Nat × Nat → List (Nat × Nat)) {M x : Nat} (hM : M ≤ 16) (hx : x ≤ 16) : (szAll q M x).2.length ≤ 256 := by
  have h1 := szAll_len q M x
  have h3 : x * M ≤ 16 * 16 := Nat.mul_le_mul (by omega) hM
  omega
def atN (v : Nat) : List Nat → Nat
  | [] => 0
  | a :: L => if a < v then atN v L + 1 else 0
theorem atN_le (v : Nat) : ∀ L, atN v L ≤ L.length
  | [] => Nat.le_refl _
  | a :: L => by
    have := atN_le v L
    simp only [atN, List.length_cons]
    split <;> omega
theorem atN_lt (v : Nat) : ∀ {L : List Nat} {j : Nat}, j < atN v L → L.getD j 0 < v
  | [], j, h => by simp [atN] at h
  | a :: L, j, h => by
    simp only [atN] at h
    split at h
    · rename_i h1
      cases j with
      | zero => exact h1
      | succ j => exact atN_lt v (L := L) (by omega)
    · omega
theorem atN_at (v : Nat) : ∀ {L : List Nat}, atN v L < L.length → ¬ L.getD (atN v L) 0 < v
  | [], h => by simp [atN] at h
  | a :: L, h => by
    simp only [atN] at h ⊢
    split
    · rename_i h1
      rw [if_pos h1] at h
      exact atN_at v (L := L) (by simpa using h)
    · rename_i h1; exact h1
theorem atN_eq {v : Nat} {L : List Nat} {k : Nat} (hk : k ≤ L.length) (h1 : ∀ j, j < k → L.getD j 0 < v) (h2 : k < L.length → ¬ L.getD k 0 < v) : k = atN v L := by
  rcases Nat.lt_trichotomy k (atN v L) with h | h | h
  · exact absurd (atN_lt v h) (h2 (Nat.lt_of_lt_of_le h (atN_le v L)))
  · exact h
  · exact absurd (h1 _ h) (atN_at v (by omega))
def insN (v : Nat) (L : List Nat) : List Nat := L.take (atN v L) ++ v :: L.drop (atN v L)
theorem srtN_sorted (l : List Nat) : (srtN l).Pairwise fun x y => x ≤ y := by
  have := List.pairwise_mergeSort (le := fun x y : Nat => decide (x ≤ y)) (fun a b c h1 h2 => by simp at *; omega) (fun a b => by simp; omega) l
  exact this.imp fun h => of_decide_eq_true h
theorem insN_perm (v : Nat) (L : List Nat) : (insN v L).Perm (L ++ [v]) := by
  unfold insN
  refine List.perm_middle.trans ?_
  rw [List.take_append_drop]
  exact (List.perm_append_comm (l₁ := [v]) (l₂ := L))
theorem insN_sorted (v : Nat) : ∀ {L : List Nat}, L.Pairwise (fun x y => x ≤ y) → (insN v L).Pairwise fun x y => x ≤ y
  | [], _ => by simp [insN, atN]
  | a :: L, h => by
    obtain ⟨h1, h2⟩ := List.pairwise_cons.1 h
    by_cases hc : a < v
    · have e : insN v (a :: L) = a :: insN v L := by simp [insN, atN, hc]
      rw [e]
      refine List.pairwise_cons.2 ⟨fun x hx => ?_, insN_sorted v h2⟩
      have hx := (insN_perm v L).mem_iff.1 hx
      rcases List.mem_append.1 hx with hx | hx
      · exact h1 x hx
      · rw [List.mem_singleton] at hx; omega
    · have e : insN v (a :: L) = v :: a :: L := by simp [insN, atN, hc]
      rw [e]
      refine List.pairwise_cons.2 ⟨fun x hx => ?_, h⟩
      rcases List.mem_cons.1 hx with rfl | hx
      · omega
      · have := h1 x hx; omega
theorem insN_srt (v : Nat) (l : List Nat) : insN v (srtN l) = srtN (l ++ [v]) := by
  refine List.Perm.eq_of_pairwise (le := fun x y => x ≤ y) (fun a b _ _ h1 h2 => Nat.le_antisymm h1 h2) (insN_sorted v (srtN_sorted l)) (srtN_sorted _) ?_
  refine (insN_perm v _).trans (List.Perm.trans ?_ (List.mergeSort_perm _ _).symm)
  exact List.Perm.append_right _ (List.mergeSort_perm _ _)
end Go.Proofs.Ythjnmlpibafbnaa

namespace Go.Proofs.Ythjnmlpibafbnaa
open Go.RowKit DM Go.Sort
set_option linter.unusedSimpArgs false
set_option linter.unusedVariables false
set_option maxRecDepth 100000
set_option maxHeartbeats 1000000
def zI (zs : List Int) (j : Nat) : Int := zs.getD j 0
def srt (zs : List Int) : List Int := zs.mergeSort fun x y => decide (x ≤ y)
theorem map_zI (zs : List Int) : (List.range zs.length).map (fun j => Value.int .i64 (zI zs j)) = zs.map (Value.int .i64) := by
  apply List.ext_getElem (by simp)
  intro i h1 h2
  simp at h1
  simp [zI, List.getD_eq_getElem?_getD, List.getElem?_eq_getElem h1]
theorem srt_len (zs : List Int) : (srt zs).length = zs.length := (List.mergeSort_perm _ _).length_eq
theorem slicesSort_fn (zs : List Int) (hl : zs.length ≤ 65536) : FnS Try.prog 44 [.sl 0 0 zs.length 1] [.row 2 zs.length 1 (intD (zI zs))] (fun r m' => r = .tup 0 (fun _ => .un) ∧ m' = [.row 2 zs.length 1 (intD (zI (srt zs)))]) := by
  refine FnS.turner (callFunc_run Try.func44 rfl rfl) fun w b cap cur hb hcap hmax hsz htk => ?_
  rw [map_zI] at htk
  have hlt : b < w.heap.size := (Array.getElem?_eq_some_iff.1 hb).1
  have hcall := AnyG.slices_Sort_int Try.lays53 b 0 cap zs w (holds_of_blockI hb htk) hlt (by omega)
  change Calls Try.prog 44 _ _ _ at hcall
  refine hcall.mono ?_
  rintro e' w' ⟨rfl, n, os, rfl⟩
  have e := srt_len zs
  have h2 := take_putCellsI cur (srt zs) (by omega)
  have h3 := map_zI (srt zs)
  rw [e] at h2 h3
  exact ⟨rfl, grownBy_sortedI _, Nat.le_add_right _ _, _, heap_sortedI _ hb, by simp [Sort.putCells], by rw [h3]; exact h2⟩
end Go.Proofs.Ythjnmlpibafbnaa
namespace Go.Proofs.Ythjnmlpibafbnaa
open Go.RowKit DM
set_option linter.unusedSimpArgs false
set_option linter.unusedVariables false
set_option maxRecDepth 100000
set_option maxHeartbeats 1000000
theorem numsF_int (l : List Nat) : intD (zI (l.map fun x : Nat => (x : Int))) = numsF l := by
  funext j
  unfold intD zI numsF
  congr 1
  simp only [List.getD_eq_getElem?_getD, List.getElem?_map]
  cases l[j]? <;> rfl
theorem srt_nat (l : List Nat) : srt (l.map fun x : Nat => (x : Int)) = (srtN l).map fun x : Nat => (x : Int) := by
  unfold srt srtN
  rw [List.map_mergeSort (s := fun x y : Int => decide (x ≤ y))]
  intro a _ b _
  simp
theorem sortN_fn (l : List Nat) (hl : l.length ≤ 65536) : FnS Try.prog 44 [.sl 0 0 l.length 1] [.row 2 l.length 1 (numsF l)] (fun r m' => r = .tup 0 (fun _ => .un) ∧ m' = [.row 2 l.length 1 (numsF (srtN l))]) := by
  have h := slicesSort_fn (l.map fun x : Nat => (x : Int)) (by simpa using hl)
  rw [numsF_int, srt_nat, numsF_int, List.length_map] at h
  exact h
end Go.Proofs.Ythjnmlpibafbnaa
namespace Go.Proofs.Ythjnmlpibafbnaa
open Go.RowKit DM
set_option linter.unusedSimpArgs false
set_option linter.unusedVariables false
set_option maxRecDepth 100000
set_option maxHeartbeats 1000000
end Go.Proofs.Ythjnmlpibafbnaa
