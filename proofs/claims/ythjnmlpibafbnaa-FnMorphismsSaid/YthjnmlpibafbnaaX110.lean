import Derived.Test.YthjnmlpibafbnaaL37
import Derived.Test.YthjnmlpibafbnaaL38
import Derived.Test.YthjnmlpibafbnaaD35
import Derived.Test.YthjnmlpibafbnaaL3
namespace Go.Proofs.Ythjnmlpibafbnaa
open Go.RowKit DM
set_option linter.unusedSimpArgs false
set_option linter.unusedVariables false
set_option maxRecDepth 100000
set_option maxHeartbeats 1000000
theorem stepPair_fn (N M : Nat) (b w b' w' : Nat → Nat) (z : Nat × Nat) (hN : N ≤ 16) (hM : M ≤ 16) (hz : z.1 < N ∧ z.2 < M) : FnP Try.prog 40 [ds_ N b w, ds_ M b' w', .ar 2 1 (prU z)] (.ar 2 2 (qrU (stP b b' z) (stP w w' z))) := by
  refine FnS.into T tok Try.func40 (by rfl) rfl rfl rfl (by simp) ?_
  refine rS ?_
  refine WP.seq ?_
  refine WP.da (by kernel_rfl) 23 (by kernel_rfl) ?_
  refine WA.takes T false tok [0, 1, 2, 3, 4, 5, 6, 7] (f' := 16) (by kernel_rfl) (by rfl) (by rfl) (by rfl) (by exact byObl) (by rfl) (by rfl) ?_
  refine WA.takes T false tok [8, 9, 10, 11, 12, 13, 14, 15] (f' := 8) (by kernel_rfl) (by rfl) (by rfl) (by rfl) (by exact byObl) (by rfl) (by rfl) ?_
  refine WA.takes T false tok [16, 17, 18, 19, 20, 21, 22] (f' := 1) (by kernel_rfl) (by rfl) (by rfl) (by rfl) (by exact byObl) (by rfl) (by rfl) ?_
  refine WA.tail (by rfl) (by rfl) (by kernel_rfl) ?_
  refine rF ?_
  refine noPan ?_
  exact WP.ret (Ends.val (by rfl) (by exact ⟨rfl, pl_qrU (stP b b' z) (stP w w' z)⟩) (by rfl) (by exact sc_qrU _ _ _))
theorem slicesIndex_fn (Q : List (Nat × Nat)) (y : Nat × Nat) (hd : Q.Nodup) (hy : y ∈ Q) (hl : Q.length ≤ 65536) : FnR Try.prog 41 [.sl 0 0 Q.length 2, .ar 2 1 (prU y)] [.ro Q.length 2 (prUF Q)] (.i .i64 ((ixP Q y : Nat) : Int)) := by
  refine FnS.into T tok Try.func41 (by rfl) rfl rfl rfl (by simp) ?_
  refine rS ?_
  refine WP.seq ?_
  refine rS ?_
  refine WP.block ?_
  refine WP.loopH (⟨fun i : Nat => i ≤ Q.length ∧ ∀ j, j < i → Q.getD j (0, 0) ≠ y, fun i => [(0, .sl 0 0 Q.length 2), (3, .p 1 [] 0), (4, .i .i64 0), (7, .i .i64 (Q.length : Int)), (8, .i .i64 (i : Int))], fun i => [.ro Q.length 2 (prUF Q), .var (.ar 2 1 (prU y))], fun i => Q.length - i⟩) (0) (⟨Nat.zero_le _, fun j hj => absurd hj (Nat.not_lt_zero _)⟩) (gC [0, 1] (leC (leC leZ))) ?_
  intro i hi
  dsimp only at hi
  dsimp only [Hd.at]
  obtain ⟨hi1, hi2⟩ := hi
  refine rS ?_
  refine WP.seq ?_
  refine WP.cond (by rfl) (fun hc => WP.skip ?_) (fun hc => WP.exit ?_)
  · have hi : i < Q.length := by have := of_decide_eq_true hc; omega
    clear hc
    refine WP.seq (WP.block ?_)
    refine rS ?_
    refine WP.seq ?_
    refine WP.drawsQ (by kernel_rfl) (by kernel_rfl) ?_
    refine WQ.fin T false tok (by rfl) (by rfl) (by exact byObl) ?_
    have hrd : addrAt 0 ((i : Int)).toNat = i := by rw [addrAt0]; omega
    refine WP.cond (by rfl) (fun h => ?_) (fun h => ?_)
    · have h : Q.getD i (0, 0) = y := by
        rw [hrd] at h
        simp only [Bool.and_eq_true, decide_eq_true_eq, and_true] at h
        exact Prod.ext (by omega) (by omega)
      have e : ixP Q y = i := by rw [← h]; exact ixP_get hd hi
      rw [e]
      refine rS ?_
      exact WP.ret (Ends.val (by rfl) (by exact byObl) (by rfl) (by trivial))
    · have h : Q.getD i (0, 0) ≠ y := fun e => by
        rw [hrd, e] at h
        simp at h
      refine WP.skip ?_
      refine rE ?_
      refine Again.next (i + 1) (gC [0, 1] (leC (leC leZ))) (⟨hi, fun j hj => by
        by_cases e : j = i
        · subst e; exact h
        · exact hi2 j (by omega)⟩) (by dsimp only; omega)
  · have hi : i = Q.length := by have := of_decide_eq_false hc; omega
    subst hi
    obtain ⟨j, hj, e⟩ := List.getElem_of_mem hy
    refine absurd ?_ (hi2 j hj)
    rw [List.getD_eq_getElem?_getD, List.getElem?_eq_getElem hj]
    exact e
def kyP (p : Nat × Nat) : Dat := .ar 2 1 (prU p)
theorem key_pair : KeyOK Try.prog T 67 kyP where
  ok := fun a => ⟨wf_prUv a, pl_prUv a⟩
  sc := fun a => sc_prUv 0 a
  eq := fun a b => by
    have h : eqD T 6 67 (kyP a) (kyP b) = some (decide ((a.1 : Int) = b.1) && (decide ((a.2 : Int) = b.2) && true)) := rfl
    rw [h]
    congr 1
    by_cases h1 : a = b
    · subst h1; simp
    · rw [decide_eq_false h1]
      by_cases h2 : (a.1 : Int) = b.1
      · by_cases h3 : (a.2 : Int) = b.2
        · exact absurd (Prod.ext (by omega) (by omega)) h1
        · rw [decide_eq_false h3]; simp
      · rw [decide_eq_false h2]; rfl
  arr := ⟨_, _, Try.underlying67⟩
  chk := fun em a w => by
    have he : enc noR (kyP a) = .agg #[.int .u8 (a.1 : Int), .int .u8 (a.2 : Int)] := rfl
    rw [he]
    have hin : ∀ v : Value, (∃ x, v = .int .u8 x) → ∀ w, (Instr.checkKey em 9999 5 v).run Try.prog w = .ok () w := fun v ⟨x, e⟩ w => by
      subst e
      unfold Instr.checkKey
      rw [Sem.run_bind, run_underlying Try.underlying5 w]
      rfl
    have hp : ∀ k v, (#[Value.int .u8 (a.1 : Int), .int .u8 (a.2 : Int)] : Array Value)[k]? = some v → ∀ w, (part 5 #[Value.int .u8 (a.1 : Int), .int .u8 (a.2 : Int)] k).run Try.prog w = .ok v w := fun k v hv w => by
      unfold part
      rw [Sem.run_bind, isAgg_run (tok 5 _ rfl)]
      simp only [Ty.agg, Result.andThen_ok, Bool.false_eq_true, if_false, hv]
      rfl
    have hs : ∀ w, (Go.sizeOf 5).run Try.prog w = .ok 1 w := fun w => sizeOf_run (tok 5 _ rfl) w
    unfold Instr.checkKey
    rw [Sem.run_bind, run_underlying Try.underlying67 w]
    simp only [Result.andThen_ok]
    rw [Std.Legacy.Range.forIn_eq_forIn_range']
    have e : List.range' ([:2] : Std.Legacy.Range).start ([:2] : Std.Legacy.Range).size ([:2] : Std.Legacy.Range).step = [0, 1] := rfl
    rw [e]
    simp only [List.forIn_cons, List.forIn_nil, Sem.run_bind, hs, Result.andThen_ok, Nat.mul_one]
    rw [hp 0 (.int .u8 (a.1 : Int)) rfl]
    simp only [Sem.run_bind, Result.andThen_ok]
    rw [hin _ ⟨_, rfl⟩]
    simp only [Sem.run_bind, Sem.run_pure, hs, Result.andThen_ok, Nat.mul_one]
    rw [hp 1 (.int .u8 (a.2 : Int)) rfl]
    simp only [Sem.run_bind, Result.andThen_ok]
    rw [hin _ ⟨_, rfl⟩]
    rfl
  bits := fun a => by
    have he : enc noR (kyP a) = .agg #[.int .u8 (a.1 : Int), .int .u8 (a.2 : Int)] := rfl
    rw [he]
    simp [Instr.sameBits]
theorem pairsFrom_fn (N M : Nat) (b w b' w' : Nat → Nat) (z : Nat × Nat) (hN : N ≤ 16) (hM : M ≤ 16) (hz : z.1 < N ∧ z.2 < M) (hb : ∀ i, i < N → b i < N) (hw : ∀ i, i < N → w i < N) (hb' : ∀ i, i < M → b' i < M) (hw' : ∀ i, i < M → w' i < M) :
    FnS Try.prog 39 [ds_ N b w, ds_ M b' w', .ar 2 1 (prU z)] [] (fun r m' => r = .sl 0 0 (prQ (stP b b') (stP w w') z).length 2 ∧ m' = [.row 67 (prQ (stP b b') (stP w w') z).length 2 (prUF (prQ (stP b b') (stP w w') z))]) := by
  have kf : KeepsP N M (stP b b') := fun y hy => ⟨hb _ hy.1, hb' _ hy.2⟩
  have kg : KeepsP N M (stP w w') := fun y hy => ⟨hw _ hy.1, hw' _ hy.2⟩
  refine FnS.intoN T tok Try.func39 (by rfl) rfl rfl rfl (by simp) ?_
  refine rS ?_
  refine WP.rw ?_
  refine WPL.mkMap rfl (by rfl) (by rfl) ?_
  intro mb
  refine rU 1 ?_
  refine WPL.op (by rfl) (by rfl) (map_put (a := z) (r := 3) (L := []) tok (.inr rfl) Try.underlying77 key_pair rfl rfl (by simp [kyP]) rfl rfl) ?_
  have e0 : putS ([] : List (Nat × Nat)) z = [z] := by simp [putS]
  rw [e0]
  refine rF ?_
  refine rS ?_
  refine WP.seq ?_
  refine rS ?_
  refine WP.block ?_
  refine WP.loopH (⟨fun s : Nat × List (Nat × Nat) => PInv N M s.2 ∧ s.1 ≤ s.2.length ∧ pres (stP b b') (stP w w') s.1 s.2 = prQ (stP b b') (stP w w') z, fun s => [(3, .p 0 [] 0), (4, .p 1 [] 0), (7, .mv mb), (8, .sl 3 0 s.2.length 2), (9, .i .i64 (s.1 : Int))], fun s => [.var (ds_ N b w), .var (ds_ M b' w'), .mp mb (entS kyP s.2), .row 67 s.2.length 2 (prUF s.2)], fun s => pmu s.1 s.2⟩) ((0, [z])) (⟨pinv_one hz, Nat.zero_le _, rfl⟩) (gC [0, 1, 3, 4] (LeAll.cons (by rfl) (by first | with_reducible exact Root.Le.refl _ | with_reducible exact le_dead | (exact le_row (Nat.le_refl _) (fun j hj => by obtain rfl : j = 0 := (by have : j < 1 := hj; omega); rfl)) | exact byLeq) (by exact byCon) (LeAll.cons (by rfl) (by first | with_reducible exact Root.Le.refl _ | with_reducible exact le_dead | (exact le_row (Nat.le_refl _) (fun j hj => by obtain rfl : j = 0 := (by have : j < 1 := hj; omega); rfl)) | exact byLeq) (by exact byCon) (LeAll.cons (by rfl) (by first | with_reducible exact Root.Le.refl _ | with_reducible exact le_dead | (exact le_row (Nat.le_refl _) (fun j hj => by obtain rfl : j = 0 := (by have : j < 1 := hj; omega); rfl)) | exact byLeq) (by exact byCon) (LeAll.cons (by rfl) (by first | with_reducible exact Root.Le.refl _ | with_reducible exact le_dead | (exact le_row (Nat.le_refl _) (fun j hj => by obtain rfl : j = 0 := (by have : j < 1 := hj; omega); rfl)) | exact byLeq) (by exact byCon) (leZ)))))) ?_
  rintro ⟨i, Q⟩ ⟨hI, hiQ, hR⟩
  simp only at hI hiQ hR
  dsimp only [Hd.at]
  have hQl := hI.le hN hM
  refine WP.seq ?_
  refine rS ?_
  refine WP.cond (by rfl) (fun hc => WP.skip ?_) (fun hc => WP.exit ?_)
  · have hi : i < Q.length := by have := of_decide_eq_true hc; omega
    clear hc
    obtain ⟨h1, h2, h3⟩ := pmu_round hN hM kf kg hI hi
    have h4 := pres_step hN hM kf kg hI hi
    have hsp := stepPair_fn N M b w b' w' (Q.getD i (0, 0)) hN hM (hI.get hi)
    have hQ1 := h1.le hN hM
    generalize stP b b' (Q.getD i (0, 0)) = a at *
    generalize stP w w' (Q.getD i (0, 0)) = c at *
    refine WP.seq (WP.block ?_)
    refine WP.seq ?_
    refine WP.drawsQ (by kernel_rfl) (by kernel_rfl) ?_
    refine WQ.run T false 6 tok (by rfl) (by rfl) (by exact byObl) ?_
    refine WQ.call (hsp) (by rfl) (by rfl) (by rfl) (by simp [Sc, sc_pl, sc_ds, pl_ne, ds_ne]; exact fun i _ => sc_prU 0 _ i) (⟨sc_qrU _ _ _, ok_qrU _ _⟩) ?_
    refine WQ.fin T false tok (by rfl) (by rfl) (by exact byObl) ?_
    refine WP.block ?_
    refine WP.loopH (⟨fun j : Nat => j ≤ 2, fun j => [(3, .p 0 [] 0), (4, .p 1 [] 0), (7, .mv mb), (8, .sl 3 0 (mid2 Q a c j).length 2), (9, .i .i64 (i : Int)), (29, .ar 2 2 (qrU a c)), (30, .i .i64 (j : Int))], fun j => [.var (ds_ N b w), .var (ds_ M b' w'), .mp mb (entS kyP (mid2 Q a c j)), .row 67 (mid2 Q a c j).length 2 (prUF (mid2 Q a c j))], fun j => 2 - j⟩) (0) (by omega) (gC [0, 1, 2, 3] (LeAll.cons (by rfl) (by first | with_reducible exact Root.Le.refl _ | with_reducible exact le_dead | (exact le_mp rfl) | exact byLeq) (by exact byCon) (LeAll.cons (by rfl) (by first | with_reducible exact Root.Le.refl _ | with_reducible exact le_dead | (exact le_mp rfl) | exact byLeq) (by exact byCon) (LeAll.cons (by rfl) (by first | with_reducible exact Root.Le.refl _ | with_reducible exact le_dead | (exact le_mp rfl) | exact byLeq) (by exact byCon) (LeAll.cons (by rfl) (by first | with_reducible exact Root.Le.refl _ | with_reducible exact le_dead | (exact le_mp rfl) | exact byLeq) (by exact byCon) (leZ)))))) ?_
    intro j hj
    dsimp only at hj
    dsimp only [Hd.at]
    refine rS ?_
    refine WP.seq ?_
    refine WP.cond (by rfl) (fun hc => WP.skip ?_) (fun hc => WP.exit ?_)
    · have hj : j < 2 := by have := of_decide_eq_true hc; omega
      clear hc
      obtain rfl | rfl : j = 0 ∨ j = 1 := by omega
      · have hq : mid2 Q a c 1 = if a ∈ mid2 Q a c 0 then mid2 Q a c 0 else mid2 Q a c 0 ++ [a] := rfl
        have hl : (mid2 Q a c 0).length ≤ 256 := hQl
        generalize mid2 Q a c = F at *
        refine WP.seq (WP.block ?_)
        refine rS ?_
        refine WP.rw ?_
        refine rU 2 ?_
        refine WPL.op (by rfl) (by rfl) (QOK.op (map_look (r := 2) (a := a) (L := F 0) tok rfl Try.underlying77 key_pair rfl rfl rfl rfl (by simp [kyP]) rfl)) ?_
        refine rF ?_
        by_cases hm : a ∈ F 0
        · rw [if_pos hm] at hq
          have hLen := congrArg List.length hq
          refine WP.cond (by rfl) (fun h => ?_) (fun h => ?_)
          · simp [hm] at h
          refine WP.skip ?_
          refine rE ?_
          refine Again.next (0 + 1) (gC [0, 1, 2, 3] (LeAll.cons (by rfl) (by first | with_reducible exact Root.Le.refl _ | with_reducible exact le_dead | (first | exact le_mp (by rw [hq]) | exact le_row (Nat.le_of_eq hLen) (fun j _ => by rw [hq])) | exact byLeq) (by exact byCon) (LeAll.cons (by rfl) (by first | with_reducible exact Root.Le.refl _ | with_reducible exact le_dead | (first | exact le_mp (by rw [hq]) | exact le_row (Nat.le_of_eq hLen) (fun j _ => by rw [hq])) | exact byLeq) (by exact byCon) (LeAll.cons (by rfl) (by first | with_reducible exact Root.Le.refl _ | with_reducible exact le_dead | (first | exact le_mp (by rw [hq]) | exact le_row (Nat.le_of_eq hLen) (fun j _ => by rw [hq])) | exact byLeq) (by exact byCon) (LeAll.cons (by rfl) (by first | with_reducible exact Root.Le.refl _ | with_reducible exact le_dead | (first | exact le_mp (by rw [hq]) | exact le_row (Nat.le_of_eq hLen) (fun j _ => by rw [hq])) | exact byLeq) (by exact byCon) (leZ)))))) (by omega) (by dsimp only; omega)
        · rw [if_neg hm] at hq
          have hLen : (F (0 + 1)).length = (F 0).length + 1 := by rw [hq]; simp
          refine WP.cond (by rfl) (fun h => ?_) (fun h => ?_)
          · refine WP.rw ?_
            refine rU 2 ?_
            refine WPL.op (by rfl) (by rfl) (map_put (r := 2) (a := a) (L := F 0) tok (.inl rfl) Try.underlying77 key_pair rfl rfl (by simp [kyP]) rfl rfl) ?_
            have e1 : putS (F 0) a = F (0 + 1) := by rw [hq]; exact if_neg hm
            rw [e1]
            refine WPL.nil ?_
            refine rE ?_
            refine rE ?_
            refine Again.next (0 + 1) (gC [0, 1, 2, 6] (LeAll.cons (by rfl) (by first | with_reducible exact Root.Le.refl _ | with_reducible exact le_dead | (first | exact le_mp rfl | exact le_row (Nat.le_of_eq hLen) (fun j hj => by rw [hq]; exact ap_prUF _ _ _ j (by have := Nat.lt_of_lt_of_le hj (Nat.le_of_eq hLen); omega))) | exact byLeq) (by exact byCon) (LeAll.cons (by rfl) (by first | with_reducible exact Root.Le.refl _ | with_reducible exact le_dead | (first | exact le_mp rfl | exact le_row (Nat.le_of_eq hLen) (fun j hj => by rw [hq]; exact ap_prUF _ _ _ j (by have := Nat.lt_of_lt_of_le hj (Nat.le_of_eq hLen); omega))) | exact byLeq) (by exact byCon) (LeAll.cons (by rfl) (by first | with_reducible exact Root.Le.refl _ | with_reducible exact le_dead | (first | exact le_mp rfl | exact le_row (Nat.le_of_eq hLen) (fun j hj => by rw [hq]; exact ap_prUF _ _ _ j (by have := Nat.lt_of_lt_of_le hj (Nat.le_of_eq hLen); omega))) | exact byLeq) (by exact byCon) (LeAll.cons (by rfl) (by first | with_reducible exact Root.Le.refl _ | with_reducible exact le_dead | (first | exact le_mp rfl | exact le_row (Nat.le_of_eq hLen) (fun j hj => by rw [hq]; exact ap_prUF _ _ _ j (by have := Nat.lt_of_lt_of_le hj (Nat.le_of_eq hLen); omega))) | exact byLeq) (by exact byCon) (leZ)))))) (by omega) (by dsimp only; omega)
          · simp [hm] at h
      · have hq : mid2 Q a c 2 = if c ∈ mid2 Q a c 1 then mid2 Q a c 1 else mid2 Q a c 1 ++ [c] := rfl
        have hl : (mid2 Q a c 1).length ≤ 256 := hQ1
        generalize mid2 Q a c = F at *
        refine WP.seq (WP.block ?_)
        refine rS ?_
        refine WP.rw ?_
        refine rU 2 ?_
        refine WPL.op (by rfl) (by rfl) (QOK.op (map_look (r := 2) (a := c) (L := F 1) tok rfl Try.underlying77 key_pair rfl rfl rfl rfl (by simp [kyP]) rfl)) ?_
        refine rF ?_
        by_cases hm : c ∈ F 1
        · rw [if_pos hm] at hq
          have hLen := congrArg List.length hq
          refine WP.cond (by rfl) (fun h => ?_) (fun h => ?_)
          · simp [hm] at h
          refine WP.skip ?_
          refine rE ?_
          refine Again.next (1 + 1) (gC [0, 1, 2, 3] (LeAll.cons (by rfl) (by first | with_reducible exact Root.Le.refl _ | with_reducible exact le_dead | (first | exact le_mp (by rw [hq]) | exact le_row (Nat.le_of_eq hLen) (fun j _ => by rw [hq])) | exact byLeq) (by exact byCon) (LeAll.cons (by rfl) (by first | with_reducible exact Root.Le.refl _ | with_reducible exact le_dead | (first | exact le_mp (by rw [hq]) | exact le_row (Nat.le_of_eq hLen) (fun j _ => by rw [hq])) | exact byLeq) (by exact byCon) (LeAll.cons (by rfl) (by first | with_reducible exact Root.Le.refl _ | with_reducible exact le_dead | (first | exact le_mp (by rw [hq]) | exact le_row (Nat.le_of_eq hLen) (fun j _ => by rw [hq])) | exact byLeq) (by exact byCon) (LeAll.cons (by rfl) (by first | with_reducible exact Root.Le.refl _ | with_reducible exact le_dead | (first | exact le_mp (by rw [hq]) | exact le_row (Nat.le_of_eq hLen) (fun j _ => by rw [hq])) | exact byLeq) (by exact byCon) (leZ)))))) (by omega) (by dsimp only; omega)
        · rw [if_neg hm] at hq
          have hLen : (F (1 + 1)).length = (F 1).length + 1 := by rw [hq]; simp
          refine WP.cond (by rfl) (fun h => ?_) (fun h => ?_)
          · refine WP.rw ?_
            refine rU 2 ?_
            refine WPL.op (by rfl) (by rfl) (map_put (r := 2) (a := c) (L := F 1) tok (.inl rfl) Try.underlying77 key_pair rfl rfl (by simp [kyP]) rfl rfl) ?_
            have e1 : putS (F 1) c = F (1 + 1) := by rw [hq]; exact if_neg hm
            rw [e1]
            refine WPL.nil ?_
            refine rE ?_
            refine rE ?_
            refine Again.next (1 + 1) (gC [0, 1, 2, 6] (LeAll.cons (by rfl) (by first | with_reducible exact Root.Le.refl _ | with_reducible exact le_dead | (first | exact le_mp rfl | exact le_row (Nat.le_of_eq hLen) (fun j hj => by rw [hq]; exact ap_prUF _ _ _ j (by have := Nat.lt_of_lt_of_le hj (Nat.le_of_eq hLen); omega))) | exact byLeq) (by exact byCon) (LeAll.cons (by rfl) (by first | with_reducible exact Root.Le.refl _ | with_reducible exact le_dead | (first | exact le_mp rfl | exact le_row (Nat.le_of_eq hLen) (fun j hj => by rw [hq]; exact ap_prUF _ _ _ j (by have := Nat.lt_of_lt_of_le hj (Nat.le_of_eq hLen); omega))) | exact byLeq) (by exact byCon) (LeAll.cons (by rfl) (by first | with_reducible exact Root.Le.refl _ | with_reducible exact le_dead | (first | exact le_mp rfl | exact le_row (Nat.le_of_eq hLen) (fun j hj => by rw [hq]; exact ap_prUF _ _ _ j (by have := Nat.lt_of_lt_of_le hj (Nat.le_of_eq hLen); omega))) | exact byLeq) (by exact byCon) (LeAll.cons (by rfl) (by first | with_reducible exact Root.Le.refl _ | with_reducible exact le_dead | (first | exact le_mp rfl | exact le_row (Nat.le_of_eq hLen) (fun j hj => by rw [hq]; exact ap_prUF _ _ _ j (by have := Nat.lt_of_lt_of_le hj (Nat.le_of_eq hLen); omega))) | exact byLeq) (by exact byCon) (leZ)))))) (by omega) (by dsimp only; omega)
          · simp [hm] at h
    · have hj : j = 2 := by have := of_decide_eq_false hc; omega
      subst hj
      clear hc
      refine rE ?_
      refine Again.next ((i + 1, qst c (qst a Q))) (gC [0, 1, 2, 3] (LeAll.cons (by rfl) (by first | with_reducible exact Root.Le.refl _ | with_reducible exact le_dead | (exact le_mp rfl) | exact byLeq) (by exact byCon) (LeAll.cons (by rfl) (by first | with_reducible exact Root.Le.refl _ | with_reducible exact le_dead | (exact le_mp rfl) | exact byLeq) (by exact byCon) (LeAll.cons (by rfl) (by first | with_reducible exact Root.Le.refl _ | with_reducible exact le_dead | (exact le_mp rfl) | exact byLeq) (by exact byCon) (LeAll.cons (by rfl) (by first | with_reducible exact Root.Le.refl _ | with_reducible exact le_dead | (exact le_mp rfl) | exact byLeq) (by exact byCon) (leZ)))))) (⟨h2, by have := qst_len c (qst a Q); have := qst_len a Q; dsimp only; omega, by rw [h4]; exact hR⟩) (by dsimp only; omega)
  · have hi : ¬ i < Q.length := by have := of_decide_eq_false hc; omega
    clear hc
    rw [pres_end hi] at hR
    rw [← hR]
    refine rS ?_
    exact WP.ret (Ends.new [3] (by rfl) (by exact byObl) (leC leZ) rfl rfl (rfl) (sc_sl rfl))
end Go.Proofs.Ythjnmlpibafbnaa
