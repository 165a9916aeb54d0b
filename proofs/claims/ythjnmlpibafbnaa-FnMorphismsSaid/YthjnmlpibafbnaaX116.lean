import Derived.Test.YthjnmlpibafbnaaL49
import Derived.Test.YthjnmlpibafbnaaX113
import Derived.Test.YthjnmlpibafbnaaD34
namespace Go.Proofs.Ythjnmlpibafbnaa
open Go.RowKit DM
set_option linter.unusedSimpArgs false
set_option linter.unusedVariables false
set_option maxRecDepth 100000
set_option maxHeartbeats 1000000
def gridB (g : Nat → Nat → Bool) : Dat := .ar 16 16 (fun a => .ar 16 1 (fun b => .b (g a b)))
def inB (S : List (Nat × Nat)) (a b : Nat) : Bool := decide ((a, b) ∈ S)
theorem gridB_up (S : List (Nat × Nat)) (z : Nat × Nat) : Dat.ar 16 16 (fup (fun a => .ar 16 1 (fun b => .b (inB S a b))) z.1 (.ar 16 1 (fup (fun b => .b (inB S z.1 b)) z.2 (.b true)))) = gridB (inB (putS S z)) := by
  unfold gridB
  congr 1
  funext a
  by_cases h : a = z.1
  · rw [h, fup_same]
    congr 1
    funext b
    by_cases h2 : b = z.2
    · rw [h2, fup_same]
      congr 1
      exact (decide_eq_true (putS_mem.2 (.inl rfl))).symm
    · rw [fup_ne _ _ h2]
      congr 1
      unfold inB
      congr 1
      rw [putS_mem]
      exact propext ⟨.inr, fun h3 => h3.elim (fun e => absurd (congrArg Prod.snd e) h2) id⟩
  · rw [fup_ne _ _ h]
    congr 1
    funext b
    congr 1
    unfold inB
    congr 1
    rw [putS_mem]
    exact propext ⟨.inr, fun h3 => h3.elim (fun e => absurd (congrArg Prod.fst e) h) id⟩
theorem l01OwnN_fn (l : List Nat) (hl : l.length ≤ 4294967296) : FnS Try.prog 45 [.sl 0 0 l.length 1] [.ro l.length 1 (numsF l)] (fun r m' => r = .sl 1 0 l.length 1 ∧ m' = [.ro l.length 1 (numsF l), .row 2 l.length 1 (numsF l)]) := by
  refine FnS.intoN T tok Try.func45 (by rfl) rfl rfl rfl (by simp) ?_
  refine rS ?_
  refine rS ?_
  have hLen : l.length = 0 + l.length := by omega
  exact WP.ret (Ends.new [0, 2] (by rfl) (by exact byObl) (LeAll.cons (by rfl) (by first | with_reducible exact Root.Le.refl _ | with_reducible exact le_dead | (exact le_row (by omega) (fun j hj => by unfold apF; rw [blt_false (by omega)]; simp [numsF])) | exact byLeq) (by exact byCon) (LeAll.cons (by rfl) (by first | with_reducible exact Root.Le.refl _ | with_reducible exact le_dead | (exact le_row (by omega) (fun j hj => by unfold apF; rw [blt_false (by omega)]; simp [numsF])) | exact byLeq) (by exact byCon) (leZ))) rfl rfl (renD_len hLen rfl) (sc_sl rfl))
theorem apl_lt {n : Nat} {f : Nat → Dat} {off : Nat} {g : Nat → Dat} {i : Nat} (h : i < n) : apF n f off g i = f i := by unfold apF; rw [blt_true h]; rfl
theorem apl_ge {n : Nat} {f : Nat → Dat} {off : Nat} {g : Nat → Dat} {i : Nat} (h : ¬ i < n) : apF n f off g i = g (off + (i - n)) := by unfold apF; rw [blt_false h]; rfl
theorem insN_fun (v : Nat) (O : List Nat) {a : Nat} (ha : a = atN v O) (X h : Nat → Dat) (o : Nat) (hX : X 0 = .i .i64 (v : Int)) (hh : ∀ i, i < O.length - a → h (o + i) = numsF O (a + i)) {j : Nat} (hj : j < O.length + 1) :
    numsF (insN v O) j = apF a (numsF (O.take a)) 0 (apF 1 X o h) j := by
  have hle : a ≤ O.length := ha ▸ atN_le v O
  unfold insN
  rw [← ha]
  have hl : (O.take a).length = a := by rw [List.length_take]; omega
  by_cases h1 : j < a
  · rw [apl_lt h1]
    unfold numsF
    simp only [List.getD_eq_getElem?_getD]
    rw [List.getElem?_append_left (by omega)]
  · rw [apl_ge h1, Nat.zero_add]
    by_cases h2 : j = a
    · rw [apl_lt (by omega), show j - a = 0 by omega, hX]
      unfold numsF
      simp only [List.getD_eq_getElem?_getD]
      rw [List.getElem?_append_right (by omega), hl, h2, Nat.sub_self]
      rfl
    · rw [apl_ge (by omega), hh _ (by omega)]
      unfold numsF
      simp only [List.getD_eq_getElem?_getD]
      rw [List.getElem?_append_right (by omega), hl]
      obtain ⟨d, rfl⟩ : ∃ d, j = a + d + 1 := ⟨j - a - 1, by omega⟩
      rw [show a + d + 1 - a = d + 1 by omega, List.getElem?_cons_succ, List.getElem?_drop]
      rfl
theorem specProductSizes_fn (n : Int) (b w : Nat → Nat) (n' : Int) (b' w' : Nat → Nat) (hb : ∀ i, b i < 256) (hw : ∀ i, w i < 256) (hb' : ∀ i, b' i < 256) (hw' : ∀ i, w' i < 256) : FnS Try.prog 18 [ds_ n b w, ds_ n' b' w'] [] (fun r m' => r = (szT n b w n' b' w').1 ∧ m' = (szT n b w n' b' w').2) := by
  have hbo := l02Both_fn n n' b w b' w' hb hw hb' hw'
  cases hc : bothB n b w n' b' w'
  · have e : szT n b w n' b' w' = (t2 .ns (.i .i64 1), []) := by unfold szT; rw [hc]; rfl
    rw [e]
    rw [hc] at hbo
    change FnP _ _ _ (.i .i64 1) at hbo
    refine FnS.intoN T tok Try.func18 (by rfl) rfl rfl rfl (by simp) ?_
    refine rS ?_
    refine WP.seq ?_
    refine WP.rw ?_
    refine rU 2 ?_
    refine cA (hbo) ?_
    refine rF ?_
    refine rS ?_
    refine WP.cond (by rfl) (fun h => ?_) (fun h => WP.skip ?_)
    · refine rS ?_
      exact WP.ret (Ends.new [] (by rfl) (by exact byObl) leZ rfl rfl (ren_t2 ⟨rfl, trivial⟩ ⟨rfl, trivial⟩) (sc_t2 trivial trivial))
    · cases h
  have hc0 := hc
  rw [hc] at hbo
  change FnP _ _ _ (.i .i64 0) at hbo
  unfold bothB at hc
  rw [Bool.and_eq_true] at hc
  obtain ⟨hc, hc'⟩ := hc
  obtain ⟨N, rfl, hD⟩ := des_of_B hc
  obtain ⟨M, rfl, hE⟩ := des_of_B hc'
  have hN := hD.le
  have hM := hE.le
  have e : szT N b w M b' w' = (t2 (.sl 0 0 (szR N M b w b' w').length 1) (.i .i64 0), [.row 2 (szR N M b w b' w').length 1 (numsF (szR N M b w b' w'))]) := by unfold szT; rw [hc0]; rfl
  rw [e]
  unfold szR
  have hpf := fun z hz => l02Pairs_fn N M b w b' w' z hN hM hz hD.pb.lt hD.pw.lt hE.pb.lt hE.pw.lt
  have hql : ∀ z : Nat × Nat, z.1 < N ∧ z.2 < M → (prQ (stP b b') (stP w w') z).length ≤ 256 := fun z hz => (prQ_ok hN hM (f := stP b b') (g := stP w w') (z := z) (fun z hz => ⟨hD.pb.lt _ hz.1, hE.pb.lt _ hz.2⟩) (fun z hz => ⟨hD.pw.lt _ hz.1, hE.pw.lt _ hz.2⟩) hz).1.le hN hM
  have hqs : ∀ z : Nat × Nat, z.1 < N ∧ z.2 < M → ∀ k, k < (prQ (stP b b') (stP w w') z).length → ((prQ (stP b b') (stP w w') z).getD k (0, 0)).1 < N ∧ ((prQ (stP b b') (stP w w') z).getD k (0, 0)).2 < M := fun z hz k hk => (prQ_ok hN hM (f := stP b b') (g := stP w w') (z := z) (fun z hz => ⟨hD.pb.lt _ hz.1, hE.pb.lt _ hz.2⟩) (fun z hz => ⟨hD.pw.lt _ hz.1, hE.pw.lt _ hz.2⟩) hz).1.get hk
  generalize prQ (stP b b') (stP w w') = q at *
  refine FnS.intoN T tok Try.func18 (by rfl) rfl rfl rfl (by simp) ?_
  refine rS ?_
  refine WP.seq ?_
  refine WP.rw ?_
  refine rU 2 ?_
  refine cA (hbo) ?_
  refine rF ?_
  refine rS ?_
  refine WP.cond (by rfl) (fun h => ?_) (fun h => WP.skip ?_)
  · cases h
  clear h
  refine rS ?_
  refine WP.seq ?_
  refine rS ?_
  refine WP.block ?_
  have hLen : (srtN (szAll q M 0).2).length = 0 := srtN_len _
  refine WP.loopH (⟨fun x : Nat => x ≤ N, fun x => [(2, .p 0 [] 0), (3, .p 1 [] 0), (7, .p 2 [] 0), (8, .sl 3 0 (srtN (szAll q M x).2).length 1), (9, .i .u8 (x : Int))], fun x => [.var (ds_ N b w), .var (ds_ M b' w'), .var (gridB (inB (szAll q M x).1)), .row 2 (srtN (szAll q M x).2).length 1 (numsF (srtN (szAll q M x).2))], fun x => N - x⟩) (0) (Nat.zero_le _) (gC [0, 1, 3, 2] (LeAll.cons (by rfl) (by first | with_reducible exact Root.Le.refl _ | with_reducible exact le_dead | (first | exact le_var rfl | exact le_row (Nat.le_of_eq hLen) (fun j hj => absurd (hLen ▸ hj) (Nat.not_lt_zero _))) | exact byLeq) (by exact byCon) (LeAll.cons (by rfl) (by first | with_reducible exact Root.Le.refl _ | with_reducible exact le_dead | (first | exact le_var rfl | exact le_row (Nat.le_of_eq hLen) (fun j hj => absurd (hLen ▸ hj) (Nat.not_lt_zero _))) | exact byLeq) (by exact byCon) (LeAll.cons (by rfl) (by first | with_reducible exact Root.Le.refl _ | with_reducible exact le_dead | (first | exact le_var rfl | exact le_row (Nat.le_of_eq hLen) (fun j hj => absurd (hLen ▸ hj) (Nat.not_lt_zero _))) | exact byLeq) (by exact byCon) (LeAll.cons (by rfl) (by first | with_reducible exact Root.Le.refl _ | with_reducible exact le_dead | (first | exact le_var rfl | exact le_row (Nat.le_of_eq hLen) (fun j hj => absurd (hLen ▸ hj) (Nat.not_lt_zero _))) | exact byLeq) (by exact byCon) (leZ)))))) ?_
  clear hLen
  intro x hx
  dsimp only at hx
  dsimp only [Hd.at]
  have hx16 : x ≤ 16 := by omega
  refine WP.seq ?_
  refine rS ?_
  refine WP.cond (by rfl) (fun hc => WP.skip ?_) (fun hc => WP.exit ?_)
  · have hx : x < N := by have := of_decide_eq_true hc; omega
    clear hc
    refine WP.seq (WP.block ?_)
    refine rS ?_
    refine WP.block ?_
    refine WP.loopH (⟨fun y : Nat => y ≤ M, fun y => [(2, .p 0 [] 0), (3, .p 1 [] 0), (7, .p 2 [] 0), (8, .sl 3 0 (srtN (szRow q x (szAll q M x) y).2).length 1), (9, .i .u8 (x : Int)), (10, .i .u8 (y : Int))], fun y => [.var (ds_ N b w), .var (ds_ M b' w'), .var (gridB (inB (szRow q x (szAll q M x) y).1)), .row 2 (srtN (szRow q x (szAll q M x) y).2).length 1 (numsF (srtN (szRow q x (szAll q M x) y).2))], fun y => M - y⟩) (0) (Nat.zero_le _) (gC [0, 1, 2, 3] (LeAll.cons (by rfl) (by first | with_reducible exact Root.Le.refl _ | with_reducible exact le_dead | (first | exact le_var rfl | exact le_row (Nat.le_refl _) (fun j hj => rfl)) | exact byLeq) (by exact byCon) (LeAll.cons (by rfl) (by first | with_reducible exact Root.Le.refl _ | with_reducible exact le_dead | (first | exact le_var rfl | exact le_row (Nat.le_refl _) (fun j hj => rfl)) | exact byLeq) (by exact byCon) (LeAll.cons (by rfl) (by first | with_reducible exact Root.Le.refl _ | with_reducible exact le_dead | (first | exact le_var rfl | exact le_row (Nat.le_refl _) (fun j hj => rfl)) | exact byLeq) (by exact byCon) (LeAll.cons (by rfl) (by first | with_reducible exact Root.Le.refl _ | with_reducible exact le_dead | (first | exact le_var rfl | exact le_row (Nat.le_refl _) (fun j hj => rfl)) | exact byLeq) (by exact byCon) (leZ)))))) ?_
    intro y hy
    dsimp only at hy
    dsimp only [Hd.at]
    have hsl := sz_len256 q hM (show x < 16 by omega) hy
    have hy16 : y ≤ 16 := by omega
    refine WP.seq ?_
    refine rS ?_
    refine WP.cond (by rfl) (fun hc => WP.skip ?_) (fun hc => WP.exit ?_)
    · have hy : y < M := by have := of_decide_eq_true hc; omega
      clear hc
      have hst : szRow q x (szAll q M x) (y + 1) = szSt q (szRow q x (szAll q M x) y) (x, y) := rfl
      have hpf := hpf (x, y) ⟨hx, hy⟩
      have hql := hql (x, y) ⟨hx, hy⟩
      have hqs := hqs (x, y) ⟨hx, hy⟩
      generalize szRow q x (szAll q M x) = F at *
      unfold szSt at hst
      generalize q (x, y) = Q at *
      have hsl' : (F y).2.length ≤ 256 := hsl
      have hx15 : x < 16 := by omega
      have hy15 : y < 16 := by omega
      refine WP.seq (WP.block ?_)
      refine WP.seq ?_
      refine rS ?_
      by_cases hm : (x, y) ∈ (F y).1
      · rw [if_pos hm] at hst
        have hLen : (srtN (F (y + 1)).2).length = (srtN (F y).2).length := by rw [hst]
        refine WP.cond (by rfl) (fun h => ?_) (fun h => ?_)
        case refine_2 => exact absurd hm (of_decide_eq_false h)
        refine WP.exit ?_
        refine rE ?_
        refine Again.next (y + 1) (gC [0, 1, 2, 3] (LeAll.cons (by rfl) (by first | with_reducible exact Root.Le.refl _ | with_reducible exact le_dead | (first | exact le_var (by rw [hst]; rfl) | exact le_row (Nat.le_of_eq hLen) (fun j _ => by rw [hst])) | exact byLeq) (by exact byCon) (LeAll.cons (by rfl) (by first | with_reducible exact Root.Le.refl _ | with_reducible exact le_dead | (first | exact le_var (by rw [hst]; rfl) | exact le_row (Nat.le_of_eq hLen) (fun j _ => by rw [hst])) | exact byLeq) (by exact byCon) (LeAll.cons (by rfl) (by first | with_reducible exact Root.Le.refl _ | with_reducible exact le_dead | (first | exact le_var (by rw [hst]; rfl) | exact le_row (Nat.le_of_eq hLen) (fun j _ => by rw [hst])) | exact byLeq) (by exact byCon) (LeAll.cons (by rfl) (by first | with_reducible exact Root.Le.refl _ | with_reducible exact le_dead | (first | exact le_var (by rw [hst]; rfl) | exact le_row (Nat.le_of_eq hLen) (fun j _ => by rw [hst])) | exact byLeq) (by exact byCon) (leZ)))))) (hy) (by dsimp only; omega)
      · rw [if_neg hm] at hst
        have hO1 := insN_srt Q.length (F y).2
        have hO2 : srtN (F (y + 1)).2 = insN Q.length (srtN (F y).2) := by rw [hst, hO1]
        have hLen : (srtN (F (y + 1)).2).length = (srtN (F y).2).length + 1 := by rw [srtN_len, srtN_len, hst]; simp
        have hol : (srtN (F y).2).length ≤ 256 := by rw [srtN_len]; exact hsl'
        generalize (F y).1 = S at *
        generalize srtN (F y).2 = O at *
        refine WP.cond (by rfl) (fun h => ?_) (fun h => ?_)
        · exact absurd (of_decide_eq_true h) hm
        refine WP.skip ?_
        refine WP.rw ?_
        refine rU 4 ?_
        refine cN [] (t2 (.sl 4 0 Q.length 2) (gridD (nmV Q))) (hpf) leZ (ren_t2 rfl ⟨rfl, sc_grid _ _⟩) ?_
        refine rF ?_
        refine WP.seq ?_
        refine rS ?_
        refine WP.block ?_
        refine WP.loopH (⟨fun k : Nat => k ≤ Q.length, fun k => [(2, .p 0 [] 0), (3, .p 1 [] 0), (7, .p 2 [] 0), (8, .sl 3 0 O.length 1), (9, .i .u8 (x : Int)), (10, .i .u8 (y : Int)), (11, .sl 4 0 Q.length 2), (13, .i .i64 (k : Int))], fun k => [.var (ds_ N b w), .var (ds_ M b' w'), .var (gridB (inB (mkS S Q k))), .row 2 O.length 1 (numsF O), .ro Q.length 2 (prUF Q)], fun k => Q.length - k⟩) (0) (Nat.zero_le _) (gC [0, 1, 2, 3, 4] (LeAll.cons (by rfl) (by first | with_reducible exact Root.Le.refl _ | with_reducible exact le_dead | (exact le_var rfl) | exact byLeq) (by exact byCon) (LeAll.cons (by rfl) (by first | with_reducible exact Root.Le.refl _ | with_reducible exact le_dead | (exact le_var rfl) | exact byLeq) (by exact byCon) (LeAll.cons (by rfl) (by first | with_reducible exact Root.Le.refl _ | with_reducible exact le_dead | (exact le_var rfl) | exact byLeq) (by exact byCon) (LeAll.cons (by rfl) (by first | with_reducible exact Root.Le.refl _ | with_reducible exact le_dead | (exact le_var rfl) | exact byLeq) (by exact byCon) (LeAll.cons (by rfl) (by first | with_reducible exact Root.Le.refl _ | with_reducible exact le_dead | (exact le_var rfl) | exact byLeq) (by exact byCon) (leZ))))))) ?_
        intro k hk
        dsimp only at hk
        dsimp only [Hd.at]
        refine WP.seq ?_
        refine rS ?_
        refine WP.cond (by rfl) (fun hc => WP.skip ?_) (fun hc => WP.exit ?_)
        · have hk : k < Q.length := by have := of_decide_eq_true hc; omega
          clear hc
          have e1 := mkS_succ S Q hk
          have hz16 := hqs k hk
          have hz1 : (Q.getD k (0, 0)).1 < 16 := by omega
          have hz2 : (Q.getD k (0, 0)).2 < 16 := by omega
          refine WP.seq (WP.block ?_)
          refine WP.da (by kernel_rfl) 12 (by kernel_rfl) ?_
          refine WA.takes T false tok [0, 1, 2, 3, 4] (f' := 8) (by kernel_rfl) (by rfl) (by rfl) (by rfl) (by exact byObl) (by rfl) (by rfl) ?_
          refine WA.takes T false tok [5, 6, 7, 8, 9] (f' := 3) (by kernel_rfl) (by rfl) (by rfl) (by rfl) (by exact byObl) (by rfl) (by rfl) ?_
          refine WA.takes T false tok [10, 11] (f' := 1) (by kernel_rfl) (by rfl) (by rfl) (by rfl) (by exact byObl) (by rfl) (by rfl) ?_
          refine WA.tail (by rfl) (by rfl) (by kernel_rfl) ?_
          refine rF ?_
          refine noPan ?_
          refine rE ?_
          refine Again.next (k + 1) (gC [0, 1, 2, 3, 4] (LeAll.cons (by rfl) (by first | with_reducible exact Root.Le.refl _ | with_reducible exact le_dead | (exact le_var (by rw [e1]; exact (gridB_up (mkS S Q k) (Q.getD k (0, 0))).symm)) | exact byLeq) (by exact byCon) (LeAll.cons (by rfl) (by first | with_reducible exact Root.Le.refl _ | with_reducible exact le_dead | (exact le_var (by rw [e1]; exact (gridB_up (mkS S Q k) (Q.getD k (0, 0))).symm)) | exact byLeq) (by exact byCon) (LeAll.cons (by rfl) (by first | with_reducible exact Root.Le.refl _ | with_reducible exact le_dead | (exact le_var (by rw [e1]; exact (gridB_up (mkS S Q k) (Q.getD k (0, 0))).symm)) | exact byLeq) (by exact byCon) (LeAll.cons (by rfl) (by first | with_reducible exact Root.Le.refl _ | with_reducible exact le_dead | (exact le_var (by rw [e1]; exact (gridB_up (mkS S Q k) (Q.getD k (0, 0))).symm)) | exact byLeq) (by exact byCon) (LeAll.cons (by rfl) (by first | with_reducible exact Root.Le.refl _ | with_reducible exact le_dead | (exact le_var (by rw [e1]; exact (gridB_up (mkS S Q k) (Q.getD k (0, 0))).symm)) | exact byLeq) (by exact byCon) (leZ))))))) (hk) (by dsimp only; omega)
        · have hk : k = Q.length := by have := of_decide_eq_false hc; omega
          subst hk
          clear hc
          refine rS ?_
          refine WP.seqG ⟨lst [(2, .p 0 [] 0), (3, .p 1 [] 0), (7, .p 2 [] 0), (8, .sl 3 0 O.length 1), (9, .i .u8 (x : Int)), (10, .i .u8 (y : Int)), (14, .i .i64 ((atN Q.length O : Nat) : Int)), (15, .i .i64 (Q.length : Int))], [.var (ds_ N b w), .var (ds_ M b' w'), .var (gridB (inB (mkS S Q Q.length))), .row 2 O.length 1 (numsF O)]⟩ ?_ ?_
          · refine WP.block ?_
            refine WP.loopH (⟨fun a : Nat => a ≤ O.length ∧ ∀ j, j < a → O.getD j 0 < Q.length, fun a => [(2, .p 0 [] 0), (3, .p 1 [] 0), (7, .p 2 [] 0), (8, .sl 3 0 O.length 1), (9, .i .u8 (x : Int)), (10, .i .u8 (y : Int)), (14, .i .i64 (a : Int)), (15, .i .i64 (Q.length : Int))], fun a => [.var (ds_ N b w), .var (ds_ M b' w'), .var (gridB (inB (mkS S Q Q.length))), .row 2 O.length 1 (numsF O)], fun a => O.length - a⟩) (0) (⟨Nat.zero_le _, fun j hj => absurd hj (Nat.not_lt_zero _)⟩) (gC [0, 1, 2, 3] (leC (leC (leC (leC leZ))))) ?_
            intro a ha
            dsimp only at ha
            dsimp only [Hd.at]
            obtain ⟨ha1, ha2⟩ := ha
            refine WP.seq ?_
            refine WP.rw ?_
            refine rU 4 ?_
            cases hc : decide ((a : Int) < O.length)
            · have ha : ¬ a < O.length := by have := of_decide_eq_false hc; omega
              refine rF ?_
              refine WP.cond (by rfl) (fun h => WP.skip ?_) (fun h => WP.exit ?_)
              · cases h
              have e := atN_eq ha1 ha2 (fun h => absurd h ha)
              rw [← e]
              exact Ghost.cut (Nat.le_refl _) (tauOf [0, 1, 2, 3]) [(2, .p 0 [] 0), (3, .p 1 [] 0), (7, .p 2 [] 0), (8, .sl 3 0 O.length 1), (9, .i .u8 (x : Int)), (10, .i .u8 (y : Int)), (14, .i .i64 (a : Int)), (15, .i .i64 (Q.length : Int))] [.var (ds_ N b w), .var (ds_ M b' w'), .var (gridB (inB (mkS S Q Q.length))), .row 2 O.length 1 (numsF O)] (Taken.of [0, 1, 2, 3] (leC (leC (leC (leC leZ)))) rfl rfl) (by exact bySlots)
            · have ha : a < O.length := by have := of_decide_eq_true hc; omega
              refine rF ?_
              refine WP.cond (by rfl) (fun h => WP.skip ?_) (fun h => WP.exit ?_)
              · have h := of_decide_eq_true h
                have h3 : O.getD a 0 < Q.length := by have h2 := h; simp only [addrAt0, Int.toNat_natCast] at h2; omega
                refine WP.block ?_
                refine rE ?_
                refine Again.next (a + 1) (gC [0, 1, 2, 3] (leC (leC (leC (leC leZ))))) (⟨ha, fun j hj => by
                  by_cases e : j = a
                  · subst e; exact h3
                  · exact ha2 j (by omega)⟩) (by dsimp only; omega)
              · have h := of_decide_eq_false h
                have e := atN_eq ha1 ha2 (fun _ => (by have h2 := h; simp only [addrAt0, Int.toNat_natCast] at h2; omega : ¬ O.getD a 0 < Q.length))
                rw [← e]
                exact Ghost.cut (Nat.le_refl _) (tauOf [0, 1, 2, 3]) [(2, .p 0 [] 0), (3, .p 1 [] 0), (7, .p 2 [] 0), (8, .sl 3 0 O.length 1), (9, .i .u8 (x : Int)), (10, .i .u8 (y : Int)), (14, .i .i64 (a : Int)), (15, .i .i64 (Q.length : Int))] [.var (ds_ N b w), .var (ds_ M b' w'), .var (gridB (inB (mkS S Q Q.length))), .row 2 O.length 1 (numsF O)] (Taken.of [0, 1, 2, 3] (leC (leC (leC (leC leZ)))) rfl rfl) (by exact bySlots)
          · have ha1 := atN_le Q.length O
            have hfun := fun (X h : Nat → Dat) (o : Nat) (h1 : X 0 = .i .i64 (Q.length : Int)) (h2 : ∀ i, i < O.length - atN Q.length O → h (o + i) = numsF O (atN Q.length O + i)) (j : Nat) (hj : j < O.length + 1) => insN_fun Q.length O rfl X h o h1 h2 hj
            have hTl : (O.take (atN Q.length O)).length = atN Q.length O := by rw [List.length_take]; omega
            have hown := l01OwnN_fn (O.take (atN Q.length O)) (by omega)
            rw [hTl] at hown
            rw [← hO2] at hfun
            have htk : ∀ j, j < atN Q.length O → numsF (O.take (atN Q.length O)) j = numsF O j := fun j hj => by
              unfold numsF
              simp only [List.getD_eq_getElem?_getD]
              rw [List.getElem?_take_of_lt hj]
            generalize O.take (atN Q.length O) = T1 at *
            generalize atN Q.length O = a at *
            have hLen : (srtN (F (y + 1)).2).length = a + (1 + (O.length - a)) := by omega
            by_cases ha : a < O.length
            · refine WP.rw ?_
              refine rU 4 ?_
              refine WPL.op (by rfl) (by rfl) (QOK.op (sll_ok (l := a) tok rfl rfl rfl rfl rfl rfl rfl (by omega) (by omega))) ?_
              refine WPL.op (by rfl) (by rfl) (ok_app_keep (f2 := numsF O) tok rfl rfl rfl rfl rfl rfl (by decide) rfl rfl rfl (by decide) (fun j _ => (trivial : Pl (numsF O j))) (Nat.le_refl _) (by omega) (by omega) rfl rfl) ?_
              refine rF ?_
              refine WP.region ?_
              refine rU 2 ?_
              refine WPL.op (by rfl) (by rfl) (QOK.op (slh_ok (h := a) tok rfl rfl rfl rfl rfl rfl rfl (by omega))) ?_
              refine WPL.callV [3] (.sl 6 0 a 1) (hown) (LeAll.cons (by rfl) (by first | with_reducible exact Root.Le.refl _ | with_reducible exact le_dead | (exact le_frz (by omega) (fun j hj => htk j hj)) | exact byLeq) (by exact byCon) (leZ)) (by rfl) (ownNew_row (fun _ _ => trivial)) (by rfl) (by exact byArgs) (by rfl) (by rfl) (by simp [Sc, sc_pl, sc_ds]) (by exact byAllc) (rfl) (by exact bySc) rfl ?_
              refine rF ?_
              refine rE ?_
              refine Again.next (y + 1) (gC [0, 1, 2, 7] (LeAll.cons (by rfl) (by first | with_reducible exact Root.Le.refl _ | with_reducible exact le_dead | (first | exact le_var (by rw [hst]; rfl) | exact le_row (Nat.le_of_eq hLen) (fun j hj => hfun _ _ _ rfl (fun i hi => by rw [Nat.zero_add]) j (by omega))) | exact byLeq) (by exact byCon) (LeAll.cons (by rfl) (by first | with_reducible exact Root.Le.refl _ | with_reducible exact le_dead | (first | exact le_var (by rw [hst]; rfl) | exact le_row (Nat.le_of_eq hLen) (fun j hj => hfun _ _ _ rfl (fun i hi => by rw [Nat.zero_add]) j (by omega))) | exact byLeq) (by exact byCon) (LeAll.cons (by rfl) (by first | with_reducible exact Root.Le.refl _ | with_reducible exact le_dead | (first | exact le_var (by rw [hst]; rfl) | exact le_row (Nat.le_of_eq hLen) (fun j hj => hfun _ _ _ rfl (fun i hi => by rw [Nat.zero_add]) j (by omega))) | exact byLeq) (by exact byCon) (LeAll.cons (by rfl) (by first | with_reducible exact Root.Le.refl _ | with_reducible exact le_dead | (first | exact le_var (by rw [hst]; rfl) | exact le_row (Nat.le_of_eq hLen) (fun j hj => hfun _ _ _ rfl (fun i hi => by rw [Nat.zero_add]) j (by omega))) | exact byLeq) (by exact byCon) (leZ)))))) (hy) (by dsimp only; omega)
            · obtain rfl : a = O.length := by omega
              refine WP.rw ?_
              refine rU 4 ?_
              refine WPL.op (by rfl) (by rfl) (QOK.op (sle_ok tok (numsF O) rfl rfl rfl rfl rfl rfl rfl (by omega))) ?_
              refine WPL.fin T false tok (by rfl) (by exact ⟨Nat.le_refl _, Nat.le_refl _, by decide, fun j hj => absurd hj (Nat.not_lt_zero _)⟩) ?_
              refine WP.region ?_
              refine rU 2 ?_
              refine WPL.op (by rfl) (by rfl) (QOK.op (slh_ok (h := O.length) tok rfl rfl rfl rfl rfl rfl rfl (by omega))) ?_
              refine WPL.callV [3] (.sl 7 0 O.length 1) (hown) (LeAll.cons (by rfl) (by first | with_reducible exact Root.Le.refl _ | with_reducible exact le_dead | (exact le_frz (by omega) (fun j hj => htk j hj)) | exact byLeq) (by exact byCon) (leZ)) (by rfl) (ownNew_row (fun _ _ => trivial)) (by rfl) (by exact byArgs) (by rfl) (by rfl) (by simp [Sc, sc_pl, sc_ds]) (by exact byAllc) (rfl) (by exact bySc) rfl ?_
              refine rF ?_
              have hLen : (srtN (F (y + 1)).2).length = O.length + (1 + 0) := by omega
              refine rE ?_
              refine Again.next (y + 1) (gC [0, 1, 2, 8] (LeAll.cons (by rfl) (by first | with_reducible exact Root.Le.refl _ | with_reducible exact le_dead | (first | exact le_var (by rw [hst]; rfl) | exact le_row (Nat.le_of_eq hLen) (fun j hj => hfun _ _ _ rfl (fun i hi => absurd hi (by omega)) j (by omega))) | exact byLeq) (by exact byCon) (LeAll.cons (by rfl) (by first | with_reducible exact Root.Le.refl _ | with_reducible exact le_dead | (first | exact le_var (by rw [hst]; rfl) | exact le_row (Nat.le_of_eq hLen) (fun j hj => hfun _ _ _ rfl (fun i hi => absurd hi (by omega)) j (by omega))) | exact byLeq) (by exact byCon) (LeAll.cons (by rfl) (by first | with_reducible exact Root.Le.refl _ | with_reducible exact le_dead | (first | exact le_var (by rw [hst]; rfl) | exact le_row (Nat.le_of_eq hLen) (fun j hj => hfun _ _ _ rfl (fun i hi => absurd hi (by omega)) j (by omega))) | exact byLeq) (by exact byCon) (LeAll.cons (by rfl) (by first | with_reducible exact Root.Le.refl _ | with_reducible exact le_dead | (first | exact le_var (by rw [hst]; rfl) | exact le_row (Nat.le_of_eq hLen) (fun j hj => hfun _ _ _ rfl (fun i hi => absurd hi (by omega)) j (by omega))) | exact byLeq) (by exact byCon) (leZ)))))) (hy) (by dsimp only; omega)
    · have hy : y = M := by have := of_decide_eq_false hc; omega
      subst hy
      clear hc
      refine rE ?_
      refine Again.next (x + 1) (gC [0, 1, 2, 3] (LeAll.cons (by rfl) (by first | with_reducible exact Root.Le.refl _ | with_reducible exact le_dead | (first | exact le_var rfl | exact le_row (Nat.le_refl _) (fun j hj => rfl)) | exact byLeq) (by exact byCon) (LeAll.cons (by rfl) (by first | with_reducible exact Root.Le.refl _ | with_reducible exact le_dead | (first | exact le_var rfl | exact le_row (Nat.le_refl _) (fun j hj => rfl)) | exact byLeq) (by exact byCon) (LeAll.cons (by rfl) (by first | with_reducible exact Root.Le.refl _ | with_reducible exact le_dead | (first | exact le_var rfl | exact le_row (Nat.le_refl _) (fun j hj => rfl)) | exact byLeq) (by exact byCon) (LeAll.cons (by rfl) (by first | with_reducible exact Root.Le.refl _ | with_reducible exact le_dead | (first | exact le_var rfl | exact le_row (Nat.le_refl _) (fun j hj => rfl)) | exact byLeq) (by exact byCon) (leZ)))))) (hx) (by dsimp only; omega)
  · have hx : x = N := by have := of_decide_eq_false hc; omega
    subst hx
    clear hc
    refine rS ?_
    exact WP.ret (Ends.new [3] (by rfl) (by exact byObl) (leC leZ) rfl rfl (ren_t2 rfl ⟨rfl, trivial⟩) (sc_t2 (sc_sl rfl) trivial))
end Go.Proofs.Ythjnmlpibafbnaa
