import Derived.Test.YthjnmlpibafbnaaL21
import Derived.Test.YthjnmlpibafbnaaL38
import Derived.Test.YthjnmlpibafbnaaX14
namespace Go.Proofs.Ythjnmlpibafbnaa
open Go.RowKit DM
set_option linter.unusedSimpArgs false
set_option linter.unusedVariables false
set_option maxRecDepth 100000
set_option maxHeartbeats 1000000
def morD (N : Nat) : Option (Nat → Int) → Dat × List Root
  | none => (.ns, [])
  | some o => (.sl 0 0 N 1, [.row 2 N 1 (intD o)])
theorem intD_up (o : Nat → Int) (t : Nat) (c : Int) : intD (up o t c) = fup (intD o) t (.i .i64 c) := by
  funext j
  unfold intD up fup
  by_cases h : j = t
  · subst h; simp
  · rw [if_neg h, show Nat.beq j t = false from by cases e : Nat.beq j t with | false => rfl | true => exact absurd (Nat.eq_of_beq_eq_true e) h]; rfl
theorem morphism_fn (N M : Nat) (b w b' w' : Nat → Nat) (y : Nat) (hy : y < M) (hN0 : 0 < N) (hN : N ≤ 16) (hM : M ≤ 16) (hb : ∀ i, i < N → b i < N) (hw : ∀ i, i < N → w i < N) (hb' : ∀ i, i < M → b' i < M) (hw' : ∀ i, i < M → w' i < M) :
    FnS Try.prog 47 [ds_ N b w, ds_ M b' w', .i .i64 (y : Int)] [] (fun r m' => r = (morD N (morF b w b' w' y)).1 ∧ m' = (morD N (morF b w b' w' y)).2) := by
  have hnd := named_fn N b w 0 hN0 hN hb hw
  have hst := MInv.start (b := b) (w := w) (b' := b') (w' := w') hN0 hN hy
  have hFl := bfsF_len hN hb hw hN0
  generalize morF b w b' w' y = R at *
  generalize bfsF b w 0 = F at *
  refine FnS.intoN T tok Try.func47 (by rfl) rfl rfl rfl (by simp) ?_
  refine rS ?_
  refine WP.rw ?_
  refine rU 3 ?_
  refine WPL.callV [2] (.sl 3 0 N 1) (repeat_fn N hN0 hN) (LeAll.cons (by rfl) (by first | with_reducible exact Root.Le.refl _ | with_reducible exact le_dead | (exact le_frz (Nat.le_refl _) (fun j hj => by obtain rfl : j = 0 := (by omega); rfl)) | exact byLeq) (by exact byCon) (leZ)) (by rfl) (ownNew_row (fun _ _ => trivial)) (by rfl) (by exact byArgs) (by rfl) (by rfl) (by simp [Sc, sc_pl, sc_ds]) (by exact byAllc) (rfl) (by exact bySc) rfl ?_
  refine rF ?_
  refine rS ?_
  refine WP.seq ?_
  refine WP.rw ?_
  refine rU 1 ?_
  refine cN [] (.sl 4 0 F.length 1) (hnd) leZ (rfl) ?_
  refine rF ?_
  refine WP.block ?_
  refine WP.loopH (⟨fun z : Nat × (List Nat × (Nat → Bool)) × (Nat → Int) => MInv N M b w b' w' F R z.1 z.2.1 z.2.2, fun z => [(3, .p 0 [] 0), (4, .p 1 [] 0), (7, .sl 2 0 N 1), (22, .sl 3 0 F.length 1), (23, .i .i64 (F.length : Int)), (24, .i .i64 (z.1 : Int))], fun z => [.var (ds_ N b w), .var (ds_ M b' w'), .row 2 N 1 (intD z.2.2), .row 5 F.length 1 (bytesF F)], fun z => bmu z.1 z.2.1⟩) ((0, bx 0, mo0 y)) (hst) (gC [0, 1, 3, 4] (LeAll.cons (by rfl) (by first | with_reducible exact Root.Le.refl _ | with_reducible exact le_dead | (exact le_row (Nat.le_refl _) (fun j hj => by rcases j with _ | j <;> rfl)) | exact byLeq) (by exact byCon) (LeAll.cons (by rfl) (by first | with_reducible exact Root.Le.refl _ | with_reducible exact le_dead | (exact le_row (Nat.le_refl _) (fun j hj => by rcases j with _ | j <;> rfl)) | exact byLeq) (by exact byCon) (LeAll.cons (by rfl) (by first | with_reducible exact Root.Le.refl _ | with_reducible exact le_dead | (exact le_row (Nat.le_refl _) (fun j hj => by rcases j with _ | j <;> rfl)) | exact byLeq) (by exact byCon) (LeAll.cons (by rfl) (by first | with_reducible exact Root.Le.refl _ | with_reducible exact le_dead | (exact le_row (Nat.le_refl _) (fun j hj => by rcases j with _ | j <;> rfl)) | exact byLeq) (by exact byCon) (leZ)))))) ?_
  rintro ⟨i, s, o⟩ hI
  simp only at hI
  dsimp only [Hd.at]
  refine rS ?_
  refine WP.seq ?_
  refine WP.cond (by rfl) (fun hc => WP.skip ?_) (fun hc => WP.exit ?_)
  · have hiF : i < F.length := by have := of_decide_eq_true hc; omega
    clear hc
    have hi := hI.more.2 hiF
    obtain ⟨hx1, hx2, hx3, hx4⟩ := hI.here hi
    have hmid := hI.mid hi
    have hdone := fun s' o' => MMid.done hN hb hw hI hi (s := s') (o := o')
    generalize hxx : s.1.getD i 0 = x at *
    obtain ⟨a, ha⟩ : ∃ a : Nat, o x = (a : Int) := ⟨(o x).toNat, by omega⟩
    rw [ha] at hmid hdone hx3 hx4
    rw [Int.toNat_natCast] at hmid hdone
    have haM : a < M := by omega
    have hx16 : F.getD i 0 < 16 := by omega
    have g1 := hb x hx2
    have g2 := hw x hx2
    have g3 := hb' a haM
    have g4 := hw' a haM
    refine WP.seq (WP.block ?_)
    refine rS ?_
    have e1 : F.getD (addrAt 0 ((i : Nat) : Int).toNat) 0 = x := hx1
    rw [e1]
    refine rS ?_
    have e2 : o (addrAt 0 ((x : Nat) : Int).toNat) = (a : Int) := ha
    rw [e2]
    refine WP.ghost (gC [0, 1, 2, 3] (leC (leC (leC (leC leZ)))) (l := [(3, .p 0 [] 0), (4, .p 1 [] 0), (7, .sl 2 0 N 1), (9, .i .u8 (x : Int)), (10, .i .i64 (a : Int)), (22, .sl 3 0 F.length 1), (23, .i .i64 (F.length : Int)), (24, .i .i64 (i : Int))]) (m' := [.var (ds_ N b w), .var (ds_ M b' w'), .row 2 N 1 (intD o), .row 5 F.length 1 (bytesF F)])) ?_
    have hp0 : (prs b w b' w' x a)[0]? = some (b x, b' a) := rfl
    have hp1 : (prs b w b' w' x a)[1]? = some (w x, w' a) := rfl
    refine WP.seq ?_
    refine WP.da (by kernel_rfl) 21 (by kernel_rfl) ?_
    refine WA.takes T false tok [0, 1, 2, 3, 4, 5, 6, 7, 8] (f' := 12) (by kernel_rfl) (by rfl) (by rfl) (by rfl) (by exact byObl) (by rfl) (by rfl) ?_
    refine WA.takes T false tok [9, 10, 11, 12, 13, 14, 15, 16, 17] (f' := 3) (by kernel_rfl) (by rfl) (by rfl) (by rfl) (by exact byObl) (by rfl) (by rfl) ?_
    refine WA.move 20 (by rfl) (by first | exact .inl rfl | exact .inr rfl) (by kernel_rfl) (by kernel_rfl) (by rfl) (by rfl) ?_
    refine WA.all [18] (by kernel_rfl) (by simp) ?_; intro i' hi'; simp only [List.mem_cons, List.not_mem_nil, or_false] at hi'
    subst hi'
    refine ⟨_, _, _, rfl, by rfl, by rfl, MK.of tok (wm := false) (by rfl) (by exact byObl) (by rfl) (by exact byObl), ?_⟩
    refine WA.takes T false tok [19] (f' := 0) (by kernel_rfl) (by rfl) (by rfl) (by rfl) (by exact byObl) (by rfl) (by rfl) ?_
    refine WA.tail (by rfl) (by rfl) (by kernel_rfl) ?_
    refine WPL.nil (noPan ?_)
    refine WP.block ?_
    refine WP.loopH (⟨fun z : Nat × (List Nat × (Nat → Bool)) × (Nat → Int) => z.1 ≤ 2 ∧ MMid N M b w b' w' F R i x a (bst (w x) (bst (b x) s)) z.1 z.2.1 z.2.2, fun z => [(3, .p 0 [] 0), (4, .p 1 [] 0), (7, .sl 2 0 N 1), (22, .sl 3 0 F.length 1), (23, .i .i64 (F.length : Int)), (24, .i .i64 (i : Int)), (50, .sl 4 0 2 2), (51, .i .i64 2), (52, .i .i64 (z.1 : Int))], fun z => [.var (ds_ N b w), .var (ds_ M b' w'), .row 2 N 1 (intD z.2.2), .row 5 F.length 1 (bytesF F), .row 66 2 2 (fun j => .ar 2 1 (prU ((prs b w b' w' x a).getD j (0, 0))))], fun z => 2 - z.1⟩) ((0, s, o)) (⟨by omega, hmid⟩) (gC [0, 1, 2, 3, 4] (LeAll.cons (by rfl) (by first | with_reducible exact Root.Le.refl _ | with_reducible exact le_dead | (exact le_row (Nat.le_refl _) (fun j hj => by rcases j with _ | _ | j <;> first | rfl | omega)) | exact byLeq) (by exact byCon) (LeAll.cons (by rfl) (by first | with_reducible exact Root.Le.refl _ | with_reducible exact le_dead | (exact le_row (Nat.le_refl _) (fun j hj => by rcases j with _ | _ | j <;> first | rfl | omega)) | exact byLeq) (by exact byCon) (LeAll.cons (by rfl) (by first | with_reducible exact Root.Le.refl _ | with_reducible exact le_dead | (exact le_row (Nat.le_refl _) (fun j hj => by rcases j with _ | _ | j <;> first | rfl | omega)) | exact byLeq) (by exact byCon) (LeAll.cons (by rfl) (by first | with_reducible exact Root.Le.refl _ | with_reducible exact le_dead | (exact le_row (Nat.le_refl _) (fun j hj => by rcases j with _ | _ | j <;> first | rfl | omega)) | exact byLeq) (by exact byCon) (LeAll.cons (by rfl) (by first | with_reducible exact Root.Le.refl _ | with_reducible exact le_dead | (exact le_row (Nat.le_refl _) (fun j hj => by rcases j with _ | _ | j <;> first | rfl | omega)) | exact byLeq) (by exact byCon) (leZ))))))) ?_
    rintro ⟨k, s1, o1⟩ ⟨hk, hJ⟩
    simp only at hk hJ
    dsimp only [Hd.at]
    refine rS ?_
    refine WP.seq ?_
    refine WP.cond (by rfl) (fun hc => WP.skip ?_) (fun hc => WP.exit ?_)
    · have hk : k < 2 := by have := of_decide_eq_true hc; omega
      clear hc
      obtain ⟨t, c, hp, hg, ht, hcM⟩ : ∃ t c, (prs b w b' w' x a)[k]? = some (t, c) ∧ (prs b w b' w' x a).getD k (0, 0) = (t, c) ∧ t < N ∧ c < M := by
        rcases (show k = 0 ∨ k = 1 by omega) with rfl | rfl
        · exact ⟨_, _, hp0, rfl, g1, g3⟩
        · exact ⟨_, _, hp1, rfl, g2, g4⟩
      obtain ⟨hn1, hn2, hn3⟩ := hJ.next hN hp ht hcM
      refine WP.seq (WP.block ?_)
      refine rS ?_
      refine WP.ghost (gC [0, 1, 2, 3, 4, 5] (LeAll.cons (by rfl) (by first | with_reducible exact Root.Le.refl _ | with_reducible exact le_dead | (exact le_var (by rw [← hg]; rfl)) | exact byLeq) (by exact byCon) (LeAll.cons (by rfl) (by first | with_reducible exact Root.Le.refl _ | with_reducible exact le_dead | (exact le_var (by rw [← hg]; rfl)) | exact byLeq) (by exact byCon) (LeAll.cons (by rfl) (by first | with_reducible exact Root.Le.refl _ | with_reducible exact le_dead | (exact le_var (by rw [← hg]; rfl)) | exact byLeq) (by exact byCon) (LeAll.cons (by rfl) (by first | with_reducible exact Root.Le.refl _ | with_reducible exact le_dead | (exact le_var (by rw [← hg]; rfl)) | exact byLeq) (by exact byCon) (LeAll.cons (by rfl) (by first | with_reducible exact Root.Le.refl _ | with_reducible exact le_dead | (exact le_var (by rw [← hg]; rfl)) | exact byLeq) (by exact byCon) (LeAll.cons (by rfl) (by first | with_reducible exact Root.Le.refl _ | with_reducible exact le_dead | (exact le_var (by rw [← hg]; rfl)) | exact byLeq) (by exact byCon) (leZ))))))) (l := [(3, .p 0 [] 0), (4, .p 1 [] 0), (7, .sl 2 0 N 1), (12, .p 5 [] 0), (22, .sl 3 0 F.length 1), (23, .i .i64 (F.length : Int)), (24, .i .i64 (i : Int)), (50, .sl 4 0 2 2), (51, .i .i64 2), (52, .i .i64 (k : Int))]) (m' := [.var (ds_ N b w), .var (ds_ M b' w'), .row 2 N 1 (intD o1), .row 5 F.length 1 (bytesF F), .row 66 2 2 (fun j => .ar 2 1 (prU ((prs b w b' w' x a).getD j (0, 0)))), .var (.ar 2 1 (prU (t, c)))])) ?_
      refine rS ?_
      refine WP.seq ?_
      refine rS ?_
      refine WP.cond (by rfl) (fun h => ?_) (fun h => WP.skip ?_)
      · have h : o1 t < 0 := of_decide_eq_true h
        refine rE ?_
        refine WP.ghost (gC [0, 1, 2, 3, 4, 5] (LeAll.cons (by rfl) (by first | with_reducible exact Root.Le.refl _ | with_reducible exact le_dead | (exact le_row (Nat.le_refl _) (fun j hj => congrFun (intD_up o1 t c) j)) | exact byLeq) (by exact byCon) (LeAll.cons (by rfl) (by first | with_reducible exact Root.Le.refl _ | with_reducible exact le_dead | (exact le_row (Nat.le_refl _) (fun j hj => congrFun (intD_up o1 t c) j)) | exact byLeq) (by exact byCon) (LeAll.cons (by rfl) (by first | with_reducible exact Root.Le.refl _ | with_reducible exact le_dead | (exact le_row (Nat.le_refl _) (fun j hj => congrFun (intD_up o1 t c) j)) | exact byLeq) (by exact byCon) (LeAll.cons (by rfl) (by first | with_reducible exact Root.Le.refl _ | with_reducible exact le_dead | (exact le_row (Nat.le_refl _) (fun j hj => congrFun (intD_up o1 t c) j)) | exact byLeq) (by exact byCon) (LeAll.cons (by rfl) (by first | with_reducible exact Root.Le.refl _ | with_reducible exact le_dead | (exact le_row (Nat.le_refl _) (fun j hj => congrFun (intD_up o1 t c) j)) | exact byLeq) (by exact byCon) (LeAll.cons (by rfl) (by first | with_reducible exact Root.Le.refl _ | with_reducible exact le_dead | (exact le_row (Nat.le_refl _) (fun j hj => congrFun (intD_up o1 t c) j)) | exact byLeq) (by exact byCon) (leZ))))))) (l := [(3, .p 0 [] 0), (4, .p 1 [] 0), (7, .sl 2 0 N 1), (12, .p 5 [] 0), (13, .i .i64 (c : Int)), (22, .sl 3 0 F.length 1), (23, .i .i64 (F.length : Int)), (24, .i .i64 (i : Int)), (50, .sl 4 0 2 2), (51, .i .i64 2), (52, .i .i64 (k : Int))]) (m' := [.var (ds_ N b w), .var (ds_ M b' w'), .row 2 N 1 (intD (up o1 t (c : Int))), .row 5 F.length 1 (bytesF F), .row 66 2 2 (fun j => .ar 2 1 (prU ((prs b w b' w' x a).getD j (0, 0)))), .var (.ar 2 1 (prU (t, c)))])) ?_
        refine rS ?_
        have e4 : up o1 t (c : Int) (addrAt 0 ((t : Nat) : Int).toNat) = (c : Int) := up_same _ _ _
        rw [e4]
        refine WP.cond (by rfl) (fun h2 => ?_) (fun h2 => WP.skip ?_)
        · simp at h2
        · refine rE ?_
          refine Again.next ((k + 1, bst t s1, up o1 t (c : Int))) (gC [0, 1, 2, 3, 4] (leC (leC (leC (leC (leC leZ)))))) (⟨hk, (hn1 h).2⟩) (by dsimp only; omega)
      · have h : ¬ o1 t < 0 := of_decide_eq_false h
        refine rS ?_
        refine WP.cond (by rfl) (fun h2 => ?_) (fun h2 => WP.skip ?_)
        · have h2 : o1 t ≠ (c : Int) := fun e => by
            have h3 : (!decide (o1 t = (c : Int))) = true := h2
            rw [e] at h3; simp at h3
          have hR := hn3 h h2
          subst hR
          refine rS ?_
          exact WP.ret (Ends.new [] (by rfl) (by exact byObl) leZ rfl rfl (⟨rfl, trivial⟩) (trivial))
        · have h2 : o1 t = (c : Int) := by
            have h3 : (!decide (o1 t = (c : Int))) = false := h2
            simpa using h3
          refine rE ?_
          refine Again.next ((k + 1, s1, o1)) (gC [0, 1, 2, 3, 4] (leC (leC (leC (leC (leC leZ)))))) (⟨hk, (hn2 h h2).2⟩) (by dsimp only; omega)
    · have hk : k = 2 := by have := of_decide_eq_false hc; omega
      subst hk
      obtain ⟨hn1, hn2⟩ := hdone s1 o1 hJ
      refine rE ?_
      refine Again.next ((i + 1, s1, o1)) (gC [0, 1, 2, 3] (leC (leC (leC (leC leZ))))) (hn1) (by exact hn2)
  · have hi : ¬ i < s.1.length := by have := of_decide_eq_false hc; have := hI.more; omega
    have hR := hI.done hi
    subst hR
    refine rS ?_
    exact WP.ret (Ends.new [2] (by rfl) (by exact byObl) (leC leZ) rfl rfl (rfl) (sc_sl rfl))
def morS (N : Nat) : Option (Nat → Int) → Dat × List Root
  | none => (t2 .ns (.b false), [])
  | some o => (t2 (.sl 0 0 N 1) (.b true), [.row 2 N 1 (intD o)])
theorem l02Morphism_fn (N M : Nat) (b w b' w' : Nat → Nat) (y : Nat) (hy : y < M) (hN0 : 0 < N) (hN : N ≤ 16) (hM : M ≤ 16) (hb : ∀ i, i < N → b i < N) (hw : ∀ i, i < N → w i < N) (hb' : ∀ i, i < M → b' i < M) (hw' : ∀ i, i < M → w' i < M) :
    FnS Try.prog 24 [ds_ N b w, ds_ M b' w', .i .i64 (y : Int)] [] (fun r m' => r = (morS N (morF b w b' w' y)).1 ∧ m' = (morS N (morF b w b' w' y)).2) := by
  have hst := MInv.start (b := b) (w := w) (b' := b') (w' := w') hN0 hN hy
  generalize morF b w b' w' y = R at *
  generalize bfsF b w 0 = F at *
  refine FnS.intoN T tok Try.func24 (by rfl) rfl rfl rfl (by simp) ?_
  refine rS ?_
  refine rS ?_
  refine WP.seq ?_
  refine rS ?_
  refine WP.block ?_
  refine WP.loopH (⟨fun z : Nat => 1 ≤ z ∧ z ≤ N, fun z => [(2, .i .i64 (y : Int)), (3, .p 0 [] 0), (4, .p 1 [] 0), (8, .sl 2 0 N 1), (9, .sl 3 0 1 1), (10, .i .i64 (z : Int))], fun z => [.var (ds_ N b w), .var (ds_ M b' w'), .row 2 N 1 (intD fun j => if 1 ≤ j ∧ j < z then -1 else 0), .row 5 1 1 (bytesF [0])], fun z => N - z⟩) (1) (⟨Nat.le_refl _, hN0⟩) (gC [0, 1, 2, 3] (LeAll.cons (by rfl) (by first | with_reducible exact Root.Le.refl _ | with_reducible exact le_dead | (first | exact le_row (Nat.le_refl _) (fun j hj => by unfold intD; congr 1; simp; omega) | exact le_row (Nat.le_refl _) (fun j hj => by obtain rfl : j = 0 := (by omega); rfl)) | exact byLeq) (by exact byCon) (LeAll.cons (by rfl) (by first | with_reducible exact Root.Le.refl _ | with_reducible exact le_dead | (first | exact le_row (Nat.le_refl _) (fun j hj => by unfold intD; congr 1; simp; omega) | exact le_row (Nat.le_refl _) (fun j hj => by obtain rfl : j = 0 := (by omega); rfl)) | exact byLeq) (by exact byCon) (LeAll.cons (by rfl) (by first | with_reducible exact Root.Le.refl _ | with_reducible exact le_dead | (first | exact le_row (Nat.le_refl _) (fun j hj => by unfold intD; congr 1; simp; omega) | exact le_row (Nat.le_refl _) (fun j hj => by obtain rfl : j = 0 := (by omega); rfl)) | exact byLeq) (by exact byCon) (LeAll.cons (by rfl) (by first | with_reducible exact Root.Le.refl _ | with_reducible exact le_dead | (first | exact le_row (Nat.le_refl _) (fun j hj => by unfold intD; congr 1; simp; omega) | exact le_row (Nat.le_refl _) (fun j hj => by obtain rfl : j = 0 := (by omega); rfl)) | exact byLeq) (by exact byCon) (leZ)))))) ?_
  · rintro z ⟨hz1, hz2⟩
    dsimp only [Hd.at]
    refine WP.seq ?_
    refine rS ?_
    refine WP.cond (by rfl) (fun hc => WP.skip ?_) (fun hc => WP.exit ?_)
    · have hz : z < N := by have := of_decide_eq_true hc; omega
      clear hc
      refine WP.seq (WP.block ?_)
      refine rE ?_
      refine rE ?_
      have hle : ∀ j, intD (fun j => if 1 ≤ j ∧ j < z + 1 then -1 else 0) j = fup (intD fun j => if 1 ≤ j ∧ j < z then -1 else 0) z (.i .i64 (-1)) j := fun j => by
        by_cases h : j = z
        · subst h; rw [fup_same]; show Dat.i .i64 (if 1 ≤ j ∧ j < j + 1 then -1 else 0) = _; rw [if_pos ⟨hz1, Nat.lt_succ_self _⟩]
        · rw [fup_ne _ _ h]
          show Dat.i .i64 (if 1 ≤ j ∧ j < z + 1 then -1 else 0) = Dat.i .i64 (if 1 ≤ j ∧ j < z then -1 else 0)
          congr 1
          by_cases h2 : 1 ≤ j ∧ j < z
          · rw [if_pos h2, if_pos ⟨h2.1, by omega⟩]
          · rw [if_neg h2, if_neg (by omega)]
      refine Again.next (z + 1) (gC [0, 1, 2, 3] (LeAll.cons (by rfl) (by first | with_reducible exact Root.Le.refl _ | with_reducible exact le_dead | (exact le_row (Nat.le_refl _) (fun j hj => hle j)) | exact byLeq) (by exact byCon) (LeAll.cons (by rfl) (by first | with_reducible exact Root.Le.refl _ | with_reducible exact le_dead | (exact le_row (Nat.le_refl _) (fun j hj => hle j)) | exact byLeq) (by exact byCon) (LeAll.cons (by rfl) (by first | with_reducible exact Root.Le.refl _ | with_reducible exact le_dead | (exact le_row (Nat.le_refl _) (fun j hj => hle j)) | exact byLeq) (by exact byCon) (LeAll.cons (by rfl) (by first | with_reducible exact Root.Le.refl _ | with_reducible exact le_dead | (exact le_row (Nat.le_refl _) (fun j hj => hle j)) | exact byLeq) (by exact byCon) (leZ)))))) (⟨by omega, by omega⟩) (by dsimp only; omega)
    · have hz : N = z := by have := of_decide_eq_false hc; omega
      subst hz
      have hmo : ∀ j, j < N → intD (mo0 y) j = fup (intD fun j => if 1 ≤ j ∧ j < N then -1 else 0) 0 (.i .i64 (y : Int)) j := fun j hj => by
        by_cases h : j = 0
        · subst h; rfl
        · rw [fup_ne _ _ h]
          show Dat.i .i64 (if j = 0 then (y : Int) else -1) = Dat.i .i64 (if 1 ≤ j ∧ j < N then -1 else 0)
          rw [if_neg h, if_pos ⟨by omega, hj⟩]
      refine rS ?_
      refine WP.seq ?_
      refine rS ?_
      refine WP.block ?_
      refine WP.loopH (⟨fun v : Nat × (List Nat × (Nat → Bool)) × (Nat → Int) => MInv N M b w b' w' F R v.1 v.2.1 v.2.2, fun v => [(3, .p 0 [] 0), (4, .p 1 [] 0), (8, .sl 2 0 N 1), (9, .sl 3 0 v.2.1.1.length 1), (11, .i .i64 (v.1 : Int))], fun v => [.var (ds_ N b w), .var (ds_ M b' w'), .row 2 N 1 (intD v.2.2), .row 5 v.2.1.1.length 1 (bytesF v.2.1.1)], fun v => bmu v.1 v.2.1⟩) ((0, bx 0, mo0 y)) (hst) (gC [0, 1, 2, 3] (LeAll.cons (by rfl) (by first | with_reducible exact Root.Le.refl _ | with_reducible exact le_dead | (exact le_row (Nat.le_refl _) (fun j hj => hmo j hj)) | exact byLeq) (by exact byCon) (LeAll.cons (by rfl) (by first | with_reducible exact Root.Le.refl _ | with_reducible exact le_dead | (exact le_row (Nat.le_refl _) (fun j hj => hmo j hj)) | exact byLeq) (by exact byCon) (LeAll.cons (by rfl) (by first | with_reducible exact Root.Le.refl _ | with_reducible exact le_dead | (exact le_row (Nat.le_refl _) (fun j hj => hmo j hj)) | exact byLeq) (by exact byCon) (LeAll.cons (by rfl) (by first | with_reducible exact Root.Le.refl _ | with_reducible exact le_dead | (exact le_row (Nat.le_refl _) (fun j hj => hmo j hj)) | exact byLeq) (by exact byCon) (leZ)))))) ?_
      rintro ⟨k, s, o⟩ hI
      simp only at hI
      dsimp only [Hd.at]
      have hsl := hI.inv.len
      refine WP.seq ?_
      refine rS ?_
      refine WP.cond (by rfl) (fun hc => WP.skip ?_) (fun hc => WP.exit ?_)
      · have hi : k < s.1.length := by have := of_decide_eq_true hc; omega
        clear hc
        obtain ⟨hx1, hx2, hx3, hx4⟩ := hI.here hi
        have hmid := hI.mid hi
        have hdone := fun s' o' => MMid.done hN hb hw hI hi (s := s') (o := o')
        refine WP.seq (WP.block ?_)
        refine rS ?_
        generalize hxx : s.1.getD k 0 = x at *
        have e1 : s.1.getD (addrAt 0 ((k : Nat) : Int).toNat) 0 = x := hxx
        rw [e1]
        obtain ⟨a, ha⟩ : ∃ a : Nat, o x = (a : Int) := ⟨(o x).toNat, by omega⟩
        rw [ha] at hmid hdone hx3 hx4
        rw [Int.toNat_natCast] at hmid hdone
        have haM : a < M := by omega
        have g1 := hb x hx2
        have g2 := hw x hx2
        have g3 := hb' a haM
        have g4 := hw' a haM
        have hp0 : (prs b w b' w' x a)[0]? = some (b x, b' a) := rfl
        have hp1 : (prs b w b' w' x a)[1]? = some (w x, w' a) := rfl
        refine rS ?_
        refine WP.block ?_
        refine WP.loopH (⟨fun v : Nat × (List Nat × (Nat → Bool)) × (Nat → Int) => v.1 ≤ 2 ∧ MMid N M b w b' w' F R k x a (bst (w x) (bst (b x) s)) v.1 v.2.1 v.2.2, fun v => [(3, .p 0 [] 0), (4, .p 1 [] 0), (8, .sl 2 0 N 1), (9, .sl 3 0 v.2.1.1.length 1), (11, .i .i64 (k : Int)), (12, .i .u8 (x : Int)), (13, .i .i64 (v.1 : Int))], fun v => [.var (ds_ N b w), .var (ds_ M b' w'), .row 2 N 1 (intD v.2.2), .row 5 v.2.1.1.length 1 (bytesF v.2.1.1)], fun v => 2 - v.1⟩) ((0, s, o)) (⟨by omega, hmid⟩) (gC [0, 1, 2, 3] (leC (leC (leC (leC leZ))))) ?_
        rintro ⟨q, s1, o1⟩ ⟨hq, hJ⟩
        simp only at hq hJ
        dsimp only [Hd.at]
        refine WP.seq ?_
        refine rS ?_
        refine WP.cond (by rfl) (fun hc => WP.skip ?_) (fun hc => WP.exit ?_)
        · have hq2 : q < 2 := by have := of_decide_eq_true hc; omega
          clear hc
          have ha1 := hJ.at_
          have ea : o1 (addrAt 0 ((x : Nat) : Int).toNat) = (a : Int) := ha1
          refine WP.seq (WP.block ?_)
          rcases (show q = 0 ∨ q = 1 by omega) with rfl | rfl
          · obtain ⟨hn1, hn2, hn3⟩ := hJ.next hN hp0 g1 g3
            refine WP.dw (by kernel_rfl) (by kernel_rfl) ?_
            refine WQ.run T false 8 tok (by rfl) (by rfl) (by exact byObl) ?_
            rw [ea]
            refine WQ.fin T false tok (by rfl) (by rfl) (by exact byObl) ?_
            refine WP.seq ?_
            refine rS ?_
            refine WP.cond (by rfl) (fun h0 => ?_) (fun h0 => WP.skip ?_)
            · simp at h0
            clear h0
            refine WP.ghost (gC [0, 1, 2, 3] (leC (leC (leC (leC leZ)))) (l := [(3, .p 0 [] 0), (4, .p 1 [] 0), (8, .sl 2 0 N 1), (9, .sl 3 0 s1.1.length 1), (11, .i .i64 (k : Int)), (12, .i .u8 (x : Int)), (13, .i .i64 (0 : Int)), (14, .i .u8 ((b x) : Int)), (15, .i .i64 ((b' a) : Int))]) (m' := [.var (ds_ N b w), .var (ds_ M b' w'), .row 2 N 1 (intD o1), .row 5 s1.1.length 1 (bytesF s1.1)])) ?_
            refine WP.seq ?_
            refine rS ?_
            refine WP.cond (by rfl) (fun h => ?_) (fun h => WP.skip ?_)
            · have h : o1 (b x) < 0 := of_decide_eq_true h
              obtain ⟨hm, hJ'⟩ := hn1 h
              have hb1 : bst (b x) s1 = (s1.1 ++ [(b x)], up s1.2 (b x) true) := bst_new (Q := s1.1) (met := s1.2) hm
              have hLen : (bst (b x) s1).1.length = s1.1.length + 1 := by rw [hb1]; simp
              have hl16 := hJ.inv.len
              refine rS ?_
              refine rE ?_
              refine WP.ghost (gC [0, 1, 2, 5] (LeAll.cons (by rfl) (by first | with_reducible exact Root.Le.refl _ | with_reducible exact le_dead | (first | exact le_row (Nat.le_of_eq hLen) (fun j hj => by rw [hb1]; exact ap_bytes s1.1 (b x) _ j (by rw [hLen] at hj; exact hj)) | exact le_row (Nat.le_refl _) (fun j hj => congrFun (intD_up o1 (b x) ((b' a) : Int)) j)) | exact byLeq) (by exact byCon) (LeAll.cons (by rfl) (by first | with_reducible exact Root.Le.refl _ | with_reducible exact le_dead | (first | exact le_row (Nat.le_of_eq hLen) (fun j hj => by rw [hb1]; exact ap_bytes s1.1 (b x) _ j (by rw [hLen] at hj; exact hj)) | exact le_row (Nat.le_refl _) (fun j hj => congrFun (intD_up o1 (b x) ((b' a) : Int)) j)) | exact byLeq) (by exact byCon) (LeAll.cons (by rfl) (by first | with_reducible exact Root.Le.refl _ | with_reducible exact le_dead | (first | exact le_row (Nat.le_of_eq hLen) (fun j hj => by rw [hb1]; exact ap_bytes s1.1 (b x) _ j (by rw [hLen] at hj; exact hj)) | exact le_row (Nat.le_refl _) (fun j hj => congrFun (intD_up o1 (b x) ((b' a) : Int)) j)) | exact byLeq) (by exact byCon) (LeAll.cons (by rfl) (by first | with_reducible exact Root.Le.refl _ | with_reducible exact le_dead | (first | exact le_row (Nat.le_of_eq hLen) (fun j hj => by rw [hb1]; exact ap_bytes s1.1 (b x) _ j (by rw [hLen] at hj; exact hj)) | exact le_row (Nat.le_refl _) (fun j hj => congrFun (intD_up o1 (b x) ((b' a) : Int)) j)) | exact byLeq) (by exact byCon) (leZ))))) (l := [(3, .p 0 [] 0), (4, .p 1 [] 0), (8, .sl 2 0 N 1), (9, .sl 3 0 (bst (b x) s1).1.length 1), (11, .i .i64 (k : Int)), (12, .i .u8 (x : Int)), (13, .i .i64 (0 : Int)), (14, .i .u8 ((b x) : Int)), (15, .i .i64 ((b' a) : Int))]) (m' := [.var (ds_ N b w), .var (ds_ M b' w'), .row 2 N 1 (intD (up o1 (b x) ((b' a) : Int))), .row 5 (bst (b x) s1).1.length 1 (bytesF (bst (b x) s1).1)])) ?_
              refine rS ?_
              have e4 : up o1 (b x) ((b' a) : Int) (addrAt 0 (((b x) : Nat) : Int).toNat) = ((b' a) : Int) := up_same _ _ _
              rw [e4]
              refine WP.cond (by rfl) (fun h2 => ?_) (fun h2 => WP.skip ?_)
              · simp at h2
              · refine rE ?_
                refine Again.next ((0 + 1, bst (b x) s1, up o1 (b x) ((b' a) : Int))) (gC [0, 1, 2, 3] (leC (leC (leC (leC leZ))))) (⟨by omega, hJ'⟩) (by dsimp only; omega)
            · have h : ¬ o1 (b x) < 0 := of_decide_eq_false h
              refine rS ?_
              refine WP.cond (by rfl) (fun h2 => ?_) (fun h2 => WP.skip ?_)
              · have h2 : o1 (b x) ≠ ((b' a) : Int) := fun e => by
                  have h3 : (!decide (o1 (b x) = ((b' a) : Int))) = true := h2
                  rw [e] at h3; simp at h3
                have hR := hn3 h h2
                subst hR
                refine rS ?_
                exact WP.ret (Ends.new [] (by rfl) (by exact byObl) leZ rfl rfl (ren_t2 ⟨rfl, trivial⟩ ⟨rfl, trivial⟩) (sc_t2 trivial trivial))
              · have h2 : o1 (b x) = ((b' a) : Int) := by
                  have h3 : (!decide (o1 (b x) = ((b' a) : Int))) = false := h2
                  simpa using h3
                refine rE ?_
                refine Again.next ((0 + 1, s1, o1)) (gC [0, 1, 2, 3] (leC (leC (leC (leC leZ))))) (⟨by omega, (hn2 h h2).2⟩) (by dsimp only; omega)
          · obtain ⟨hn1, hn2, hn3⟩ := hJ.next hN hp1 g2 g4
            refine WP.dw (by kernel_rfl) (by kernel_rfl) ?_
            refine WQ.run T false 8 tok (by rfl) (by rfl) (by exact byObl) ?_
            rw [ea]
            refine WQ.fin T false tok (by rfl) (by rfl) (by exact byObl) ?_
            refine WP.seq ?_
            refine rS ?_
            refine WP.cond (by rfl) (fun h0 => ?_) (fun h0 => WP.skip ?_)
            rotate_left
            · simp at h0
            clear h0
            refine rS ?_
            refine WP.region ?_
            refine rU 4 ?_
            rw [ea]
            refine rF ?_
            refine WP.ghost (gC [0, 1, 2, 3] (leC (leC (leC (leC leZ)))) (l := [(3, .p 0 [] 0), (4, .p 1 [] 0), (8, .sl 2 0 N 1), (9, .sl 3 0 s1.1.length 1), (11, .i .i64 (k : Int)), (12, .i .u8 (x : Int)), (13, .i .i64 (1 : Int)), (14, .i .u8 ((w x) : Int)), (15, .i .i64 ((w' a) : Int))]) (m' := [.var (ds_ N b w), .var (ds_ M b' w'), .row 2 N 1 (intD o1), .row 5 s1.1.length 1 (bytesF s1.1)])) ?_
            refine WP.seq ?_
            refine rS ?_
            refine WP.cond (by rfl) (fun h => ?_) (fun h => WP.skip ?_)
            · have h : o1 (w x) < 0 := of_decide_eq_true h
              obtain ⟨hm, hJ'⟩ := hn1 h
              have hb1 : bst (w x) s1 = (s1.1 ++ [(w x)], up s1.2 (w x) true) := bst_new (Q := s1.1) (met := s1.2) hm
              have hLen : (bst (w x) s1).1.length = s1.1.length + 1 := by rw [hb1]; simp
              have hl16 := hJ.inv.len
              refine rS ?_
              refine rE ?_
              refine WP.ghost (gC [0, 1, 2, 5] (LeAll.cons (by rfl) (by first | with_reducible exact Root.Le.refl _ | with_reducible exact le_dead | (first | exact le_row (Nat.le_of_eq hLen) (fun j hj => by rw [hb1]; exact ap_bytes s1.1 (w x) _ j (by rw [hLen] at hj; exact hj)) | exact le_row (Nat.le_refl _) (fun j hj => congrFun (intD_up o1 (w x) ((w' a) : Int)) j)) | exact byLeq) (by exact byCon) (LeAll.cons (by rfl) (by first | with_reducible exact Root.Le.refl _ | with_reducible exact le_dead | (first | exact le_row (Nat.le_of_eq hLen) (fun j hj => by rw [hb1]; exact ap_bytes s1.1 (w x) _ j (by rw [hLen] at hj; exact hj)) | exact le_row (Nat.le_refl _) (fun j hj => congrFun (intD_up o1 (w x) ((w' a) : Int)) j)) | exact byLeq) (by exact byCon) (LeAll.cons (by rfl) (by first | with_reducible exact Root.Le.refl _ | with_reducible exact le_dead | (first | exact le_row (Nat.le_of_eq hLen) (fun j hj => by rw [hb1]; exact ap_bytes s1.1 (w x) _ j (by rw [hLen] at hj; exact hj)) | exact le_row (Nat.le_refl _) (fun j hj => congrFun (intD_up o1 (w x) ((w' a) : Int)) j)) | exact byLeq) (by exact byCon) (LeAll.cons (by rfl) (by first | with_reducible exact Root.Le.refl _ | with_reducible exact le_dead | (first | exact le_row (Nat.le_of_eq hLen) (fun j hj => by rw [hb1]; exact ap_bytes s1.1 (w x) _ j (by rw [hLen] at hj; exact hj)) | exact le_row (Nat.le_refl _) (fun j hj => congrFun (intD_up o1 (w x) ((w' a) : Int)) j)) | exact byLeq) (by exact byCon) (leZ))))) (l := [(3, .p 0 [] 0), (4, .p 1 [] 0), (8, .sl 2 0 N 1), (9, .sl 3 0 (bst (w x) s1).1.length 1), (11, .i .i64 (k : Int)), (12, .i .u8 (x : Int)), (13, .i .i64 (1 : Int)), (14, .i .u8 ((w x) : Int)), (15, .i .i64 ((w' a) : Int))]) (m' := [.var (ds_ N b w), .var (ds_ M b' w'), .row 2 N 1 (intD (up o1 (w x) ((w' a) : Int))), .row 5 (bst (w x) s1).1.length 1 (bytesF (bst (w x) s1).1)])) ?_
              refine rS ?_
              have e4 : up o1 (w x) ((w' a) : Int) (addrAt 0 (((w x) : Nat) : Int).toNat) = ((w' a) : Int) := up_same _ _ _
              rw [e4]
              refine WP.cond (by rfl) (fun h2 => ?_) (fun h2 => WP.skip ?_)
              · simp at h2
              · refine rE ?_
                refine Again.next ((1 + 1, bst (w x) s1, up o1 (w x) ((w' a) : Int))) (gC [0, 1, 2, 3] (leC (leC (leC (leC leZ))))) (⟨by omega, hJ'⟩) (by dsimp only; omega)
            · have h : ¬ o1 (w x) < 0 := of_decide_eq_false h
              refine rS ?_
              refine WP.cond (by rfl) (fun h2 => ?_) (fun h2 => WP.skip ?_)
              · have h2 : o1 (w x) ≠ ((w' a) : Int) := fun e => by
                  have h3 : (!decide (o1 (w x) = ((w' a) : Int))) = true := h2
                  rw [e] at h3; simp at h3
                have hR := hn3 h h2
                subst hR
                refine rS ?_
                exact WP.ret (Ends.new [] (by rfl) (by exact byObl) leZ rfl rfl (ren_t2 ⟨rfl, trivial⟩ ⟨rfl, trivial⟩) (sc_t2 trivial trivial))
              · have h2 : o1 (w x) = ((w' a) : Int) := by
                  have h3 : (!decide (o1 (w x) = ((w' a) : Int))) = false := h2
                  simpa using h3
                refine rE ?_
                refine Again.next ((1 + 1, s1, o1)) (gC [0, 1, 2, 3] (leC (leC (leC (leC leZ))))) (⟨by omega, (hn2 h h2).2⟩) (by dsimp only; omega)
        · have hq2 : q = 2 := by have := of_decide_eq_false hc; omega
          subst hq2
          obtain ⟨hn1, hn2⟩ := hdone s1 o1 hJ
          refine rE ?_
          refine Again.next ((k + 1, s1, o1)) (gC [0, 1, 2, 3] (leC (leC (leC (leC leZ))))) (hn1) (by exact hn2)
      · have hi : ¬ k < s.1.length := by have := of_decide_eq_false hc; omega
        have hR := hI.done hi
        subst hR
        refine rS ?_
        exact WP.ret (Ends.new [2] (by rfl) (by exact byObl) (leC leZ) rfl rfl (ren_t2 rfl ⟨rfl, trivial⟩) (sc_t2 (sc_sl rfl) trivial))
end Go.Proofs.Ythjnmlpibafbnaa
