import Derived.Test.YtaafldclbdlgfaaX100
import Derived.Test.YtaafldclbdlgfaaL35
import Derived.Test.YtaafldclbdlgfaaX10
import Derived.Test.YtaafldclbdlgfaaD31
import Derived.Test.YtaafldclbdlgfaaX9
import Derived.Test.YtaafldclbdlgfaaD34
import Derived.Test.YtaafldclbdlgfaaL44
import Derived.Test.YtaafldclbdlgfaaX119
import Derived.Test.YtaafldclbdlgfaaX42
/- The reference's comparing of lists, and its BlocksOf. -/
namespace Go.Proofs.Ytaafldclbdlgfaa
open Go.RowKit DM
set_option linter.unusedSimpArgs false
set_option linter.unusedVariables false
set_option maxRecDepth 100000
set_option maxHeartbeats 1000000

theorem cmpI_nat {a b : Nat} : (a < b → cmpI a b = -1) ∧ (b < a → cmpI a b = 1) ∧ (a = b → cmpI a b = 0) := by
  unfold cmpI
  refine ⟨fun h => ?_, fun h => ?_, fun h => ?_⟩
  · rw [if_pos (by omega)]
  · rw [if_neg (by omega), if_pos (by omega)]
  · rw [if_neg (by omega), if_neg (by omega)]

theorem l03Less_fn (l k : List Nat) (hl : l.length ≤ 65536) (hk : k.length ≤ 65536) : FnR Try.prog 42 [.sl 0 0 l.length 1, .sl 1 0 k.length 1] [.ro l.length 1 (numsF l), .ro k.length 1 (numsF k)] (.i .i64 (lexL l k)) := by
  refine FnS.into T tok Try.func42 (by rfl) rfl rfl rfl (by simp) ?_
  refine WP.rs T false tok (by rfl) (by exact byObl) ?_
  refine WP.seq ?_
  refine WP.rs T false tok (by rfl) (by exact byObl) ?_
  refine WP.block ?_
  refine WP.loopH (⟨fun i : Nat => i ≤ l.length ∧ i ≤ k.length ∧ lexL (l.drop i) (k.drop i) = lexL l k, fun i => [(0, .sl 0 0 l.length 1), (1, .sl 1 0 k.length 1), (4, .i .i64 0), (5, .i .i64 (i : Int))], fun i => [.ro l.length 1 (numsF l), .ro k.length 1 (numsF k)], fun i => l.length - i⟩) (0) (⟨Nat.zero_le _, Nat.zero_le _, rfl⟩) (Ghost.cut (Nat.le_refl _) (tauOf [0, 1]) _ _ (Taken.of [0, 1] (LeAll.cons (by rfl) (by first | with_reducible exact Root.Le.refl _ | with_reducible exact le_dead | (skip; done) | exact byLeq) (by exact byCon) (LeAll.cons (by rfl) (by first | with_reducible exact Root.Le.refl _ | with_reducible exact le_dead | (skip; done) | exact byLeq) (by exact byCon) (trivial))) rfl rfl) (by exact bySlots)) ?_
  intro i hi
  dsimp only at hi
  dsimp only [Hd.at]
  obtain ⟨hi1, hi2, hi3⟩ := hi
  refine WP.seq ?_
  refine WP.rw ?_
  refine WPL.run T false 4 tok (by rfl) (by exact byObl) ?_
  cases hc : decide ((i : Int) < l.length)
  · have hi : ¬ i < l.length := by have := of_decide_eq_false hc; omega
    refine WPL.fin T false tok (by rfl) (by exact byObl) ?_
    refine WP.cond (by rfl) (fun h => WP.skip ?_) (fun h => WP.exit ?_)
    · cases h
    refine WP.seq (WP.block ?_)
    refine WP.rs T false tok (by rfl) (by exact byObl) ?_
    refine WP.cond (by rfl) (fun h => ?_) (fun h => ?_)
    · have h := of_decide_eq_true h
      refine WP.rs T false tok (by rfl) (by exact byObl) ?_
      exact WP.ret (Ends.val (by rfl) (by exact byObl) (by show Dat.i .i64 (-1) = _; rw [← hi3, lex_end2 hi, if_pos (by omega)]) (by trivial))
    have h := of_decide_eq_false h
    refine WP.rs T false tok (by rfl) (by exact byObl) ?_
    refine WP.cond (by rfl) (fun h2 => ?_) (fun h2 => ?_)
    · have h2 := of_decide_eq_true h2
      omega
    refine WP.skip ?_
    refine WP.rs T false tok (by rfl) (by exact byObl) ?_
    exact WP.ret (Ends.val (by rfl) (by exact byObl) (by show Dat.i .i64 0 = _; rw [← hi3, lex_end2 hi, if_neg (by omega)]) (by trivial))
  · have hi : i < l.length := by have := of_decide_eq_true hc; omega
    refine WPL.fin T false tok (by rfl) (by exact byObl) ?_
    refine WP.cond (by rfl) (fun h => WP.skip ?_) (fun h => WP.exit ?_)
    · have hik : i < k.length := by have := of_decide_eq_true h; omega
      clear h
      have hla := lex_at hi hik
      refine WP.seq (WP.block ?_)
      refine WP.seq ?_
      refine WP.seq ?_
      refine WP.drawsQ (by kernel_rfl) (by kernel_rfl) ?_
      refine WQ.fin T false tok (by rfl) (by rfl) (by exact byObl) ?_
      refine WP.cond (by rfl) (fun h => ?_) (fun h => ?_)
      · have h : l.getD i 0 < k.getD i 0 := by have := of_decide_eq_true h; simp only [addrAt0, Int.toNat_natCast] at this; omega
        refine WP.rs T false tok (by rfl) (by exact byObl) ?_
        exact WP.ret (Ends.val (by rfl) (by exact byObl) (by show Dat.i .i64 (-1) = _; rw [← hi3, hla, cmpI_nat.1 h]; rfl) (by trivial))
      have h : ¬ l.getD i 0 < k.getD i 0 := by have := of_decide_eq_false h; simp only [addrAt0, Int.toNat_natCast] at this; omega
      refine WP.skip ?_
      refine WP.seq ?_
      refine WP.drawsQ (by kernel_rfl) (by kernel_rfl) ?_
      refine WQ.fin T false tok (by rfl) (by rfl) (by exact byObl) ?_
      refine WP.cond (by rfl) (fun h2 => ?_) (fun h2 => ?_)
      · have h2 : k.getD i 0 < l.getD i 0 := by have := of_decide_eq_true h2; simp only [addrAt0, Int.toNat_natCast] at this; omega
        refine WP.rs T false tok (by rfl) (by exact byObl) ?_
        exact WP.ret (Ends.val (by rfl) (by exact byObl) (by show Dat.i .i64 1 = _; rw [← hi3, hla, cmpI_nat.2.1 h2]; rfl) (by trivial))
      have h2 : ¬ k.getD i 0 < l.getD i 0 := by have := of_decide_eq_false h2; simp only [addrAt0, Int.toNat_natCast] at this; omega
      refine WP.skip ?_
      refine WP.run T false tok (by rfl) (by exact byObl) ?_
      refine Again.next (i + 1) (Ghost.cut (Nat.le_refl _) (tauOf [0, 1]) _ _ (Taken.of [0, 1] (LeAll.cons (by rfl) (by first | with_reducible exact Root.Le.refl _ | with_reducible exact le_dead | (skip; done) | exact byLeq) (by exact byCon) (LeAll.cons (by rfl) (by first | with_reducible exact Root.Le.refl _ | with_reducible exact le_dead | (skip; done) | exact byLeq) (by exact byCon) (trivial))) rfl rfl) (by exact bySlots)) (⟨hi, hik, by rw [← hi3, hla, if_pos (cmpI_nat.2.2 (by omega))]⟩) (by dsimp only; omega)
    · have hik : ¬ i < k.length := by have := of_decide_eq_false h; omega
      clear h
      refine WP.seq (WP.block ?_)
      refine WP.rs T false tok (by rfl) (by exact byObl) ?_
      refine WP.cond (by rfl) (fun h => ?_) (fun h => ?_)
      · have h := of_decide_eq_true h
        omega
      refine WP.rs T false tok (by rfl) (by exact byObl) ?_
      refine WP.cond (by rfl) (fun h2 => ?_) (fun h2 => ?_)
      · refine WP.rs T false tok (by rfl) (by exact byObl) ?_
        exact WP.ret (Ends.val (by rfl) (by exact byObl) (by show Dat.i .i64 1 = _; rw [← hi3, lex_end hi hik]) (by trivial))
      have h2 := of_decide_eq_false h2
      omega

/-- Rows inside that are only read. -/
def owR (l : List Nat) : Dat := .ow 0 l.length 1 (numsF l)
def rowsR (L : List (List Nat)) (i : Nat) : Dat := owR (L.getD i [])
theorem noOwn_R (l : List Nat) : NoOwn (owR l) := ⟨rfl, fun _ _ => trivial⟩

theorem ap_lt {n : Nat} {f : Nat → Dat} {off : Nat} {g : Nat → Dat} {i : Nat} (h : i < n) : apF n f off g i = f i := by unfold apF; rw [blt_true h]; rfl
theorem ap_ge {n : Nat} {f : Nat → Dat} {off : Nat} {g : Nat → Dat} {i : Nat} (h : ¬ i < n) : apF n f off g i = g (off + (i - n)) := by unfold apF; rw [blt_false h]; rfl

end Go.Proofs.Ytaafldclbdlgfaa

/- Types of elements: regions by their numbers; rows joined. -/
namespace Go.Proofs.Ytaafldclbdlgfaa
open Go.RowKit DM
set_option linter.unusedSimpArgs false
set_option linter.unusedVariables false
set_option maxRecDepth 100000
set_option maxHeartbeats 1000000

/-- A function's region, by its number. -/
def regOf (k : Nat) : Code → Option Code
  | .region id ops d => bif Nat.beq id k then some (.region id ops d) else none
  | .seq a b => match regOf k a with | some c => some c | none => regOf k b
  | .cond _ a b => match regOf k a with | some c => some c | none => regOf k b
  | .block _ c => regOf k c
  | .loop c => regOf k c
  | .scope c => regOf k c
  | _ => none
def regF (f : Func) (k : Nat) : Code := match f.body with | some c => (match regOf k c with | some d => d | none => .skip) | none => .skip

theorem ren3 {τ : Nat → Nat} {a b c a' b' c' : Dat} (h1 : renD τ a a') (h2 : renD τ b b') (h3 : renD τ c c') : renD τ (t3 a b c) (t3 a' b' c') :=
  ⟨_, rfl, fun i _ => by
    rcases i with _ | _ | i
    · exact h1
    · exact h2
    · exact h3⟩

noncomputable def etT (n : Int) (b w : Nat → Nat) : Dat × List Root :=
  bif desB n b w then
    bif decide ((5000 : Int) < (ordG n.toNat [b, w] : Nat)) then (t3 .ns .ns (.i .i64 3), [])
    else (t3 (.sl 0 0 (etD n.toNat [b, w]).length 1) (.sl 1 0 (etD n.toNat [b, w]).length 1) (.i .i64 0), [.row 34 (etD n.toNat [b, w]).length 1 (rowsR (etD n.toNat [b, w])), .row 2 (etD n.toNat [b, w]).length 1 (numsF (etC n.toNat [b, w]))])
  else (t3 .ns .ns (.i .i64 1), [])

theorem rowsR_join (L K : List (List Nat)) {a : Nat} (ha : a = L.length) {j : Nat} (hj : j < L.length + K.length) (z : Nat → Dat) (f : Nat → Dat) (hf : ∀ i, i < a → f i = rowsR L i) : rowsR (L ++ K) j = apF (0 + a) (apF 0 z 0 f) 0 (rowsR K) j := by
  rw [Nat.zero_add]
  unfold rowsR
  simp only [List.getD_eq_getElem?_getD]
  by_cases h1 : j < a
  · rw [ap_lt h1, ap_ge (Nat.not_lt_zero _), Nat.zero_add, Nat.sub_zero, hf j h1]
    unfold rowsR
    simp only [List.getD_eq_getElem?_getD]
    rw [List.getElem?_append_left (by omega)]
  · rw [ap_ge h1, List.getElem?_append_right (by omega), ha, Nat.zero_add]
theorem numsF_join (L K : List Nat) {a : Nat} (ha : a = L.length) {j : Nat} (hj : j < L.length + K.length) (z : Nat → Dat) (f : Nat → Dat) (hf : ∀ i, i < a → f i = numsF L i) : numsF (L ++ K) j = apF (0 + a) (apF 0 z 0 f) 0 (numsF K) j := by
  rw [Nat.zero_add]
  unfold numsF
  simp only [List.getD_eq_getElem?_getD]
  by_cases h1 : j < a
  · rw [ap_lt h1, ap_ge (Nat.not_lt_zero _), Nat.zero_add, Nat.sub_zero, hf j h1]
    unfold numsF
    simp only [List.getD_eq_getElem?_getD]
    rw [List.getElem?_append_left (by omega)]
  · rw [ap_ge h1, List.getElem?_append_right (by omega), ha, Nat.zero_add]
theorem cons_R (t : List Nat) (D : List (List Nat)) (a : Nat) (X g : Nat → Dat) (o : Nat) (hX : X 0 = owR t) (hg : ∀ i, i < D.length - a → g (o + i) = rowsR D (a + i)) {j : Nat} (hj : j < 1 + (D.length - a)) : rowsR (t :: D.drop a) j = apF 1 X o g j := by
  cases j with
  | zero => rw [ap_lt (by omega), hX]; rfl
  | succ j =>
    rw [ap_ge (by omega), show j + 1 - 1 = j by omega, hg _ (by omega)]
    unfold rowsR
    simp only [List.getD_eq_getElem?_getD]
    rw [List.getElem?_cons_succ, List.getElem?_drop]
theorem cons_R2 (t : List Nat) (D : List (List Nat)) (a : Nat) (X g : Nat → Dat) (o : Nat) (hg : ∀ i, i < D.length - a → g (o + i) = rowsR D (a + i)) {j : Nat} (hj : j < 1 + (D.length - a)) : rowsR (t :: D.drop a) j = fup (apF 1 X o g) 0 (owR t) j := by
  by_cases h : j = 0
  · subst h; rw [fup_same]; rfl
  · rw [fup_ne _ _ h, cons_R t D a (fun _ => owR t) g o rfl hg hj, ap_ge (by omega), ap_ge (by omega)]
theorem cons_N (t : Nat) (C : List Nat) (a : Nat) (X g : Nat → Dat) (o : Nat) (hX : X 0 = .i .i64 (t : Int)) (hg : ∀ i, i < C.length - a → g (o + i) = numsF C (a + i)) {j : Nat} (hj : j < 1 + (C.length - a)) : numsF (t :: C.drop a) j = apF 1 X o g j := by
  cases j with
  | zero => rw [ap_lt (by omega), hX]; rfl
  | succ j =>
    rw [ap_ge (by omega), show j + 1 - 1 = j by omega, hg _ (by omega)]
    unfold numsF
    simp only [List.getD_eq_getElem?_getD]
    rw [List.getElem?_cons_succ, List.getElem?_drop]

/-- Rows made in whichever order, told anew. -/
theorem cut6 {N : Nat} {b w : Nat → Nat} {E : List (Nat → Nat)} {fr : Nat → Dat} {m : List Root} (x y z : Nat) {f8 f9 : Nat → Dat} (hd : DM.distinct [0, x, y, z] = true) (h0 : m[0]? = some (.var (ds_ N b w))) (h1 : m[x]? = some (.row 25 E.length 16 (rowP E))) (h2 : m[y]? = some (.row 34 0 1 f8)) (h3 : m[z]? = some (.row 2 0 1 f9))
    (s1 : fr 1 = .p 0 [] 0) (s2 : fr 6 = .sl x 0 E.length 16) (s3 : fr 7 = .sl y 0 0 1) (s4 : fr 8 = .sl z 0 0 1) :
    Ghost 0 ⟨fr, m⟩ ⟨lst [(1, .p 0 [] 0), (6, .sl 1 0 E.length 16), (7, .sl 2 0 0 1), (8, .sl 3 0 0 1)], [.var (ds_ N b w), .ro E.length 16 (rowP E), .row 34 0 1 (rowsR []), .row 2 0 1 (numsF [])]⟩ := by
  have hSc : ∀ (k e n : Nat) (L : List (Nat → Nat)), Sc k (.ow e n 16 (rowP L)) := fun k _ _ L j _ => sc_row k L j
  exact Ghost.cut (Nat.le_refl _) (tauOf [0, x, y, z]) _ _ (Taken.of [0, x, y, z] (LeAll.cons h0 (Root.Le.refl _) (by exact byCon) (LeAll.cons h1 (le_frz (Nat.le_refl _) fun _ _ => rfl) (by exact byCon) (LeAll.cons h2 (le_row (Nat.le_refl _) fun j hj => absurd hj (Nat.not_lt_zero _)) (by exact byCon) (LeAll.cons h3 (le_row (Nat.le_refl _) fun j hj => absurd hj (Nat.not_lt_zero _)) (by exact byCon) trivial)))) hd rfl)
    (SlotsR.cons s1 (sc_p rfl) (SlotsR.cons s2 (sc_sl rfl) (SlotsR.cons s3 (sc_sl rfl) (SlotsR.cons s4 (sc_sl rfl) trivial))))
theorem cut15 {N : Nat} {b w : Nat → Nat} {E : List (Nat → Nat)} {D : List (List Nat)} {Cn own : List Nat} {i a n : Nat} {fr : Nat → Dat} {m : List Root} (x y : Nat) {f5 f6 : Nat → Dat} (hd : DM.distinct [0, 1, 2, 3, x, y] = true) (h0 : m[0]? = some (.var (ds_ N b w))) (h1 : m[1]? = some (.ro E.length 16 (rowP E))) (h2 : m[2]? = some (.row 34 D.length 1 (rowsR D))) (h3 : m[3]? = some (.row 2 D.length 1 (numsF Cn)))
    (h4 : m[x]? = some (.row 34 n 1 f5)) (h5 : m[y]? = some (.row 2 n 1 f6)) (hn : 1 + (D.length - a) = n) (g5 : ∀ j, j < 1 + (D.length - a) → rowsR (own :: D.drop a) j = f5 j) (g6 : ∀ j, j < 1 + (D.length - a) → numsF (1 :: Cn.drop a) j = f6 j)
    (s1 : fr 1 = .p 0 [] 0) (s2 : fr 6 = .sl 1 0 E.length 16) (s3 : fr 7 = .sl 2 0 D.length 1) (s4 : fr 8 = .sl 3 0 D.length 1) (s5 : fr 9 = .i .i64 (i : Int)) (s6 : fr 11 = .i .i64 ((a : Nat) : Int)) (s7 : fr 12 = .sl x 0 n 1) (s8 : fr 13 = .sl y 0 n 1) :
    Ghost 0 ⟨fr, m⟩ ⟨lst [(1, .p 0 [] 0), (6, .sl 1 0 E.length 16), (7, .sl 2 0 D.length 1), (8, .sl 3 0 D.length 1), (9, .i .i64 (i : Int)), (11, .i .i64 ((a : Nat) : Int)), (12, .sl 4 0 (1 + (D.length - a)) 1), (13, .sl 5 0 (1 + (D.length - a)) 1)], [.var (ds_ N b w), .ro E.length 16 (rowP E), .row 34 D.length 1 (rowsR D), .row 2 D.length 1 (numsF Cn), .row 34 (1 + (D.length - a)) 1 (rowsR (own :: D.drop a)), .row 2 (1 + (D.length - a)) 1 (numsF (1 :: Cn.drop a))]⟩ := by
  subst hn
  have hSc : ∀ (k e n : Nat) (L : List (Nat → Nat)), Sc k (.ow e n 16 (rowP L)) := fun k _ _ L j _ => sc_row k L j
  exact Ghost.cut (Nat.le_refl _) (tauOf [0, 1, 2, 3, x, y]) _ _ (Taken.of [0, 1, 2, 3, x, y] (LeAll.cons h0 (Root.Le.refl _) (by exact byCon) (LeAll.cons h1 (Root.Le.refl _) (by exact byCon) (LeAll.cons h2 (Root.Le.refl _) (by exact byCon) (LeAll.cons h3 (Root.Le.refl _) (by exact byCon) (LeAll.cons h4 (le_row (Nat.le_refl _) g5) (by exact byCon) (LeAll.cons h5 (le_row (Nat.le_refl _) g6) (by exact byCon) trivial)))))) hd rfl)
    (SlotsR.cons s1 (sc_p rfl) (SlotsR.cons s2 (sc_sl rfl) (SlotsR.cons s3 (sc_sl rfl) (SlotsR.cons s4 (sc_sl rfl) (SlotsR.cons ⟨s5, by rw [s5]; trivial⟩ trivial (SlotsR.cons ⟨s6, by rw [s6]; trivial⟩ trivial (SlotsR.cons s7 (sc_sl rfl) (SlotsR.cons s8 (sc_sl rfl) trivial))))))))

end Go.Proofs.Ytaafldclbdlgfaa
