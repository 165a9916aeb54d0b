import Derived.Test.YtaafldclbdlgfaaX122
import Derived.Test.YtaafldclbdlgfaaX123
import Derived.Test.YtaafldclbdlgfaaX124
/- Types of elements: the reference's side. Printed by tools/gen120.py out of X120.in. -/
namespace Go.Proofs.Ytaafldclbdlgfaa
open Go.RowKit DM
set_option linter.unusedSimpArgs false
set_option linter.unusedVariables false
set_option maxRecDepth 100000
set_option maxHeartbeats 1000000

theorem specElementTypes_fn (n : Int) (b w : Nat → Nat) (hb : ∀ i, b i < 256) (hw : ∀ i, w i < 256) (hbz : ∀ i, 16 ≤ i → b i = 0) (hwz : ∀ i, 16 ≤ i → w i = 0) : FnS Try.prog 12 [ds_ n b w] [] (fun r m' => r = (etT n b w).1 ∧ m' = (etT n b w).2) := by
  have hSc : ∀ (k e n : Nat) (L : List (Nat → Nat)), Sc k (.ow e n 16 (rowP L)) := fun k _ _ L j _ => sc_row k L j
  cases hc : desB n b w
  · have e : etT n b w = (t3 .ns .ns (.i .i64 1), []) := by unfold etT; rw [hc]; rfl
    rw [e]
    refine FnS.intoN T tok Try.func12 (by rfl) rfl rfl rfl (by simp) ?_
    refine WP.rs T false tok (by rfl) (by exact byObl) ?_
    refine WP.seq ?_
    refine WP.rw ?_
    refine WPL.run T false 1 tok (by rfl) (by exact byObl) ?_
    refine WPL.call (hc ▸ l01Is_fn n b w hb hw) (by rfl) (by rfl) (by rfl) (by simp [Sc, sc_pl, sc_ds, pl_ne, ds_ne]) ?_
    refine WPL.fin T false tok (by rfl) (by exact byObl) ?_
    refine WP.cond (by rfl) (fun h => ?_) (fun h => WP.skip ?_)
    · refine WP.rs T false tok (by rfl) (by exact byObl) ?_
      exact WP.ret (Ends.new [] (by rfl) (by exact byObl) (trivial) rfl rfl (ren3 ⟨rfl, trivial⟩ ⟨rfl, trivial⟩ ⟨rfl, trivial⟩) (sc_t3 trivial trivial trivial))
    · cases h
  obtain ⟨N, rfl, hD, hnb, hnw⟩ := des_np hc hbz hwz
  cases ho : decide ((5000 : Int) < (ordG N [b, w] : Nat))
  case' false => have e : etT N b w = (t3 (.sl 0 0 (etD N [b, w]).length 1) (.sl 1 0 (etD N [b, w]).length 1) (.i .i64 0), [.row 34 (etD N [b, w]).length 1 (rowsR (etD N [b, w])), .row 2 (etD N [b, w]).length 1 (numsF (etC N [b, w]))]) := by unfold etT; rw [hc, show decide ((5000 : Int) < (ordG (N : Int).toNat [b, w] : Nat)) = false from ho]; rfl
  case' true => have e : etT N b w = (t3 .ns .ns (.i .i64 3), []) := by unfold etT; rw [hc, show decide ((5000 : Int) < (ordG (N : Int).toNat [b, w] : Nat)) = true from ho]; rfl
  all_goals
    rw [e]
    refine FnS.intoN T tok Try.func12 (by rfl) rfl rfl rfl (by simp) ?_
    refine WP.rs T false tok (by rfl) (by exact byObl) ?_
    refine WP.seq ?_
    refine WP.rw ?_
    refine WPL.run T false 1 tok (by rfl) (by exact byObl) ?_
    refine WPL.call (hc ▸ l01Is_fn N b w hb hw) (by rfl) (by rfl) (by rfl) (by simp [Sc, sc_pl, sc_ds, pl_ne, ds_ne]) ?_
    refine WPL.fin T false tok (by rfl) (by exact byObl) ?_
    refine WP.cond (by rfl) (fun h => ?_) (fun h => WP.skip ?_)
    · cases h
    clear h
    refine WP.rw ?_
    refine WPL.run T false 1 tok (by rfl) (by exact byObl) ?_
    refine WPL.callE [] (l03Of_fn N b w hD.pos hD.le hnb hnw) (trivial) (by rfl) (by rfl) (by exact byArgs) (by rfl) (by rfl) (by simp [Sc, sc_pl, sc_ds]) ?_
    rintro _ _ ⟨rfl, C, rfl, hok⟩
    refine ⟨by exact byAllc, .p 1 [] 0, rfl, sc_p rfl, ?_⟩
    refine WPL.mem (by rfl) ?_
    refine WPL.fin T false tok (by rfl) (by exact byObl) ?_
    have hO := l03Order_fn N hD.le C hok.ci.T
    rw [(hok.done hD.le hD.pos (des_L hnb hnw)).1.ord] at hO
    refine WP.seq ?_
    refine WP.rw ?_
    refine WPL.run T false 1 tok (by rfl) (by exact byObl) ?_
    refine WPL.callN [1] (.i .i64 ((ordG N [b, w] : Nat) : Int)) (hO) (LeAll.cons (by rfl) (by first | with_reducible exact Root.Le.refl _ | with_reducible exact le_dead | (skip; done) | exact byLeq) (by exact byCon) (trivial)) (by rfl) (by rfl) (by exact byArgs) (by rfl) (by rfl) (by simp [Sc, sc_pl, sc_ds]) (by exact byAllc) (⟨rfl, trivial⟩) (by exact bySc) rfl ?_
    refine WPL.fin T false tok (by rfl) (by exact byObl) ?_
    rw [ho]
    refine WP.cond (by rfl) (fun h => ?_) (fun h => WP.skip ?_)
  case true.true.refine_2.refine_1 =>
    refine WP.rs T false tok (by rfl) (by exact byObl) ?_
    exact WP.ret (Ends.new [] (by rfl) (by exact byObl) (trivial) rfl rfl (ren3 ⟨rfl, trivial⟩ ⟨rfl, trivial⟩ ⟨rfl, trivial⟩) (sc_t3 trivial trivial trivial))
  case true.true.refine_2.refine_2 => cases h
  case true.false.refine_2.refine_1 => cases h
  clear h
  have hN := hD.le
  have hT := hok.ci.T
  have hord : ordF 16 C.has N ≤ 5000 := by
    rw [hT.ord16 hN, (hok.done hN hD.pos (des_L hnb hnw)).1.ord]
    have := of_decide_eq_false ho; omega
  have hEok : ElOk N [b, w] (elsE N C.has C.tab N) := els_ok hN (des_L hnb hnw) hT fun g _ => by
    have := (hok.done hN hD.pos (des_L hnb hnw)).2 g
    unfold InS at this
    rwa [Nat.sub_zero] at this
  have hEl := els_le hN hT (Nat.le_refl N)
  have hall := (all_fn N hN C hT N (Nat.le_refl _)).1 (sameF N) (one_np N) (by rw [dfs_all hN hT]; omega)
  rw [dfs_all hN hT] at hall
  change FnS _ _ [.p 0 [] 0, .i .i64 ((N : Int) - 1), pl (fillF (fun i => i) N), .ns] _ _ at hall
  have hEnp : ∀ p ∈ elsE N C.has C.tab N, Np N p := fun p hp => ((hEok.mem p).1 hp).np (des_L hnb hnw)
  obtain ⟨hR1, hR2⟩ := et_of hEok (.refl _)
  generalize elsE N C.has C.tab N = E at *
  have hE5 : E.length ≤ 5000 := by omega
  refine WP.seqG ⟨lst [(1, .p 0 [] 0), (6, .sl 1 0 E.length 16), (7, .sl 2 0 0 1), (8, .sl 3 0 0 1)], [.var (ds_ N b w), .ro E.length 16 (rowP E), .row 34 0 1 (rowsR []), .row 2 0 1 (numsF [])]⟩ ?_ ?_
  · refine WP.ghost (s' := ⟨lst [(1, .p 0 [] 0), (5, .p 1 [] 0)], [.var (ds_ N b w), .var (chn N C)]⟩) ?_ (reg6 hN hE5 hall)
    exact Ghost.cut (Nat.le_refl _) (tauOf [0, 1]) [(1, .p 0 [] 0), (5, .p 1 [] 0)] [.var (ds_ N b w), .var (chn N C)] (Taken.of [0, 1] (LeAll.cons (by rfl) (by first | with_reducible exact Root.Le.refl _ | with_reducible exact le_dead | (skip; done) | exact byLeq) (by exact byCon) (LeAll.cons (by rfl) (by first | with_reducible exact Root.Le.refl _ | with_reducible exact le_dead | (skip; done) | exact byLeq) (by exact byCon) (trivial))) rfl rfl) (by exact bySlots)
  generalize hTe : tyL N E = TL at *
  have hTl : TL.length = E.length := by rw [← hTe, tyL_len]
  have hTs : ∀ l ∈ TL, l.length ≤ 16 := by rw [← hTe]; exact tyL_small hN hEnp
  refine WP.seq ?_
  refine WP.rs T false tok (by rfl) (by exact byObl) ?_
  refine WP.block ?_
  refine WP.loopH (⟨fun i : Nat => i ≤ E.length, fun i => [(1, .p 0 [] 0), (6, .sl 1 0 E.length 16), (7, .sl 2 0 (dL (TL.take i)).length 1), (8, .sl 3 0 (dL (TL.take i)).length 1), (9, .i .i64 (i : Int))], fun i => [.var (ds_ N b w), .ro E.length 16 (rowP E), .row 34 (dL (TL.take i)).length 1 (rowsR (dL (TL.take i))), .row 2 (dL (TL.take i)).length 1 (numsF (cnX (TL.take i) (dL (TL.take i))))], fun i => E.length - i⟩) (0) (Nat.zero_le _) (Ghost.cut (Nat.le_refl _) (tauOf [0, 1, 2, 3]) _ _ (Taken.of [0, 1, 2, 3] (LeAll.cons (by rfl) (by first | with_reducible exact Root.Le.refl _ | with_reducible exact le_dead | (exact le_row (Nat.le_refl _) (fun j hj => rfl)) | exact byLeq) (by exact byCon) (LeAll.cons (by rfl) (by first | with_reducible exact Root.Le.refl _ | with_reducible exact le_dead | (exact le_row (Nat.le_refl _) (fun j hj => rfl)) | exact byLeq) (by exact byCon) (LeAll.cons (by rfl) (by first | with_reducible exact Root.Le.refl _ | with_reducible exact le_dead | (exact le_row (Nat.le_refl _) (fun j hj => rfl)) | exact byLeq) (by exact byCon) (LeAll.cons (by rfl) (by first | with_reducible exact Root.Le.refl _ | with_reducible exact le_dead | (exact le_row (Nat.le_refl _) (fun j hj => rfl)) | exact byLeq) (by exact byCon) (trivial))))) rfl rfl) (by exact bySlots)) ?_
  intro i hi
  dsimp only at hi
  dsimp only [Hd.at]
  have hDl : (dL (TL.take i)).length ≤ 5000 := by
    have := dL_len (TL.take i)
    rw [List.length_take] at this; omega
  refine WP.seq ?_
  refine WP.rs T false tok (by rfl) (by exact byObl) ?_
  refine WP.cond (by rfl) (fun hc => WP.skip ?_) (fun hc => WP.exit ?_)
  · have hi : i < E.length := by have := of_decide_eq_true hc; omega
    clear hc
    have hpm : E.getD i (fun _ => 0) ∈ E := by
      rw [List.getD_eq_getElem?_getD, List.getElem?_eq_getElem hi]; exact List.getElem_mem hi
    have hpn := hEnp _ hpm
    have htk := tyL_take N E hi
    rw [hTe] at htk
    have hty := l01Type_fn (E.getD i fun _ => 0) N hN hpn.perm
    have hol := tyN_small hN hpn.perm
    have hDs : ∀ j, ((dL (TL.take i)).getD j []).length ≤ 65536 := fun j => Nat.le_trans (dL_small (fun l hl => hTs l (List.mem_of_mem_take hl)) j) (by omega)
    have hdn := dL_snoc (TL.take i) (tyN (cycs (E.getD i fun _ => 0) N) N)
    have hsrt := dL_ok (TL.take i)
    rw [← htk] at hdn
    have hcn : ∀ a t j, a < (dL (TL.take i)).length → (dL (TL.take i)).getD a [] = t → j < (dL (TL.take i)).length → (cnX (TL.take i ++ [t]) (dL (TL.take i))).getD j 0 = if j = a then (cnX (TL.take i) (dL (TL.take i))).getD a 0 + 1 else (cnX (TL.take i) (dL (TL.take i))).getD j 0 := fun a t j ha e hj => cnX_hit hsrt.1 ha e hj
    have hcw := fun t h1 h2 a => cnX_new (X := TL.take i) (D := dL (TL.take i)) (t := t) h1 h2 a
    have hCl := cnX_len (TL.take i) (dL (TL.take i))
    have hCb := fun j => cnX_le (TL.take i) (dL (TL.take i)) j
    have hXl : (TL.take i).length ≤ 5000 := by rw [List.length_take]; omega
    generalize hown : tyN (cycs (E.getD i fun _ => 0) N) N = own at *
    have hgi : E.getD (addrAt 0 ((i : Nat) : Int).toNat) (fun _ => 0) = E.getD i fun _ => 0 := by rw [addrAt0]; rfl
    refine WP.seq (WP.block ?_)
    refine WP.seq ?_
    refine WP.da (by kernel_rfl) 7 (by kernel_rfl) ?_
    refine WA.takes T false tok [0, 1, 2, 3, 4, 5] (f' := 3) (by kernel_rfl) (by rfl) (by rfl) (by rfl) (by exact byObl) (by rfl) (by rfl) ?_
    rw [hgi]
    refine WA.all [6] (by kernel_rfl) (by simp) ?_; intro i' hi'; simp only [List.mem_cons, List.not_mem_nil, or_false] at hi'
    subst hi'
    refine ⟨_, _, _, rfl, by rfl, by rfl, MK.call [] (.sl 4 0 own.length 1) (hty) (trivial) (by rfl) (by exact .inl rfl) (by rfl) (by exact byArgs) (by simp [Sc, sc_pl, sc_ds]) (by exact byAllc) (by exact rfl) (by exact bySc) (by rfl), ?_⟩
    refine WA.tail (by rfl) (by rfl) (by kernel_rfl) ?_
    refine WPL.fin T false tok (by rfl) (by exact byObl) ?_
    refine noPan ?_
    have hLen0 := congrArg List.length hdn
    have hgo : dL (TL.take (i + 1)) = insX own (dL (TL.take i)) := hdn
    have hcg : cnX (TL.take (i + 1)) (dL (TL.take (i + 1))) = cnX (TL.take i ++ [own]) (insX own (dL (TL.take i))) := by rw [hgo, htk]
    have hlo : own.length ≤ 65536 := by omega
    have hnin := fun h => insX_not (t := own) hsrt.1 h
    have hmm := hsrt.2
    generalize cnX (TL.take i) (dL (TL.take i)) = Cn at *
    generalize dL (TL.take i) = D at *
    refine WP.seqG ⟨lst [(1, .p 0 [] 0), (6, .sl 1 0 E.length 16), (7, .sl 2 0 D.length 1), (8, .sl 3 0 D.length 1), (9, .i .i64 (i : Int)), (10, .sl 4 0 own.length 1), (11, .i .i64 ((atX own D : Nat) : Int))], [.var (ds_ N b w), .ro E.length 16 (rowP E), .row 34 D.length 1 (rowsR D), .row 2 D.length 1 (numsF Cn), .ro own.length 1 (numsF own)]⟩ ?_ ?_
    · refine WP.block ?_
      refine WP.loopH (⟨fun a : Nat => a ≤ D.length ∧ ∀ j, j < a → lexL (D.getD j []) own < 0, fun a => [(1, .p 0 [] 0), (6, .sl 1 0 E.length 16), (7, .sl 2 0 D.length 1), (8, .sl 3 0 D.length 1), (9, .i .i64 (i : Int)), (10, .sl 4 0 own.length 1), (11, .i .i64 (a : Int))], fun a => [.var (ds_ N b w), .ro E.length 16 (rowP E), .row 34 D.length 1 (rowsR D), .row 2 D.length 1 (numsF Cn), .ro own.length 1 (numsF own)], fun a => D.length - a⟩) (0) (⟨Nat.zero_le _, fun j hj => absurd hj (Nat.not_lt_zero _)⟩) (Ghost.cut (Nat.le_refl _) (tauOf [0, 1, 2, 3, 4]) _ _ (Taken.of [0, 1, 2, 3, 4] (LeAll.cons (by rfl) (by first | with_reducible exact Root.Le.refl _ | with_reducible exact le_dead | (skip; done) | exact byLeq) (by exact byCon) (LeAll.cons (by rfl) (by first | with_reducible exact Root.Le.refl _ | with_reducible exact le_dead | (skip; done) | exact byLeq) (by exact byCon) (LeAll.cons (by rfl) (by first | with_reducible exact Root.Le.refl _ | with_reducible exact le_dead | (skip; done) | exact byLeq) (by exact byCon) (LeAll.cons (by rfl) (by first | with_reducible exact Root.Le.refl _ | with_reducible exact le_dead | (skip; done) | exact byLeq) (by exact byCon) (LeAll.cons (by rfl) (by first | with_reducible exact Root.Le.refl _ | with_reducible exact le_dead | (skip; done) | exact byLeq) (by exact byCon) (trivial)))))) rfl rfl) (by exact bySlots)) ?_
      intro a ha
      dsimp only at ha
      dsimp only [Hd.at]
      obtain ⟨ha1, ha2⟩ := ha
      refine WP.seq ?_
      refine WP.rw ?_
      refine WPL.run T false 5 tok (by rfl) (by exact byObl) ?_
      cases hc : decide ((a : Int) < D.length)
      · have ha : ¬ a < D.length := by have := of_decide_eq_false hc; omega
        refine WPL.fin T false tok (by rfl) (by exact byObl) ?_
        refine WP.cond (by rfl) (fun h => WP.skip ?_) (fun h => WP.exit ?_)
        · cases h
        have e := atX_eq ha1 ha2 (fun h => absurd h ha)
        rw [← e]
        exact Ghost.cut (Nat.le_refl _) (tauOf [0, 1, 2, 3, 4]) [(1, .p 0 [] 0), (6, .sl 1 0 E.length 16), (7, .sl 2 0 D.length 1), (8, .sl 3 0 D.length 1), (9, .i .i64 (i : Int)), (10, .sl 4 0 own.length 1), (11, .i .i64 (a : Int))] [.var (ds_ N b w), .ro E.length 16 (rowP E), .row 34 D.length 1 (rowsR D), .row 2 D.length 1 (numsF Cn), .ro own.length 1 (numsF own)] (Taken.of [0, 1, 2, 3, 4] (LeAll.cons (by rfl) (by first | with_reducible exact Root.Le.refl _ | with_reducible exact le_dead | (skip; done) | exact byLeq) (by exact byCon) (LeAll.cons (by rfl) (by first | with_reducible exact Root.Le.refl _ | with_reducible exact le_dead | (skip; done) | exact byLeq) (by exact byCon) (LeAll.cons (by rfl) (by first | with_reducible exact Root.Le.refl _ | with_reducible exact le_dead | (skip; done) | exact byLeq) (by exact byCon) (LeAll.cons (by rfl) (by first | with_reducible exact Root.Le.refl _ | with_reducible exact le_dead | (skip; done) | exact byLeq) (by exact byCon) (LeAll.cons (by rfl) (by first | with_reducible exact Root.Le.refl _ | with_reducible exact le_dead | (skip; done) | exact byLeq) (by exact byCon) (trivial)))))) rfl rfl) (by exact bySlots)
      · have ha : a < D.length := by have := of_decide_eq_true hc; omega
        refine WPL.run T false 5 tok (by rfl) (by exact byObl) ?_
        refine WPL.callR [5, 4] (l03Less_fn (D.getD a []) own (hDs a) hlo) (by rfl) (LeAll.cons (by rfl) (by first | with_reducible exact Root.Le.refl _ | with_reducible exact le_dead | (skip; done) | exact byLeq) (by exact byCon) (LeAll.cons (by rfl) (by first | with_reducible exact Root.Le.refl _ | with_reducible exact le_dead | (skip; done) | exact byLeq) (by exact byCon) (trivial))) (by exact byArgs) (by rfl) (by rfl) (by simp [Sc, sc_pl, sc_ds]) ?_
        refine WPL.fin T false tok (by rfl) (by exact byObl) ?_
        refine WP.cond (by rfl) (fun h => WP.skip ?_) (fun h => WP.exit ?_)
        · have h := of_decide_eq_true h
          refine WP.block ?_
          refine WP.run T false tok (by rfl) (by exact byObl) ?_
          refine Again.next (a + 1) (Ghost.cut (Nat.le_refl _) (tauOf [0, 1, 2, 3, 4]) _ _ (Taken.of [0, 1, 2, 3, 4] (LeAll.cons (by rfl) (by first | with_reducible exact Root.Le.refl _ | with_reducible exact le_dead | (skip; done) | exact byLeq) (by exact byCon) (LeAll.cons (by rfl) (by first | with_reducible exact Root.Le.refl _ | with_reducible exact le_dead | (skip; done) | exact byLeq) (by exact byCon) (LeAll.cons (by rfl) (by first | with_reducible exact Root.Le.refl _ | with_reducible exact le_dead | (skip; done) | exact byLeq) (by exact byCon) (LeAll.cons (by rfl) (by first | with_reducible exact Root.Le.refl _ | with_reducible exact le_dead | (skip; done) | exact byLeq) (by exact byCon) (LeAll.cons (by rfl) (by first | with_reducible exact Root.Le.refl _ | with_reducible exact le_dead | (skip; done) | exact byLeq) (by exact byCon) (trivial)))))) rfl rfl) (by exact bySlots)) (⟨ha, fun j hj => by
            by_cases e : j = a
            · subst e; exact h
            · exact ha2 j (by omega)⟩) (by dsimp only; omega)
        · have h := of_decide_eq_false h
          have e := atX_eq ha1 ha2 (fun _ => h)
          rw [← e]
          exact Ghost.cut (Nat.le_refl _) (tauOf [0, 1, 2, 3, 4]) [(1, .p 0 [] 0), (6, .sl 1 0 E.length 16), (7, .sl 2 0 D.length 1), (8, .sl 3 0 D.length 1), (9, .i .i64 (i : Int)), (10, .sl 4 0 own.length 1), (11, .i .i64 (a : Int))] [.var (ds_ N b w), .ro E.length 16 (rowP E), .row 34 D.length 1 (rowsR D), .row 2 D.length 1 (numsF Cn), .ro own.length 1 (numsF own)] (Taken.of [0, 1, 2, 3, 4] (LeAll.cons (by rfl) (by first | with_reducible exact Root.Le.refl _ | with_reducible exact le_dead | (skip; done) | exact byLeq) (by exact byCon) (LeAll.cons (by rfl) (by first | with_reducible exact Root.Le.refl _ | with_reducible exact le_dead | (skip; done) | exact byLeq) (by exact byCon) (LeAll.cons (by rfl) (by first | with_reducible exact Root.Le.refl _ | with_reducible exact le_dead | (skip; done) | exact byLeq) (by exact byCon) (LeAll.cons (by rfl) (by first | with_reducible exact Root.Le.refl _ | with_reducible exact le_dead | (skip; done) | exact byLeq) (by exact byCon) (LeAll.cons (by rfl) (by first | with_reducible exact Root.Le.refl _ | with_reducible exact le_dead | (skip; done) | exact byLeq) (by exact byCon) (trivial)))))) rfl rfl) (by exact bySlots)
    · have ha1 := atX_le own D
      have hih := @insX_hit own D
      have hin := @insX_new own D
      generalize atX own D = a at *
      have hCa : Cn.getD (addrAt 0 ((a : Nat) : Int).toNat) 0 ≤ 5000 := Nat.le_trans (hCb _) hXl
      have hCa2 : Cn.getD a 0 ≤ 5000 := Nat.le_trans (hCb _) hXl
      have hLn : 1 + (D.length - a) = 1 + (D.length - a) := rfl
      have htR : ∀ k, k < a → rowsR D k = rowsR (D.take a) k := fun k hk => by
        unfold rowsR
        simp only [List.getD_eq_getElem?_getD]
        rw [List.getElem?_take_of_lt hk]
      have htN : ∀ k, k < a → numsF Cn k = numsF (Cn.take a) k := fun k hk => by
        unfold numsF
        simp only [List.getD_eq_getElem?_getD]
        rw [List.getElem?_take_of_lt hk]
      refine WP.seq ?_
      refine WP.rw ?_
      refine WPL.run T false 5 tok (by rfl) (by exact byObl) ?_
      cases hc : decide ((a : Int) < D.length)
      · obtain rfl : a = D.length := by have := of_decide_eq_false hc; omega
        refine WPL.fin T false tok (by rfl) (by exact byObl) ?_
        refine WP.cond (by rfl) (fun h => ?_) (fun h => ?_)
        · cases h
        refine WP.skip ?_
        have hno : ¬ (D.length < D.length ∧ lexL (D.getD D.length []) own = 0) := fun h => absurd h.1 (Nat.lt_irrefl _)
        have e0 := hin hno
        have e2 := hcw own (fun h => hnin hno ((hmm own).2 h)) (hnin hno) D.length
        rw [e0] at hgo hcg
        rw [e2] at hcg
        have hLen : (dL (TL.take (i + 1))).length = 0 + D.length + (1 + (D.length - D.length)) := by
          rw [hgo, List.length_append, List.length_cons, List.length_take, List.length_drop]; omega
        have hjR : ∀ (z : Nat → Dat) j, j < 0 + D.length + (1 + (D.length - D.length)) → rowsR (dL (TL.take (i + 1))) j = apF (0 + D.length) (apF 0 z 0 (rowsR D)) 0 (rowsR (own :: D.drop D.length)) j := fun z j hj => by
          rw [hgo]
          exact rowsR_join (D.take D.length) (own :: D.drop D.length) (by rw [List.length_take]; omega) (by rw [List.length_cons, List.length_take, List.length_drop]; omega) z _ htR
        have hjN : ∀ (z : Nat → Dat) j, j < 0 + D.length + (1 + (D.length - D.length)) → numsF (cnX (TL.take (i + 1)) (dL (TL.take (i + 1)))) j = apF (0 + D.length) (apF 0 z 0 (numsF Cn)) 0 (numsF (1 :: Cn.drop D.length)) j := fun z j hj => by
          rw [hcg]
          exact numsF_join (Cn.take D.length) (1 :: Cn.drop D.length) (by rw [List.length_take]; omega) (by rw [List.length_cons, List.length_take, List.length_drop]; omega) z _ htN
        refine WP.seqG ⟨lst [(1, .p 0 [] 0), (6, .sl 1 0 E.length 16), (7, .sl 2 0 D.length 1), (8, .sl 3 0 D.length 1), (9, .i .i64 (i : Int)), (11, .i .i64 ((D.length : Nat) : Int)), (12, .sl 4 0 (1 + (D.length - D.length)) 1), (13, .sl 5 0 (1 + (D.length - D.length)) 1)], [.var (ds_ N b w), .ro E.length 16 (rowP E), .row 34 D.length 1 (rowsR D), .row 2 D.length 1 (numsF Cn), .row 34 (1 + (D.length - D.length)) 1 (rowsR (own :: D.drop D.length)), .row 2 (1 + (D.length - D.length)) 1 (numsF (1 :: Cn.drop D.length))]⟩ ?_ ?_
        · refine WP.ghost (s' := ⟨lst [(1, .p 0 [] 0), (6, .sl 1 0 E.length 16), (7, .sl 2 0 D.length 1), (8, .sl 3 0 D.length 1), (9, .i .i64 (i : Int)), (10, .sl 4 0 own.length 1), (11, .i .i64 ((D.length : Nat) : Int))], [.var (ds_ N b w), .ro E.length 16 (rowP E), .row 34 D.length 1 (rowsR D), .row 2 D.length 1 (numsF Cn), .ro own.length 1 (numsF own)]⟩) ?_ (reg15e (b := b) (w := w) (N := N) (E := E) (i := i) hCl hol hDl)
          exact Ghost.cut (Nat.le_refl _) (tauOf [0, 1, 2, 3, 4]) [(1, .p 0 [] 0), (6, .sl 1 0 E.length 16), (7, .sl 2 0 D.length 1), (8, .sl 3 0 D.length 1), (9, .i .i64 (i : Int)), (10, .sl 4 0 own.length 1), (11, .i .i64 ((D.length : Nat) : Int))] [.var (ds_ N b w), .ro E.length 16 (rowP E), .row 34 D.length 1 (rowsR D), .row 2 D.length 1 (numsF Cn), .ro own.length 1 (numsF own)] (Taken.of [0, 1, 2, 3, 4] (LeAll.cons (by rfl) (by first | with_reducible exact Root.Le.refl _ | with_reducible exact le_dead | (skip; done) | exact byLeq) (by exact byCon) (LeAll.cons (by rfl) (by first | with_reducible exact Root.Le.refl _ | with_reducible exact le_dead | (skip; done) | exact byLeq) (by exact byCon) (LeAll.cons (by rfl) (by first | with_reducible exact Root.Le.refl _ | with_reducible exact le_dead | (skip; done) | exact byLeq) (by exact byCon) (LeAll.cons (by rfl) (by first | with_reducible exact Root.Le.refl _ | with_reducible exact le_dead | (skip; done) | exact byLeq) (by exact byCon) (LeAll.cons (by rfl) (by first | with_reducible exact Root.Le.refl _ | with_reducible exact le_dead | (skip; done) | exact byLeq) (by exact byCon) (trivial)))))) rfl rfl) (by exact bySlots)
        · refine WP.rw ?_
          refine WPL.run T false 3 tok (by rfl) (by exact byObl) ?_
          refine WPL.op (by rfl) (by rfl) (QOK.op (slh_ok (h := D.length) tok rfl rfl rfl rfl rfl rfl rfl (by omega))) ?_
          refine WPL.fin T false tok (by rfl) (by exact ⟨by omega, by omega, by omega, by omega, by omega, by show _ ≤ 4294967296; omega⟩) ?_
          refine WP.region ?_
          refine WPL.run T false 3 tok (by rfl) (by exact byObl) ?_
          refine WPL.op (by rfl) (by rfl) (QOK.op (slh_ok (h := D.length) tok rfl rfl rfl rfl rfl rfl rfl (by omega))) ?_
          refine WPL.fin T false tok (by rfl) (by exact ⟨by omega, by omega, by omega, by omega, by omega, by show _ ≤ 4294967296; omega⟩) ?_
          refine WP.run T false tok (by rfl) (by exact byObl) ?_
          refine Again.next (i + 1) (Ghost.cut (Nat.le_refl _) (tauOf [0, 1, 8, 11]) _ _ (Taken.of [0, 1, 8, 11] (LeAll.cons (by rfl) (by first | with_reducible exact Root.Le.refl _ | with_reducible exact le_dead | (first | exact le_row (Nat.le_of_eq hLen) (fun j hj => hjR _ j (by omega)) | exact le_row (Nat.le_of_eq hLen) (fun j hj => hjN _ j (by omega))) | exact byLeq) (by exact byCon) (LeAll.cons (by rfl) (by first | with_reducible exact Root.Le.refl _ | with_reducible exact le_dead | (first | exact le_row (Nat.le_of_eq hLen) (fun j hj => hjR _ j (by omega)) | exact le_row (Nat.le_of_eq hLen) (fun j hj => hjN _ j (by omega))) | exact byLeq) (by exact byCon) (LeAll.cons (by rfl) (by first | with_reducible exact Root.Le.refl _ | with_reducible exact le_dead | (first | exact le_row (Nat.le_of_eq hLen) (fun j hj => hjR _ j (by omega)) | exact le_row (Nat.le_of_eq hLen) (fun j hj => hjN _ j (by omega))) | exact byLeq) (by exact byCon) (LeAll.cons (by rfl) (by first | with_reducible exact Root.Le.refl _ | with_reducible exact le_dead | (first | exact le_row (Nat.le_of_eq hLen) (fun j hj => hjR _ j (by omega)) | exact le_row (Nat.le_of_eq hLen) (fun j hj => hjN _ j (by omega))) | exact byLeq) (by exact byCon) (trivial))))) rfl rfl) (by exact bySlots)) (hi) (by dsimp only; omega)
      · have ha : a < D.length := by have := of_decide_eq_true hc; omega
        refine WPL.run T false 5 tok (by rfl) (by exact byObl) ?_
        refine WPL.callR [5, 4] (l03Less_fn (D.getD a []) own (hDs a) hlo) (by rfl) (LeAll.cons (by rfl) (by first | with_reducible exact Root.Le.refl _ | with_reducible exact le_dead | (skip; done) | exact byLeq) (by exact byCon) (LeAll.cons (by rfl) (by first | with_reducible exact Root.Le.refl _ | with_reducible exact le_dead | (skip; done) | exact byLeq) (by exact byCon) (trivial))) (by exact byArgs) (by rfl) (by rfl) (by simp [Sc, sc_pl, sc_ds]) ?_
        refine WPL.fin T false tok (by rfl) (by exact byObl) ?_
        refine WP.cond (by rfl) (fun h => ?_) (fun h => ?_)
        · have h : lexL (D.getD a []) own = 0 := by simpa using h
          have e0 := hih ⟨ha, h⟩
          have e1 := lex_eq.1 h
          rw [e0] at hgo hcg
          have hLen := congrArg List.length hgo
          have hcj : ∀ j, j < D.length → numsF (cnX (TL.take (i + 1)) (dL (TL.take (i + 1)))) j = fup (numsF Cn) a (.i .i64 ((Cn.getD a 0 : Nat) + 1 : Int)) j := fun j hj => by
            rw [hcg]
            unfold numsF
            rw [hcn a own j ha e1 hj]
            by_cases hja : j = a
            · subst hja; rw [if_pos rfl, fup_same]; rfl
            · rw [if_neg hja, fup_ne _ _ hja]
          refine WP.rs T false tok (by rfl) (by exact byObl) ?_
          refine WP.exit ?_
          refine WP.run T false tok (by rfl) (by exact byObl) ?_
          refine Again.next (i + 1) (Ghost.cut (Nat.le_refl _) (tauOf [0, 1, 2, 3]) _ _ (Taken.of [0, 1, 2, 3] (LeAll.cons (by rfl) (by first | with_reducible exact Root.Le.refl _ | with_reducible exact le_dead | (first | exact le_row (Nat.le_of_eq hLen) (fun j hj => hcj j (by omega)) | exact le_row (Nat.le_of_eq hLen) (fun j _ => by rw [hgo])) | exact byLeq) (by exact byCon) (LeAll.cons (by rfl) (by first | with_reducible exact Root.Le.refl _ | with_reducible exact le_dead | (first | exact le_row (Nat.le_of_eq hLen) (fun j hj => hcj j (by omega)) | exact le_row (Nat.le_of_eq hLen) (fun j _ => by rw [hgo])) | exact byLeq) (by exact byCon) (LeAll.cons (by rfl) (by first | with_reducible exact Root.Le.refl _ | with_reducible exact le_dead | (first | exact le_row (Nat.le_of_eq hLen) (fun j hj => hcj j (by omega)) | exact le_row (Nat.le_of_eq hLen) (fun j _ => by rw [hgo])) | exact byLeq) (by exact byCon) (LeAll.cons (by rfl) (by first | with_reducible exact Root.Le.refl _ | with_reducible exact le_dead | (first | exact le_row (Nat.le_of_eq hLen) (fun j hj => hcj j (by omega)) | exact le_row (Nat.le_of_eq hLen) (fun j _ => by rw [hgo])) | exact byLeq) (by exact byCon) (trivial))))) rfl rfl) (by exact bySlots)) (hi) (by dsimp only; omega)
        · have h : lexL (D.getD a []) own ≠ 0 := by simpa using h
          refine WP.skip ?_
          have hno : ¬ (a < D.length ∧ lexL (D.getD a []) own = 0) := fun h2 => h h2.2
          have e0 := hin hno
          have e2 := hcw own (fun h => hnin hno ((hmm own).2 h)) (hnin hno) a
          rw [e0] at hgo hcg
          rw [e2] at hcg
          have hLen : (dL (TL.take (i + 1))).length = 0 + a + (1 + (D.length - a)) := by
            rw [hgo, List.length_append, List.length_cons, List.length_take, List.length_drop]; omega
          have hjR : ∀ (z : Nat → Dat) j, j < 0 + a + (1 + (D.length - a)) → rowsR (dL (TL.take (i + 1))) j = apF (0 + a) (apF 0 z 0 (rowsR D)) 0 (rowsR (own :: D.drop a)) j := fun z j hj => by
            rw [hgo]
            exact rowsR_join (D.take a) (own :: D.drop a) (by rw [List.length_take]; omega) (by rw [List.length_cons, List.length_take, List.length_drop]; omega) z _ htR
          have hjN : ∀ (z : Nat → Dat) j, j < 0 + a + (1 + (D.length - a)) → numsF (cnX (TL.take (i + 1)) (dL (TL.take (i + 1)))) j = apF (0 + a) (apF 0 z 0 (numsF Cn)) 0 (numsF (1 :: Cn.drop a)) j := fun z j hj => by
            rw [hcg]
            exact numsF_join (Cn.take a) (1 :: Cn.drop a) (by rw [List.length_take]; omega) (by rw [List.length_cons, List.length_take, List.length_drop]; omega) z _ htN
          refine WP.seqG ⟨lst [(1, .p 0 [] 0), (6, .sl 1 0 E.length 16), (7, .sl 2 0 D.length 1), (8, .sl 3 0 D.length 1), (9, .i .i64 (i : Int)), (11, .i .i64 ((a : Nat) : Int)), (12, .sl 4 0 (1 + (D.length - a)) 1), (13, .sl 5 0 (1 + (D.length - a)) 1)], [.var (ds_ N b w), .ro E.length 16 (rowP E), .row 34 D.length 1 (rowsR D), .row 2 D.length 1 (numsF Cn), .row 34 (1 + (D.length - a)) 1 (rowsR (own :: D.drop a)), .row 2 (1 + (D.length - a)) 1 (numsF (1 :: Cn.drop a))]⟩ ?_ ?_
          · refine WP.ghost (s' := ⟨lst [(1, .p 0 [] 0), (6, .sl 1 0 E.length 16), (7, .sl 2 0 D.length 1), (8, .sl 3 0 D.length 1), (9, .i .i64 (i : Int)), (10, .sl 4 0 own.length 1), (11, .i .i64 ((a : Nat) : Int))], [.var (ds_ N b w), .ro E.length 16 (rowP E), .row 34 D.length 1 (rowsR D), .row 2 D.length 1 (numsF Cn), .ro own.length 1 (numsF own)]⟩) ?_ (reg15l (b := b) (w := w) (N := N) (E := E) (i := i) hCl hol hDl ha)
            exact Ghost.cut (Nat.le_refl _) (tauOf [0, 1, 2, 3, 4]) [(1, .p 0 [] 0), (6, .sl 1 0 E.length 16), (7, .sl 2 0 D.length 1), (8, .sl 3 0 D.length 1), (9, .i .i64 (i : Int)), (10, .sl 4 0 own.length 1), (11, .i .i64 ((a : Nat) : Int))] [.var (ds_ N b w), .ro E.length 16 (rowP E), .row 34 D.length 1 (rowsR D), .row 2 D.length 1 (numsF Cn), .ro own.length 1 (numsF own)] (Taken.of [0, 1, 2, 3, 4] (LeAll.cons (by rfl) (by first | with_reducible exact Root.Le.refl _ | with_reducible exact le_dead | (skip; done) | exact byLeq) (by exact byCon) (LeAll.cons (by rfl) (by first | with_reducible exact Root.Le.refl _ | with_reducible exact le_dead | (skip; done) | exact byLeq) (by exact byCon) (LeAll.cons (by rfl) (by first | with_reducible exact Root.Le.refl _ | with_reducible exact le_dead | (skip; done) | exact byLeq) (by exact byCon) (LeAll.cons (by rfl) (by first | with_reducible exact Root.Le.refl _ | with_reducible exact le_dead | (skip; done) | exact byLeq) (by exact byCon) (LeAll.cons (by rfl) (by first | with_reducible exact Root.Le.refl _ | with_reducible exact le_dead | (skip; done) | exact byLeq) (by exact byCon) (trivial)))))) rfl rfl) (by exact bySlots)
          · refine WP.rw ?_
            refine WPL.run T false 3 tok (by rfl) (by exact byObl) ?_
            refine WPL.op (by rfl) (by rfl) (QOK.op (slh_ok (h := a) tok rfl rfl rfl rfl rfl rfl rfl (by omega))) ?_
            refine WPL.fin T false tok (by rfl) (by exact ⟨by omega, by omega, by omega, by omega, by omega, by show _ ≤ 4294967296; omega⟩) ?_
            refine WP.region ?_
            refine WPL.run T false 3 tok (by rfl) (by exact byObl) ?_
            refine WPL.op (by rfl) (by rfl) (QOK.op (slh_ok (h := a) tok rfl rfl rfl rfl rfl rfl rfl (by omega))) ?_
            refine WPL.fin T false tok (by rfl) (by exact ⟨by omega, by omega, by omega, by omega, by omega, by show _ ≤ 4294967296; omega⟩) ?_
            refine WP.run T false tok (by rfl) (by exact byObl) ?_
            refine Again.next (i + 1) (Ghost.cut (Nat.le_refl _) (tauOf [0, 1, 8, 11]) _ _ (Taken.of [0, 1, 8, 11] (LeAll.cons (by rfl) (by first | with_reducible exact Root.Le.refl _ | with_reducible exact le_dead | (first | exact le_row (Nat.le_of_eq hLen) (fun j hj => hjR _ j (by omega)) | exact le_row (Nat.le_of_eq hLen) (fun j hj => hjN _ j (by omega))) | exact byLeq) (by exact byCon) (LeAll.cons (by rfl) (by first | with_reducible exact Root.Le.refl _ | with_reducible exact le_dead | (first | exact le_row (Nat.le_of_eq hLen) (fun j hj => hjR _ j (by omega)) | exact le_row (Nat.le_of_eq hLen) (fun j hj => hjN _ j (by omega))) | exact byLeq) (by exact byCon) (LeAll.cons (by rfl) (by first | with_reducible exact Root.Le.refl _ | with_reducible exact le_dead | (first | exact le_row (Nat.le_of_eq hLen) (fun j hj => hjR _ j (by omega)) | exact le_row (Nat.le_of_eq hLen) (fun j hj => hjN _ j (by omega))) | exact byLeq) (by exact byCon) (LeAll.cons (by rfl) (by first | with_reducible exact Root.Le.refl _ | with_reducible exact le_dead | (first | exact le_row (Nat.le_of_eq hLen) (fun j hj => hjR _ j (by omega)) | exact le_row (Nat.le_of_eq hLen) (fun j hj => hjN _ j (by omega))) | exact byLeq) (by exact byCon) (trivial))))) rfl rfl) (by exact bySlots)) (hi) (by dsimp only; omega)
  · have hi : i = E.length := by have := of_decide_eq_false hc; omega
    clear hc
    have hX : TL.take i = TL := by rw [hi, ← hTl, List.take_length]
    rw [hX] at *
    rw [← hR1, ← hR2]
    refine WP.rs T false tok (by rfl) (by exact byObl) ?_
    exact WP.ret (Ends.new [2, 3] (by rfl) (by exact byObl) (LeAll.cons (by rfl) (by first | with_reducible exact Root.Le.refl _ | with_reducible exact le_dead | (skip; done) | exact byLeq) (by exact byCon) (LeAll.cons (by rfl) (by first | with_reducible exact Root.Le.refl _ | with_reducible exact le_dead | (skip; done) | exact byLeq) (by exact byCon) (trivial))) rfl rfl (ren3 rfl rfl ⟨rfl, trivial⟩) (sc_t3 (sc_sl rfl) (sc_sl rfl) trivial))

end Go.Proofs.Ytaafldclbdlgfaa
