import Derived.Test.YtaafldclbdlgfaaL35
import Derived.Test.YtaafldclbdlgfaaX86
/- Elements of a group: the reference's list. -/
namespace Go.Proofs.Ytaafldclbdlgfaa
open Go.RowKit DM
set_option linter.unusedSimpArgs false
set_option linter.unusedVariables false
set_option maxRecDepth 100000
set_option maxHeartbeats 1000000

def AllN (N : Nat) (C : Chn) (k : Nat) : Prop := ∀ p, Np N p → (dfsE N C.has C.tab k p).length ≤ 1000000 → FnS Try.prog 39 [.p 0 [] 0, .i .i64 ((k : Int) - 1), pl p, .ns] [.var (chn N C)] fun r m' => r = .sl 1 0 (dfsE N C.has C.tab k p).length 16 ∧ m' = [.var (chn N C), .row 25 (dfsE N C.has C.tab k p).length 16 (rowP (dfsE N C.has C.tab k p))]
def AllS (N : Nat) (C : Chn) (k : Nat) : Prop := ∀ p (L : List (Nat → Nat)), Np N p → (L ++ dfsE N C.has C.tab k p).length ≤ 1000000 → FnS Try.prog 39 [.p 0 [] 0, .i .i64 ((k : Int) - 1), pl p, .sl 1 0 L.length 16] [.var (chn N C), .row 25 L.length 16 (rowP L)] fun r m' => r = .sl 2 0 (L ++ dfsE N C.has C.tab k p).length 16 ∧ m' = [.var (chn N C), .dead, .row 25 (L ++ dfsE N C.has C.tab k p).length 16 (rowP (L ++ dfsE N C.has C.tab k p))]

theorem all_zero (N : Nat) (C : Chn) : AllN N C 0 ∧ AllS N C 0 := by
  have hSc : ∀ (k e n : Nat) (L : List (Nat → Nat)), Sc k (.ow e n 16 (rowP L)) := fun k _ _ L j _ => sc_row k L j
  refine ⟨fun p hp _ => ?_, fun p L hp hl => ?_⟩
  · have e : dfsE N C.has C.tab 0 p = [p] := rfl
    rw [e]
    refine FnS.intoN T tok Try.func39 (by rfl) rfl rfl rfl (by simp) ?_
    refine WP.rs T false tok (by rfl) (by exact byObl) ?_
    refine WP.seq ?_
    refine WP.rs T false tok (by rfl) (by exact byObl) ?_
    refine WP.cond (by rfl) (fun h => ?_) (fun h => WP.skip ?_)
    · refine WP.rs T false tok (by rfl) (by exact byObl) ?_
      exact WP.ret (Ends.new [0, 3] (by rfl) (by exact byObl) (LeAll.cons (by rfl) (by first | with_reducible exact Root.Le.refl _ | with_reducible exact le_dead | (exact le_row (Nat.le_refl _) (fun j hj => by obtain rfl : j = 0 := (by have : j < 1 := hj; omega); rfl)) | exact byLeq) (by exact byCon) (LeAll.cons (by rfl) (by first | with_reducible exact Root.Le.refl _ | with_reducible exact le_dead | (exact le_row (Nat.le_refl _) (fun j hj => by obtain rfl : j = 0 := (by have : j < 1 := hj; omega); rfl)) | exact byLeq) (by exact byCon) (trivial))) rfl rfl (rfl) (sc_sl rfl))
    · simp at h
  · have e : dfsE N C.has C.tab 0 p = [p] := rfl
    rw [e] at hl ⊢
    have hLen : (L ++ [p]).length = L.length + 1 := by simp
    refine FnS.intoN T tok Try.func39 (by rfl) rfl rfl rfl (by simp) ?_
    refine WP.rs T false tok (by rfl) (by exact byObl) ?_
    refine WP.seq ?_
    refine WP.rs T false tok (by rfl) (by exact byObl) ?_
    refine WP.cond (by rfl) (fun h => ?_) (fun h => WP.skip ?_)
    · refine WP.rs T false tok (by rfl) (by exact byObl) ?_
      exact WP.ret (Ends.new [0, 1, 4] (by rfl) (by exact byObl) (LeAll.cons (by rfl) (by first | with_reducible exact Root.Le.refl _ | with_reducible exact le_dead | (exact le_row (Nat.le_of_eq hLen) (fun j hj => ap_row1 rfl _ _ j (by omega))) | exact byLeq) (by exact byCon) (LeAll.cons (by rfl) (by first | with_reducible exact Root.Le.refl _ | with_reducible exact le_dead | (exact le_row (Nat.le_of_eq hLen) (fun j hj => ap_row1 rfl _ _ j (by omega))) | exact byLeq) (by exact byCon) (LeAll.cons (by rfl) (by first | with_reducible exact Root.Le.refl _ | with_reducible exact le_dead | (exact le_row (Nat.le_of_eq hLen) (fun j hj => ap_row1 rfl _ _ j (by omega))) | exact byLeq) (by exact byCon) (trivial)))) rfl rfl (renD_len hLen rfl) (sc_sl rfl))
    · simp at h

theorem alln_step (N : Nat) (hN : N ≤ 16) (C : Chn) (hT : TblOk N C.has C.tab) (i : Nat) (hi : i < N) (ihN : AllN N C i) (ihS : AllS N C i) : AllN N C (i + 1) := by
  have hSc : ∀ (k e n : Nat) (L : List (Nat → Nat)), Sc k (.ow e n 16 (rowP L)) := fun k _ _ L j _ => sc_row k L j
  intro p hp hl
  have hend : (dfsE N C.has C.tab (i + 1) p) = (accE N C.has C.tab i p N) := rfl
  have hii := (hT.diag i hi).1
  have hlow : ∀ y, y < i → C.has i y = false := fun y hy => by
    cases e : C.has i y
    · rfl
    · have := hT.ge hi e; omega
  have hbd : ∀ y, y ≤ N → (accE N C.has C.tab i p y).length ≤ 1000000 := fun y hy => by
    have h1 := accE_le N C.has C.tab i p y (N - y)
    rw [show y + (N - y) = N by omega] at h1
    rw [hend] at hl
    omega
  rw [hend]
  have ei : ((i + 1 : Nat) : Int) - 1 = (i : Int) := by omega
  rw [ei]
  refine FnS.intoN T tok Try.func39 (by rfl) rfl rfl rfl (by simp) ?_
  refine WP.rs T false tok (by rfl) (by exact byObl) ?_
  refine WP.seq ?_
  refine WP.rs T false tok (by rfl) (by exact byObl) ?_
  refine WP.cond (by rfl) (fun h => ?_) (fun h => WP.skip ?_)
  · have h := of_decide_eq_true h; omega
  clear h
  refine WP.seq ?_
  refine WP.rs T false tok (by rfl) (by exact byObl) ?_
  refine WP.block ?_
  refine WP.loopH (⟨fun z : Nat ⊕ Nat => (match z with | .inl y => y ≤ i | .inr y => i < y ∧ y ≤ N), fun z => (match z with | .inl y => [(0, .p 0 [] 0), (1, .i .i64 (i : Int)), (3, .ns), (6, .p 1 [] 0), (9, .i .i64 (y : Int))] | .inr y => [(0, .p 0 [] 0), (1, .i .i64 (i : Int)), (3, .sl 2 0 (accE N C.has C.tab i p y).length 16), (6, .p 1 [] 0), (9, .i .i64 (y : Int))]), fun z => (match z with | .inl y => [.var (chn N C), .var (pl p)] | .inr y => [.var (chn N C), .var (pl p), .row 25 (accE N C.has C.tab i p y).length 16 (rowP (accE N C.has C.tab i p y))]), fun z => (match z with | .inl y => N + 1 - y | .inr y => N + 1 - y)⟩) ((Sum.inl 0 : Nat ⊕ Nat)) (Nat.zero_le _) (Ghost.cut (Nat.le_refl _) (tauOf [0, 1]) _ _ (Taken.of [0, 1] (LeAll.cons (by rfl) (by first | with_reducible exact Root.Le.refl _ | with_reducible exact le_dead | (skip; done) | exact byLeq) (by exact byCon) (LeAll.cons (by rfl) (by first | with_reducible exact Root.Le.refl _ | with_reducible exact le_dead | (skip; done) | exact byLeq) (by exact byCon) (trivial))) rfl rfl) (by exact bySlots)) ?_
  rintro (y | y) hy
  · dsimp only at hy
    dsimp only [Hd.at]
    have hyN : y < N := by omega
    refine WP.seq ?_
    refine WP.rs T false tok (by rfl) (by exact byObl) ?_
    refine WP.cond (by rfl) (fun hc => WP.skip ?_) (fun hc => WP.exit ?_)
    · clear hc
      refine WP.seq (WP.block ?_)
      refine WP.rs T false tok (by rfl) (by exact byObl) ?_
      by_cases hyi : y = i
      · subst hyi
        have ht := hT.np y y hi hii
        have e0 : accE N C.has C.tab y p y = [] := accE_none hlow
        have e : accE N C.has C.tab y p (y + 1) = dfsE N C.has C.tab y (mulF N p (C.tab y y)) := by rw [accE_yes hii, e0, List.nil_append]
        have hb := hbd (y + 1) (by omega)
        rw [e] at hb
        have hrec := ihN (mulF N p (C.tab y y)) (mul_np hp ht) hb
        rw [← e] at hrec
        refine WP.cond (by rfl) (fun h => ?_) (fun h => WP.skip ?_)
        · refine WP.da (by kernel_rfl) 18 (by kernel_rfl) ?_
          refine WA.takes T false tok [0, 1, 2, 3, 4, 5, 6, 7, 8, 9, 10, 11] (f' := 8) (by kernel_rfl) (by rfl) (by rfl) (by rfl) (by exact byObl) (by rfl) (by rfl) ?_
          refine WA.takes T false tok [12, 13, 14, 15, 17] (f' := 3) (by kernel_rfl) (by rfl) (by rfl) (by rfl) (by exact byObl) (by rfl) (by rfl) ?_
          refine WA.all [16] (by kernel_rfl) (by simp) ?_; intro i' hi'; simp only [List.mem_cons, List.not_mem_nil, or_false] at hi'
          subst hi'
          refine ⟨_, _, _, rfl, by rfl, by rfl, MK.callP (l01Then_fn p (C.tab y y) N hN hp.perm.lt) (by rfl) (by simp [Sc, sc_pl, sc_ds, pl_ne, ds_ne]), ?_⟩
          refine WA.tail (by rfl) (by rfl) (by kernel_rfl) ?_
          refine WPL.callN [0] (.sl 2 0 (accE N C.has C.tab y p (y + 1)).length 16) (hrec) (LeAll.cons (by rfl) (by first | with_reducible exact Root.Le.refl _ | with_reducible exact le_dead | (skip; done) | exact byLeq) (by exact byCon) (trivial)) (by rfl) (by rfl) (by exact byArgs) (by rfl) (by rfl) (by simp [Sc, sc_pl, sc_ds]) (by exact byAllc) (rfl) (by exact bySc) rfl ?_
          refine WPL.fin T false tok (by rfl) (by exact byObl) ?_
          refine noPan ?_
          refine WP.run T false tok (by rfl) (by exact byObl) ?_
          refine Again.next ((Sum.inr (y + 1) : Nat ⊕ Nat)) (Ghost.cut (Nat.le_refl _) (tauOf [0, 1, 2]) _ _ (Taken.of [0, 1, 2] (LeAll.cons (by rfl) (by first | with_reducible exact Root.Le.refl _ | with_reducible exact le_dead | (skip; done) | exact byLeq) (by exact byCon) (LeAll.cons (by rfl) (by first | with_reducible exact Root.Le.refl _ | with_reducible exact le_dead | (skip; done) | exact byLeq) (by exact byCon) (LeAll.cons (by rfl) (by first | with_reducible exact Root.Le.refl _ | with_reducible exact le_dead | (skip; done) | exact byLeq) (by exact byCon) (trivial)))) rfl rfl) (by exact bySlots)) (⟨Nat.lt_succ_self _, by omega⟩) (by dsimp only; omega)
        · simp [hii] at h
      · have hlt : y < i := by omega
        have hh := hlow y hlt
        refine WP.cond (by rfl) (fun h => ?_) (fun h => WP.skip ?_)
        · simp [hh] at h
        · refine WP.run T false tok (by rfl) (by exact byObl) ?_
          refine Again.next ((Sum.inl (y + 1) : Nat ⊕ Nat)) (Ghost.cut (Nat.le_refl _) (tauOf [0, 1]) _ _ (Taken.of [0, 1] (LeAll.cons (by rfl) (by first | with_reducible exact Root.Le.refl _ | with_reducible exact le_dead | (skip; done) | exact byLeq) (by exact byCon) (LeAll.cons (by rfl) (by first | with_reducible exact Root.Le.refl _ | with_reducible exact le_dead | (skip; done) | exact byLeq) (by exact byCon) (trivial))) rfl rfl) (by exact bySlots)) (hlt) (by dsimp only; omega)
    · have := of_decide_eq_false hc; omega
  · dsimp only at hy
    dsimp only [Hd.at]
    obtain ⟨hy1, hy2⟩ := hy
    refine WP.seq ?_
    refine WP.rs T false tok (by rfl) (by exact byObl) ?_
    refine WP.cond (by rfl) (fun hc => WP.skip ?_) (fun hc => WP.exit ?_)
    · have hyN : y < N := by have := of_decide_eq_true hc; omega
      clear hc
      refine WP.seq (WP.block ?_)
      refine WP.rs T false tok (by rfl) (by exact byObl) ?_
      cases hh : C.has i y with
      | true =>
        have ht := hT.np i y hi hh
        have e : (accE N C.has C.tab i p (y + 1)) = (accE N C.has C.tab i p y) ++ dfsE N C.has C.tab i (mulF N p (C.tab i y)) := by rw [accE_yes hh]
        have hb := hbd (y + 1) (by omega)
        rw [e] at hb
        have hrec := ihS (mulF N p (C.tab i y)) (accE N C.has C.tab i p y) (mul_np hp ht) hb
        rw [← e] at hrec
        refine WP.cond (by rfl) (fun h => ?_) (fun h => WP.skip ?_)
        · refine WP.da (by kernel_rfl) 18 (by kernel_rfl) ?_
          refine WA.takes T false tok [0, 1, 2, 3, 4, 5, 6, 7, 8, 9, 10, 11] (f' := 8) (by kernel_rfl) (by rfl) (by rfl) (by rfl) (by exact byObl) (by rfl) (by rfl) ?_
          refine WA.takes T false tok [12, 13, 14, 15, 17] (f' := 3) (by kernel_rfl) (by rfl) (by rfl) (by rfl) (by exact byObl) (by rfl) (by rfl) ?_
          refine WA.all [16] (by kernel_rfl) (by simp) ?_; intro i' hi'; simp only [List.mem_cons, List.not_mem_nil, or_false] at hi'
          subst hi'
          refine ⟨_, _, _, rfl, by rfl, by rfl, MK.callP (l01Then_fn p (C.tab i y) N hN hp.perm.lt) (by rfl) (by simp [Sc, sc_pl, sc_ds, pl_ne, ds_ne]), ?_⟩
          refine WA.tail (by rfl) (by rfl) (by kernel_rfl) ?_
          refine WPL.callN [0, 2] (.sl 3 0 (accE N C.has C.tab i p (y + 1)).length 16) (hrec) (LeAll.cons (by rfl) (by first | with_reducible exact Root.Le.refl _ | with_reducible exact le_dead | (skip; done) | exact byLeq) (by exact byCon) (LeAll.cons (by rfl) (by first | with_reducible exact Root.Le.refl _ | with_reducible exact le_dead | (skip; done) | exact byLeq) (by exact byCon) (trivial))) (by rfl) (by rfl) (by exact byArgs) (by rfl) (by rfl) (by simp [Sc, sc_pl, sc_ds]) (by exact byAllc) (rfl) (by exact bySc) rfl ?_
          refine WPL.fin T false tok (by rfl) (by exact byObl) ?_
          refine noPan ?_
          refine WP.run T false tok (by rfl) (by exact byObl) ?_
          refine Again.next ((Sum.inr (y + 1) : Nat ⊕ Nat)) (Ghost.cut (Nat.le_refl _) (tauOf [0, 1, 3]) _ _ (Taken.of [0, 1, 3] (LeAll.cons (by rfl) (by first | with_reducible exact Root.Le.refl _ | with_reducible exact le_dead | (skip; done) | exact byLeq) (by exact byCon) (LeAll.cons (by rfl) (by first | with_reducible exact Root.Le.refl _ | with_reducible exact le_dead | (skip; done) | exact byLeq) (by exact byCon) (LeAll.cons (by rfl) (by first | with_reducible exact Root.Le.refl _ | with_reducible exact le_dead | (skip; done) | exact byLeq) (by exact byCon) (trivial)))) rfl rfl) (by exact bySlots)) (⟨by omega, by omega⟩) (by dsimp only; omega)
        · simp [hh] at h
      | false =>
        have e : (accE N C.has C.tab i p (y + 1)) = (accE N C.has C.tab i p y) := by rw [accE_no hh]
        have hLen := congrArg List.length e
        refine WP.cond (by rfl) (fun h => ?_) (fun h => WP.skip ?_)
        · simp [hh] at h
        · refine WP.run T false tok (by rfl) (by exact byObl) ?_
          refine Again.next ((Sum.inr (y + 1) : Nat ⊕ Nat)) (Ghost.cut (Nat.le_refl _) (tauOf [0, 1, 2]) _ _ (Taken.of [0, 1, 2] (LeAll.cons (by rfl) (by first | with_reducible exact Root.Le.refl _ | with_reducible exact le_dead | (exact le_row (Nat.le_of_eq hLen) (fun j _ => by rw [e])) | exact byLeq) (by exact byCon) (LeAll.cons (by rfl) (by first | with_reducible exact Root.Le.refl _ | with_reducible exact le_dead | (exact le_row (Nat.le_of_eq hLen) (fun j _ => by rw [e])) | exact byLeq) (by exact byCon) (LeAll.cons (by rfl) (by first | with_reducible exact Root.Le.refl _ | with_reducible exact le_dead | (exact le_row (Nat.le_of_eq hLen) (fun j _ => by rw [e])) | exact byLeq) (by exact byCon) (trivial)))) rfl rfl) (by exact bySlots)) (⟨by omega, by omega⟩) (by dsimp only; omega)
    · have hyN : y = N := by have := of_decide_eq_false hc; omega
      subst hyN
      clear hc
      refine WP.rs T false tok (by rfl) (by exact byObl) ?_
      exact WP.ret (Ends.new [0, 2] (by rfl) (by exact byObl) (LeAll.cons (by rfl) (by first | with_reducible exact Root.Le.refl _ | with_reducible exact le_dead | (skip; done) | exact byLeq) (by exact byCon) (LeAll.cons (by rfl) (by first | with_reducible exact Root.Le.refl _ | with_reducible exact le_dead | (skip; done) | exact byLeq) (by exact byCon) (trivial))) rfl rfl (rfl) (sc_sl rfl))

theorem alls_step (N : Nat) (hN : N ≤ 16) (C : Chn) (hT : TblOk N C.has C.tab) (i : Nat) (hi : i < N) (ihN : AllN N C i) (ihS : AllS N C i) : AllS N C (i + 1) := by
  have hSc : ∀ (k e n : Nat) (L : List (Nat → Nat)), Sc k (.ow e n 16 (rowP L)) := fun k _ _ L j _ => sc_row k L j
  intro p L hp hl
  have hend : (L ++ dfsE N C.has C.tab (i + 1) p) = (L ++ accE N C.has C.tab i p N) := rfl
  have hii := (hT.diag i hi).1
  have hlow : ∀ y, y < i → C.has i y = false := fun y hy => by
    cases e : C.has i y
    · rfl
    · have := hT.ge hi e; omega
  have hbd : ∀ y, y ≤ N → (L ++ accE N C.has C.tab i p y).length ≤ 1000000 := fun y hy => by
    have h1 := accE_le N C.has C.tab i p y (N - y)
    rw [show y + (N - y) = N by omega] at h1
    rw [hend] at hl
    rw [List.length_append] at hl ⊢; omega
  rw [hend]
  have ei : ((i + 1 : Nat) : Int) - 1 = (i : Int) := by omega
  rw [ei]
  refine FnS.intoN T tok Try.func39 (by rfl) rfl rfl rfl (by simp) ?_
  refine WP.rs T false tok (by rfl) (by exact byObl) ?_
  refine WP.seq ?_
  refine WP.rs T false tok (by rfl) (by exact byObl) ?_
  refine WP.cond (by rfl) (fun h => ?_) (fun h => WP.skip ?_)
  · have h := of_decide_eq_true h; omega
  clear h
  refine WP.seq ?_
  refine WP.rs T false tok (by rfl) (by exact byObl) ?_
  refine WP.block ?_
  refine WP.loopH (⟨fun z : Nat ⊕ Nat => (match z with | .inl y => y ≤ i | .inr y => i < y ∧ y ≤ N), fun z => (match z with | .inl y => [(0, .p 0 [] 0), (1, .i .i64 (i : Int)), (3, .sl 1 0 L.length 16), (6, .p 2 [] 0), (9, .i .i64 (y : Int))] | .inr y => [(0, .p 0 [] 0), (1, .i .i64 (i : Int)), (3, .sl 3 0 (L ++ accE N C.has C.tab i p y).length 16), (6, .p 2 [] 0), (9, .i .i64 (y : Int))]), fun z => (match z with | .inl y => [.var (chn N C), .row 25 L.length 16 (rowP L), .var (pl p)] | .inr y => [.var (chn N C), .dead, .var (pl p), .row 25 (L ++ accE N C.has C.tab i p y).length 16 (rowP (L ++ accE N C.has C.tab i p y))]), fun z => (match z with | .inl y => N + 1 - y | .inr y => N + 1 - y)⟩) ((Sum.inl 0 : Nat ⊕ Nat)) (Nat.zero_le _) (Ghost.cut (Nat.le_refl _) (tauOf [0, 1, 2]) _ _ (Taken.of [0, 1, 2] (LeAll.cons (by rfl) (by first | with_reducible exact Root.Le.refl _ | with_reducible exact le_dead | (skip; done) | exact byLeq) (by exact byCon) (LeAll.cons (by rfl) (by first | with_reducible exact Root.Le.refl _ | with_reducible exact le_dead | (skip; done) | exact byLeq) (by exact byCon) (LeAll.cons (by rfl) (by first | with_reducible exact Root.Le.refl _ | with_reducible exact le_dead | (skip; done) | exact byLeq) (by exact byCon) (trivial)))) rfl rfl) (by exact bySlots)) ?_
  rintro (y | y) hy
  · dsimp only at hy
    dsimp only [Hd.at]
    have hyN : y < N := by omega
    refine WP.seq ?_
    refine WP.rs T false tok (by rfl) (by exact byObl) ?_
    refine WP.cond (by rfl) (fun hc => WP.skip ?_) (fun hc => WP.exit ?_)
    · clear hc
      refine WP.seq (WP.block ?_)
      refine WP.rs T false tok (by rfl) (by exact byObl) ?_
      by_cases hyi : y = i
      · subst hyi
        have ht := hT.np y y hi hii
        have e0 : accE N C.has C.tab y p y = [] := accE_none hlow
        have e : accE N C.has C.tab y p (y + 1) = dfsE N C.has C.tab y (mulF N p (C.tab y y)) := by rw [accE_yes hii, e0, List.nil_append]
        have hb := hbd (y + 1) (by omega)
        rw [e] at hb
        have hrec := ihS (mulF N p (C.tab y y)) L (mul_np hp ht) hb
        rw [← e] at hrec
        refine WP.cond (by rfl) (fun h => ?_) (fun h => WP.skip ?_)
        · refine WP.da (by kernel_rfl) 18 (by kernel_rfl) ?_
          refine WA.takes T false tok [0, 1, 2, 3, 4, 5, 6, 7, 8, 9, 10, 11] (f' := 8) (by kernel_rfl) (by rfl) (by rfl) (by rfl) (by exact byObl) (by rfl) (by rfl) ?_
          refine WA.takes T false tok [12, 13, 14, 15, 17] (f' := 3) (by kernel_rfl) (by rfl) (by rfl) (by rfl) (by exact byObl) (by rfl) (by rfl) ?_
          refine WA.all [16] (by kernel_rfl) (by simp) ?_; intro i' hi'; simp only [List.mem_cons, List.not_mem_nil, or_false] at hi'
          subst hi'
          refine ⟨_, _, _, rfl, by rfl, by rfl, MK.callP (l01Then_fn p (C.tab y y) N hN hp.perm.lt) (by rfl) (by simp [Sc, sc_pl, sc_ds, pl_ne, ds_ne]), ?_⟩
          refine WA.tail (by rfl) (by rfl) (by kernel_rfl) ?_
          refine WPL.callN [0, 1] (.sl 3 0 (L ++ accE N C.has C.tab y p (y + 1)).length 16) (hrec) (LeAll.cons (by rfl) (by first | with_reducible exact Root.Le.refl _ | with_reducible exact le_dead | (skip; done) | exact byLeq) (by exact byCon) (LeAll.cons (by rfl) (by first | with_reducible exact Root.Le.refl _ | with_reducible exact le_dead | (skip; done) | exact byLeq) (by exact byCon) (trivial))) (by rfl) (by rfl) (by exact byArgs) (by rfl) (by rfl) (by simp [Sc, sc_pl, sc_ds]) (by exact byAllc) (rfl) (by exact bySc) rfl ?_
          refine WPL.fin T false tok (by rfl) (by exact byObl) ?_
          refine noPan ?_
          refine WP.run T false tok (by rfl) (by exact byObl) ?_
          refine Again.next ((Sum.inr (y + 1) : Nat ⊕ Nat)) (Ghost.cut (Nat.le_refl _) (tauOf [0, 1, 2, 3]) _ _ (Taken.of [0, 1, 2, 3] (LeAll.cons (by rfl) (by first | with_reducible exact Root.Le.refl _ | with_reducible exact le_dead | (skip; done) | exact byLeq) (by exact byCon) (LeAll.cons (by rfl) (by first | with_reducible exact Root.Le.refl _ | with_reducible exact le_dead | (skip; done) | exact byLeq) (by exact byCon) (LeAll.cons (by rfl) (by first | with_reducible exact Root.Le.refl _ | with_reducible exact le_dead | (skip; done) | exact byLeq) (by exact byCon) (LeAll.cons (by rfl) (by first | with_reducible exact Root.Le.refl _ | with_reducible exact le_dead | (skip; done) | exact byLeq) (by exact byCon) (trivial))))) rfl rfl) (by exact bySlots)) (⟨Nat.lt_succ_self _, by omega⟩) (by dsimp only; omega)
        · simp [hii] at h
      · have hlt : y < i := by omega
        have hh := hlow y hlt
        refine WP.cond (by rfl) (fun h => ?_) (fun h => WP.skip ?_)
        · simp [hh] at h
        · refine WP.run T false tok (by rfl) (by exact byObl) ?_
          refine Again.next ((Sum.inl (y + 1) : Nat ⊕ Nat)) (Ghost.cut (Nat.le_refl _) (tauOf [0, 1, 2]) _ _ (Taken.of [0, 1, 2] (LeAll.cons (by rfl) (by first | with_reducible exact Root.Le.refl _ | with_reducible exact le_dead | (skip; done) | exact byLeq) (by exact byCon) (LeAll.cons (by rfl) (by first | with_reducible exact Root.Le.refl _ | with_reducible exact le_dead | (skip; done) | exact byLeq) (by exact byCon) (LeAll.cons (by rfl) (by first | with_reducible exact Root.Le.refl _ | with_reducible exact le_dead | (skip; done) | exact byLeq) (by exact byCon) (trivial)))) rfl rfl) (by exact bySlots)) (hlt) (by dsimp only; omega)
    · have := of_decide_eq_false hc; omega
  · dsimp only at hy
    dsimp only [Hd.at]
    obtain ⟨hy1, hy2⟩ := hy
    refine WP.seq ?_
    refine WP.rs T false tok (by rfl) (by exact byObl) ?_
    refine WP.cond (by rfl) (fun hc => WP.skip ?_) (fun hc => WP.exit ?_)
    · have hyN : y < N := by have := of_decide_eq_true hc; omega
      clear hc
      refine WP.seq (WP.block ?_)
      refine WP.rs T false tok (by rfl) (by exact byObl) ?_
      cases hh : C.has i y with
      | true =>
        have ht := hT.np i y hi hh
        have e : (L ++ accE N C.has C.tab i p (y + 1)) = (L ++ accE N C.has C.tab i p y) ++ dfsE N C.has C.tab i (mulF N p (C.tab i y)) := by rw [accE_yes hh, ← List.append_assoc]
        have hb := hbd (y + 1) (by omega)
        rw [e] at hb
        have hrec := ihS (mulF N p (C.tab i y)) (L ++ accE N C.has C.tab i p y) (mul_np hp ht) hb
        rw [← e] at hrec
        refine WP.cond (by rfl) (fun h => ?_) (fun h => WP.skip ?_)
        · refine WP.da (by kernel_rfl) 18 (by kernel_rfl) ?_
          refine WA.takes T false tok [0, 1, 2, 3, 4, 5, 6, 7, 8, 9, 10, 11] (f' := 8) (by kernel_rfl) (by rfl) (by rfl) (by rfl) (by exact byObl) (by rfl) (by rfl) ?_
          refine WA.takes T false tok [12, 13, 14, 15, 17] (f' := 3) (by kernel_rfl) (by rfl) (by rfl) (by rfl) (by exact byObl) (by rfl) (by rfl) ?_
          refine WA.all [16] (by kernel_rfl) (by simp) ?_; intro i' hi'; simp only [List.mem_cons, List.not_mem_nil, or_false] at hi'
          subst hi'
          refine ⟨_, _, _, rfl, by rfl, by rfl, MK.callP (l01Then_fn p (C.tab i y) N hN hp.perm.lt) (by rfl) (by simp [Sc, sc_pl, sc_ds, pl_ne, ds_ne]), ?_⟩
          refine WA.tail (by rfl) (by rfl) (by kernel_rfl) ?_
          refine WPL.callN [0, 3] (.sl 4 0 (L ++ accE N C.has C.tab i p (y + 1)).length 16) (hrec) (LeAll.cons (by rfl) (by first | with_reducible exact Root.Le.refl _ | with_reducible exact le_dead | (skip; done) | exact byLeq) (by exact byCon) (LeAll.cons (by rfl) (by first | with_reducible exact Root.Le.refl _ | with_reducible exact le_dead | (skip; done) | exact byLeq) (by exact byCon) (trivial))) (by rfl) (by rfl) (by exact byArgs) (by rfl) (by rfl) (by simp [Sc, sc_pl, sc_ds]) (by exact byAllc) (rfl) (by exact bySc) rfl ?_
          refine WPL.fin T false tok (by rfl) (by exact byObl) ?_
          refine noPan ?_
          refine WP.run T false tok (by rfl) (by exact byObl) ?_
          refine Again.next ((Sum.inr (y + 1) : Nat ⊕ Nat)) (Ghost.cut (Nat.le_refl _) (tauOf [0, 1, 2, 4]) _ _ (Taken.of [0, 1, 2, 4] (LeAll.cons (by rfl) (by first | with_reducible exact Root.Le.refl _ | with_reducible exact le_dead | (skip; done) | exact byLeq) (by exact byCon) (LeAll.cons (by rfl) (by first | with_reducible exact Root.Le.refl _ | with_reducible exact le_dead | (skip; done) | exact byLeq) (by exact byCon) (LeAll.cons (by rfl) (by first | with_reducible exact Root.Le.refl _ | with_reducible exact le_dead | (skip; done) | exact byLeq) (by exact byCon) (LeAll.cons (by rfl) (by first | with_reducible exact Root.Le.refl _ | with_reducible exact le_dead | (skip; done) | exact byLeq) (by exact byCon) (trivial))))) rfl rfl) (by exact bySlots)) (⟨by omega, by omega⟩) (by dsimp only; omega)
        · simp [hh] at h
      | false =>
        have e : (L ++ accE N C.has C.tab i p (y + 1)) = (L ++ accE N C.has C.tab i p y) := by rw [accE_no hh]
        have hLen := congrArg List.length e
        refine WP.cond (by rfl) (fun h => ?_) (fun h => WP.skip ?_)
        · simp [hh] at h
        · refine WP.run T false tok (by rfl) (by exact byObl) ?_
          refine Again.next ((Sum.inr (y + 1) : Nat ⊕ Nat)) (Ghost.cut (Nat.le_refl _) (tauOf [0, 1, 2, 3]) _ _ (Taken.of [0, 1, 2, 3] (LeAll.cons (by rfl) (by first | with_reducible exact Root.Le.refl _ | with_reducible exact le_dead | (exact le_row (Nat.le_of_eq hLen) (fun j _ => by rw [e])) | exact byLeq) (by exact byCon) (LeAll.cons (by rfl) (by first | with_reducible exact Root.Le.refl _ | with_reducible exact le_dead | (exact le_row (Nat.le_of_eq hLen) (fun j _ => by rw [e])) | exact byLeq) (by exact byCon) (LeAll.cons (by rfl) (by first | with_reducible exact Root.Le.refl _ | with_reducible exact le_dead | (exact le_row (Nat.le_of_eq hLen) (fun j _ => by rw [e])) | exact byLeq) (by exact byCon) (LeAll.cons (by rfl) (by first | with_reducible exact Root.Le.refl _ | with_reducible exact le_dead | (exact le_row (Nat.le_of_eq hLen) (fun j _ => by rw [e])) | exact byLeq) (by exact byCon) (trivial))))) rfl rfl) (by exact bySlots)) (⟨by omega, by omega⟩) (by dsimp only; omega)
    · have hyN : y = N := by have := of_decide_eq_false hc; omega
      subst hyN
      clear hc
      refine WP.rs T false tok (by rfl) (by exact byObl) ?_
      exact WP.ret (Ends.new [0, 1, 3] (by rfl) (by exact byObl) (LeAll.cons (by rfl) (by first | with_reducible exact Root.Le.refl _ | with_reducible exact le_dead | (skip; done) | exact byLeq) (by exact byCon) (LeAll.cons (by rfl) (by first | with_reducible exact Root.Le.refl _ | with_reducible exact le_dead | (skip; done) | exact byLeq) (by exact byCon) (LeAll.cons (by rfl) (by first | with_reducible exact Root.Le.refl _ | with_reducible exact le_dead | (skip; done) | exact byLeq) (by exact byCon) (trivial)))) rfl rfl (rfl) (sc_sl rfl))

theorem all_fn (N : Nat) (hN : N ≤ 16) (C : Chn) (hT : TblOk N C.has C.tab) : ∀ k, k ≤ N → AllN N C k ∧ AllS N C k
  | 0, _ => all_zero N C
  | k + 1, hk => by
    obtain ⟨h1, h2⟩ := all_fn N hN C hT k (by omega)
    exact ⟨alln_step N hN C hT k hk h1 h2, alls_step N hN C hT k hk h1 h2⟩

end Go.Proofs.Ytaafldclbdlgfaa
