import Derived.Test.YtakapfgjdhliaaaX134
import Derived.Test.YtakapfgjdhliaaaX135
import Derived.Test.YtakapfgjdhliaaaX136
import Derived.Test.YtakapfgjdhliaaaL45
import Derived.Test.YtakapfgjdhliaaaX7
import Derived.Test.YtakapfgjdhliaaaX17
import Derived.Test.YtakapfgjdhliaaaX20
import Derived.Test.YtakapfgjdhliaaaX43
import Derived.Test.YtakapfgjdhliaaaX44
import Derived.Test.YtakapfgjdhliaaaD39
/- Permutations: the law. -/
namespace Go.Proofs.Ytakapfgjdhliaaa
open Go.RowKit DM
set_option linter.unusedSimpArgs false
set_option linter.unusedVariables false
set_option maxRecDepth 100000
set_option maxHeartbeats 1000000

def eq6 (f g : Nat → Nat) : Nat → Nat → Bool
  | _, 0 => true
  | i, n + 1 => decide ((f i : Int) = (g i : Int)) && eq6 f g (i + 1) n
theorem eq6_self (f : Nat → Nat) : ∀ n i, eq6 f f i n = true
  | 0, _ => rfl
  | n + 1, i => by simp only [eq6, eq6_self f n (i + 1)]; simp
theorem eq_pl_neq (p q : Nat → Nat) : eqE T .neq 25 (pl p) (pl q) = some (!eq6 p q 0 16) := by rfl
theorem eq_pl_eql (p q : Nat → Nat) : eqE T .eql 25 (pl p) (pl q) = some (eq6 p q 0 16) := by rfl
theorem eq_pl_same (p : Nat → Nat) : eqE T .neq 25 (pl p) (pl p) = some false := by rw [eq_pl_neq, eq6_self]; rfl
theorem eq_pl_same2 (p : Nat → Nat) : eqE T .eql 25 (pl p) (pl p) = some true := by rw [eq_pl_eql, eq6_self]

theorem pcR_form (x : Option ((Nat → Nat) × (Nat → Bool))) : ∃ o c, pcR x = t2 (pl o) (.i .i64 c) := by
  cases x with
  | none => exact ⟨_, _, rfl⟩
  | some s => exact ⟨_, _, rfl⟩

theorem permB_of {n : Nat} (h1 : 1 ≤ n) (h2 : n ≤ 16) {p : Nat → Nat} (hp : Perm n p) (hz : ∀ i, n ≤ i → p i = 0) : permB p n = true :=
  permB_true h1 h2 fun i _ => ⟨fun hi => ⟨hp.lt i hi, fun j hj e => by have := hp.inj j i (by omega) hi e; omega⟩, fun hi => hz i hi⟩
theorem perm_z {p : Nat → Nat} {n : Nat} (h : permB p n = true) (hz : ∀ i, 16 ≤ i → p i = 0) : ∀ i, n ≤ i → p i = 0 := fun i hi => by
  have h1 := @of_decide_eq_true _ (Classical.propDecidable _) h
  by_cases c : i < 16
  · exact (h1.2 i c).2 (by simpa using hi)
  · exact hz i (by omega)
theorem backTo_z {p : Nat → Nat} {n : Nat} (hp : Perm n p) : ∀ k, k ≤ n → ∀ i, n ≤ i → backTo p k i = 0
  | 0, _, i, _ => rfl
  | k + 1, hk, i, hi => by
    have := hp.lt k (by omega)
    simp only [backTo]
    rw [up_ne _ _ (by omega)]
    exact backTo_z hp k (by omega) i hi
theorem sign_mul {n : Nat} (hn : n ≤ 16) {p q : Nat → Nat} (hp : Perm n p) (hq : Perm n q) : signV p n * signV q n = signV (fillF (fun i => q (p i)) n) n := by
  have hr : Perm n (fillF (fun i => q (p i)) n) := ⟨fun i hi => by show (if i < n then q (p i) else 0) < n; rw [if_pos hi]; exact hq.lt _ (hp.lt i hi), fun i j hi hj e => by
    have e2 : (if i < n then q (p i) else 0) = (if j < n then q (p j) else 0) := e
    rw [if_pos hi, if_pos hj] at e2
    exact hp.inj i j hi hj (hq.inj _ _ (hp.lt i hi) (hp.lt j hj) e2)⟩
  have s1 := sg_ld n hp
  have s2 := sg_ld n hq
  have s3 := sg_ld n hr
  have m := sg_mul hp n (Nat.le_refl _) q hq fun x h1 h2 => absurd h1 (by omega)
  rw [sg_congr n (q := fillF (fun i => q (p i)) n) fun x hx => show q (p x) = if x < n then q (p x) else 0 by rw [if_pos hx]] at m
  unfold signV cycs
  rw [cyc_count hn hp n (Nat.le_refl _), cyc_count hn hq n (Nat.le_refl _), cyc_count hn hr n (Nat.le_refl _)]
  rw [show n - ldF p n = sgF n p by omega, show n - ldF q n = sgF n q by omega, show n - ldF (fillF (fun i => q (p i)) n) n = sgF n (fillF (fun i => q (p i)) n) by omega]
  by_cases a : sgF n p % 2 = 0 <;> by_cases b : sgF n q % 2 = 0
  · rw [if_pos a, if_pos b, if_pos (by omega)]; rfl
  · rw [if_pos a, if_neg b, if_neg (by omega)]; rfl
  · rw [if_neg a, if_pos b, if_neg (by omega)]; rfl
  · rw [if_neg a, if_neg b, if_pos (by omega)]; rfl
theorem sign_pm (p : Nat → Nat) (n : Nat) : signV p n = 1 ∨ signV p n = -1 := by
  unfold signV
  split
  · exact .inl rfl
  · exact .inr rfl

theorem law_Permutations (len : Nat) (g : Nat → Nat) (hg : ∀ j, g j < 256) (hl : len ≤ 9223372036854775807) : FnR Try.prog 3 [.sl 0 0 len 1] [.ro len 1 (byF g)] (.b true) := by
  have hbig := big_fn len (byF g) hl
  by_cases hb : 4096 < len
  · rw [decide_eq_true (by omega : (4096 : Int) < (len : Int))] at hbig
    refine FnS.into T tok Try.func3 (by rfl) rfl rfl rfl (by simp) ?_
    refine WP.rs T false tok (by rfl) (by exact byObl) ?_
    refine WP.seq ?_
    refine WP.rw ?_
    refine WPL.run T false 1 tok (by rfl) (by exact byObl) ?_
    refine WPL.callR [0] (hbig) (by rfl) (LeAll.cons (by rfl) (by first | with_reducible exact Root.Le.refl _ | with_reducible exact le_dead | (skip; done) | exact byLeq) (by exact byCon) (trivial)) (by exact byArgs) (by rfl) (by rfl) (by simp [Sc, sc_pl, sc_ds]) ?_
    refine WPL.fin T false tok (by rfl) (by exact byObl) ?_
    refine WP.cond (by rfl) (fun h => ?_) (fun h => WP.skip ?_)
    · refine WP.rs T false tok (by rfl) (by exact byObl) ?_
      exact WP.ret (Ends.val (by rfl) (by exact byObl) (by rfl) (by trivial))
    · cases h
  rw [decide_eq_false (by omega : ¬ (4096 : Int) < (len : Int))] at hbig
  have hl2 : len ≤ 4096 := by omega
  refine FnS.into T tok Try.func3 (by rfl) rfl rfl rfl (by simp) ?_
  refine WP.share 12 ⟨lst [(0, .sl 0 0 len 1)], [.ro len 1 (byF g)]⟩ (by rfl) ?_ (fun hr => ?_)
  · have hdo := drawOrderOf_fn len g hg (by omega)
    refine WP.rw ?_
    refine WPL.run T false 1 tok (by rfl) (by exact byObl) ?_
    refine WPL.callE [0] (hdo) (LeAll.cons (by rfl) (by first | with_reducible exact Root.Le.refl _ | with_reducible exact le_dead | (skip; done) | exact byLeq) (by exact byCon) (trivial)) (by rfl) (by rfl) (by exact byArgs) (by rfl) (by rfl) (by simp [Sc, sc_pl, sc_ds]) ?_
    rintro _ _ ⟨p, n, rfl, hp, hn1, hn2, rfl⟩
    refine ⟨⟨fun d hd => by cases hd; exact fun _ _ => trivial, trivial⟩, t2 (pl p) (.i .i64 n), ren_t2 ⟨rfl, sc_pl _ _⟩ ⟨rfl, trivial⟩, sc_t2 (sc_pl _ _) trivial, ?_⟩
    refine WPL.mem (by rfl) ?_
    refine WPL.fin T false tok (by rfl) (by exact byObl) ?_
    have hpb : ∀ i, p i < 256 := hp.lt
    obtain ⟨r1, c1, e1⟩ := ordR_form p n
    obtain ⟨r2, c2, e2⟩ := signR_form p n
    have h1 := implOrder_fn p hpb n
    have h2 := specOrder_fn p hpb n
    have h3 := implSign_fn p hpb n
    have h4 := specSign_fn p hpb n
    have h5 := implType_fn p hpb n
    have h6 := specType_fn p hpb n
    have hdp := drawPlacesOfCycles_fn len g hg (by omega)
    rw [e1] at h1 h2
    rw [e2] at h3 h4
    cases hc : permB p n
    · rw [show tyR p n = t2 .ns (.i .i64 1) by unfold tyR; rw [hc]; rfl, show tyM p n = [] by unfold tyM; rw [hc]; rfl] at h5 h6
      refine WP.rw ?_
      refine WPL.run T false 2 tok (by rfl) (by exact byObl) ?_
      refine WPL.call (h1) (by rfl) (by rfl) (by rfl) (by simp [Sc, sc_pl, sc_ds, pl_ne, ds_ne]) ?_
      refine WPL.fin T false tok (by rfl) (by exact byObl) ?_
      refine WP.rw ?_
      refine WPL.run T false 2 tok (by rfl) (by exact byObl) ?_
      refine WPL.call (h2) (by rfl) (by rfl) (by rfl) (by simp [Sc, sc_pl, sc_ds, pl_ne, ds_ne]) ?_
      refine WPL.fin T false tok (by rfl) (by exact byObl) ?_
      refine WP.rw ?_
      refine WPL.run T false 2 tok (by rfl) (by exact byObl) ?_
      refine WPL.call (h3) (by rfl) (by rfl) (by rfl) (by simp [Sc, sc_pl, sc_ds, pl_ne, ds_ne]) ?_
      refine WPL.fin T false tok (by rfl) (by exact byObl) ?_
      refine WP.rw ?_
      refine WPL.run T false 2 tok (by rfl) (by exact byObl) ?_
      refine WPL.call (h4) (by rfl) (by rfl) (by rfl) (by simp [Sc, sc_pl, sc_ds, pl_ne, ds_ne]) ?_
      refine WPL.fin T false tok (by rfl) (by exact byObl) ?_
      refine WP.rw ?_
      refine WPL.run T false 2 tok (by rfl) (by exact byObl) ?_
      refine WPL.callN [] (t2 .ns (.i .i64 1)) (h5) (trivial) (by rfl) (by rfl) (by exact byArgs) (by rfl) (by rfl) (by simp [Sc, sc_pl, sc_ds]) (by exact byAllc) (ren_t2 ⟨rfl, trivial⟩ ⟨rfl, trivial⟩) (by exact bySc) rfl ?_
      refine WPL.fin T false tok (by rfl) (by exact byObl) ?_
      refine WP.rw ?_
      refine WPL.run T false 2 tok (by rfl) (by exact byObl) ?_
      refine WPL.callN [] (t2 .ns (.i .i64 1)) (h6) (trivial) (by rfl) (by rfl) (by exact byArgs) (by rfl) (by rfl) (by simp [Sc, sc_pl, sc_ds]) (by exact byAllc) (ren_t2 ⟨rfl, trivial⟩ ⟨rfl, trivial⟩) (by exact bySc) rfl ?_
      refine WPL.fin T false tok (by rfl) (by exact byObl) ?_
      refine WP.rw ?_
      refine WPL.run T false 1 tok (by rfl) (by exact byObl) ?_
      refine WPL.callE [0] (hdp) (LeAll.cons (by rfl) (by first | with_reducible exact Root.Le.refl _ | with_reducible exact le_dead | (skip; done) | exact byLeq) (by exact byCon) (trivial)) (by rfl) (by rfl) (by exact byArgs) (by rfl) (by rfl) (by simp [Sc, sc_pl, sc_ds]) ?_
      rintro _ _ ⟨k, ln, G, nn, rfl, hk, hln, _, _, rfl⟩
      refine ⟨⟨fun d hd => by cases hd; exact fun _ _ => trivial, fun d hd => by cases hd; exact fun _ _ _ _ => trivial, trivial⟩, t2 (.sl 2 0 k 1) (.i .i64 nn), ren_t2 rfl ⟨rfl, trivial⟩, sc_t2 (sc_sl rfl) trivial, ?_⟩
      refine WPL.mem (by rfl) ?_
      refine WPL.fin T false tok (by rfl) (by exact byObl) ?_
      have h7 := implMade_fn k ln G nn (by omega) (fun j _ => Nat.le_trans (hln j) (by decide))
      have h8 := specMade_fn k ln G nn (by omega) (fun j _ => Nat.le_trans (hln j) (by decide))
      obtain ⟨o, c3, e3⟩ := pcR_form (pcV nn k ln G)
      rw [e3] at h7 h8
      refine WP.rw ?_
      refine WPL.run T false 2 tok (by rfl) (by exact byObl) ?_
      refine WPL.callR [2] (h7) (by rfl) (LeAll.cons (by rfl) (by first | with_reducible exact Root.Le.refl _ | with_reducible exact le_dead | (skip; done) | exact byLeq) (by exact byCon) (trivial)) (by exact byArgs) (by rfl) (by rfl) (by simp [Sc, sc_pl, sc_ds]) ?_
      refine WPL.fin T false tok (by rfl) (by exact byObl) ?_
      refine WP.rw ?_
      refine WPL.run T false 2 tok (by rfl) (by exact byObl) ?_
      refine WPL.callR [2] (h8) (by rfl) (LeAll.cons (by rfl) (by first | with_reducible exact Root.Le.refl _ | with_reducible exact le_dead | (skip; done) | exact byLeq) (by exact byCon) (trivial)) (by exact byArgs) (by rfl) (by rfl) (by simp [Sc, sc_pl, sc_ds]) ?_
      refine WPL.fin T false tok (by rfl) (by exact byObl) ?_
      refine WP.rw ?_
      refine WPL.run T false 3 tok (by rfl) (by exact byObl) ?_
      rw [decide_eq_true (rfl : c1 = c1)]
      refine WPL.run T false 4 tok (by rfl) (by exact byObl) ?_
      rw [decide_eq_true (rfl : r1 = r1)]
      refine WPL.run T false 5 tok (by rfl) (by exact byObl) ?_
      rw [decide_eq_true (rfl : c2 = c2)]
      refine WPL.run T false 5 tok (by rfl) (by exact byObl) ?_
      rw [decide_eq_true (rfl : r2 = r2)]
      refine WPL.run T false 9 tok (by rfl) (by exact byObl) ?_
      refine WPL.call (likeInts_nil) (by rfl) (by rfl) (by rfl) (by simp [Sc, sc_pl, sc_ds, pl_ne, ds_ne]) ?_
      refine WPL.run T false 5 tok (by rfl) (by exact byObl) ?_
      rw [decide_eq_true (rfl : c3 = c3)]
      refine WPL.run T false 4 tok (by rfl) (by exact byObl) ?_
      refine WPL.op (by rfl) (by rfl) (QOK.op (ok_eq tok rfl (eq_pl_same2 o))) ?_
      refine WPL.fin T false tok (by rfl) (by exact byObl) ?_
      exact WP.ret (Ends.val (by rfl) (by exact byObl) (by rfl) (by trivial))
    · obtain ⟨N, rfl, hN1, hN2, hP⟩ := perm_of_B hc
      rw [show tyR p N = t2 (.sl 0 0 (tyN (cycs p N) N).length 1) (.i .i64 0) by unfold tyR; rw [hc]; rfl, show tyM p N = [.row 2 (tyN (cycs p N) N).length 1 (numsF (tyN (cycs p N) N))] by unfold tyM; rw [hc]; rfl] at h5 h6
      have hlt : (tyN (cycs p N) N).length ≤ 16 := by
        rw [tyN_len (cycs_lens hN2 hP)]
        exact Nat.le_trans (cyTo_len p N) hN2
      generalize tyN (cycs p N) N = ty at *
      have hlk := likeInts_fn ty.length ty.length (fun t => ((ty.getD t 0 : Nat) : Int)) (fun t => ((ty.getD t 0 : Nat) : Int)) (by omega) (by omega)
      rw [likeB_same] at hlk
      refine WP.rw ?_
      refine WPL.run T false 2 tok (by rfl) (by exact byObl) ?_
      refine WPL.call (h1) (by rfl) (by rfl) (by rfl) (by simp [Sc, sc_pl, sc_ds, pl_ne, ds_ne]) ?_
      refine WPL.fin T false tok (by rfl) (by exact byObl) ?_
      refine WP.rw ?_
      refine WPL.run T false 2 tok (by rfl) (by exact byObl) ?_
      refine WPL.call (h2) (by rfl) (by rfl) (by rfl) (by simp [Sc, sc_pl, sc_ds, pl_ne, ds_ne]) ?_
      refine WPL.fin T false tok (by rfl) (by exact byObl) ?_
      refine WP.rw ?_
      refine WPL.run T false 2 tok (by rfl) (by exact byObl) ?_
      refine WPL.call (h3) (by rfl) (by rfl) (by rfl) (by simp [Sc, sc_pl, sc_ds, pl_ne, ds_ne]) ?_
      refine WPL.fin T false tok (by rfl) (by exact byObl) ?_
      refine WP.rw ?_
      refine WPL.run T false 2 tok (by rfl) (by exact byObl) ?_
      refine WPL.call (h4) (by rfl) (by rfl) (by rfl) (by simp [Sc, sc_pl, sc_ds, pl_ne, ds_ne]) ?_
      refine WPL.fin T false tok (by rfl) (by exact byObl) ?_
      refine WP.rw ?_
      refine WPL.run T false 2 tok (by rfl) (by exact byObl) ?_
      refine WPL.callN [] (t2 (.sl 2 0 ty.length 1) (.i .i64 0)) (h5) (trivial) (by rfl) (by rfl) (by exact byArgs) (by rfl) (by rfl) (by simp [Sc, sc_pl, sc_ds]) (by exact byAllc) (ren_t2 rfl ⟨rfl, trivial⟩) (by exact bySc) rfl ?_
      refine WPL.fin T false tok (by rfl) (by exact byObl) ?_
      refine WP.rw ?_
      refine WPL.run T false 2 tok (by rfl) (by exact byObl) ?_
      refine WPL.callN [] (t2 (.sl 3 0 ty.length 1) (.i .i64 0)) (h6) (trivial) (by rfl) (by rfl) (by exact byArgs) (by rfl) (by rfl) (by simp [Sc, sc_pl, sc_ds]) (by exact byAllc) (ren_t2 rfl ⟨rfl, trivial⟩) (by exact bySc) rfl ?_
      refine WPL.fin T false tok (by rfl) (by exact byObl) ?_
      refine WP.rw ?_
      refine WPL.run T false 1 tok (by rfl) (by exact byObl) ?_
      refine WPL.callE [0] (hdp) (LeAll.cons (by rfl) (by first | with_reducible exact Root.Le.refl _ | with_reducible exact le_dead | (skip; done) | exact byLeq) (by exact byCon) (trivial)) (by rfl) (by rfl) (by exact byArgs) (by rfl) (by rfl) (by simp [Sc, sc_pl, sc_ds]) ?_
      rintro _ _ ⟨k, ln, G, nn, rfl, hk, hln, _, _, rfl⟩
      refine ⟨⟨fun d hd => by cases hd; exact fun _ _ => trivial, fun d hd => by cases hd; exact fun _ _ _ _ => trivial, trivial⟩, t2 (.sl 4 0 k 1) (.i .i64 nn), ren_t2 rfl ⟨rfl, trivial⟩, sc_t2 (sc_sl rfl) trivial, ?_⟩
      refine WPL.mem (by rfl) ?_
      refine WPL.fin T false tok (by rfl) (by exact byObl) ?_
      have h7 := implMade_fn k ln G nn (by omega) (fun j _ => Nat.le_trans (hln j) (by decide))
      have h8 := specMade_fn k ln G nn (by omega) (fun j _ => Nat.le_trans (hln j) (by decide))
      obtain ⟨o, c3, e3⟩ := pcR_form (pcV nn k ln G)
      rw [e3] at h7 h8
      refine WP.rw ?_
      refine WPL.run T false 2 tok (by rfl) (by exact byObl) ?_
      refine WPL.callR [4] (h7) (by rfl) (LeAll.cons (by rfl) (by first | with_reducible exact Root.Le.refl _ | with_reducible exact le_dead | (skip; done) | exact byLeq) (by exact byCon) (trivial)) (by exact byArgs) (by rfl) (by rfl) (by simp [Sc, sc_pl, sc_ds]) ?_
      refine WPL.fin T false tok (by rfl) (by exact byObl) ?_
      refine WP.rw ?_
      refine WPL.run T false 2 tok (by rfl) (by exact byObl) ?_
      refine WPL.callR [4] (h8) (by rfl) (LeAll.cons (by rfl) (by first | with_reducible exact Root.Le.refl _ | with_reducible exact le_dead | (skip; done) | exact byLeq) (by exact byCon) (trivial)) (by exact byArgs) (by rfl) (by rfl) (by simp [Sc, sc_pl, sc_ds]) ?_
      refine WPL.fin T false tok (by rfl) (by exact byObl) ?_
      refine WP.rw ?_
      refine WPL.run T false 3 tok (by rfl) (by exact byObl) ?_
      rw [decide_eq_true (rfl : c1 = c1)]
      refine WPL.run T false 4 tok (by rfl) (by exact byObl) ?_
      rw [decide_eq_true (rfl : r1 = r1)]
      refine WPL.run T false 5 tok (by rfl) (by exact byObl) ?_
      rw [decide_eq_true (rfl : c2 = c2)]
      refine WPL.run T false 5 tok (by rfl) (by exact byObl) ?_
      rw [decide_eq_true (rfl : r2 = r2)]
      refine WPL.run T false 9 tok (by rfl) (by exact byObl) ?_
      refine WPL.callR [2, 3] (hlk) (by rfl) (LeAll.cons (by rfl) (by first | with_reducible exact Root.Le.refl _ | with_reducible exact le_dead | (skip; done) | exact byLeq) (by exact byCon) (LeAll.cons (by rfl) (by first | with_reducible exact Root.Le.refl _ | with_reducible exact le_dead | (skip; done) | exact byLeq) (by exact byCon) (trivial))) (by exact byArgs) (by rfl) (by rfl) (by simp [Sc, sc_pl, sc_ds]) ?_
      refine WPL.run T false 5 tok (by rfl) (by exact byObl) ?_
      rw [decide_eq_true (rfl : c3 = c3)]
      refine WPL.run T false 4 tok (by rfl) (by exact byObl) ?_
      refine WPL.op (by rfl) (by rfl) (QOK.op (ok_eq tok rfl (eq_pl_same2 o))) ?_
      refine WPL.fin T false tok (by rfl) (by exact byObl) ?_
      exact WP.ret (Ends.val (by rfl) (by exact byObl) (by rfl) (by trivial))
  · refine WP.rs T false tok (by rfl) (by exact byObl) ?_
    refine WP.seq ?_
    refine WP.rw ?_
    refine WPL.run T false 1 tok (by rfl) (by exact byObl) ?_
    refine WPL.callR [0] (hbig) (by rfl) (LeAll.cons (by rfl) (by first | with_reducible exact Root.Le.refl _ | with_reducible exact le_dead | (skip; done) | exact byLeq) (by exact byCon) (trivial)) (by exact byArgs) (by rfl) (by rfl) (by simp [Sc, sc_pl, sc_ds]) ?_
    refine WPL.fin T false tok (by rfl) (by exact byObl) ?_
    refine WP.cond (by rfl) (fun h => ?_) (fun h => WP.skip ?_)
    · cases h
    have hdt := drawThenPlaces_fn len g hg (by omega)
    refine WP.rw ?_
    refine WPL.run T false 1 tok (by rfl) (by exact byObl) ?_
    refine WPL.callE [0] (hdt) (LeAll.cons (by rfl) (by first | with_reducible exact Root.Le.refl _ | with_reducible exact le_dead | (skip; done) | exact byLeq) (by exact byCon) (trivial)) (by rfl) (by rfl) (by exact byArgs) (by rfl) (by rfl) (by simp [Sc, sc_pl, sc_ds]) ?_
    rintro _ _ ⟨p, q, n, rfl, hp, hq, hn1, hn2, rfl⟩
    refine ⟨⟨fun d hd => by cases hd; exact fun _ _ => trivial, trivial⟩, t3 (pl p) (pl q) (.i .i64 n), ren3d ⟨rfl, sc_pl _ _⟩ ⟨rfl, sc_pl _ _⟩ ⟨rfl, trivial⟩, sc_t3 (sc_pl _ _) (sc_pl _ _) trivial, ?_⟩
    refine WPL.mem (by rfl) ?_
    refine WPL.fin T false tok (by rfl) (by exact byObl) ?_
    have h1 := implThen_fn p q hp.lt hq.lt n
    have h2 := specThen_fn p q hp.lt hq.lt n
    have h3 := implBack_fn p hp.lt n
    have h4 := specBack_fn p hp.lt n
    have h5 := implCycles_fn p hp.lt n
    have h6 := specCycles_fn p hp.lt n
    have h7 := IsPermutation_fn p hp.lt n
    have h8 := specIsPermutation_fn p hp.lt n
    cases hp0 : permB p n
    · rw [hp0] at h7 h8
      rw [show thenR p q n = t2 (pl fun _ => 0) (.i .i64 1) by unfold thenR; rw [hp0]; rfl] at h1 h2
      rw [show backR p n = t2 (pl fun _ => 0) (.i .i64 1) by unfold backR; rw [hp0]; rfl] at h3 h4
      rw [show cyR p n = t2 .ns (.i .i64 1) by unfold cyR; rw [hp0]; rfl, show cyM p n = [] by unfold cyM; rw [hp0]; rfl] at h5 h6
      refine WP.rw ?_
      refine WPL.run T false 3 tok (by rfl) (by exact byObl) ?_
      refine WPL.call (h1) (by rfl) (by rfl) (by rfl) (by simp [Sc, sc_pl, sc_ds, pl_ne, ds_ne]) ?_
      refine WPL.fin T false tok (by rfl) (by exact byObl) ?_
      refine WP.rw ?_
      refine WPL.run T false 3 tok (by rfl) (by exact byObl) ?_
      refine WPL.call (h2) (by rfl) (by rfl) (by rfl) (by simp [Sc, sc_pl, sc_ds, pl_ne, ds_ne]) ?_
      refine WPL.fin T false tok (by rfl) (by exact byObl) ?_
      refine WP.rw ?_
      refine WPL.run T false 2 tok (by rfl) (by exact byObl) ?_
      refine WPL.call (h3) (by rfl) (by rfl) (by rfl) (by simp [Sc, sc_pl, sc_ds, pl_ne, ds_ne]) ?_
      refine WPL.fin T false tok (by rfl) (by exact byObl) ?_
      refine WP.rw ?_
      refine WPL.run T false 2 tok (by rfl) (by exact byObl) ?_
      refine WPL.call (h4) (by rfl) (by rfl) (by rfl) (by simp [Sc, sc_pl, sc_ds, pl_ne, ds_ne]) ?_
      refine WPL.fin T false tok (by rfl) (by exact byObl) ?_
      refine WP.rw ?_
      refine WPL.run T false 2 tok (by rfl) (by exact byObl) ?_
      refine WPL.callN [] (t2 .ns (.i .i64 1)) (h5) (trivial) (by rfl) (by rfl) (by exact byArgs) (by rfl) (by rfl) (by simp [Sc, sc_pl, sc_ds]) (by exact byAllc) (ren_t2 ⟨rfl, trivial⟩ ⟨rfl, trivial⟩) (by exact bySc) rfl ?_
      refine WPL.fin T false tok (by rfl) (by exact byObl) ?_
      refine WP.rw ?_
      refine WPL.run T false 2 tok (by rfl) (by exact byObl) ?_
      refine WPL.callN [] (t2 .ns (.i .i64 1)) (h6) (trivial) (by rfl) (by rfl) (by exact byArgs) (by rfl) (by rfl) (by simp [Sc, sc_pl, sc_ds]) (by exact byAllc) (ren_t2 ⟨rfl, trivial⟩ ⟨rfl, trivial⟩) (by exact bySc) rfl ?_
      refine WPL.fin T false tok (by rfl) (by exact byObl) ?_
      refine WP.seq ?_
      refine WP.seq ?_
      refine WP.drawsQ (by kernel_rfl) (by kernel_rfl) ?_
      refine WQ.run T false 12 tok (by rfl) (by rfl) (by exact byObl) ?_
      refine WQ.run T false 12 tok (by rfl) (by rfl) (by exact byObl) ?_
      refine WQ.run T false 2 tok (by rfl) (by rfl) (by exact byObl) ?_
      refine WQ.call (rows5_nil) (by rfl) (by rfl) (by rfl) (by simp [Sc, sc_pl, sc_ds, pl_ne, ds_ne]) (⟨trivial, trivial, trivial⟩) ?_
      refine WQ.run T false 5 tok (by rfl) (by rfl) (by exact byObl) ?_
      refine WQ.call (h7) (by rfl) (by rfl) (by rfl) (by simp [Sc, sc_pl, sc_ds, pl_ne, ds_ne]) (⟨trivial, trivial, trivial⟩) ?_
      refine WQ.run T false 2 tok (by rfl) (by rfl) (by exact byObl) ?_
      refine WQ.call (h8) (by rfl) (by rfl) (by rfl) (by simp [Sc, sc_pl, sc_ds, pl_ne, ds_ne]) (⟨trivial, trivial, trivial⟩) ?_
      refine WQ.fin T false tok (by rfl) (by rfl) (by exact byObl) ?_
      refine WP.cond (by rfl) (fun h => ?_) (fun h => WP.skip ?_)
      · cases h
      refine WP.seq ?_
      refine WP.rs T false tok (by rfl) (by exact byObl) ?_
      refine WP.cond (by rfl) (fun h => ?_) (fun h => ?_)
      · cases h
      refine WP.skip ?_
      refine WP.seq ?_
      refine WP.rs T false tok (by rfl) (by exact byObl) ?_
      refine WP.cond (by rfl) (fun h => ?_) (fun h => ?_)
      · cases h
      refine WP.skip ?_
      refine WP.ghost (Ghost.cut (Nat.le_refl _) (tauOf [0]) [(0, .sl 0 0 len 1)] [.ro len 1 (byF g)] (Taken.of [0] (LeAll.cons (by rfl) (by first | with_reducible exact Root.Le.refl _ | with_reducible exact le_dead | (skip; done) | exact byLeq) (by exact byCon) (trivial)) rfl rfl) (by exact bySlots)) ?_
      exact hr
    · obtain ⟨N, rfl, hN1, hN2, hP⟩ := perm_of_B hp0
      rw [hp0] at h7 h8
      obtain ⟨r, c, e1, hcc⟩ : ∃ r c, thenR p q N = t2 (pl r) (.i .i64 c) ∧ (c = 1 ∨ (c = 0 ∧ permB q N = true ∧ r = fillF (fun i => q (p i)) N)) := by
        unfold thenR
        rw [hp0]
        cases hd : permB q N
        · exact ⟨_, _, rfl, .inl rfl⟩
        · exact ⟨_, _, rfl, .inr ⟨rfl, rfl, rfl⟩⟩
      have hPb := perm_back hN2 hP
      have hcb : permB (backTo p N) N = true := permB_of hN1 hN2 hPb (backTo_z hP N (Nat.le_refl _))
      have hblt : ∀ i, backTo p N i < 256 := fun i => Nat.lt_of_lt_of_le (backTo_lt (p := p) N (Nat.le_refl _) (by omega) i) (by omega)
      have hba : ∀ i, i < N → backTo p N (p i) = i := fun i hi => backTo_at hP N (Nat.le_refl _) i hi
      rw [e1] at h1 h2
      rw [show backR p N = t2 (pl (backTo p N)) (.i .i64 0) by unfold backR; rw [hp0]; rfl] at h3 h4
      rw [show cyR p N = t2 (.sl 0 0 (cycs p N).length 1) (.i .i64 0) by unfold cyR; rw [hp0]; rfl, show cyM p N = [.row 39 (cycs p N).length 1 (rowsF (cycs p N))] by unfold cyM; rw [hp0]; rfl] at h5 h6
      have h9 := implMade_fn (cycs p N).length (fun j => ((cycs p N).getD j []).length) (fun j t => ((((cycs p N).getD j []).getD t 0 : Nat) : Int)) N (by have := cyTo_len p N; unfold cycs; omega) (fun j _ => Nat.le_trans (cycs_ok hN2 hP.lt).1 (by decide))
      obtain ⟨met, hmade⟩ := made_cyc hN1 hN2 hP (perm_z hp0 hp.z) (ln := fun j => ((cycs p N).getD j []).length) (g := fun j t => ((((cycs p N).getD j []).getD t 0 : Nat) : Int)) (fun _ => rfl) (fun _ _ => rfl)
      rw [hmade, show pcR (some (p, met)) = t2 (pl p) (.i .i64 0) from rfl] at h9
      have h10 := implThen_fn p (backTo p N) hp.lt hblt N
      rw [show thenR p (backTo p N) N = t2 (pl (fillF (fun i => backTo p N (p i)) N)) (.i .i64 0) by unfold thenR; rw [hp0, hcb]; rfl] at h10
      have hs : ∀ i, i < N → fillF (fun i => backTo p N (p i)) N i = i := fun i hi => by
        show (if i < N then backTo p N (p i) else 0) = i
        rw [if_pos hi, hba i hi]
      generalize fillF (fun i => backTo p N (p i)) N = s at *
      have hsum := cyc_sum (cyc_of hN2 hP)
      have hlen16 : ∀ j, ((cycs p N).getD j []).length ≤ 4294967296 := fun j => Nat.le_trans (cycs_ok hN2 hP.lt).1 (by decide)
      have hcl : (cycs p N).length ≤ 4294967296 := by have := cyTo_len p N; unfold cycs; omega
      have h11 := split5_fn (cycs p N) hcl (by omega) hlen16
      rw [hsum] at h11
      have h12 := implType_fn p hp.lt N
      have h13 := implType_fn (backTo p N) hblt N
      rw [show tyR p N = t2 (.sl 0 0 (tyN (cycs p N) N).length 1) (.i .i64 0) by unfold tyR; rw [hp0]; rfl, show tyM p N = [.row 2 (tyN (cycs p N) N).length 1 (numsF (tyN (cycs p N) N))] by unfold tyM; rw [hp0]; rfl] at h12
      rw [show tyR (backTo p N) N = t2 (.sl 0 0 (tyN (cycs (backTo p N) N) N).length 1) (.i .i64 0) by unfold tyR; rw [hcb]; rfl, show tyM (backTo p N) N = [.row 2 (tyN (cycs (backTo p N) N) N).length 1 (numsF (tyN (cycs (backTo p N) N) N))] by unfold tyM; rw [hcb]; rfl, back_ty hN2 hP] at h13
      have h14 := implOrder_fn p hp.lt N
      rw [show ordR p N = t2 (.i .i64 ((lcmTo (tyN (cycs p N) N) (tyN (cycs p N) N).length : Nat) : Int)) (.i .i64 0) by unfold ordR; rw [hp0]; rfl] at h14
      have htm : ∀ x ∈ tyN (cycs p N) N, 1 ≤ x ∧ x ≤ 16 := fun x hx => by have := ty_mem hN2 hP hx; omega
      have hdv := fun j => dvd_lcmTo htm (tyN (cycs p N) N).length (Nat.le_refl _) j
      have hlc := lcmTo_le htm (Nat.le_refl (tyN (cycs p N) N).length)
      have htl : (tyN (cycs p N) N).length ≤ 16 := by
        rw [tyN_len (cycs_lens hN2 hP)]
        exact Nat.le_trans (cyTo_len p N) hN2
      have hts := ty_sum hN2 hP
      have h15 := sum_fn (tyN (cycs p N) N) (by omega) (by omega)
      rw [hts] at h15
      have hr5 := rows5_fn (cycs p N) hcl hlen16
      generalize tyN (cycs p N) N = ty at *
      generalize lcmTo ty ty.length = od at *
      have hlk := likeInts_fn ty.length ty.length (fun t => ((ty.getD t 0 : Nat) : Int)) (fun t => ((ty.getD t 0 : Nat) : Int)) (by omega) (by omega)
      rw [likeB_same] at hlk
      generalize cycs p N = L at *
      generalize backTo p N = bk at *
      refine WP.rw ?_
      refine WPL.run T false 3 tok (by rfl) (by exact byObl) ?_
      refine WPL.call (h1) (by rfl) (by rfl) (by rfl) (by simp [Sc, sc_pl, sc_ds, pl_ne, ds_ne]) ?_
      refine WPL.fin T false tok (by rfl) (by exact byObl) ?_
      refine WP.rw ?_
      refine WPL.run T false 3 tok (by rfl) (by exact byObl) ?_
      refine WPL.call (h2) (by rfl) (by rfl) (by rfl) (by simp [Sc, sc_pl, sc_ds, pl_ne, ds_ne]) ?_
      refine WPL.fin T false tok (by rfl) (by exact byObl) ?_
      refine WP.rw ?_
      refine WPL.run T false 2 tok (by rfl) (by exact byObl) ?_
      refine WPL.call (h3) (by rfl) (by rfl) (by rfl) (by simp [Sc, sc_pl, sc_ds, pl_ne, ds_ne]) ?_
      refine WPL.fin T false tok (by rfl) (by exact byObl) ?_
      refine WP.rw ?_
      refine WPL.run T false 2 tok (by rfl) (by exact byObl) ?_
      refine WPL.call (h4) (by rfl) (by rfl) (by rfl) (by simp [Sc, sc_pl, sc_ds, pl_ne, ds_ne]) ?_
      refine WPL.fin T false tok (by rfl) (by exact byObl) ?_
      refine WP.rw ?_
      refine WPL.run T false 2 tok (by rfl) (by exact byObl) ?_
      refine WPL.callN [] (t2 (.sl 7 0 L.length 1) (.i .i64 0)) (h5) (trivial) (by rfl) (by rfl) (by exact byArgs) (by rfl) (by rfl) (by simp [Sc, sc_pl, sc_ds]) (by exact byAllc) (ren_t2 rfl ⟨rfl, trivial⟩) (by exact bySc) rfl ?_
      refine WPL.fin T false tok (by rfl) (by exact byObl) ?_
      refine WP.rw ?_
      refine WPL.run T false 2 tok (by rfl) (by exact byObl) ?_
      refine WPL.callN [] (t2 (.sl 8 0 L.length 1) (.i .i64 0)) (h6) (trivial) (by rfl) (by rfl) (by exact byArgs) (by rfl) (by rfl) (by simp [Sc, sc_pl, sc_ds]) (by exact byAllc) (ren_t2 rfl ⟨rfl, trivial⟩) (by exact bySc) rfl ?_
      refine WPL.fin T false tok (by rfl) (by exact byObl) ?_
      refine WP.seq ?_
      refine WP.seq ?_
      refine WP.drawsQ (by kernel_rfl) (by kernel_rfl) ?_
      refine WQ.run T false 3 tok (by rfl) (by rfl) (by exact byObl) ?_
      rw [decide_eq_true (rfl : c = c)]
      refine WQ.run T false 3 tok (by rfl) (by rfl) (by exact byObl) ?_
      refine WQ.op (by rfl) (by rfl) (ok_eq tok rfl (eq_pl_same r)) ?_
      refine WQ.run T false 9 tok (by rfl) (by rfl) (by exact byObl) ?_
      refine WQ.op (by rfl) (by rfl) (ok_eq tok rfl (eq_pl_same bk)) ?_
      refine WQ.run T false 9 tok (by rfl) (by rfl) (by exact byObl) ?_
      refine WQ.callR [7, 8] (hr5) (by rfl) (LeAll.cons (by rfl) (by first | with_reducible exact Root.Le.refl _ | with_reducible exact le_dead | (skip; done) | exact byLeq) (by exact byCon) (LeAll.cons (by rfl) (by first | with_reducible exact Root.Le.refl _ | with_reducible exact le_dead | (skip; done) | exact byLeq) (by exact byCon) (trivial))) (by exact byArgs) (by rfl) (by rfl) (by simp [Sc, sc_pl, sc_ds]) (⟨trivial, trivial, trivial⟩) ?_
      refine WQ.run T false 5 tok (by rfl) (by rfl) (by exact byObl) ?_
      refine WQ.call (h7) (by rfl) (by rfl) (by rfl) (by simp [Sc, sc_pl, sc_ds, pl_ne, ds_ne]) (⟨trivial, trivial, trivial⟩) ?_
      refine WQ.run T false 2 tok (by rfl) (by rfl) (by exact byObl) ?_
      refine WQ.call (h8) (by rfl) (by rfl) (by rfl) (by simp [Sc, sc_pl, sc_ds, pl_ne, ds_ne]) (⟨trivial, trivial, trivial⟩) ?_
      refine WQ.fin T false tok (by rfl) (by rfl) (by exact byObl) ?_
      refine WP.cond (by rfl) (fun h => ?_) (fun h => WP.skip ?_)
      · cases h
      refine WP.seq ?_
      refine WP.rs T false tok (by rfl) (by exact byObl) ?_
      refine WP.cond (by rfl) (fun h => ?_) (fun h => ?_)
      case refine_2 => cases h
      refine WP.rw ?_
      refine WPL.run T false 2 tok (by rfl) (by exact byObl) ?_
      refine WPL.callR [7] (h9) (by rfl) (LeAll.cons (by rfl) (by first | with_reducible exact Root.Le.refl _ | with_reducible exact le_dead | (skip; done) | exact byLeq) (by exact byCon) (trivial)) (by exact byArgs) (by rfl) (by rfl) (by simp [Sc, sc_pl, sc_ds]) ?_
      refine WPL.fin T false tok (by rfl) (by exact byObl) ?_
      refine WP.rw ?_
      refine WPL.run T false 3 tok (by rfl) (by exact byObl) ?_
      refine WPL.call (h10) (by rfl) (by rfl) (by rfl) (by simp [Sc, sc_pl, sc_ds, pl_ne, ds_ne]) ?_
      refine WPL.fin T false tok (by rfl) (by exact byObl) ?_
      refine WP.rw ?_
      refine WPL.run T false 1 tok (by rfl) (by exact byObl) ?_
      refine WPL.callR [7] (h11) (by rfl) (LeAll.cons (by rfl) (by first | with_reducible exact Root.Le.refl _ | with_reducible exact le_dead | (skip; done) | exact byLeq) (by exact byCon) (trivial)) (by exact byArgs) (by rfl) (by rfl) (by simp [Sc, sc_pl, sc_ds]) ?_
      refine WPL.fin T false tok (by rfl) (by exact byObl) ?_
      refine WP.rw ?_
      refine WPL.run T false 2 tok (by rfl) (by exact byObl) ?_
      refine WPL.callN [] (t2 (.sl 11 0 ty.length 1) (.i .i64 0)) (h12) (trivial) (by rfl) (by rfl) (by exact byArgs) (by rfl) (by rfl) (by simp [Sc, sc_pl, sc_ds]) (by exact byAllc) (ren_t2 rfl ⟨rfl, trivial⟩) (by exact bySc) rfl ?_
      refine WPL.fin T false tok (by rfl) (by exact byObl) ?_
      refine WP.rw ?_
      refine WPL.run T false 2 tok (by rfl) (by exact byObl) ?_
      refine WPL.callN [] (t2 (.sl 12 0 ty.length 1) (.i .i64 0)) (h13) (trivial) (by rfl) (by rfl) (by exact byArgs) (by rfl) (by rfl) (by simp [Sc, sc_pl, sc_ds]) (by exact byAllc) (ren_t2 rfl ⟨rfl, trivial⟩) (by exact bySc) rfl ?_
      refine WPL.fin T false tok (by rfl) (by exact byObl) ?_
      refine WP.seq ?_
      refine WP.rw ?_
      refine WPL.run T false 12 tok (by rfl) (by exact byObl) ?_
      refine WPL.run T false 5 tok (by rfl) (by exact byObl) ?_
      refine WPL.op (by rfl) (by rfl) (QOK.op (ok_eq tok rfl (eq_pl_same p))) ?_
      refine WPL.run T false 5 tok (by rfl) (by exact byObl) ?_
      rw [decide_eq_true (rfl : (N : Int) = N)]
      refine WPL.run T false 4 tok (by rfl) (by exact byObl) ?_
      refine WPL.callR [11, 12] (hlk) (by rfl) (LeAll.cons (by rfl) (by first | with_reducible exact Root.Le.refl _ | with_reducible exact le_dead | (skip; done) | exact byLeq) (by exact byCon) (LeAll.cons (by rfl) (by first | with_reducible exact Root.Le.refl _ | with_reducible exact le_dead | (skip; done) | exact byLeq) (by exact byCon) (trivial))) (by exact byArgs) (by rfl) (by rfl) (by simp [Sc, sc_pl, sc_ds]) ?_
      refine WPL.run T false 4 tok (by rfl) (by exact byObl) ?_
      refine WPL.callR [11] (h15) (by rfl) (LeAll.cons (by rfl) (by first | with_reducible exact Root.Le.refl _ | with_reducible exact le_dead | (skip; done) | exact byLeq) (by exact byCon) (trivial)) (by exact byArgs) (by rfl) (by rfl) (by simp [Sc, sc_pl, sc_ds]) ?_
      refine WPL.run T false 2 tok (by rfl) (by exact byObl) ?_
      rw [decide_eq_true (rfl : (N : Int) = N)]
      refine WPL.fin T false tok (by rfl) (by exact byObl) ?_
      refine WP.cond (by rfl) (fun h => ?_) (fun h => WP.skip ?_)
      · cases h
      refine WP.seq ?_
      refine WP.rs T false tok (by rfl) (by exact byObl) ?_
      refine WP.block ?_
      refine WP.loopH (⟨fun i : Nat => i ≤ N, fun i => [(0, .sl 0 0 len 1), (3, .p 1 [] 0), (4, .p 2 [] 0), (5, .i .i64 (N : Int)), (6, .p 3 [] 0), (7, .i .i64 c), (20, .p 4 [] 0), (24, .sl 5 0 ty.length 1), (28, .i .i64 (i : Int))], fun i => [.ro len 1 (byF g), .var (pl p), .var (pl q), .var (pl r), .var (pl s), .row 2 ty.length 1 (numsF ty)], fun i => N - i⟩) (0) (Nat.zero_le _) (Ghost.cut (Nat.le_refl _) (tauOf [0, 1, 2, 3, 10, 11]) _ _ (Taken.of [0, 1, 2, 3, 10, 11] (LeAll.cons (by rfl) (by first | with_reducible exact Root.Le.refl _ | with_reducible exact le_dead | (skip; done) | exact byLeq) (by exact byCon) (LeAll.cons (by rfl) (by first | with_reducible exact Root.Le.refl _ | with_reducible exact le_dead | (skip; done) | exact byLeq) (by exact byCon) (LeAll.cons (by rfl) (by first | with_reducible exact Root.Le.refl _ | with_reducible exact le_dead | (skip; done) | exact byLeq) (by exact byCon) (LeAll.cons (by rfl) (by first | with_reducible exact Root.Le.refl _ | with_reducible exact le_dead | (skip; done) | exact byLeq) (by exact byCon) (LeAll.cons (by rfl) (by first | with_reducible exact Root.Le.refl _ | with_reducible exact le_dead | (skip; done) | exact byLeq) (by exact byCon) (LeAll.cons (by rfl) (by first | with_reducible exact Root.Le.refl _ | with_reducible exact le_dead | (skip; done) | exact byLeq) (by exact byCon) (trivial))))))) rfl rfl) (by exact bySlots)) ?_
      intro i hi
      dsimp only at hi
      dsimp only [Hd.at]
      refine WP.seq ?_
      refine WP.rs T false tok (by rfl) (by exact byObl) ?_
      refine WP.cond (by rfl) (fun hc => WP.skip ?_) (fun hc => WP.exit ?_)
      · have hi : i < N := by have := of_decide_eq_true hc; omega
        clear hc
        have hsi := hs i hi
        refine WP.seq (WP.block ?_)
        refine WP.rs T false tok (by rfl) (by exact byObl) ?_
        refine WP.cond (by rfl) (fun h => ?_) (fun h => WP.skip ?_)
        · rw [Int.toNat_natCast, hsi, decide_eq_true rfl] at h; cases h
        · refine WP.run T false tok (by rfl) (by exact byObl) ?_
          refine Again.next (i + 1) (Ghost.cut (Nat.le_refl _) (tauOf [0, 1, 2, 3, 4, 5]) _ _ (Taken.of [0, 1, 2, 3, 4, 5] (LeAll.cons (by rfl) (by first | with_reducible exact Root.Le.refl _ | with_reducible exact le_dead | (skip; done) | exact byLeq) (by exact byCon) (LeAll.cons (by rfl) (by first | with_reducible exact Root.Le.refl _ | with_reducible exact le_dead | (skip; done) | exact byLeq) (by exact byCon) (LeAll.cons (by rfl) (by first | with_reducible exact Root.Le.refl _ | with_reducible exact le_dead | (skip; done) | exact byLeq) (by exact byCon) (LeAll.cons (by rfl) (by first | with_reducible exact Root.Le.refl _ | with_reducible exact le_dead | (skip; done) | exact byLeq) (by exact byCon) (LeAll.cons (by rfl) (by first | with_reducible exact Root.Le.refl _ | with_reducible exact le_dead | (skip; done) | exact byLeq) (by exact byCon) (LeAll.cons (by rfl) (by first | with_reducible exact Root.Le.refl _ | with_reducible exact le_dead | (skip; done) | exact byLeq) (by exact byCon) (trivial))))))) rfl rfl) (by exact bySlots)) (hi) (by dsimp only; omega)
      clear hc hi
      refine WP.rw ?_
      refine WPL.run T false 2 tok (by rfl) (by exact byObl) ?_
      refine WPL.call (h14) (by rfl) (by rfl) (by rfl) (by simp [Sc, sc_pl, sc_ds, pl_ne, ds_ne]) ?_
      refine WPL.fin T false tok (by rfl) (by exact byObl) ?_
      refine WP.seq ?_
      refine WP.rs T false tok (by rfl) (by exact byObl) ?_
      refine WP.cond (by rfl) (fun h => ?_) (fun h => WP.skip ?_)
      · cases h
      refine WP.rs T false tok (by rfl) (by exact byObl) ?_
      refine WP.block ?_
      refine WP.loopH (⟨fun i : Nat => i ≤ ty.length, fun i => [(0, .sl 0 0 len 1), (3, .p 1 [] 0), (4, .p 2 [] 0), (5, .i .i64 (N : Int)), (6, .p 3 [] 0), (7, .i .i64 c), (24, .sl 4 0 ty.length 1), (29, .i .i64 (od : Int)), (31, .i .i64 (i : Int))], fun i => [.ro len 1 (byF g), .var (pl p), .var (pl q), .var (pl r), .row 2 ty.length 1 (numsF ty)], fun i => ty.length - i⟩) (0) (Nat.zero_le _) (Ghost.cut (Nat.le_refl _) (tauOf [0, 1, 2, 3, 5]) _ _ (Taken.of [0, 1, 2, 3, 5] (LeAll.cons (by rfl) (by first | with_reducible exact Root.Le.refl _ | with_reducible exact le_dead | (skip; done) | exact byLeq) (by exact byCon) (LeAll.cons (by rfl) (by first | with_reducible exact Root.Le.refl _ | with_reducible exact le_dead | (skip; done) | exact byLeq) (by exact byCon) (LeAll.cons (by rfl) (by first | with_reducible exact Root.Le.refl _ | with_reducible exact le_dead | (skip; done) | exact byLeq) (by exact byCon) (LeAll.cons (by rfl) (by first | with_reducible exact Root.Le.refl _ | with_reducible exact le_dead | (skip; done) | exact byLeq) (by exact byCon) (LeAll.cons (by rfl) (by first | with_reducible exact Root.Le.refl _ | with_reducible exact le_dead | (skip; done) | exact byLeq) (by exact byCon) (trivial)))))) rfl rfl) (by exact bySlots)) ?_
      intro i hi
      dsimp only at hi
      dsimp only [Hd.at]
      refine WP.seq ?_
      refine WP.rs T false tok (by rfl) (by exact byObl) ?_
      refine WP.cond (by rfl) (fun hc => WP.skip ?_) (fun hc => WP.exit ?_)
      · have hi : i < ty.length := by have := of_decide_eq_true hc; omega
        clear hc
        have hdi := hdv i hi
        have hti := htm (ty.getD i 0) (by rw [List.getD_eq_getElem?_getD, List.getElem?_eq_getElem hi]; exact List.getElem_mem hi)
        refine WP.seq (WP.block ?_)
        refine WP.rs T false tok (by rfl) (by exact byObl) ?_
        refine WP.cond (by rfl) (fun h => ?_) (fun h => WP.skip ?_)
        · rw [addrAt0, Int.toNat_natCast, decide_eq_true (Int.tmod_eq_zero_of_dvd (Int.natCast_dvd_natCast.2 hdi))] at h; cases h
        · refine WP.run T false tok (by rfl) (by exact byObl) ?_
          refine Again.next (i + 1) (Ghost.cut (Nat.le_refl _) (tauOf [0, 1, 2, 3, 4]) _ _ (Taken.of [0, 1, 2, 3, 4] (LeAll.cons (by rfl) (by first | with_reducible exact Root.Le.refl _ | with_reducible exact le_dead | (skip; done) | exact byLeq) (by exact byCon) (LeAll.cons (by rfl) (by first | with_reducible exact Root.Le.refl _ | with_reducible exact le_dead | (skip; done) | exact byLeq) (by exact byCon) (LeAll.cons (by rfl) (by first | with_reducible exact Root.Le.refl _ | with_reducible exact le_dead | (skip; done) | exact byLeq) (by exact byCon) (LeAll.cons (by rfl) (by first | with_reducible exact Root.Le.refl _ | with_reducible exact le_dead | (skip; done) | exact byLeq) (by exact byCon) (LeAll.cons (by rfl) (by first | with_reducible exact Root.Le.refl _ | with_reducible exact le_dead | (skip; done) | exact byLeq) (by exact byCon) (trivial)))))) rfl rfl) (by exact bySlots)) (hi) (by dsimp only; omega)
      clear hc hi
      rcases hcc with rfl | ⟨rfl, hd, rfl⟩
      · refine WP.seq ?_
        refine WP.rs T false tok (by rfl) (by exact byObl) ?_
        refine WP.cond (by rfl) (fun h => ?_) (fun h => ?_)
        · cases h
        refine WP.skip ?_
        refine WP.ghost (Ghost.cut (Nat.le_refl _) (tauOf [0]) [(0, .sl 0 0 len 1)] [.ro len 1 (byF g)] (Taken.of [0] (LeAll.cons (by rfl) (by first | with_reducible exact Root.Le.refl _ | with_reducible exact le_dead | (skip; done) | exact byLeq) (by exact byCon) (trivial)) rfl rfl) (by exact bySlots)) ?_
        exact hr
      · refine WP.seq ?_
        refine WP.rs T false tok (by rfl) (by exact byObl) ?_
        refine WP.cond (by rfl) (fun h => ?_) (fun h => ?_)
        case refine_2 => cases h
        obtain ⟨_, e2, _, _, hQ⟩ := perm_of_B hd
        obtain rfl := Int.ofNat_inj.1 e2
        have hcr : permB (fillF (fun i => q (p i)) N) N = true := permB_of hN1 hN2 ⟨fun i hi => by show (if i < N then q (p i) else 0) < N; rw [if_pos hi]; exact hQ.lt _ (hP.lt i hi), fun i j hi hj e => by
          have e2 : (if i < N then q (p i) else 0) = (if j < N then q (p j) else 0) := e
          rw [if_pos hi, if_pos hj] at e2
          exact hP.inj i j hi hj (hQ.inj _ _ (hP.lt i hi) (hP.lt j hj) e2)⟩ fun i hi => by show (if i < N then q (p i) else 0) = 0; rw [if_neg (by omega)]
        have hrb : ∀ i, fillF (fun i => q (p i)) N i < 256 := fun i => by
          show (if i < N then q (p i) else 0) < 256
          split
          · exact hq.lt _
          · omega
        have h16 := implSign_fn p hp.lt N
        have h17 := implSign_fn q hq.lt N
        have h18 := implSign_fn (fillF (fun i => q (p i)) N) hrb N
        rw [show signR p N = t2 (.i .i64 (signV p N)) (.i .i64 0) by unfold signR; rw [hp0]; rfl] at h16
        rw [show signR q N = t2 (.i .i64 (signV q N)) (.i .i64 0) by unfold signR; rw [hd]; rfl] at h17
        rw [show signR (fillF (fun i => q (p i)) N) N = t2 (.i .i64 (signV (fillF (fun i => q (p i)) N) N)) (.i .i64 0) by unfold signR; rw [hcr]; rfl] at h18
        have hmul := sign_mul hN2 hP hQ
        have hpm := sign_pm (fillF (fun i => q (p i)) N) N
        generalize signV (fillF (fun i => q (p i)) N) N = v3 at *
        generalize signV q N = v2 at *
        generalize signV p N = v1 at *
        generalize fillF (fun i => q (p i)) N = r at *
        refine WP.rw ?_
        refine WPL.run T false 2 tok (by rfl) (by exact byObl) ?_
        refine WPL.call (h16) (by rfl) (by rfl) (by rfl) (by simp [Sc, sc_pl, sc_ds, pl_ne, ds_ne]) ?_
        refine WPL.fin T false tok (by rfl) (by exact byObl) ?_
        refine WP.rw ?_
        refine WPL.run T false 2 tok (by rfl) (by exact byObl) ?_
        refine WPL.call (h17) (by rfl) (by rfl) (by rfl) (by simp [Sc, sc_pl, sc_ds, pl_ne, ds_ne]) ?_
        refine WPL.fin T false tok (by rfl) (by exact byObl) ?_
        refine WP.rw ?_
        refine WPL.run T false 2 tok (by rfl) (by exact byObl) ?_
        refine WPL.call (h18) (by rfl) (by rfl) (by rfl) (by simp [Sc, sc_pl, sc_ds, pl_ne, ds_ne]) ?_
        refine WPL.fin T false tok (by rfl) (by exact byObl) ?_
        refine WP.rw ?_
        refine WPL.run T false 12 tok (by rfl) (by exact byObl) ?_
        refine WPL.run T false 4 tok (by rfl) (by exact byObl) ?_
        rw [hmul, decide_eq_true (rfl : v3 = v3)]
        refine WPL.fin T false tok (by rfl) (by exact byObl) ?_
        refine WP.cond (by rfl) (fun h => ?_) (fun h => WP.skip ?_)
        · cases h
        refine WP.ghost (Ghost.cut (Nat.le_refl _) (tauOf [0]) [(0, .sl 0 0 len 1)] [.ro len 1 (byF g)] (Taken.of [0] (LeAll.cons (by rfl) (by first | with_reducible exact Root.Le.refl _ | with_reducible exact le_dead | (skip; done) | exact byLeq) (by exact byCon) (trivial)) rfl rfl) (by exact bySlots)) ?_
        exact hr

end Go.Proofs.Ytakapfgjdhliaaa
