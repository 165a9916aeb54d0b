import Derived.Test.YtakapfgjdhliaaaX10
import Derived.Test.YtakapfgjdhliaaaL3
/- Signs: both sides; the law. -/
namespace Go.Proofs.Ytakapfgjdhliaaa
open Go.RowKit DM
set_option linter.unusedSimpArgs false
set_option linter.unusedVariables false
set_option maxRecDepth 100000
set_option maxHeartbeats 1000000

theorem cycs_len (p : Nat → Nat) (n : Nat) : (cycs p n).length ≤ n := cyTo_len p n

def signV (p : Nat → Nat) (n : Nat) : Int := if (n - (cycs p n).length) % 2 = 0 then 1 else -1

theorem tmodN (k : Nat) (d : Nat) : ((k : Int)).tmod (d : Int) = ((k % d : Nat) : Int) := by rw [Int.tmod_eq_emod_of_nonneg (by omega)]; simp

theorem sign_fn (p : Nat → Nat) (n : Nat) (hn : n ≤ 16) (hp : ∀ i, i < n → p i < n) : FnP Try.prog 56 [pl p, .i .i64 n] (.i .i64 (signV p n)) := by
  have hl := cycs_len p n
  have e1 : (n : Int) - ((cycs p n).length : Int) = ((n - (cycs p n).length : Nat) : Int) := by omega
  have e2 := tmodN (n - (cycs p n).length) 2
  refine FnS.into T tok Try.func56 (by rfl) rfl rfl rfl (by simp) ?_
  refine WP.rs T false tok (by rfl) (by exact byObl) ?_
  refine WP.seq ?_
  refine WP.rw ?_
  refine WPL.run T false 3 tok (by rfl) (by exact byObl) ?_
  refine WPL.callN [] (.sl 1 0 (cycs p n).length 1) (cycles_fn p n hn hp) (trivial) (by rfl) (by rfl) (by exact byArgs) (by rfl) (by rfl) (by simp [Sc, sc_pl, sc_ds]) (by exact byAllc) (rfl) (by exact bySc) rfl ?_
  refine WPL.fin T false tok (by rfl) (by exact byObl) ?_
  refine WP.cond (by rfl) (fun hc => ?_) (fun hc => WP.skip ?_)
  · have hc := of_decide_eq_true hc
    have e : signV p n = 1 := by unfold signV; rw [if_pos]; rw [e1] at hc; have := e2.symm.trans hc; omega
    rw [e]
    refine WP.rs T false tok (by rfl) (by exact byObl) ?_
    exact WP.ret (Ends.val (by rfl) (by exact byObl) (by rfl) (by trivial))
  · have hc := of_decide_eq_false hc
    have e : signV p n = -1 := by unfold signV; rw [if_neg]; intro h; exact hc (by rw [e1]; exact e2.trans (by omega))
    rw [e]
    refine WP.rs T false tok (by rfl) (by exact byObl) ?_
    exact WP.ret (Ends.val (by rfl) (by exact byObl) (by rfl) (by trivial))

noncomputable def signR (p : Nat → Nat) (n : Int) : Dat := bif permB p n then t2 (.i .i64 (signV p n.toNat)) (.i .i64 0) else t2 (.i .i64 0) (.i .i64 1)

theorem signR_form (p : Nat → Nat) (n : Int) : ∃ r c, signR p n = t2 (.i .i64 r) (.i .i64 c) := by
  unfold signR
  cases permB p n with
  | true => exact ⟨_, _, rfl⟩
  | false => exact ⟨_, _, rfl⟩

theorem specSign_fn (p : Nat → Nat) (hb : ∀ i, p i < 256) (n : Int) : FnP Try.prog 25 [pl p, .i .i64 n] (signR p n) := by
  refine FnS.into T tok Try.func25 (by rfl) rfl rfl rfl (by simp) ?_
  refine WP.rs T false tok (by rfl) (by exact byObl) ?_
  refine WP.seq ?_
  cases hc : permB p n
  · have e : signR p n = t2 (.i .i64 0) (.i .i64 1) := by unfold signR; rw [hc]; rfl
    refine WP.rw ?_
    refine WPL.run T false 2 tok (by rfl) (by exact byObl) ?_
    refine WPL.call (hc ▸ l01Perm_fn p hb n) (by rfl) (by rfl) (by rfl) (by simp [Sc, sc_pl, sc_ds, pl_ne, ds_ne]) ?_
    refine WPL.fin T false tok (by rfl) (by exact byObl) ?_
    refine WP.cond (by rfl) (fun h => ?_) (fun h => WP.skip ?_)
    · refine WP.rs T false tok (by rfl) (by exact byObl) ?_
      rw [e]
      exact WP.ret (Ends.val (by rfl) (by exact byObl) (by rfl) (by exact sc_t2 trivial trivial))
    · cases h
  · obtain ⟨N, rfl, h1, h2, hP⟩ := perm_of_B hc
    have hl := cycs_len p N
    have e1 : (N : Int) - ((cycs p N).length : Int) = ((N - (cycs p N).length : Nat) : Int) := by omega
    have e2 := tmodN (N - (cycs p N).length) 2
    have e : signR p N = t2 (.i .i64 (1 - 2 * ((N : Int) - ((cycs p N).length : Int)).tmod 2)) (.i .i64 0) := by
      unfold signR
      rw [hc, e1]
      show t2 (.i .i64 (signV p N)) _ = t2 (.i .i64 (1 - 2 * ((N - (cycs p N).length : Nat) : Int).tmod ((2 : Nat) : Int))) _
      rw [e2]
      congr 2
      unfold signV
      split <;> omega
    have hm : 0 ≤ ((N : Int) - ((cycs p N).length : Int)).tmod 2 ∧ ((N : Int) - ((cycs p N).length : Int)).tmod 2 < 2 := by
      rw [e1]
      have : ((N - (cycs p N).length : Nat) : Int).tmod 2 = _ := e2
      rw [this]; omega
    refine WP.rw ?_
    refine WPL.run T false 2 tok (by rfl) (by exact byObl) ?_
    refine WPL.call (hc ▸ l01Perm_fn p hb N) (by rfl) (by rfl) (by rfl) (by simp [Sc, sc_pl, sc_ds, pl_ne, ds_ne]) ?_
    refine WPL.fin T false tok (by rfl) (by exact byObl) ?_
    refine WP.cond (by rfl) (fun h => ?_) (fun h => WP.skip ?_)
    · cases h
    refine WP.rw ?_
    refine WPL.run T false 3 tok (by rfl) (by exact byObl) ?_
    refine WPL.callN [] (.sl 1 0 (cycs p N).length 1) (l01Cycles_fn p N h2 hP.lt) (trivial) (by rfl) (by rfl) (by exact byArgs) (by rfl) (by rfl) (by simp [Sc, sc_pl, sc_ds]) (by exact byAllc) (rfl) (by exact bySc) rfl ?_
    refine WPL.fin T false tok (by rfl) (by exact byObl) ?_
    rw [e]
    exact WP.ret (Ends.val (by rfl) (by exact byObl) (by rfl) (by exact sc_t2 trivial trivial))

theorem implSign_fn (p : Nat → Nat) (hb : ∀ i, p i < 256) (n : Int) : FnP Try.prog 22 [pl p, .i .i64 n] (signR p n) := by
  refine FnS.into T tok Try.func22 (by rfl) rfl rfl rfl (by simp) ?_
  refine WP.rs T false tok (by rfl) (by exact byObl) ?_
  refine WP.seq ?_
  cases hc : permB p n
  · have e : signR p n = t2 (.i .i64 0) (.i .i64 1) := by unfold signR; rw [hc]; rfl
    refine WP.rw ?_
    refine WPL.run T false 2 tok (by rfl) (by exact byObl) ?_
    refine WPL.call (hc ▸ IsPermutation_fn p hb n) (by rfl) (by rfl) (by rfl) (by simp [Sc, sc_pl, sc_ds, pl_ne, ds_ne]) ?_
    refine WPL.fin T false tok (by rfl) (by exact byObl) ?_
    refine WP.cond (by rfl) (fun h => ?_) (fun h => WP.skip ?_)
    · refine WP.rs T false tok (by rfl) (by exact byObl) ?_
      rw [e]
      exact WP.ret (Ends.val (by rfl) (by exact byObl) (by rfl) (by exact sc_t2 trivial trivial))
    · cases h
  · obtain ⟨N, rfl, h1, h2, hP⟩ := perm_of_B hc
    have e : signR p N = t2 (.i .i64 (signV p N)) (.i .i64 0) := by unfold signR; rw [hc]; rfl
    refine WP.rw ?_
    refine WPL.run T false 2 tok (by rfl) (by exact byObl) ?_
    refine WPL.call (hc ▸ IsPermutation_fn p hb N) (by rfl) (by rfl) (by rfl) (by simp [Sc, sc_pl, sc_ds, pl_ne, ds_ne]) ?_
    refine WPL.fin T false tok (by rfl) (by exact byObl) ?_
    refine WP.cond (by rfl) (fun h => ?_) (fun h => WP.skip ?_)
    · cases h
    refine WP.rw ?_
    refine WPL.run T false 2 tok (by rfl) (by exact byObl) ?_
    refine WPL.call (sign_fn p N h2 hP.lt) (by rfl) (by rfl) (by rfl) (by simp [Sc, sc_pl, sc_ds, pl_ne, ds_ne]) ?_
    refine WPL.fin T false tok (by rfl) (by exact byObl) ?_
    rw [e]
    exact WP.ret (Ends.val (by rfl) (by exact byObl) (by rfl) (by exact sc_t2 trivial trivial))

end Go.Proofs.Ytakapfgjdhliaaa

/- Cycles: the public functions; the law. -/
namespace Go.Proofs.Ytakapfgjdhliaaa
open Go.RowKit DM
set_option linter.unusedSimpArgs false
set_option linter.unusedVariables false
set_option maxRecDepth 100000
set_option maxHeartbeats 1000000

noncomputable def cyR (p : Nat → Nat) (n : Int) : Dat := bif permB p n then t2 (.sl 0 0 (cycs p n.toNat).length 1) (.i .i64 0) else t2 .ns (.i .i64 1)
noncomputable def cyM (p : Nat → Nat) (n : Int) : List Root := bif permB p n then [.row 39 (cycs p n.toNat).length 1 (rowsF (cycs p n.toNat))] else []

theorem implCycles_fn (p : Nat → Nat) (hb : ∀ i, p i < 256) (n : Int) : FnS Try.prog 11 [pl p, .i .i64 n] [] (fun r m' => r = cyR p n ∧ m' = cyM p n) := by
  cases hc : permB p n
  · have e1 : cyR p n = t2 .ns (.i .i64 1) := by unfold cyR; rw [hc]; rfl
    have e2 : cyM p n = [] := by unfold cyM; rw [hc]; rfl
    rw [e1, e2]
    refine FnS.intoN T tok Try.func11 (by rfl) rfl rfl rfl (by simp) ?_
    refine WP.rs T false tok (by rfl) (by exact byObl) ?_
    refine WP.seq ?_
    refine WP.rw ?_
    refine WPL.run T false 2 tok (by rfl) (by exact byObl) ?_
    refine WPL.call (hc ▸ IsPermutation_fn p hb n) (by rfl) (by rfl) (by rfl) (by simp [Sc, sc_pl, sc_ds, pl_ne, ds_ne]) ?_
    refine WPL.fin T false tok (by rfl) (by exact byObl) ?_
    refine WP.cond (by rfl) (fun h => ?_) (fun h => WP.skip ?_)
    · refine WP.rs T false tok (by rfl) (by exact byObl) ?_
      exact WP.ret (Ends.new [] (by rfl) (by exact byObl) (trivial) rfl rfl (ren_t2 ⟨rfl, trivial⟩ ⟨rfl, trivial⟩) (sc_t2 trivial trivial))
    · cases h
  · obtain ⟨N, rfl, h1, h2, hP⟩ := perm_of_B hc
    have e1 : cyR p N = t2 (.sl 0 0 (cycs p N).length 1) (.i .i64 0) := by unfold cyR; rw [hc]; rfl
    have e2 : cyM p N = [.row 39 (cycs p N).length 1 (rowsF (cycs p N))] := by unfold cyM; rw [hc]; rfl
    rw [e1, e2]
    refine FnS.intoN T tok Try.func11 (by rfl) rfl rfl rfl (by simp) ?_
    refine WP.rs T false tok (by rfl) (by exact byObl) ?_
    refine WP.seq ?_
    refine WP.rw ?_
    refine WPL.run T false 2 tok (by rfl) (by exact byObl) ?_
    refine WPL.call (hc ▸ IsPermutation_fn p hb N) (by rfl) (by rfl) (by rfl) (by simp [Sc, sc_pl, sc_ds, pl_ne, ds_ne]) ?_
    refine WPL.fin T false tok (by rfl) (by exact byObl) ?_
    refine WP.cond (by rfl) (fun h => ?_) (fun h => WP.skip ?_)
    · cases h
    refine WP.rw ?_
    refine WPL.run T false 2 tok (by rfl) (by exact byObl) ?_
    refine WPL.callN [] (.sl 1 0 (cycs p N).length 1) (cycles_fn p N h2 hP.lt) (trivial) (by rfl) (by rfl) (by exact byArgs) (by rfl) (by rfl) (by simp [Sc, sc_pl, sc_ds]) (by exact byAllc) (rfl) (by exact bySc) rfl ?_
    refine WPL.fin T false tok (by rfl) (by exact byObl) ?_
    exact WP.ret (Ends.new [1] (by rfl) (by exact byObl) (LeAll.cons (by rfl) (by first | with_reducible exact Root.Le.refl _ | with_reducible exact le_dead | (skip; done) | exact byLeq) (by exact byCon) (trivial)) rfl rfl (ren_t2 rfl ⟨rfl, trivial⟩) (sc_t2 (sc_sl rfl) trivial))

theorem specCycles_fn (p : Nat → Nat) (hb : ∀ i, p i < 256) (n : Int) : FnS Try.prog 12 [pl p, .i .i64 n] [] (fun r m' => r = cyR p n ∧ m' = cyM p n) := by
  cases hc : permB p n
  · have e1 : cyR p n = t2 .ns (.i .i64 1) := by unfold cyR; rw [hc]; rfl
    have e2 : cyM p n = [] := by unfold cyM; rw [hc]; rfl
    rw [e1, e2]
    refine FnS.intoN T tok Try.func12 (by rfl) rfl rfl rfl (by simp) ?_
    refine WP.rs T false tok (by rfl) (by exact byObl) ?_
    refine WP.seq ?_
    refine WP.rw ?_
    refine WPL.run T false 2 tok (by rfl) (by exact byObl) ?_
    refine WPL.call (hc ▸ l01Perm_fn p hb n) (by rfl) (by rfl) (by rfl) (by simp [Sc, sc_pl, sc_ds, pl_ne, ds_ne]) ?_
    refine WPL.fin T false tok (by rfl) (by exact byObl) ?_
    refine WP.cond (by rfl) (fun h => ?_) (fun h => WP.skip ?_)
    · refine WP.rs T false tok (by rfl) (by exact byObl) ?_
      exact WP.ret (Ends.new [] (by rfl) (by exact byObl) (trivial) rfl rfl (ren_t2 ⟨rfl, trivial⟩ ⟨rfl, trivial⟩) (sc_t2 trivial trivial))
    · cases h
  · obtain ⟨N, rfl, h1, h2, hP⟩ := perm_of_B hc
    have e1 : cyR p N = t2 (.sl 0 0 (cycs p N).length 1) (.i .i64 0) := by unfold cyR; rw [hc]; rfl
    have e2 : cyM p N = [.row 39 (cycs p N).length 1 (rowsF (cycs p N))] := by unfold cyM; rw [hc]; rfl
    rw [e1, e2]
    refine FnS.intoN T tok Try.func12 (by rfl) rfl rfl rfl (by simp) ?_
    refine WP.rs T false tok (by rfl) (by exact byObl) ?_
    refine WP.seq ?_
    refine WP.rw ?_
    refine WPL.run T false 2 tok (by rfl) (by exact byObl) ?_
    refine WPL.call (hc ▸ l01Perm_fn p hb N) (by rfl) (by rfl) (by rfl) (by simp [Sc, sc_pl, sc_ds, pl_ne, ds_ne]) ?_
    refine WPL.fin T false tok (by rfl) (by exact byObl) ?_
    refine WP.cond (by rfl) (fun h => ?_) (fun h => WP.skip ?_)
    · cases h
    refine WP.rw ?_
    refine WPL.run T false 2 tok (by rfl) (by exact byObl) ?_
    refine WPL.callN [] (.sl 1 0 (cycs p N).length 1) (l01Cycles_fn p N h2 hP.lt) (trivial) (by rfl) (by rfl) (by exact byArgs) (by rfl) (by rfl) (by simp [Sc, sc_pl, sc_ds]) (by exact byAllc) (rfl) (by exact bySc) rfl ?_
    refine WPL.fin T false tok (by rfl) (by exact byObl) ?_
    exact WP.ret (Ends.new [1] (by rfl) (by exact byObl) (LeAll.cons (by rfl) (by first | with_reducible exact Root.Le.refl _ | with_reducible exact le_dead | (skip; done) | exact byLeq) (by exact byCon) (trivial)) rfl rfl (ren_t2 rfl ⟨rfl, trivial⟩) (sc_t2 (sc_sl rfl) trivial))

end Go.Proofs.Ytakapfgjdhliaaa
