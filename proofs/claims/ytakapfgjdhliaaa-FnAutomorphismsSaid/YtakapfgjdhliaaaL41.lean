import Derived.Test.YtakapfgjdhliaaaX23
import Derived.Test.YtakapfgjdhliaaaD37
import Derived.Test.YtakapfgjdhliaaaL11
import Derived.Test.YtakapfgjdhliaaaX14
import Derived.Test.YtakapfgjdhliaaaX12
import Derived.Test.YtakapfgjdhliaaaL29
/- Canonical dessins: what both sides compute. -/
namespace Go.Proofs.Ytakapfgjdhliaaa
open Go.RowKit DM

/-- The order of arrays. -/
def cmpF (p q : Nat → Nat) : Nat → Nat → Int
  | 0, _ => 0
  | m + 1, i => if p i < q i then -1 else if q i < p i then 1 else cmpF p q m (i + 1)

theorem u8_lt {a b : Nat} (ha : a < 256) (hb : b < 256) : (((a : Nat) : Int).toNat.toUInt8 < ((b : Nat) : Int).toNat.toUInt8) ↔ a < b := by
  rw [UInt8.lt_iff_toNat_lt]
  simp only [Int.toNat_natCast, Nat.toUInt8_eq, UInt8.toNat_ofNat']
  rw [Nat.mod_eq_of_lt (by omega), Nat.mod_eq_of_lt (by omega)]

theorem cmp_range {p q : Nat → Nat} (hp : ∀ i, p i < 256) (hq : ∀ i, q i < 256) : ∀ m i, Lib.compareBytes ((List.range' i m).map fun i => (((p i : Nat) : Int).toNat).toUInt8) ((List.range' i m).map fun i => (((q i : Nat) : Int).toNat).toUInt8) = cmpF p q m i
  | 0, i => rfl
  | m + 1, i => by
    rw [List.range'_succ, List.map_cons, List.map_cons]
    unfold Lib.compareBytes cmpF
    rw [cmp_range hp hq m (i + 1)]
    by_cases h1 : p i < q i
    · rw [if_pos ((u8_lt (hp i) (hq i)).2 h1), if_pos h1]
    · rw [if_neg (fun h => h1 ((u8_lt (hp i) (hq i)).1 h)), if_neg h1]
      by_cases h2 : q i < p i
      · rw [if_pos ((u8_lt (hq i) (hp i)).2 h2), if_pos h2]
      · rw [if_neg (fun h => h2 ((u8_lt (hq i) (hp i)).1 h)), if_neg h2]

theorem cmp_bys {p q : Nat → Nat} (hp : ∀ i, p i < 256) (hq : ∀ i, q i < 256) : Lib.compareBytes (bys p) (bys q) = cmpF p q 16 0 := by
  rw [← cmp_range hp hq 16 0]
  unfold bys
  rw [List.range_eq_range']

theorem cmpF_zero (p q : Nat → Nat) : ∀ m i, cmpF p q m i = 0 ↔ ∀ j, i ≤ j → j < i + m → p j = q j
  | 0, i => by simp only [cmpF, true_iff]; intro j h1 h2; omega
  | m + 1, i => by
    unfold cmpF
    by_cases h1 : p i < q i
    · rw [if_pos h1]
      refine ⟨fun h => by omega, fun h => ?_⟩
      have := h i (Nat.le_refl _) (by omega)
      omega
    · rw [if_neg h1]
      by_cases h2 : q i < p i
      · rw [if_pos h2]
        refine ⟨fun h => by omega, fun h => ?_⟩
        have := h i (Nat.le_refl _) (by omega)
        omega
      · rw [if_neg h2, cmpF_zero p q m (i + 1)]
        refine ⟨fun h j h3 h4 => ?_, fun h j h3 h4 => h j (by omega) (by omega)⟩
        by_cases e : j = i
        · subst e; omega
        · exact h j (by omega) (by omega)

/-- The order of dessins. -/
def cdF (b w b' w' : Nat → Nat) : Int := if cmpF b b' 16 0 ≠ 0 then cmpF b b' 16 0 else cmpF w w' 16 0

def candB (N : Nat) (b w : Nat → Nat) (x : Nat) : Nat → Nat := renTo (nameF b w x) b N
def candW (N : Nat) (b w : Nat → Nat) (x : Nat) : Nat → Nat := renTo (nameF b w x) w N
/-- The least of the first. -/
def canF (N : Nat) (b w : Nat → Nat) : Nat → (Nat → Nat) × (Nat → Nat)
  | 0 => (candB N b w 0, candW N b w 0)
  | k + 1 => if cdF (candB N b w (k + 1)) (candW N b w (k + 1)) (canF N b w k).1 (canF N b w k).2 < 0 then (candB N b w (k + 1), candW N b w (k + 1)) else canF N b w k

theorem renTo_lt16 {p b : Nat → Nat} (hp : ∀ i, p i < 16) : ∀ k i, renTo p b k i < 16
  | 0, i => by simp [renTo]
  | k + 1, i => by
    simp only [renTo, up]
    split
    · exact hp _
    · exact renTo_lt16 hp k i

theorem canF_lt {N : Nat} {b w : Nat → Nat} (hN : N ≤ 16) (hb : ∀ i, i < N → b i < N) (hw : ∀ i, i < N → w i < N) : ∀ k, k < N → (∀ i, (canF N b w k).1 i < 256) ∧ ∀ i, (canF N b w k).2 i < 256
  | 0, h0 => ⟨fun i => Nat.lt_trans (renTo_lt16 (fun i => nameF_lt hN hb hw h0 i) _ i) (by omega), fun i => Nat.lt_trans (renTo_lt16 (fun i => nameF_lt hN hb hw h0 i) _ i) (by omega)⟩
  | k + 1, hk => by
    unfold canF
    split
    · exact ⟨fun i => Nat.lt_trans (renTo_lt16 (fun i => nameF_lt hN hb hw hk i) _ i) (by omega), fun i => Nat.lt_trans (renTo_lt16 (fun i => nameF_lt hN hb hw hk i) _ i) (by omega)⟩
    · exact canF_lt hN hb hw k (by omega)
end Go.Proofs.Ytakapfgjdhliaaa

/- Canonical dessins: comparing, both sides. -/
namespace Go.Proofs.Ytakapfgjdhliaaa
open Go.RowKit DM
set_option linter.unusedSimpArgs false
set_option linter.unusedVariables false
set_option maxRecDepth 100000
set_option maxHeartbeats 1000000

theorem compareDessins_fn (n m : Int) (b w b' w' : Nat → Nat) (hb : ∀ i, b i < 256) (hw : ∀ i, w i < 256) (hb' : ∀ i, b' i < 256) (hw' : ∀ i, w' i < 256) : FnP Try.prog 89 [ds_ n b w, ds_ m b' w'] (.i .i64 (cdF b w b' w')) := by
  have h1 := comparePlaces_fn b b'
  have h2 := comparePlaces_fn w w'
  rw [cmp_bys hb hb'] at h1
  rw [cmp_bys hw hw'] at h2
  unfold cdF
  by_cases h0 : cmpF b b' 16 0 = 0
  · rw [if_neg (not_not_intro h0)]
    rw [h0] at h1
    refine FnS.into T tok Try.func89 (by rfl) rfl rfl rfl (by simp) ?_
    refine WP.rs T false tok (by rfl) (by exact byObl) ?_
    refine WP.seq ?_
    refine WP.seq ?_
    refine WP.region ?_
    refine WPL.run T false 4 tok (by rfl) (by exact byObl) ?_
    refine WPL.call (h1) (by rfl) (by rfl) (by rfl) (by simp [Sc, sc_pl, sc_ds, pl_ne, ds_ne]) ?_
    refine WPL.fin T false tok (by rfl) (by exact byObl) ?_
    refine WP.rs T false tok (by rfl) (by exact byObl) ?_
    refine WP.cond (by rfl) (fun h => ?_) (fun h => WP.skip ?_)
    · simp at h
    refine WP.rw ?_
    refine WPL.run T false 4 tok (by rfl) (by exact byObl) ?_
    refine WPL.call (h2) (by rfl) (by rfl) (by rfl) (by simp [Sc, sc_pl, sc_ds, pl_ne, ds_ne]) ?_
    refine WPL.fin T false tok (by rfl) (by exact byObl) ?_
    exact WP.ret (Ends.val (by rfl) (by exact byObl) (by rfl) (by trivial))
  · rw [if_pos h0]
    generalize cmpF b b' 16 0 = c at h0 h1
    refine FnS.into T tok Try.func89 (by rfl) rfl rfl rfl (by simp) ?_
    refine WP.rs T false tok (by rfl) (by exact byObl) ?_
    refine WP.seq ?_
    refine WP.seq ?_
    refine WP.region ?_
    refine WPL.run T false 4 tok (by rfl) (by exact byObl) ?_
    refine WPL.call (h1) (by rfl) (by rfl) (by rfl) (by simp [Sc, sc_pl, sc_ds, pl_ne, ds_ne]) ?_
    refine WPL.fin T false tok (by rfl) (by exact byObl) ?_
    refine WP.rs T false tok (by rfl) (by exact byObl) ?_
    refine WP.cond (by rfl) (fun h => ?_) (fun h => WP.skip ?_)
    · refine WP.rs T false tok (by rfl) (by exact byObl) ?_
      exact WP.ret (Ends.val (by rfl) (by exact byObl) (by rfl) (by trivial))
    · exact absurd (by simpa using h) h0

theorem lt16 {P : Nat → Prop} (h : P 0 ∧ P 1 ∧ P 2 ∧ P 3 ∧ P 4 ∧ P 5 ∧ P 6 ∧ P 7 ∧ P 8 ∧ P 9 ∧ P 10 ∧ P 11 ∧ P 12 ∧ P 13 ∧ P 14 ∧ P 15) : ∀ i, i < 16 → P i := by
  obtain ⟨h0, h1, h2, h3, h4, h5, h6, h7, h8, h9, h10, h11, h12, h13, h14, h15⟩ := h
  intro i hi
  match i, hi with
  | 0, _ => exact h0
  | 1, _ => exact h1
  | 2, _ => exact h2
  | 3, _ => exact h3
  | 4, _ => exact h4
  | 5, _ => exact h5
  | 6, _ => exact h6
  | 7, _ => exact h7
  | 8, _ => exact h8
  | 9, _ => exact h9
  | 10, _ => exact h10
  | 11, _ => exact h11
  | 12, _ => exact h12
  | 13, _ => exact h13
  | 14, _ => exact h14
  | 15, _ => exact h15
  | n + 16, h => omega

end Go.Proofs.Ytakapfgjdhliaaa

/- Canonical dessins: both sides; the law. -/
namespace Go.Proofs.Ytakapfgjdhliaaa
open Go.RowKit DM
set_option linter.unusedSimpArgs false
set_option linter.unusedVariables false
set_option maxRecDepth 100000
set_option maxHeartbeats 1000000

theorem canonical_fn (N : Nat) (b w : Nat → Nat) (hN0 : 0 < N) (hN : N ≤ 16) (hb : ∀ i, i < N → b i < N) (hw : ∀ i, i < N → w i < N) : FnP Try.prog 73 [ds_ N b w] (ds_ N (canF N b w (N - 1)).1 (canF N b w (N - 1)).2) := by
  have hb' : ∀ i, i < N → b i < 16 := fun i hi => by have := hb i hi; omega
  have hw' : ∀ i, i < N → w i < 16 := fun i hi => by have := hw i hi; omega
  refine FnS.into T tok Try.func73 (by rfl) rfl rfl rfl (by simp) ?_
  refine WP.rs T false tok (by rfl) (by exact byObl) ?_
  refine WP.seq ?_
  refine WP.dt (T := T) 5 1 ?_
  refine HW.run false 2 tok (by rfl) (by exact ⟨rfl, pl_ds _ _ _, sc_ds _ _ _ _, rfl, pl_ds _ _ _, sc_ds _ _ _ _⟩) ?_
  refine HW.call [] (naming_fn N b w 0 hN0 hN hb hw) (by rfl) (by rfl) trivial (by exact byArgs) (by rfl) (by simp [Sc, sc_pl, sc_ds]) (sc_pl _ _) ?_
  refine HW.call [] (rename_fn N b w (nameF b w 0) hN hb' hw' (fun i _ => nameF_lt hN hb hw hN0 i)) (by rfl) (by rfl) trivial (by exact byArgs) (by rfl) (by simp [Sc, sc_pl, sc_ds]) (sc_ds _ _ _ _) ?_
  refine HW.run false 1 tok (by rfl) (by exact byObl) ?_
  refine HW.fin tok (by kernel_rfl) 5 1 (by rfl) (by kernel_rfl) (by kernel_rfl) (by kernel_rfl) (by rfl) (by rfl) rfl rfl ?_
  refine WPL.fin T false tok (by rfl) (by exact byObl) ?_
  refine WP.seq ?_
  refine WP.rs T false tok (by rfl) (by exact byObl) ?_
  refine WP.block ?_
  refine WP.loopH (⟨fun k : Nat => k < N, fun k => [(1, .p 0 [] 0), (2, .p 1 [] 0), (3, .p 2 [] 0), (4, .i .i64 ((k + 1 : Nat) : Int))], fun k => [.var (ds_ N b w), .var (ds_ 0 (fun _ => 0) (fun _ => 0)), .var (ds_ N (canF N b w k).1 (canF N b w k).2)], fun k => N - k⟩) (0) (hN0) (Ghost.cut (Nat.le_refl _) (tauOf [0, 1, 2]) _ _ (Taken.of [0, 1, 2] (LeAll.cons (by rfl) (by first | with_reducible exact Root.Le.refl _ | with_reducible exact le_dead | (skip; done) | exact byLeq) (by exact byCon) (LeAll.cons (by rfl) (by first | with_reducible exact Root.Le.refl _ | with_reducible exact le_dead | (skip; done) | exact byLeq) (by exact byCon) (LeAll.cons (by rfl) (by first | with_reducible exact Root.Le.refl _ | with_reducible exact le_dead | (skip; done) | exact byLeq) (by exact byCon) (trivial)))) rfl rfl) (by exact bySlots)) ?_
  intro k hk
  dsimp only at hk
  dsimp only [Hd.at]
  refine WP.seq ?_
  refine WP.rs T false tok (by rfl) (by exact byObl) ?_
  refine WP.cond (by rfl) (fun hc => WP.skip ?_) (fun hc => WP.exit ?_)
  · have hk1 : k + 1 < N := by have := of_decide_eq_true hc; omega
    clear hc
    have hl3 := (canF_lt hN hb hw k hk).1
    have hl4 := (canF_lt hN hb hw k hk).2
    have hl1 : ∀ i, candB N b w (k + 1) i < 256 := fun i => Nat.lt_trans (renTo_lt16 (fun i => nameF_lt hN hb hw hk1 i) _ i) (by omega)
    have hl2 : ∀ i, candW N b w (k + 1) i < 256 := fun i => Nat.lt_trans (renTo_lt16 (fun i => nameF_lt hN hb hw hk1 i) _ i) (by omega)
    have hc2 : canF N b w (k + 1) = if cdF (candB N b w (k + 1)) (candW N b w (k + 1)) (canF N b w k).1 (canF N b w k).2 < 0 then (candB N b w (k + 1), candW N b w (k + 1)) else canF N b w k := rfl
    refine WP.seq (WP.block ?_)
    refine WP.seq ?_
    refine WP.dt (T := T) 6 1 ?_
    refine HW.run false 3 tok (by rfl) (by exact ⟨rfl, pl_ds _ _ _, sc_ds _ _ _ _, rfl, pl_ds _ _ _, sc_ds _ _ _ _⟩) ?_
    refine HW.call [] (naming_fn N b w (k + 1) hk1 hN hb hw) (by rfl) (by rfl) trivial (by exact byArgs) (by rfl) (by simp [Sc, sc_pl, sc_ds]) (sc_pl _ _) ?_
    refine HW.call [] (rename_fn N b w (nameF b w (k + 1)) hN hb' hw' (fun i _ => nameF_lt hN hb hw hk1 i)) (by rfl) (by rfl) trivial (by exact byArgs) (by rfl) (by simp [Sc, sc_pl, sc_ds]) (sc_ds _ _ _ _) ?_
    refine HW.run false 1 tok (by rfl) (by exact byObl) ?_
    refine HW.fin tok (by kernel_rfl) 6 1 (by rfl) (by kernel_rfl) (by kernel_rfl) (by kernel_rfl) (by rfl) (by rfl) rfl rfl ?_
    refine WPL.fin T false tok (by rfl) (by exact byObl) ?_
    rw [show renTo (nameF b w (k + 1)) b N = candB N b w (k + 1) from rfl, show renTo (nameF b w (k + 1)) w N = candW N b w (k + 1) from rfl]
    refine WP.rw ?_
    refine WPL.run T false 2 tok (by rfl) (by exact byObl) ?_
    refine WPL.call (compareDessins_fn N N _ _ _ _ hl1 hl2 hl3 hl4) (by rfl) (by rfl) (by rfl) (by simp [Sc, sc_pl, sc_ds, pl_ne, ds_ne]) ?_
    refine WPL.fin T false tok (by rfl) (by exact byObl) ?_
    refine WP.cond (by rfl) (fun h => ?_) (fun h => WP.skip ?_)
    · have h := of_decide_eq_true h
      rw [if_pos h] at hc2
      refine WP.run T false tok (by rfl) (by exact byObl) ?_
      refine WP.run T false tok (by rfl) (by exact byObl) ?_
      refine Again.next (k + 1) (Ghost.cut (Nat.le_refl _) (tauOf [0, 1, 2]) _ _ (Taken.of [0, 1, 2] (LeAll.cons (by rfl) (by first | with_reducible exact Root.Le.refl _ | with_reducible exact le_dead | (exact le_var (by rw [hc2]; exact byVareq)) | exact byLeq) (by exact byCon) (LeAll.cons (by rfl) (by first | with_reducible exact Root.Le.refl _ | with_reducible exact le_dead | (exact le_var (by rw [hc2]; exact byVareq)) | exact byLeq) (by exact byCon) (LeAll.cons (by rfl) (by first | with_reducible exact Root.Le.refl _ | with_reducible exact le_dead | (exact le_var (by rw [hc2]; exact byVareq)) | exact byLeq) (by exact byCon) (trivial)))) rfl rfl) (by exact bySlots)) (hk1) (by dsimp only; omega)
    · have h := of_decide_eq_false h
      rw [if_neg h] at hc2
      refine WP.run T false tok (by rfl) (by exact byObl) ?_
      refine Again.next (k + 1) (Ghost.cut (Nat.le_refl _) (tauOf [0, 1, 2]) _ _ (Taken.of [0, 1, 2] (LeAll.cons (by rfl) (by first | with_reducible exact Root.Le.refl _ | with_reducible exact le_dead | (exact le_var (by rw [hc2]; rfl)) | exact byLeq) (by exact byCon) (LeAll.cons (by rfl) (by first | with_reducible exact Root.Le.refl _ | with_reducible exact le_dead | (exact le_var (by rw [hc2]; rfl)) | exact byLeq) (by exact byCon) (LeAll.cons (by rfl) (by first | with_reducible exact Root.Le.refl _ | with_reducible exact le_dead | (exact le_var (by rw [hc2]; rfl)) | exact byLeq) (by exact byCon) (trivial)))) rfl rfl) (by exact bySlots)) (hk1) (by dsimp only; omega)
  · have hk1 : k = N - 1 := by have := of_decide_eq_false hc; omega
    subst hk1
    refine WP.rs T false tok (by rfl) (by exact byObl) ?_
    exact WP.ret (Ends.val (by rfl) (by exact byObl) (by rfl) (by exact sc_ds _ _ _ _))

noncomputable def canR (n : Int) (b w : Nat → Nat) : Dat := bif desB n b w then t2 (ds_ n (canF n.toNat b w (n.toNat - 1)).1 (canF n.toNat b w (n.toNat - 1)).2) (.i .i64 0) else t2 (ds_ 0 (fun _ => 0) (fun _ => 0)) (.i .i64 1)
theorem implCan_fn (n : Int) (b w : Nat → Nat) (hb : ∀ i, b i < 256) (hw : ∀ i, w i < 256) : FnP Try.prog 41 [ds_ n b w] (canR n b w) := by
  refine FnS.into T tok Try.func41 (by rfl) rfl rfl rfl (by simp) ?_
  refine WP.rs T false tok (by rfl) (by exact byObl) ?_
  refine WP.seq ?_
  cases hc : desB n b w
  · have e : canR n b w = t2 (ds_ 0 (fun _ => 0) (fun _ => 0)) (.i .i64 1) := by unfold canR; rw [hc]; rfl
    refine WP.rw ?_
    refine WPL.run T false 1 tok (by rfl) (by exact byObl) ?_
    refine WPL.call (hc ▸ implIsDessin_fn n b w hb hw) (by rfl) (by rfl) (by rfl) (by simp [Sc, sc_pl, sc_ds, pl_ne, ds_ne]) ?_
    refine WPL.fin T false tok (by rfl) (by exact byObl) ?_
    refine WP.cond (by rfl) (fun h => ?_) (fun h => WP.skip ?_)
    · refine WP.rs T false tok (by rfl) (by exact byObl) ?_
      rw [e]
      exact WP.ret (Ends.val (by rfl) (by exact byObl) (by rfl) (by exact sc_t2 (sc_ds _ _ _ _) trivial))
    · cases h
  · obtain ⟨N, rfl, hD⟩ := des_of_B hc
    have e : canR N b w = t2 (ds_ N (canF N b w (N - 1)).1 (canF N b w (N - 1)).2) (.i .i64 0) := by unfold canR; rw [hc]; rfl
    refine WP.rw ?_
    refine WPL.run T false 1 tok (by rfl) (by exact byObl) ?_
    refine WPL.call (hc ▸ implIsDessin_fn N b w hb hw) (by rfl) (by rfl) (by rfl) (by simp [Sc, sc_pl, sc_ds, pl_ne, ds_ne]) ?_
    refine WPL.fin T false tok (by rfl) (by exact byObl) ?_
    refine WP.cond (by rfl) (fun h => ?_) (fun h => WP.skip ?_)
    · cases h
    refine WP.rw ?_
    refine WPL.run T false 1 tok (by rfl) (by exact byObl) ?_
    refine WPL.call (canonical_fn N b w hD.pos hD.le hD.pb.lt hD.pw.lt) (by rfl) (by rfl) (by rfl) (by simp [Sc, sc_pl, sc_ds, pl_ne, ds_ne]) ?_
    refine WPL.fin T false tok (by rfl) (by exact byObl) ?_
    rw [e]
    exact WP.ret (Ends.val (by rfl) (by exact byObl) (by rfl) (by exact sc_t2 (sc_ds _ _ _ _) trivial))

end Go.Proofs.Ytakapfgjdhliaaa

/- Elements of a group, level by level from its table: each once. -/
namespace Go.Proofs.Ytakapfgjdhliaaa
open Go.RowKit DM
set_option linter.unusedVariables false
set_option linter.unusedSimpArgs false

/-- The numbers at which the table has an entry, below b. -/
def ysL (h : Nat → Bool) (b : Nat) : List Nat := (List.range b).filter h
theorem ysL_succ (h : Nat → Bool) (b : Nat) : ysL h (b + 1) = ysL h b ++ (if h b = true then [b] else []) := by
  unfold ysL
  rw [List.range_succ, List.filter_append]
  congr 1
  simp only [List.filter_cons, List.filter_nil]
theorem ysL_len (h : Nat → Bool) : ∀ b, (ysL h b).length = cntB h b
  | 0 => rfl
  | b + 1 => by
    rw [ysL_succ, List.length_append, ysL_len h b]
    show cntB h b + _ = bif h b then cntB h b + 1 else cntB h b
    cases h b <;> rfl
theorem ysL_mem {h : Nat → Bool} {b y : Nat} : y ∈ ysL h b ↔ y < b ∧ h y = true := by simp [ysL]
theorem ysL_nodup (h : Nat → Bool) (b : Nat) : (ysL h b).Nodup := (List.nodup_range).filter _

/-- One element, with all entries of a level below b. -/
def rowE (n : Nat) (has : Nat → Nat → Bool) (tab : Nat → Nat → Nat → Nat) (i : Nat) (p : Nat → Nat) (b : Nat) : List (Nat → Nat) := (ysL (has i) b).map fun y => mulF n p (tab i y)
theorem rowE_len (n : Nat) (has : Nat → Nat → Bool) (tab : Nat → Nat → Nat → Nat) (i : Nat) (p : Nat → Nat) (b : Nat) : (rowE n has tab i p b).length = cntB (has i) b := by
  unfold rowE; rw [List.length_map, ysL_len]

/-- All elements with all entries of a level. -/
def levE (n : Nat) (has : Nat → Nat → Bool) (tab : Nat → Nat → Nat → Nat) (i : Nat) (E : List (Nat → Nat)) : List (Nat → Nat) := E.flatMap fun p => rowE n has tab i p 16
/-- d levels from the last one on. -/
def elsE (n : Nat) (has : Nat → Nat → Bool) (tab : Nat → Nat → Nat → Nat) : Nat → List (Nat → Nat)
  | 0 => [sameF n]
  | d + 1 => levE n has tab (n - (d + 1)) (elsE n has tab d)

theorem levE_len (n : Nat) (has : Nat → Nat → Bool) (tab : Nat → Nat → Nat → Nat) (i : Nat) : ∀ E, (levE n has tab i E).length = E.length * cntB (has i) 16
  | [] => by simp [levE]
  | p :: E => by
    have := levE_len n has tab i E
    unfold levE at this ⊢
    rw [List.flatMap_cons, List.length_append, this, rowE_len, List.length_cons, Nat.succ_mul]; omega
theorem els_mem {n : Nat} (hn : n ≤ 16) {has : Nat → Nat → Bool} {tab : Nat → Nat → Nat → Nat} (hT : TblOk n has tab) : ∀ {d : Nat}, d ≤ n → ∀ r, r ∈ elsE n has tab d ↔ InT n has tab d r
  | 0, _, r => by
    show r ∈ [sameF n] ↔ r = sameF n
    rw [List.mem_singleton]
  | d + 1, hd, r => by
    show r ∈ levE n has tab (n - (d + 1)) (elsE n has tab d) ↔ ∃ k, has (n - (d + 1)) k = true ∧ ∃ h, InT n has tab d h ∧ r = mulF n h (tab (n - (d + 1)) k)
    unfold levE rowE
    simp only [List.mem_flatMap, List.mem_map, ysL_mem]
    constructor
    · rintro ⟨p, hp, y, ⟨_, hy⟩, rfl⟩
      exact ⟨y, hy, p, (els_mem hn hT (by omega) p).1 hp, rfl⟩
    · rintro ⟨k, hk, h, hh, rfl⟩
      exact ⟨h, (els_mem hn hT (by omega) h).2 hh, k, ⟨Nat.lt_of_lt_of_le (hT.lt _ k (by omega) hk) hn, hk⟩, rfl⟩

theorem mul_cancelE {n : Nat} (hn : n ≤ 16) {p q t : Nat → Nat} (hp : Np n p) (hq : Np n q) (ht : Np n t) (h : mulF n p t = mulF n q t) : p = q := by
  have h2 : mulF n (mulF n p t) (backTo t n) = mulF n (mulF n q t) (backTo t n) := congrArg (fun r => mulF n r (backTo t n)) h
  rw [mul_assoc hp ht (inv_np hn ht), mul_assoc hq ht (inv_np hn ht), mul_inv hn ht, mul_one hp, mul_one hq] at h2
  exact h2

theorem nodup_flat {α β : Type} {f : α → List β} : ∀ {l : List α}, l.Nodup → (∀ x ∈ l, (f x).Nodup) → (∀ x ∈ l, ∀ y ∈ l, ∀ z, z ∈ f x → z ∈ f y → x = y) → (l.flatMap f).Nodup
  | [], _, _, _ => by simp
  | a :: l, hd, h1, h2 => by
    obtain ⟨d1, d2⟩ := List.nodup_cons.1 hd
    rw [List.flatMap_cons]
    refine List.nodup_append.2 ⟨h1 a (.head _), nodup_flat d2 (fun x hx => h1 x (.tail _ hx)) fun x hx y hy => h2 x (.tail _ hx) y (.tail _ hy), fun x hx y hy e => ?_⟩
    subst e
    obtain ⟨b, hb, hxb⟩ := List.mem_flatMap.1 hy
    have e := h2 a (.head _) b (.tail _ hb) x hx hxb
    subst e
    exact d1 hb

theorem els_nodup {n : Nat} (hn : n ≤ 16) {has : Nat → Nat → Bool} {tab : Nat → Nat → Nat → Nat} (hT : TblOk n has tab) : ∀ {d : Nat}, d ≤ n → (elsE n has tab d).Nodup
  | 0, _ => by simp [elsE]
  | d + 1, hd => by
    have hi : n - (d + 1) < n := by omega
    have hnp : ∀ p ∈ elsE n has tab d, Np n p ∧ ∀ j, j < n - d → p j = j := fun p hp => InT.np hT (by omega) ((els_mem hn hT (by omega) p).1 hp)
    have hat : ∀ p ∈ elsE n has tab d, ∀ y, has (n - (d + 1)) y = true → mulF n p (tab (n - (d + 1)) y) (n - (d + 1)) = y := fun p hp y hy => by
      rw [mul_at hi, (hnp p hp).2 _ (by omega)]; exact hT.at_ _ y hi hy
    refine nodup_flat (els_nodup hn hT (by omega)) (fun p hp => ?_) fun p hp q hq z hz hz' => ?_
    · unfold rowE
      rw [List.nodup_iff_pairwise_ne, List.pairwise_map]
      refine List.Pairwise.imp_of_mem (fun {x y} hx hy hne e => hne ?_) (List.nodup_iff_pairwise_ne.1 (ysL_nodup _ _))
      have h1 := hat p hp x (ysL_mem.1 hx).2
      rw [e, hat p hp y (ysL_mem.1 hy).2] at h1
      exact h1.symm
    · unfold rowE at hz hz'
      obtain ⟨x, hx, rfl⟩ := List.mem_map.1 hz
      obtain ⟨y, hy, e⟩ := List.mem_map.1 hz'
      have h1 := hat p hp x (ysL_mem.1 hx).2
      rw [← e, hat q hq y (ysL_mem.1 hy).2] at h1
      subst h1
      exact (mul_cancelE hn (hnp q hq).1 (hnp p hp).1 (hT.np _ _ hi (ysL_mem.1 hx).2) e).symm

theorem els_len {n : Nat} (hn : n ≤ 16) {has : Nat → Nat → Bool} (tab : Nat → Nat → Nat → Nat) : ∀ d, d ≤ n → (elsE n has tab d).length * ordF 16 has (n - d) = ordF 16 has n
  | 0, _ => by simp [elsE]
  | d + 1, hd => by
    have ih := els_len hn (has := has) tab d (by omega)
    show (levE n has tab (n - (d + 1)) (elsE n has tab d)).length * _ = _
    rw [levE_len, ← ih, show n - d = (n - (d + 1)) + 1 by omega]
    show _ = _ * (ordF 16 has (n - (d + 1)) * cntB (has (n - (d + 1))) 16)
    rw [Nat.mul_assoc, Nat.mul_comm (cntB _ _)]
/-- .. as many as the group has, on the way not more. -/
theorem els_le {n : Nat} (hn : n ≤ 16) {has : Nat → Nat → Bool} {tab : Nat → Nat → Nat → Nat} (hT : TblOk n has tab) {d : Nat} (hd : d ≤ n) : (elsE n has tab d).length ≤ ordF 16 has n := by
  rw [← els_len hn tab d hd]
  exact Nat.le_mul_of_pos_right _ (ord_pos _ fun l hl => cntB_pos 16 (j := l) (by omega) (hT.diag l (by omega)).1)

/-! ### Depth first -/
end Go.Proofs.Ytakapfgjdhliaaa
