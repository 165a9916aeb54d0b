import Derived.Test.YthjnmlpibafbnaaL3
import Derived.Test.YthjnmlpibafbnaaL46
import Derived.Test.YthjnmlpibafbnaaL9
import Derived.Test.YthjnmlpibafbnaaL21
namespace Go.Proofs.Ythjnmlpibafbnaa
open Go.RowKit DM
set_option linter.unusedSimpArgs false
set_option linter.unusedVariables false
set_option maxRecDepth 100000
set_option maxHeartbeats 1000000
noncomputable def bothB (n : Int) (b w : Nat → Nat) (n' : Int) (b' w' : Nat → Nat) : Bool := desB n b w && desB n' b' w'
theorem l02Both_fn (n n' : Int) (b w b' w' : Nat → Nat) (hb : ∀ i, b i < 256) (hw : ∀ i, w i < 256) (hb' : ∀ i, b' i < 256) (hw' : ∀ i, w' i < 256) : FnP Try.prog 23 [ds_ n b w, ds_ n' b' w'] (.i .i64 (bif bothB n b w n' b' w' then 0 else 1)) := by
  unfold bothB
  cases h1 : desB n b w
  · refine FnS.into T tok Try.func23 (by rfl) rfl rfl rfl (by simp) ?_
    refine rS ?_
    refine WP.seq ?_
    refine WP.rw ?_
    refine rU 1 ?_
    refine cA (h1 ▸ l01Is_fn n b w hb hw) ?_
    refine rF ?_
    refine WP.cond (by rfl) (fun h => ?_) (fun h => WP.skip ?_)
    · refine rS ?_
      exact WP.ret (Ends.val (by rfl) (by exact byObl) (by rfl) (by trivial))
    · cases h
  · cases h2 : desB n' b' w'
    · refine FnS.into T tok Try.func23 (by rfl) rfl rfl rfl (by simp) ?_
      refine rS ?_
      refine WP.seq ?_
      refine WP.rw ?_
      refine rU 1 ?_
      refine cA (h1 ▸ l01Is_fn n b w hb hw) ?_
      refine rU 3 ?_
      refine cA (h2 ▸ l01Is_fn n' b' w' hb' hw') ?_
      refine rF ?_
      refine WP.cond (by rfl) (fun h => ?_) (fun h => WP.skip ?_)
      · refine rS ?_
        exact WP.ret (Ends.val (by rfl) (by exact byObl) (by rfl) (by trivial))
      · cases h
    · refine FnS.into T tok Try.func23 (by rfl) rfl rfl rfl (by simp) ?_
      refine rS ?_
      refine WP.seq ?_
      refine WP.rw ?_
      refine rU 1 ?_
      refine cA (h1 ▸ l01Is_fn n b w hb hw) ?_
      refine rU 3 ?_
      refine cA (h2 ▸ l01Is_fn n' b' w' hb' hw') ?_
      refine rF ?_
      refine WP.cond (by rfl) (fun h => ?_) (fun h => WP.skip ?_)
      · cases h
      refine rS ?_
      exact WP.ret (Ends.val (by rfl) (by exact byObl) (by rfl) (by trivial))
noncomputable def morsR (n : Int) (b w : Nat → Nat) (n' : Int) (b' w' : Nat → Nat) : Dat × List Root := bif bothB n b w n' b' w' then (t2 (.sl 0 0 (morL b w b' w' n'.toNat).length 1) (.i .i64 0), [.row 36 (morL b w b' w' n'.toNat).length 1 (moF n.toNat (morL b w b' w' n'.toNat))]) else (t2 .ns (.i .i64 1), [])
theorem specMors_fn (n n' : Int) (b w b' w' : Nat → Nat) (hb : ∀ i, b i < 256) (hw : ∀ i, w i < 256) (hb' : ∀ i, b' i < 256) (hw' : ∀ i, w' i < 256) : FnS Try.prog 7 [ds_ n b w, ds_ n' b' w'] [] (fun r m' => r = (morsR n b w n' b' w').1 ∧ m' = (morsR n b w n' b' w').2) := by
  have hbo := l02Both_fn n n' b w b' w' hb hw hb' hw'
  cases hc : bothB n b w n' b' w'
  · have e : morsR n b w n' b' w' = (t2 .ns (.i .i64 1), []) := by unfold morsR; rw [hc]; rfl
    rw [e]
    rw [hc] at hbo
    refine FnS.intoN T tok Try.func7 (by rfl) rfl rfl rfl (by simp) ?_
    refine rS ?_
    refine WP.seq ?_
    refine WP.rw ?_
    refine rU 2 ?_
    refine cA (hbo) ?_
    refine rF ?_
    refine rS ?_
    refine WP.cond (by rfl) (fun h => ?_) (fun h => WP.skip ?_)
    · refine rS ?_
      exact WP.ret (Ends.new [] (by rfl) (by exact byObl) leZ rfl rfl (ren_t2 ⟨rfl, trivial⟩ ⟨rfl, trivial⟩) (sc_t2 trivial trivial))
    · simp at h
  · have hcc := hc
    unfold bothB at hc
    obtain ⟨h1, h2⟩ := Bool.and_eq_true_iff.1 hc
    obtain ⟨N, rfl, hD⟩ := des_of_B h1
    obtain ⟨M, rfl, hD'⟩ := des_of_B h2
    have e : morsR N b w M b' w' = (t2 (.sl 0 0 (morL b w b' w' M).length 1) (.i .i64 0), [.row 36 (morL b w b' w' M).length 1 (moF N (morL b w b' w' M))]) := by unfold morsR; rw [hcc]; rfl
    rw [e]
    rw [hcc] at hbo
    have hN := hD.le
    have hM := hD'.le
    refine FnS.intoN T tok Try.func7 (by rfl) rfl rfl rfl (by simp) ?_
    refine rS ?_
    refine WP.seq ?_
    refine WP.rw ?_
    refine rU 2 ?_
    refine cA (hbo) ?_
    refine rF ?_
    refine rS ?_
    refine WP.cond (by rfl) (fun h => ?_) (fun h => WP.skip ?_)
    · simp at h
    clear h
    refine rS ?_
    refine WP.seq ?_
    refine rS ?_
    refine WP.block ?_
    refine WP.loopH (⟨fun x : Nat × List (Nat → Int) => x.1 ≤ M ∧ x.2 = morL b w b' w' x.1, fun x => [(2, .p 0 [] 0), (3, .p 1 [] 0), (7, .sl 2 0 x.2.length 1), (8, .i .i64 (x.1 : Int))], fun x => [.var (ds_ N b w), .var (ds_ M b' w'), .row 36 x.2.length 1 (moF N x.2)], fun x => M - x.1⟩) ((0, [])) (⟨Nat.zero_le _, rfl⟩) (gC [0, 1, 2] (LeAll.cons (by rfl) (by first | with_reducible exact Root.Le.refl _ | with_reducible exact le_dead | (exact le_row (Nat.le_refl _) (fun j hj => absurd hj (Nat.not_lt_zero _))) | exact byLeq) (by exact byCon) (LeAll.cons (by rfl) (by first | with_reducible exact Root.Le.refl _ | with_reducible exact le_dead | (exact le_row (Nat.le_refl _) (fun j hj => absurd hj (Nat.not_lt_zero _))) | exact byLeq) (by exact byCon) (LeAll.cons (by rfl) (by first | with_reducible exact Root.Le.refl _ | with_reducible exact le_dead | (exact le_row (Nat.le_refl _) (fun j hj => absurd hj (Nat.not_lt_zero _))) | exact byLeq) (by exact byCon) (leZ))))) ?_
    rintro ⟨y, L⟩ ⟨hy, hT⟩
    have hlen := morL_len b w b' w' y
    dsimp only at hy hT
    rw [← hT] at hlen
    dsimp only [Hd.at]
    refine WP.seq ?_
    refine rS ?_
    refine WP.cond (by rfl) (fun hc => WP.skip ?_) (fun hc => WP.exit ?_)
    · have hy : y < M := by have := of_decide_eq_true hc; omega
      clear hc
      have hm := l02Morphism_fn N M b w b' w' y hy hD.pos hN hM hD.pb.lt hD.pw.lt hD'.pb.lt hD'.pw.lt
      refine WP.seq (WP.block ?_)
      cases hR : morF b w b' w' y with
      | none =>
        rw [hR] at hm
        have hn := morL_none hR
        refine WP.rw ?_
        refine rU 3 ?_
        refine cN [] (t2 .ns (.b false)) (hm) leZ (ren_t2 ⟨rfl, trivial⟩ ⟨rfl, trivial⟩) ?_
        refine rF ?_
        refine rS ?_
        refine WP.cond (by rfl) (fun h => ?_) (fun h => WP.skip ?_)
        · cases h
        clear h
        refine rE ?_
        refine Again.next ((y + 1, L)) (gC [0, 1, 2] (leC (leC (leC leZ)))) (⟨hy, hT.trans hn.symm⟩) (by dsimp only; omega)
      | some o =>
        rw [hR] at hm
        have hn := morL_some hR
        refine WP.rw ?_
        refine rU 3 ?_
        refine cN [] (t2 (.sl 3 0 N 1) (.b true)) (hm) leZ (ren_t2 rfl ⟨rfl, trivial⟩) ?_
        refine rF ?_
        refine rS ?_
        refine WP.cond (by rfl) (fun h => ?_) (fun h => WP.skip ?_)
        · clear h
          refine rE ?_
          refine rE ?_
          refine Again.step (Ghost.giveLast 5 3 (by rfl) rfl rfl (by rfl) (by rfl) (Nat.le_refl _)) ?_
          refine Again.next ((y + 1, L ++ [o])) (gC [0, 1, 5] (LeAll.cons (by rfl) (by first | with_reducible exact Root.Le.refl _ | with_reducible exact le_dead | (exact le_row (by simp) (fun j hj => ap_mo N L o _ j (by simpa using hj))) | exact byLeq) (by exact byCon) (LeAll.cons (by rfl) (by first | with_reducible exact Root.Le.refl _ | with_reducible exact le_dead | (exact le_row (by simp) (fun j hj => ap_mo N L o _ j (by simpa using hj))) | exact byLeq) (by exact byCon) (LeAll.cons (by rfl) (by first | with_reducible exact Root.Le.refl _ | with_reducible exact le_dead | (exact le_row (by simp) (fun j hj => ap_mo N L o _ j (by simpa using hj))) | exact byLeq) (by exact byCon) (leZ))))) (⟨hy, by rw [hn, hT]⟩) (by dsimp only; omega)
        · cases h
    · have hy : y = M := by have := of_decide_eq_false hc; omega
      subst hy
      subst hT
      refine rS ?_
      exact WP.ret (Ends.new [2] (by rfl) (by exact byObl) (leC leZ) rfl rfl (ren_t2 rfl ⟨rfl, trivial⟩) (sc_t2 (sc_sl rfl) trivial))
end Go.Proofs.Ythjnmlpibafbnaa

namespace Go.Proofs.Ythjnmlpibafbnaa
open Go.RowKit DM
set_option linter.unusedVariables false
set_option linter.unusedSimpArgs false
def stP (p q : Nat → Nat) (z : Nat × Nat) : Nat × Nat := (p z.1, q z.2)
def qst (y : Nat × Nat) (Q : List (Nat × Nat)) : List (Nat × Nat) := if y ∈ Q then Q else Q ++ [y]
theorem qst_len (y : Nat × Nat) (Q : List (Nat × Nat)) : Q.length ≤ (qst y Q).length := by unfold qst; split <;> simp
theorem qst_mem {y z : Nat × Nat} {Q : List (Nat × Nat)} : z ∈ qst y Q ↔ z = y ∨ z ∈ Q := by
  unfold qst
  split
  · rename_i h; exact ⟨.inr, fun h2 => h2.elim (fun e => e ▸ h) id⟩
  · simp [or_comm]
theorem qst_get {y : Nat × Nat} {Q : List (Nat × Nat)} {i : Nat} (hi : i < Q.length) (d : Nat × Nat) : (qst y Q).getD i d = Q.getD i d := by
  unfold qst
  split
  · rfl
  · rw [getD_snoc_lt _ _ _ hi]
def prun (f g : Nat × Nat → Nat × Nat) : Nat → Nat → List (Nat × Nat) → List (Nat × Nat)
  | 0, _, Q => Q
  | k + 1, i, Q => if i < Q.length then prun f g k (i + 1) (qst (g (Q.getD i (0, 0))) (qst (f (Q.getD i (0, 0))) Q)) else Q
structure PInv (N M : Nat) (Q : List (Nat × Nat)) : Prop where
  small : ∀ z ∈ Q, z.1 < N ∧ z.2 < M
  nodup : Q.Nodup
theorem pair_code {N M : Nat} {z y : Nat × Nat} (hz : z.2 < M) (hy : y.2 < M) (h : z.1 * M + z.2 = y.1 * M + y.2) : z = y := by
  obtain ⟨a, b⟩ := z
  obtain ⟨c, d⟩ := y
  simp only at hz hy h
  have h1 : a = c := by
    rcases Nat.lt_trichotomy a c with h1 | h1 | h1
    · have := Nat.mul_le_mul_right M (show a + 1 ≤ c by omega)
      rw [Nat.add_mul] at this; omega
    · exact h1
    · have := Nat.mul_le_mul_right M (show c + 1 ≤ a by omega)
      rw [Nat.add_mul] at this; omega
  subst h1
  have : b = d := by omega
  subst this; rfl
theorem nodup_map_of {α β : Type} {f : α → β} : ∀ {l : List α}, l.Nodup → (∀ x ∈ l, ∀ y ∈ l, f x = f y → x = y) → (l.map f).Nodup
  | [], _, _ => .nil
  | a :: l, hd, h => by
    obtain ⟨h1, h2⟩ := List.nodup_cons.1 hd
    rw [List.map_cons]
    refine List.nodup_cons.2 ⟨fun hm => ?_, nodup_map_of h2 fun x hx y hy => h x (.tail _ hx) y (.tail _ hy)⟩
    obtain ⟨x, hx, e⟩ := List.mem_map.1 hm
    exact h1 (h x (.tail _ hx) a (.head _) e ▸ hx)
theorem PInv.len {N M : Nat} {Q : List (Nat × Nat)} (h : PInv N M Q) : Q.length ≤ N * M := by
  have h1 : (Q.map fun z => z.1 * M + z.2).Nodup := nodup_map_of h.nodup fun x hx y hy e => pair_code (N := N) (h.small x hx).2 (h.small y hy).2 e
  have h2 := nodup_len (N * M) _ h1 fun x hx => by
    obtain ⟨z, hz, rfl⟩ := List.mem_map.1 hx
    obtain ⟨h3, h4⟩ := h.small z hz
    have := Nat.mul_le_mul_right M (show z.1 + 1 ≤ N by omega)
    rw [Nat.add_mul] at this
    omega
  simpa using h2
theorem PInv.get {N M : Nat} {Q : List (Nat × Nat)} (h : PInv N M Q) {i : Nat} (hi : i < Q.length) : (Q.getD i (0, 0)).1 < N ∧ (Q.getD i (0, 0)).2 < M := by
  rw [List.getD_eq_getElem?_getD, List.getElem?_eq_getElem hi]
  exact h.small _ (List.getElem_mem hi)
theorem PInv.qst {N M : Nat} {Q : List (Nat × Nat)} (h : PInv N M Q) {y : Nat × Nat} (hy : y.1 < N ∧ y.2 < M) : PInv N M (qst y Q) := by
  unfold Go.Proofs.Ythjnmlpibafbnaa.qst
  split
  · exact h
  · rename_i hm
    refine ⟨fun z hz => ?_, List.nodup_append.2 ⟨h.nodup, by simp, fun a ha b hb e => ?_⟩⟩
    · rcases List.mem_append.1 hz with hz | hz
      · exact h.small z hz
      · rw [List.mem_singleton] at hz; subst hz; exact hy
    · rw [List.mem_singleton] at hb; subst hb; subst e; exact hm ha
def pmu (i : Nat) (Q : List (Nat × Nat)) : Nat := 2 * (256 - Q.length) + Q.length - i
theorem PInv.le {N M : Nat} (hN : N ≤ 16) (hM : M ≤ 16) {Q : List (Nat × Nat)} (h : PInv N M Q) : Q.length ≤ 256 := by
  have := h.len
  have h2 : N * M ≤ 16 * 16 := Nat.mul_le_mul hN hM
  omega
def KeepsP (N M : Nat) (f : Nat × Nat → Nat × Nat) : Prop := ∀ z, z.1 < N ∧ z.2 < M → (f z).1 < N ∧ (f z).2 < M
theorem pmu_round {N M : Nat} (hN : N ≤ 16) (hM : M ≤ 16) {f g : Nat × Nat → Nat × Nat} (hf : KeepsP N M f) (hg : KeepsP N M g) {Q : List (Nat × Nat)} (h : PInv N M Q) {i : Nat} (hi : i < Q.length) :
    PInv N M (qst (f (Q.getD i (0, 0))) Q) ∧ PInv N M (qst (g (Q.getD i (0, 0))) (qst (f (Q.getD i (0, 0))) Q)) ∧ pmu (i + 1) (qst (g (Q.getD i (0, 0))) (qst (f (Q.getD i (0, 0))) Q)) < pmu i Q := by
  have h1 := h.qst (hf _ (h.get hi))
  have h2 := h1.qst (hg _ (h.get hi))
  refine ⟨h1, h2, ?_⟩
  have a1 := h2.le hN hM
  have a2 := qst_len (g (Q.getD i (0, 0))) (qst (f (Q.getD i (0, 0))) Q)
  have a3 := qst_len (f (Q.getD i (0, 0))) Q
  unfold pmu
  omega
theorem prun_more {N M : Nat} (hN : N ≤ 16) (hM : M ≤ 16) {f g : Nat × Nat → Nat × Nat} (hf : KeepsP N M f) (hg : KeepsP N M g) : ∀ (k k' i : Nat) (Q : List (Nat × Nat)), PInv N M Q → pmu i Q ≤ k → pmu i Q ≤ k' → prun f g k i Q = prun f g k' i Q
  | 0, 0, i, Q, _, _, _ => rfl
  | 0, k' + 1, i, Q, h, hk, _ => by
    have := h.le hN hM
    simp only [prun]; rw [if_neg (by unfold pmu at hk; omega)]
  | k + 1, 0, i, Q, h, _, hk => by
    have := h.le hN hM
    simp only [prun]; rw [if_neg (by unfold pmu at hk; omega)]
  | k + 1, k' + 1, i, Q, h, hk, hk' => by
    simp only [prun]
    split
    · rename_i hi
      obtain ⟨_, g1, g2⟩ := pmu_round hN hM hf hg h hi
      exact prun_more hN hM hf hg k k' (i + 1) _ g1 (by omega) (by omega)
    · rfl
def pres (f g : Nat × Nat → Nat × Nat) (i : Nat) (Q : List (Nat × Nat)) : List (Nat × Nat) := prun f g (pmu i Q) i Q
theorem pres_step {N M : Nat} (hN : N ≤ 16) (hM : M ≤ 16) {f g : Nat × Nat → Nat × Nat} (hf : KeepsP N M f) (hg : KeepsP N M g) {Q : List (Nat × Nat)} (h : PInv N M Q) {i : Nat} (hi : i < Q.length) :
    pres f g (i + 1) (qst (g (Q.getD i (0, 0))) (qst (f (Q.getD i (0, 0))) Q)) = pres f g i Q := by
  obtain ⟨_, g1, g2⟩ := pmu_round hN hM hf hg h hi
  unfold pres
  rw [show pmu i Q = (pmu i Q - 1) + 1 by omega]
  simp only [prun, if_pos hi]
  exact prun_more hN hM hf hg _ _ _ _ g1 (Nat.le_refl _) (by omega)
theorem pres_end {f g : Nat × Nat → Nat × Nat} {i : Nat} {Q : List (Nat × Nat)} (hi : ¬ i < Q.length) : pres f g i Q = Q := by
  unfold pres
  cases pmu i Q with
  | zero => rfl
  | succ k => simp only [prun, if_neg hi]
theorem pinv_one {N M : Nat} {z : Nat × Nat} (hz : z.1 < N ∧ z.2 < M) : PInv N M [z] := ⟨fun y hy => by rw [List.mem_singleton] at hy; subst hy; exact hz, by simp⟩
def prQ (f g : Nat × Nat → Nat × Nat) (z : Nat × Nat) : List (Nat × Nat) := pres f g 0 [z]
theorem prun_inv {N M : Nat} (hN : N ≤ 16) (hM : M ≤ 16) {f g : Nat × Nat → Nat × Nat} (hf : KeepsP N M f) (hg : KeepsP N M g) : ∀ (k i : Nat) (Q : List (Nat × Nat)), PInv N M Q → pmu i Q ≤ k → (∀ j, j < i → f (Q.getD j (0, 0)) ∈ Q ∧ g (Q.getD j (0, 0)) ∈ Q) → i ≤ Q.length →
    PInv N M (prun f g k i Q) ∧ (∀ z ∈ Q, z ∈ prun f g k i Q) ∧ (∀ z ∈ prun f g k i Q, f z ∈ prun f g k i Q ∧ g z ∈ prun f g k i Q)
  | 0, i, Q, h, hk, hc, hi => by
    have h1 := h.le hN hM
    have : i = Q.length := by unfold pmu at hk; omega
    subst this
    show PInv N M Q ∧ (∀ z ∈ Q, z ∈ Q) ∧ ∀ z ∈ Q, f z ∈ Q ∧ g z ∈ Q
    refine ⟨h, fun z hz => hz, fun z hz => ?_⟩
    obtain ⟨j, hj, rfl⟩ := List.getElem_of_mem hz
    have := hc j hj
    rw [List.getD_eq_getElem?_getD, List.getElem?_eq_getElem hj] at this
    exact this
  | k + 1, i, Q, h, hk, hc, hi => by
    simp only [prun]
    by_cases hlt : i < Q.length
    · rw [if_pos hlt]
      obtain ⟨_, g1, g2⟩ := pmu_round hN hM hf hg h hlt
      have e : ∀ j, j < Q.length → (qst (g (Q.getD i (0, 0))) (qst (f (Q.getD i (0, 0))) Q)).getD j (0, 0) = Q.getD j (0, 0) := fun j hj => by
        rw [qst_get (Nat.lt_of_lt_of_le hj (qst_len _ _)), qst_get hj]
      obtain ⟨a1, a2, a3⟩ := prun_inv hN hM hf hg k (i + 1) _ g1 (by omega) (fun j hj => by
        rw [e j (by omega)]
        by_cases ej : j = i
        · subst ej; exact ⟨qst_mem.2 (.inr (qst_mem.2 (.inl rfl))), qst_mem.2 (.inl rfl)⟩
        · obtain ⟨b1, b2⟩ := hc j (by omega)
          exact ⟨qst_mem.2 (.inr (qst_mem.2 (.inr b1))), qst_mem.2 (.inr (qst_mem.2 (.inr b2)))⟩) (by
        have := qst_len (g (Q.getD i (0, 0))) (qst (f (Q.getD i (0, 0))) Q)
        have := qst_len (f (Q.getD i (0, 0))) Q
        omega)
      exact ⟨a1, fun z hz => a2 z (qst_mem.2 (.inr (qst_mem.2 (.inr hz)))), a3⟩
    · rw [if_neg hlt]
      have : i = Q.length := by omega
      subst this
      refine ⟨h, fun z hz => hz, fun z hz => ?_⟩
      obtain ⟨j, hj, rfl⟩ := List.getElem_of_mem hz
      have := hc j hj
      rw [List.getD_eq_getElem?_getD, List.getElem?_eq_getElem hj] at this
      exact this
theorem prQ_ok {N M : Nat} (hN : N ≤ 16) (hM : M ≤ 16) {f g : Nat × Nat → Nat × Nat} (hf : KeepsP N M f) (hg : KeepsP N M g) {z : Nat × Nat} (hz : z.1 < N ∧ z.2 < M) :
    PInv N M (prQ f g z) ∧ z ∈ prQ f g z ∧ ∀ y ∈ prQ f g z, f y ∈ prQ f g z ∧ g y ∈ prQ f g z := by
  obtain ⟨a1, a2, a3⟩ := prun_inv hN hM hf hg (pmu 0 [z]) 0 [z] (pinv_one hz) (Nat.le_refl _) (fun j hj => absurd hj (Nat.not_lt_zero _)) (Nat.zero_le _)
  exact ⟨a1, a2 z (.head _), a3⟩
def mid2 (Q : List (Nat × Nat)) (a c : Nat × Nat) : Nat → List (Nat × Nat)
  | 0 => Q
  | 1 => qst a Q
  | _ => qst c (qst a Q)
def ixP (Q : List (Nat × Nat)) (y : Nat × Nat) : Nat := Q.idxOf y
theorem ixP_lt {Q : List (Nat × Nat)} {y : Nat × Nat} (h : y ∈ Q) : ixP Q y < Q.length := List.idxOf_lt_length_iff.2 h
theorem ixP_get {Q : List (Nat × Nat)} (h : Q.Nodup) {i : Nat} (hi : i < Q.length) : ixP Q (Q.getD i (0, 0)) = i := by
  rw [List.getD_eq_getElem?_getD, List.getElem?_eq_getElem hi]
  exact List.Nodup.idxOf_getElem h i hi
end Go.Proofs.Ythjnmlpibafbnaa
