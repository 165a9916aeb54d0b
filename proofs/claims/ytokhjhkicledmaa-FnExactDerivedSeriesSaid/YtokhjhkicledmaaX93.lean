import Derived.Test.YtokhjhkicledmaaX91
import Derived.Test.YtokhjhkicledmaaX86
import Derived.Test.YtokhjhkicledmaaX16
import Derived.Test.YtokhjhkicledmaaX87
/- Derived groups, the reference's side. -/
namespace Go.Proofs.Ytokhjhkicledmaa
open Go.RowKit DM
set_option linter.unusedSimpArgs false
set_option linter.unusedVariables false
set_option maxRecDepth 100000
set_option maxHeartbeats 1000000

theorem l03Mixed_fn (N : Nat) (hN : N ≤ 16) (p q : Nat → Nat) (hp : Np N p) (hq : Np N q) : FnP Try.prog 96 [pl p, pl q, .i .i64 (N : Int)] (pl (comF N p q)) := by
  have ip := inv_np hN hp
  have iq := inv_np hN hq
  refine FnS.into T tok Try.func96 (by rfl) rfl rfl rfl (by simp) ?_
  refine WP.rs T false tok (by rfl) (by exact byObl) ?_
  refine WP.seq ?_
  refine WP.da (by kernel_rfl) 14 (by kernel_rfl) ?_
  refine WA.takes T false tok [0, 1, 2, 4, 5, 7, 8, 10, 12] (f' := 6) (by kernel_rfl) (by rfl) (by rfl) (by rfl) (by exact byObl) (by rfl) (by rfl) ?_
  refine WA.all [3] (by kernel_rfl) (by simp) ?_; intro i' hi'; simp only [List.mem_cons, List.not_mem_nil, or_false] at hi'
  subst hi'
  refine ⟨_, _, _, rfl, by rfl, by rfl, MK.callP (l01Then_fn p q N hN hp.perm.lt) (by rfl) (by simp [Sc, sc_pl, sc_ds, pl_ne, ds_ne]), ?_⟩
  refine WA.all [6] (by kernel_rfl) (by simp) ?_; intro i' hi'; simp only [List.mem_cons, List.not_mem_nil, or_false] at hi'
  subst hi'
  refine ⟨_, _, _, rfl, by rfl, by rfl, MK.callP (l01Back_fn p N hN hp.perm.lt) (by rfl) (by simp [Sc, sc_pl, sc_ds, pl_ne, ds_ne]), ?_⟩
  refine WA.all [9] (by kernel_rfl) (by simp) ?_; intro i' hi'; simp only [List.mem_cons, List.not_mem_nil, or_false] at hi'
  subst hi'
  refine ⟨_, _, _, rfl, by rfl, by rfl, MK.callP (l01Back_fn q N hN hq.perm.lt) (by rfl) (by simp [Sc, sc_pl, sc_ds, pl_ne, ds_ne]), ?_⟩
  refine WA.all [11] (by kernel_rfl) (by simp) ?_; intro i' hi'; simp only [List.mem_cons, List.not_mem_nil, or_false] at hi'
  subst hi'
  refine ⟨_, _, _, rfl, by rfl, by rfl, MK.callP (l01Then_fn (backTo p N) (backTo q N) N hN ip.perm.lt) (by rfl) (by simp [Sc, sc_pl, sc_ds, pl_ne, ds_ne]), ?_⟩
  refine WA.all [13] (by kernel_rfl) (by simp) ?_; intro i' hi'; simp only [List.mem_cons, List.not_mem_nil, or_false] at hi'
  subst hi'
  refine ⟨_, _, _, rfl, by rfl, by rfl, MK.callP (l01Then_fn (mulF N p q) (mulF N (backTo p N) (backTo q N)) N hN (mul_np hp hq).perm.lt) (by rfl) (by simp [Sc, sc_pl, sc_ds, pl_ne, ds_ne]), ?_⟩
  refine WA.tail (by rfl) (by rfl) (by kernel_rfl) ?_
  refine WPL.fin T false tok (by rfl) (by exact byObl) ?_
  refine noPan ?_
  exact WP.ret (Ends.val (by rfl) (by exact byObl) (by rfl) (by exact sc_pl _ _))

/-- What holds of the permutations found so far, and of the chain. -/
structure CI2 (n : Nat) (L E : List (Nat → Nat)) (C : Chn) : Prop where
  ok : Chain n E C
  der : ∀ g ∈ E, Der n L g
  len : E.length + freeF C.has n ≤ 256

theorem CI2.np {n : Nat} (hn : n ≤ 16) {L E : List (Nat → Nat)} (hL : ∀ g ∈ L, Np n g) {C : Chn} (h : CI2 n L E C) : ∀ g ∈ E, Np n g := fun g hg => (h.der g hg).np hn hL
theorem CI2.start {n : Nat} (hn : n ≤ 16) (L : List (Nat → Nat)) : CI2 n L [] (chn0 n) :=
  ⟨Chain.start n hn, fun g hg => absurd hg List.not_mem_nil, by have := free_le (chn0 n).has n; simp only [List.length_nil]; omega⟩
theorem CI2.grow {n : Nat} (hn : n ≤ 16) (h1 : 1 ≤ n) {L E : List (Nat → Nat)} (hL : ∀ g ∈ L, Np n g) {C D : Chn} (h : CI2 n L E C) {x : Nat → Nat} (hx : Der n L x) (hno : ¬ Grp n E x) (ha : AddPost n 0 x C D) : CI2 n L (E ++ [x]) D ∧ freeF D.has n + 1 ≤ freeF C.has n := by
  have nE := h.np hn hL
  have hf := free_new hn ha.ci.T ha.ext (fun hi => hno (((h.ok.done hn h1 nE).2 x).1 hi)) ha.ins
  refine ⟨⟨h.ok.add nE (hx.np hn hL) ha, fun g hg => ?_, ?_⟩, hf⟩
  · rcases List.mem_append.1 hg with hg | hg
    · exact h.der g hg
    · simp only [List.mem_singleton] at hg; subst hg; exact hx
  · have := h.len
    simp only [List.length_append, List.length_singleton]; omega

/-- The commutators of the first i with those before them, and of number i with the first j. -/
structure SA (N : Nat) (L E : List (Nat → Nat)) (C : Chn) (i j : Nat) : Prop where
  ci : CI2 N L E C
  old : ∀ a b, a < i → b < a → Grp N E (comF N (gd_ L a) (gd_ L b))
  now : ∀ b, b < j → Grp N E (comF N (gd_ L i) (gd_ L b))

/-- .. of any two. -/
theorem SA.all {N : Nat} (hN : N ≤ 16) {L E : List (Nat → Nat)} (hL : ∀ g ∈ L, Np N g) {C : Chn} (h : SA N L E C L.length 0) (a b : Nat) (ha : a < L.length) (hb : b < L.length) : Grp N E (comF N (gd_ L a) (gd_ L b)) := by
  have na := hL _ (getDf_mem ha)
  have nb := hL _ (getDf_mem hb)
  rcases Nat.lt_trichotomy a b with hlt | rfl | hlt
  · have := (h.old b a hb hlt).inv hN (h.ci.np hN hL)
    rwa [com_inv hN nb na] at this
  · rw [com_self hN na]; exact .one
  · exact h.old a b ha hlt

structure SB (N : Nat) (L E : List (Nat → Nat)) (C : Chn) (i : Nat) : Prop where
  ci : CI2 N L E C
  com : ∀ a b, a < L.length → b < L.length → Grp N E (comF N (gd_ L a) (gd_ L b))
  con : ∀ a b, a < i → b < L.length → Grp N E (conF N (gd_ E a) (gd_ L b))

structure SC (N : Nat) (L E : List (Nat → Nat)) (C : Chn) (i : Nat) (E' : List (Nat → Nat)) (C' : Chn) (j : Nat) : Prop where
  ci : CI2 N L E' C'
  com : ∀ a b, a < L.length → b < L.length → Grp N E' (comF N (gd_ L a) (gd_ L b))
  con : ∀ a b, a < i → b < L.length → Grp N E' (conF N (gd_ E a) (gd_ L b))
  now : ∀ b, b < j → Grp N E' (conF N (gd_ E i) (gd_ L b))
  ext : ∃ T, E' = E ++ T
  mu : 300 * freeF C'.has N + E'.length ≤ 300 * freeF C.has N + E.length

theorem SB.start {N : Nat} {L E : List (Nat → Nat)} {C : Chn} {i : Nat} (h : SB N L E C i) : SC N L E C i E C 0 :=
  ⟨h.ci, h.com, h.con, fun b hb => absurd hb (Nat.not_lt_zero _), ⟨[], by simp⟩, Nat.le_refl _⟩

theorem SC.done {N : Nat} {L E : List (Nat → Nat)} {C : Chn} {i : Nat} {E' : List (Nat → Nat)} {C' : Chn} (hi : i < E.length) (h : SC N L E C i E' C' L.length) : SB N L E' C' (i + 1) ∧ E.length ≤ E'.length ∧ 300 * freeF C'.has N + E'.length ≤ 300 * freeF C.has N + E.length := by
  obtain ⟨T, e⟩ := h.ext
  refine ⟨⟨h.ci, h.com, fun a b ha hb => ?_⟩, by rw [e]; simp, h.mu⟩
  have hg : gd_ E' a = gd_ E a := by rw [e]; exact getDp_lt _ _ (by omega)
  rw [hg]
  by_cases e2 : a = i
  · subst e2; exact h.now b hb
  · exact h.con a b (by omega) hb

theorem SB.done {N : Nat} (hN : N ≤ 16) {L E : List (Nat → Nat)} (hL : ∀ g ∈ L, Np N g) {C : Chn} (h : SB N L E C E.length) (g : Nat → Nat) : Grp N E g ↔ Der N L g := by
  refine der_iff hN hL h.ci.der (fun p hp q hq => ?_) (fun x hx q hq => ?_) g
  · obtain ⟨a, ha, rfl⟩ := mem_getDf hp
    obtain ⟨b, hb, rfl⟩ := mem_getDf hq
    exact h.com a b ha hb
  · obtain ⟨a, ha, rfl⟩ := mem_getDf hx
    obtain ⟨b, hb, rfl⟩ := mem_getDf hq
    exact h.con a b ha hb

theorem l03Derived_fn (N : Nat) (h1 : 1 ≤ N) (hN : N ≤ 16) (L : List (Nat → Nat)) (hL : ∀ g ∈ L, Np N g) (hl : L.length ≤ 1000) : FnS Try.prog 77 [.sl 0 0 L.length 16, .i .i64 (N : Int)] [.row 27 L.length 16 (rowP L)] fun r m' => ∃ E, r = .sl 1 0 E.length 16 ∧ m' = [.row 27 L.length 16 (rowP L), .row 27 E.length 16 (rowP E)] ∧ (∀ g ∈ E, Np N g) ∧ E.length ≤ 256 ∧ ∀ g, Grp N E g ↔ Der N L g := by
  refine FnS.intoE T tok Try.func77 (by rfl) rfl rfl rfl (by simp) ?_
  refine WP.rs T false tok (by rfl) (by exact byObl) ?_
  refine WP.rw ?_
  refine WPL.run T false 1 tok (by rfl) (by exact byObl) ?_
  refine WPL.callN [] (.p 1 [] 0) (l03Start_fn N hN) (trivial) (by rfl) (by rfl) (by exact byArgs) (by rfl) (by rfl) (by simp [Sc, sc_pl, sc_ds]) (by exact byAllc) (rfl) (by exact bySc) rfl ?_
  refine WPL.fin T false tok (by rfl) (by exact byObl) ?_
  refine WP.seq ?_
  refine WP.rs T false tok (by rfl) (by exact byObl) ?_
  refine WP.block ?_
  refine WP.loopH (⟨fun z : Nat × List (Nat → Nat) × Chn => z.1 ≤ L.length ∧ SA N L z.2.1 z.2.2 z.1 0, fun z => [(0, .sl 0 0 L.length 16), (1, .i .i64 (N : Int)), (5, .p 1 [] 0), (6, .sl 2 0 z.2.1.length 16), (7, .i .i64 (z.1 : Int))], fun z => [.row 27 L.length 16 (rowP L), .var (chn N z.2.2), .row 27 z.2.1.length 16 (rowP z.2.1)], fun z => L.length - z.1⟩) ((0, [], chn0 N)) (⟨Nat.zero_le _, CI2.start hN L, fun a b h => absurd h (Nat.not_lt_zero _), fun b h => absurd h (Nat.not_lt_zero _)⟩) (Ghost.cut (Nat.le_refl _) (tauOf [0, 1, 2]) _ _ (Taken.of [0, 1, 2] (LeAll.cons (by rfl) (by first | with_reducible exact Root.Le.refl _ | with_reducible exact le_dead | (exact le_row (Nat.le_refl _) (fun j hj => absurd hj (Nat.not_lt_zero _))) | exact byLeq) (by exact byCon) (LeAll.cons (by rfl) (by first | with_reducible exact Root.Le.refl _ | with_reducible exact le_dead | (exact le_row (Nat.le_refl _) (fun j hj => absurd hj (Nat.not_lt_zero _))) | exact byLeq) (by exact byCon) (LeAll.cons (by rfl) (by first | with_reducible exact Root.Le.refl _ | with_reducible exact le_dead | (exact le_row (Nat.le_refl _) (fun j hj => absurd hj (Nat.not_lt_zero _))) | exact byLeq) (by exact byCon) (trivial)))) rfl rfl) (by exact bySlots)) ?_
  rintro ⟨i, E, C⟩ ⟨hi, hA⟩
  dsimp only at hi hA
  dsimp only [Hd.at]
  refine WP.seq ?_
  refine WP.rs T false tok (by rfl) (by exact byObl) ?_
  refine WP.cond (by rfl) (fun hc => WP.skip ?_) (fun hc => WP.exit ?_)
  · have hi : i < L.length := by have := of_decide_eq_true hc; omega
    clear hc
    have hp : Np N (gd_ L i) := hL _ (getDf_mem hi)
    refine WP.seq (WP.block ?_)
    refine WP.rs T false tok (by rfl) (by exact byObl) ?_
    refine WP.block ?_
    refine WP.loopH (⟨fun z : Nat × List (Nat → Nat) × Chn => z.1 ≤ i ∧ SA N L z.2.1 z.2.2 i z.1, fun z => [(0, .sl 0 0 L.length 16), (1, .i .i64 (N : Int)), (5, .p 1 [] 0), (6, .sl 2 0 z.2.1.length 16), (7, .i .i64 (i : Int)), (8, .i .i64 (z.1 : Int))], fun z => [.row 27 L.length 16 (rowP L), .var (chn N z.2.2), .row 27 z.2.1.length 16 (rowP z.2.1)], fun z => i - z.1⟩) ((0, E, C)) (⟨Nat.zero_le _, hA⟩) (Ghost.cut (Nat.le_refl _) (tauOf [0, 1, 2]) _ _ (Taken.of [0, 1, 2] (LeAll.cons (by rfl) (by first | with_reducible exact Root.Le.refl _ | with_reducible exact le_dead | (skip; done) | exact byLeq) (by exact byCon) (LeAll.cons (by rfl) (by first | with_reducible exact Root.Le.refl _ | with_reducible exact le_dead | (skip; done) | exact byLeq) (by exact byCon) (LeAll.cons (by rfl) (by first | with_reducible exact Root.Le.refl _ | with_reducible exact le_dead | (skip; done) | exact byLeq) (by exact byCon) (trivial)))) rfl rfl) (by exact bySlots)) ?_
    rintro ⟨j, E', C'⟩ ⟨hj, hA'⟩
    dsimp only at hj hA'
    dsimp only [Hd.at]
    refine WP.seq ?_
    refine WP.rs T false tok (by rfl) (by exact byObl) ?_
    refine WP.cond (by rfl) (fun hc => WP.skip ?_) (fun hc => WP.exit ?_)
    · have hj : j < i := by have := of_decide_eq_true hc; omega
      clear hc
      have hq : Np N (gd_ L j) := hL _ (getDf_mem (by omega))
      have hxc := com_np hN hp hq
      have hlen := hA'.ci.len
      have hder : Der N L (comF N (gd_ L i) (gd_ L j)) := .com (getDf_mem hi) (getDf_mem (by omega))
      have hIn := l03Inside_fn N hN C' hA'.ci.ok.ci.T 0 (Nat.zero_le _) (comF N (gd_ L i) (gd_ L j)) hxc (fun j hj => absurd hj (Nat.not_lt_zero _))
      rw [hA'.ci.ok.inB hN h1 (hA'.ci.np hN hL)] at hIn
      refine WP.seq (WP.block ?_)
      refine WP.seqG ⟨lst [(0, .sl 0 0 L.length 16), (1, .i .i64 (N : Int)), (5, .p 1 [] 0), (6, .sl 2 0 E'.length 16), (7, .i .i64 (i : Int)), (8, .i .i64 (j : Int)), (9, .p 3 [] 0)], [.row 27 L.length 16 (rowP L), .var (chn N C'), .row 27 E'.length 16 (rowP E'), .var (pl (comF N (gd_ L i) (gd_ L j)))]⟩ ?_ ?_
      · refine WP.da (by kernel_rfl) 11 (by kernel_rfl) ?_
        refine WA.takes T false tok [0, 1, 2, 3, 4, 5, 6, 7, 8] (f' := 3) (by kernel_rfl) (by rfl) (by rfl) (by rfl) (by exact byObl) (by rfl) (by rfl) ?_
        refine WA.all [9, 10] (by kernel_rfl) (by simp) ?_; intro i' hi'; simp only [List.mem_cons, List.not_mem_nil, or_false] at hi'
        rcases hi' with rfl | rfl
        · refine ⟨_, _, _, rfl, by rfl, by rfl, MK.callP (l03Mixed_fn N hN (gd_ L i) (gd_ L j) hp hq) (by rfl) (by simp [Sc, sc_pl, sc_ds, pl_ne, ds_ne]), ?_⟩
          refine WA.all [10] (by kernel_rfl) (by simp) ?_; intro i' hi'; simp only [List.mem_cons, List.not_mem_nil, or_false] at hi'
          subst hi'
          refine ⟨_, _, _, rfl, by rfl, by rfl, MK.of tok (wm := false) (by rfl) (by exact byObl) (by rfl) (by exact byObl), ?_⟩
          refine WA.tail (by rfl) (by rfl) (by kernel_rfl) ?_
          refine WPL.fin T false tok (by rfl) (by exact byObl) ?_
          refine noPan ?_
          exact Ghost.cut (Nat.le_refl _) (tauOf [0, 1, 2, 3]) [(0, .sl 0 0 L.length 16), (1, .i .i64 (N : Int)), (5, .p 1 [] 0), (6, .sl 2 0 E'.length 16), (7, .i .i64 (i : Int)), (8, .i .i64 (j : Int)), (9, .p 3 [] 0)] [.row 27 L.length 16 (rowP L), .var (chn N C'), .row 27 E'.length 16 (rowP E'), .var (pl (comF N (gd_ L i) (gd_ L j)))] (Taken.of [0, 1, 2, 3] (LeAll.cons (by rfl) (by first | with_reducible exact Root.Le.refl _ | with_reducible exact le_dead | (skip; done) | exact byLeq) (by exact byCon) (LeAll.cons (by rfl) (by first | with_reducible exact Root.Le.refl _ | with_reducible exact le_dead | (skip; done) | exact byLeq) (by exact byCon) (LeAll.cons (by rfl) (by first | with_reducible exact Root.Le.refl _ | with_reducible exact le_dead | (skip; done) | exact byLeq) (by exact byCon) (LeAll.cons (by rfl) (by first | with_reducible exact Root.Le.refl _ | with_reducible exact le_dead | (skip; done) | exact byLeq) (by exact byCon) (trivial))))) rfl rfl) (by exact bySlots)
        · refine ⟨_, _, _, rfl, by rfl, by rfl, MK.of tok (wm := false) (by rfl) (by exact byObl) (by rfl) (by exact byObl), ?_⟩
          refine WA.all [9] (by kernel_rfl) (by simp) ?_; intro i' hi'; simp only [List.mem_cons, List.not_mem_nil, or_false] at hi'
          subst hi'
          refine ⟨_, _, _, rfl, by rfl, by rfl, MK.callP (l03Mixed_fn N hN (gd_ L i) (gd_ L j) hp hq) (by rfl) (by simp [Sc, sc_pl, sc_ds, pl_ne, ds_ne]), ?_⟩
          refine WA.tail (by rfl) (by rfl) (by kernel_rfl) ?_
          refine WPL.fin T false tok (by rfl) (by exact byObl) ?_
          refine noPan ?_
          exact Ghost.cut (Nat.le_refl _) (tauOf [0, 1, 2, 3]) [(0, .sl 0 0 L.length 16), (1, .i .i64 (N : Int)), (5, .p 1 [] 0), (6, .sl 2 0 E'.length 16), (7, .i .i64 (i : Int)), (8, .i .i64 (j : Int)), (9, .p 3 [] 0)] [.row 27 L.length 16 (rowP L), .var (chn N C'), .row 27 E'.length 16 (rowP E'), .var (pl (comF N (gd_ L i) (gd_ L j)))] (Taken.of [0, 1, 2, 3] (LeAll.cons (by rfl) (by first | with_reducible exact Root.Le.refl _ | with_reducible exact le_dead | (skip; done) | exact byLeq) (by exact byCon) (LeAll.cons (by rfl) (by first | with_reducible exact Root.Le.refl _ | with_reducible exact le_dead | (skip; done) | exact byLeq) (by exact byCon) (LeAll.cons (by rfl) (by first | with_reducible exact Root.Le.refl _ | with_reducible exact le_dead | (skip; done) | exact byLeq) (by exact byCon) (LeAll.cons (by rfl) (by first | with_reducible exact Root.Le.refl _ | with_reducible exact le_dead | (skip; done) | exact byLeq) (by exact byCon) (trivial))))) rfl rfl) (by exact bySlots)
      · refine WP.rw ?_
        refine WPL.run T false 2 tok (by rfl) (by exact byObl) ?_
        refine WPL.callN [1] (.b (inG N E' (comF N (gd_ L i) (gd_ L j)))) (hIn) (LeAll.cons (by rfl) (by first | with_reducible exact Root.Le.refl _ | with_reducible exact le_dead | (skip; done) | exact byLeq) (by exact byCon) (trivial)) (by rfl) (by rfl) (by exact byArgs) (by rfl) (by rfl) (by simp [Sc, sc_pl, sc_ds]) (by exact byAllc) (⟨rfl, trivial⟩) (by exact bySc) rfl ?_
        refine WPL.fin T false tok (by rfl) (by exact byObl) ?_
        cases hg : inG N E' (comF N (gd_ L i) (gd_ L j)) with
        | true =>
          have hin := inG_iff.1 hg
          refine WP.cond (by rfl) (fun h => ?_) (fun h => WP.skip ?_)
          · cases h
          · refine WP.run T false tok (by rfl) (by exact byObl) ?_
            refine Again.next ((j + 1, E', C')) (Ghost.cut (Nat.le_refl _) (tauOf [0, 1, 2]) _ _ (Taken.of [0, 1, 2] (LeAll.cons (by rfl) (by first | with_reducible exact Root.Le.refl _ | with_reducible exact le_dead | (skip; done) | exact byLeq) (by exact byCon) (LeAll.cons (by rfl) (by first | with_reducible exact Root.Le.refl _ | with_reducible exact le_dead | (skip; done) | exact byLeq) (by exact byCon) (LeAll.cons (by rfl) (by first | with_reducible exact Root.Le.refl _ | with_reducible exact le_dead | (skip; done) | exact byLeq) (by exact byCon) (trivial)))) rfl rfl) (by exact bySlots)) (⟨hj, hA'.ci, hA'.old, fun b hb => (by
              by_cases e : b = j
              · subst e; exact hin
              · exact hA'.now b (by omega))⟩) (by dsimp only; omega)
        | false =>
          have hno : ¬ Grp N E' (comF N (gd_ L i) (gd_ L j)) := fun h => by rw [inG_iff.2 h] at hg; cases hg
          have hAdd := l03Add_fn N hN 0 (by omega) (comF N (gd_ L i) (gd_ L j)) C' (hA'.ci.ok.pre hxc)
          unfold AddOk at hAdd
          refine WP.cond (by rfl) (fun h => ?_) (fun h => WP.skip ?_)
          · refine WP.rw ?_
            refine WPL.run T false 2 tok (by rfl) (by exact byObl) ?_
            refine WPL.callE [1] (hAdd) (LeAll.cons (by rfl) (by first | with_reducible exact Root.Le.refl _ | with_reducible exact le_dead | (skip; done) | exact byLeq) (by exact byCon) (trivial)) (by rfl) (by rfl) (by exact byArgs) (by rfl) (by rfl) (by simp [Sc, sc_pl, sc_ds]) ?_
            rintro _ _ ⟨rfl, D, rfl, hD⟩
            refine ⟨by exact byAllc, u0D, ren_u0, sc_u0 _ _, ?_⟩
            refine WPL.mem (by rfl) ?_
            obtain ⟨hci2, hfr⟩ := hA'.ci.grow hN h1 hL hder hno hD
            have mono : ∀ g, Grp N E' g → Grp N (E' ++ [comF N (gd_ L i) (gd_ L j)]) g := fun g hg => hg.mono fun g hg => by simp [hg]
            have hLen : (E' ++ [comF N (gd_ L i) (gd_ L j)]).length = E'.length + 1 := by simp
            refine WPL.fin T false tok (by rfl) (by exact byObl) ?_
            refine WP.run T false tok (by rfl) (by exact byObl) ?_
            refine WP.run T false tok (by rfl) (by exact byObl) ?_
            refine Again.next ((j + 1, E' ++ [comF N (gd_ L i) (gd_ L j)], D)) (Ghost.cut (Nat.le_refl _) (tauOf [0, 1, 5]) _ _ (Taken.of [0, 1, 5] (LeAll.cons (by rfl) (by first | with_reducible exact Root.Le.refl _ | with_reducible exact le_dead | (exact le_row (Nat.le_of_eq hLen) (fun j hj => ap_row1 rfl _ _ j (by rw [hLen] at hj; exact hj))) | exact byLeq) (by exact byCon) (LeAll.cons (by rfl) (by first | with_reducible exact Root.Le.refl _ | with_reducible exact le_dead | (exact le_row (Nat.le_of_eq hLen) (fun j hj => ap_row1 rfl _ _ j (by rw [hLen] at hj; exact hj))) | exact byLeq) (by exact byCon) (LeAll.cons (by rfl) (by first | with_reducible exact Root.Le.refl _ | with_reducible exact le_dead | (exact le_row (Nat.le_of_eq hLen) (fun j hj => ap_row1 rfl _ _ j (by rw [hLen] at hj; exact hj))) | exact byLeq) (by exact byCon) (trivial)))) rfl rfl) (by exact bySlots)) (⟨hj, hci2, fun a b ha hb => mono _ (hA'.old a b ha hb), fun b hb => (by
              by_cases e : b = j
              · subst e; exact Grp.gen (hci2.np hN hL) (by simp)
              · exact mono _ (hA'.now b (by omega)))⟩) (by dsimp only; omega)
          · cases h
    · have hj : j = i := by have := of_decide_eq_false hc; omega
      subst hj
      refine WP.run T false tok (by rfl) (by exact byObl) ?_
      refine Again.next ((j + 1, E', C')) (Ghost.cut (Nat.le_refl _) (tauOf [0, 1, 2]) _ _ (Taken.of [0, 1, 2] (LeAll.cons (by rfl) (by first | with_reducible exact Root.Le.refl _ | with_reducible exact le_dead | (skip; done) | exact byLeq) (by exact byCon) (LeAll.cons (by rfl) (by first | with_reducible exact Root.Le.refl _ | with_reducible exact le_dead | (skip; done) | exact byLeq) (by exact byCon) (LeAll.cons (by rfl) (by first | with_reducible exact Root.Le.refl _ | with_reducible exact le_dead | (skip; done) | exact byLeq) (by exact byCon) (trivial)))) rfl rfl) (by exact bySlots)) (⟨hi, hA'.ci, fun a b ha hb => (by
        by_cases e : a = j
        · subst e; exact hA'.now b hb
        · exact hA'.old a b (by omega) hb), fun b h => absurd h (Nat.not_lt_zero _)⟩) (by dsimp only; omega)
  · have hi : i = L.length := by have := of_decide_eq_false hc; omega
    subst hi
    clear hc
    have hB : SB N L E C 0 := ⟨hA.ci, hA.all hN hL, fun a b ha => absurd ha (Nat.not_lt_zero _)⟩
    refine WP.seq ?_
    refine WP.rs T false tok (by rfl) (by exact byObl) ?_
    refine WP.block ?_
    refine WP.loopH (⟨fun z : Nat × List (Nat → Nat) × Chn => z.1 ≤ z.2.1.length ∧ SB N L z.2.1 z.2.2 z.1, fun z => [(0, .sl 0 0 L.length 16), (1, .i .i64 (N : Int)), (5, .p 1 [] 0), (6, .sl 2 0 z.2.1.length 16), (10, .i .i64 (z.1 : Int))], fun z => [.row 27 L.length 16 (rowP L), .var (chn N z.2.2), .row 27 z.2.1.length 16 (rowP z.2.1)], fun z => 300 * freeF z.2.2.has N + z.2.1.length - z.1⟩) ((0, E, C)) (⟨Nat.zero_le _, hB⟩) (Ghost.cut (Nat.le_refl _) (tauOf [0, 1, 2]) _ _ (Taken.of [0, 1, 2] (LeAll.cons (by rfl) (by first | with_reducible exact Root.Le.refl _ | with_reducible exact le_dead | (skip; done) | exact byLeq) (by exact byCon) (LeAll.cons (by rfl) (by first | with_reducible exact Root.Le.refl _ | with_reducible exact le_dead | (skip; done) | exact byLeq) (by exact byCon) (LeAll.cons (by rfl) (by first | with_reducible exact Root.Le.refl _ | with_reducible exact le_dead | (skip; done) | exact byLeq) (by exact byCon) (trivial)))) rfl rfl) (by exact bySlots)) ?_
    clear hA hB
    clear E C
    rintro ⟨i, E, C⟩ ⟨hi, hB⟩
    dsimp only at hi hB
    dsimp only [Hd.at]
    have hlen := hB.ci.len
    refine WP.seq ?_
    refine WP.rs T false tok (by rfl) (by exact byObl) ?_
    refine WP.cond (by rfl) (fun hc => WP.skip ?_) (fun hc => WP.exit ?_)
    · have hi : i < E.length := by have := of_decide_eq_true hc; omega
      clear hc
      refine WP.seq (WP.block ?_)
      refine WP.rs T false tok (by rfl) (by exact byObl) ?_
      refine WP.block ?_
      refine WP.loopH (⟨fun z : Nat × List (Nat → Nat) × Chn => z.1 ≤ L.length ∧ SC N L E C i z.2.1 z.2.2 z.1, fun z => [(0, .sl 0 0 L.length 16), (1, .i .i64 (N : Int)), (5, .p 1 [] 0), (6, .sl 2 0 z.2.1.length 16), (10, .i .i64 (i : Int)), (11, .i .i64 (z.1 : Int))], fun z => [.row 27 L.length 16 (rowP L), .var (chn N z.2.2), .row 27 z.2.1.length 16 (rowP z.2.1)], fun z => L.length - z.1⟩) ((0, E, C)) (⟨Nat.zero_le _, hB.start⟩) (Ghost.cut (Nat.le_refl _) (tauOf [0, 1, 2]) _ _ (Taken.of [0, 1, 2] (LeAll.cons (by rfl) (by first | with_reducible exact Root.Le.refl _ | with_reducible exact le_dead | (skip; done) | exact byLeq) (by exact byCon) (LeAll.cons (by rfl) (by first | with_reducible exact Root.Le.refl _ | with_reducible exact le_dead | (skip; done) | exact byLeq) (by exact byCon) (LeAll.cons (by rfl) (by first | with_reducible exact Root.Le.refl _ | with_reducible exact le_dead | (skip; done) | exact byLeq) (by exact byCon) (trivial)))) rfl rfl) (by exact bySlots)) ?_
      rintro ⟨j, E', C'⟩ ⟨hj, hC⟩
      dsimp only at hj hC
      dsimp only [Hd.at]
      refine WP.seq ?_
      refine WP.rs T false tok (by rfl) (by exact byObl) ?_
      refine WP.cond (by rfl) (fun hc => WP.skip ?_) (fun hc => WP.exit ?_)
      · have hj : j < L.length := by have := of_decide_eq_true hc; omega
        clear hc
        obtain ⟨T', hT'⟩ := hC.ext
        have hxe : gd_ E' i = gd_ E i := by rw [hT']; exact getDp_lt _ _ hi
        have hiE : i < E'.length := by rw [hT', List.length_append]; omega
        have hq : Np N (gd_ L j) := hL _ (getDf_mem hj)
        have iq := inv_np hN hq
        have hx' : Np N (gd_ E' i) := hC.ci.np hN hL _ (getDf_mem hiE)
        have hxc := con_np hN hx' hq
        have hlen' := hC.ci.len
        have hder : Der N L (conF N (gd_ E' i) (gd_ L j)) := .con (hC.ci.der _ (getDf_mem hiE)) (getDf_mem hj)
        have hIn := l03Inside_fn N hN C' hC.ci.ok.ci.T 0 (Nat.zero_le _) (conF N (gd_ E' i) (gd_ L j)) hxc (fun j hj => absurd hj (Nat.not_lt_zero _))
        rw [hC.ci.ok.inB hN h1 (hC.ci.np hN hL)] at hIn
        refine WP.seq (WP.block ?_)
        refine WP.seqG ⟨lst [(0, .sl 0 0 L.length 16), (1, .i .i64 (N : Int)), (5, .p 1 [] 0), (6, .sl 2 0 E'.length 16), (10, .i .i64 (i : Int)), (11, .i .i64 (j : Int)), (12, .p 3 [] 0)], [.row 27 L.length 16 (rowP L), .var (chn N C'), .row 27 E'.length 16 (rowP E'), .var (pl (conF N (gd_ E' i) (gd_ L j)))]⟩ ?_ ?_
        · refine WP.da (by kernel_rfl) 19 (by kernel_rfl) ?_
          refine WA.takes T false tok [0, 1, 2, 3, 4, 6, 7, 8, 9, 10] (f' := 10) (by kernel_rfl) (by rfl) (by rfl) (by rfl) (by exact byObl) (by rfl) (by rfl) ?_
          refine WA.takes T false tok [12, 13, 14, 15, 16] (f' := 5) (by kernel_rfl) (by rfl) (by rfl) (by rfl) (by exact byObl) (by rfl) (by rfl) ?_
          refine WA.all [5, 18] (by kernel_rfl) (by simp) ?_; intro i' hi'; simp only [List.mem_cons, List.not_mem_nil, or_false] at hi'
          rcases hi' with rfl | rfl
          · refine ⟨_, _, _, rfl, by rfl, by rfl, MK.callP (l01Back_fn (gd_ L j) N hN hq.perm.lt) (by rfl) (by simp [Sc, sc_pl, sc_ds, pl_ne, ds_ne]), ?_⟩
            refine WA.all [11, 18] (by kernel_rfl) (by simp) ?_; intro i' hi'; simp only [List.mem_cons, List.not_mem_nil, or_false] at hi'
            rcases hi' with rfl | rfl
            · refine ⟨_, _, _, rfl, by rfl, by rfl, MK.callP (l01Then_fn (backTo (gd_ L j) N) (gd_ E' i) N hN iq.perm.lt) (by rfl) (by simp [Sc, sc_pl, sc_ds, pl_ne, ds_ne]), ?_⟩
              refine WA.all [17, 18] (by kernel_rfl) (by simp) ?_; intro i' hi'; simp only [List.mem_cons, List.not_mem_nil, or_false] at hi'
              rcases hi' with rfl | rfl
              · refine ⟨_, _, _, rfl, by rfl, by rfl, MK.callP (l01Then_fn (mulF N (backTo (gd_ L j) N) (gd_ E' i)) (gd_ L j) N hN (mul_np iq hx').perm.lt) (by rfl) (by simp [Sc, sc_pl, sc_ds, pl_ne, ds_ne]), ?_⟩
                refine WA.all [18] (by kernel_rfl) (by simp) ?_; intro i' hi'; simp only [List.mem_cons, List.not_mem_nil, or_false] at hi'
                subst hi'
                refine ⟨_, _, _, rfl, by rfl, by rfl, MK.of tok (wm := false) (by rfl) (by exact byObl) (by rfl) (by exact byObl), ?_⟩
                refine WA.tail (by rfl) (by rfl) (by kernel_rfl) ?_
                refine WPL.fin T false tok (by rfl) (by exact byObl) ?_
                refine noPan ?_
                exact Ghost.cut (Nat.le_refl _) (tauOf [0, 1, 2, 3]) [(0, .sl 0 0 L.length 16), (1, .i .i64 (N : Int)), (5, .p 1 [] 0), (6, .sl 2 0 E'.length 16), (10, .i .i64 (i : Int)), (11, .i .i64 (j : Int)), (12, .p 3 [] 0)] [.row 27 L.length 16 (rowP L), .var (chn N C'), .row 27 E'.length 16 (rowP E'), .var (pl (conF N (gd_ E' i) (gd_ L j)))] (Taken.of [0, 1, 2, 3] (LeAll.cons (by rfl) (by first | with_reducible exact Root.Le.refl _ | with_reducible exact le_dead | (skip; done) | exact byLeq) (by exact byCon) (LeAll.cons (by rfl) (by first | with_reducible exact Root.Le.refl _ | with_reducible exact le_dead | (skip; done) | exact byLeq) (by exact byCon) (LeAll.cons (by rfl) (by first | with_reducible exact Root.Le.refl _ | with_reducible exact le_dead | (skip; done) | exact byLeq) (by exact byCon) (LeAll.cons (by rfl) (by first | with_reducible exact Root.Le.refl _ | with_reducible exact le_dead | (skip; done) | exact byLeq) (by exact byCon) (trivial))))) rfl rfl) (by exact bySlots)
              · refine ⟨_, _, _, rfl, by rfl, by rfl, MK.of tok (wm := false) (by rfl) (by exact byObl) (by rfl) (by exact byObl), ?_⟩
                refine WA.all [17] (by kernel_rfl) (by simp) ?_; intro i' hi'; simp only [List.mem_cons, List.not_mem_nil, or_false] at hi'
                subst hi'
                refine ⟨_, _, _, rfl, by rfl, by rfl, MK.callP (l01Then_fn (mulF N (backTo (gd_ L j) N) (gd_ E' i)) (gd_ L j) N hN (mul_np iq hx').perm.lt) (by rfl) (by simp [Sc, sc_pl, sc_ds, pl_ne, ds_ne]), ?_⟩
                refine WA.tail (by rfl) (by rfl) (by kernel_rfl) ?_
                refine WPL.fin T false tok (by rfl) (by exact byObl) ?_
                refine noPan ?_
                exact Ghost.cut (Nat.le_refl _) (tauOf [0, 1, 2, 3]) [(0, .sl 0 0 L.length 16), (1, .i .i64 (N : Int)), (5, .p 1 [] 0), (6, .sl 2 0 E'.length 16), (10, .i .i64 (i : Int)), (11, .i .i64 (j : Int)), (12, .p 3 [] 0)] [.row 27 L.length 16 (rowP L), .var (chn N C'), .row 27 E'.length 16 (rowP E'), .var (pl (conF N (gd_ E' i) (gd_ L j)))] (Taken.of [0, 1, 2, 3] (LeAll.cons (by rfl) (by first | with_reducible exact Root.Le.refl _ | with_reducible exact le_dead | (skip; done) | exact byLeq) (by exact byCon) (LeAll.cons (by rfl) (by first | with_reducible exact Root.Le.refl _ | with_reducible exact le_dead | (skip; done) | exact byLeq) (by exact byCon) (LeAll.cons (by rfl) (by first | with_reducible exact Root.Le.refl _ | with_reducible exact le_dead | (skip; done) | exact byLeq) (by exact byCon) (LeAll.cons (by rfl) (by first | with_reducible exact Root.Le.refl _ | with_reducible exact le_dead | (skip; done) | exact byLeq) (by exact byCon) (trivial))))) rfl rfl) (by exact bySlots)
            · refine ⟨_, _, _, rfl, by rfl, by rfl, MK.of tok (wm := false) (by rfl) (by exact byObl) (by rfl) (by exact byObl), ?_⟩
              refine WA.all [11] (by kernel_rfl) (by simp) ?_; intro i' hi'; simp only [List.mem_cons, List.not_mem_nil, or_false] at hi'
              subst hi'
              refine ⟨_, _, _, rfl, by rfl, by rfl, MK.callP (l01Then_fn (backTo (gd_ L j) N) (gd_ E' i) N hN iq.perm.lt) (by rfl) (by simp [Sc, sc_pl, sc_ds, pl_ne, ds_ne]), ?_⟩
              refine WA.all [17] (by kernel_rfl) (by simp) ?_; intro i' hi'; simp only [List.mem_cons, List.not_mem_nil, or_false] at hi'
              subst hi'
              refine ⟨_, _, _, rfl, by rfl, by rfl, MK.callP (l01Then_fn (mulF N (backTo (gd_ L j) N) (gd_ E' i)) (gd_ L j) N hN (mul_np iq hx').perm.lt) (by rfl) (by simp [Sc, sc_pl, sc_ds, pl_ne, ds_ne]), ?_⟩
              refine WA.tail (by rfl) (by rfl) (by kernel_rfl) ?_
              refine WPL.fin T false tok (by rfl) (by exact byObl) ?_
              refine noPan ?_
              exact Ghost.cut (Nat.le_refl _) (tauOf [0, 1, 2, 3]) [(0, .sl 0 0 L.length 16), (1, .i .i64 (N : Int)), (5, .p 1 [] 0), (6, .sl 2 0 E'.length 16), (10, .i .i64 (i : Int)), (11, .i .i64 (j : Int)), (12, .p 3 [] 0)] [.row 27 L.length 16 (rowP L), .var (chn N C'), .row 27 E'.length 16 (rowP E'), .var (pl (conF N (gd_ E' i) (gd_ L j)))] (Taken.of [0, 1, 2, 3] (LeAll.cons (by rfl) (by first | with_reducible exact Root.Le.refl _ | with_reducible exact le_dead | (skip; done) | exact byLeq) (by exact byCon) (LeAll.cons (by rfl) (by first | with_reducible exact Root.Le.refl _ | with_reducible exact le_dead | (skip; done) | exact byLeq) (by exact byCon) (LeAll.cons (by rfl) (by first | with_reducible exact Root.Le.refl _ | with_reducible exact le_dead | (skip; done) | exact byLeq) (by exact byCon) (LeAll.cons (by rfl) (by first | with_reducible exact Root.Le.refl _ | with_reducible exact le_dead | (skip; done) | exact byLeq) (by exact byCon) (trivial))))) rfl rfl) (by exact bySlots)
          · refine ⟨_, _, _, rfl, by rfl, by rfl, MK.of tok (wm := false) (by rfl) (by exact byObl) (by rfl) (by exact byObl), ?_⟩
            refine WA.all [5] (by kernel_rfl) (by simp) ?_; intro i' hi'; simp only [List.mem_cons, List.not_mem_nil, or_false] at hi'
            subst hi'
            refine ⟨_, _, _, rfl, by rfl, by rfl, MK.callP (l01Back_fn (gd_ L j) N hN hq.perm.lt) (by rfl) (by simp [Sc, sc_pl, sc_ds, pl_ne, ds_ne]), ?_⟩
            refine WA.all [11] (by kernel_rfl) (by simp) ?_; intro i' hi'; simp only [List.mem_cons, List.not_mem_nil, or_false] at hi'
            subst hi'
            refine ⟨_, _, _, rfl, by rfl, by rfl, MK.callP (l01Then_fn (backTo (gd_ L j) N) (gd_ E' i) N hN iq.perm.lt) (by rfl) (by simp [Sc, sc_pl, sc_ds, pl_ne, ds_ne]), ?_⟩
            refine WA.all [17] (by kernel_rfl) (by simp) ?_; intro i' hi'; simp only [List.mem_cons, List.not_mem_nil, or_false] at hi'
            subst hi'
            refine ⟨_, _, _, rfl, by rfl, by rfl, MK.callP (l01Then_fn (mulF N (backTo (gd_ L j) N) (gd_ E' i)) (gd_ L j) N hN (mul_np iq hx').perm.lt) (by rfl) (by simp [Sc, sc_pl, sc_ds, pl_ne, ds_ne]), ?_⟩
            refine WA.tail (by rfl) (by rfl) (by kernel_rfl) ?_
            refine WPL.fin T false tok (by rfl) (by exact byObl) ?_
            refine noPan ?_
            exact Ghost.cut (Nat.le_refl _) (tauOf [0, 1, 2, 3]) [(0, .sl 0 0 L.length 16), (1, .i .i64 (N : Int)), (5, .p 1 [] 0), (6, .sl 2 0 E'.length 16), (10, .i .i64 (i : Int)), (11, .i .i64 (j : Int)), (12, .p 3 [] 0)] [.row 27 L.length 16 (rowP L), .var (chn N C'), .row 27 E'.length 16 (rowP E'), .var (pl (conF N (gd_ E' i) (gd_ L j)))] (Taken.of [0, 1, 2, 3] (LeAll.cons (by rfl) (by first | with_reducible exact Root.Le.refl _ | with_reducible exact le_dead | (skip; done) | exact byLeq) (by exact byCon) (LeAll.cons (by rfl) (by first | with_reducible exact Root.Le.refl _ | with_reducible exact le_dead | (skip; done) | exact byLeq) (by exact byCon) (LeAll.cons (by rfl) (by first | with_reducible exact Root.Le.refl _ | with_reducible exact le_dead | (skip; done) | exact byLeq) (by exact byCon) (LeAll.cons (by rfl) (by first | with_reducible exact Root.Le.refl _ | with_reducible exact le_dead | (skip; done) | exact byLeq) (by exact byCon) (trivial))))) rfl rfl) (by exact bySlots)
        refine WP.rw ?_
        refine WPL.run T false 2 tok (by rfl) (by exact byObl) ?_
        refine WPL.callN [1] (.b (inG N E' (conF N (gd_ E' i) (gd_ L j)))) (hIn) (LeAll.cons (by rfl) (by first | with_reducible exact Root.Le.refl _ | with_reducible exact le_dead | (skip; done) | exact byLeq) (by exact byCon) (trivial)) (by rfl) (by rfl) (by exact byArgs) (by rfl) (by rfl) (by simp [Sc, sc_pl, sc_ds]) (by exact byAllc) (⟨rfl, trivial⟩) (by exact bySc) rfl ?_
        refine WPL.fin T false tok (by rfl) (by exact byObl) ?_
        cases hg : inG N E' (conF N (gd_ E' i) (gd_ L j)) with
        | true =>
          have hin := inG_iff.1 hg
          refine WP.cond (by rfl) (fun h => ?_) (fun h => WP.skip ?_)
          · cases h
          · refine WP.run T false tok (by rfl) (by exact byObl) ?_
            refine Again.next ((j + 1, E', C')) (Ghost.cut (Nat.le_refl _) (tauOf [0, 1, 2]) _ _ (Taken.of [0, 1, 2] (LeAll.cons (by rfl) (by first | with_reducible exact Root.Le.refl _ | with_reducible exact le_dead | (skip; done) | exact byLeq) (by exact byCon) (LeAll.cons (by rfl) (by first | with_reducible exact Root.Le.refl _ | with_reducible exact le_dead | (skip; done) | exact byLeq) (by exact byCon) (LeAll.cons (by rfl) (by first | with_reducible exact Root.Le.refl _ | with_reducible exact le_dead | (skip; done) | exact byLeq) (by exact byCon) (trivial)))) rfl rfl) (by exact bySlots)) (⟨hj, hC.ci, hC.com, hC.con, fun b hb => (by
              by_cases e : b = j
              · subst e; rw [← hxe]; exact hin
              · exact hC.now b (by omega)), hC.ext, hC.mu⟩) (by dsimp only; omega)
        | false =>
          have hno : ¬ Grp N E' (conF N (gd_ E' i) (gd_ L j)) := fun h => by rw [inG_iff.2 h] at hg; cases hg
          have hAdd := l03Add_fn N hN 0 (by omega) (conF N (gd_ E' i) (gd_ L j)) C' (hC.ci.ok.pre hxc)
          unfold AddOk at hAdd
          refine WP.cond (by rfl) (fun h => ?_) (fun h => WP.skip ?_)
          · refine WP.rw ?_
            refine WPL.run T false 2 tok (by rfl) (by exact byObl) ?_
            refine WPL.callE [1] (hAdd) (LeAll.cons (by rfl) (by first | with_reducible exact Root.Le.refl _ | with_reducible exact le_dead | (skip; done) | exact byLeq) (by exact byCon) (trivial)) (by rfl) (by rfl) (by exact byArgs) (by rfl) (by rfl) (by simp [Sc, sc_pl, sc_ds]) ?_
            rintro _ _ ⟨rfl, D, rfl, hD⟩
            refine ⟨by exact byAllc, u0D, ren_u0, sc_u0 _ _, ?_⟩
            refine WPL.mem (by rfl) ?_
            obtain ⟨hci2, hfr⟩ := hC.ci.grow hN h1 hL hder hno hD
            have mono : ∀ g, Grp N E' g → Grp N (E' ++ [(conF N (gd_ E' i) (gd_ L j))]) g := fun g hg => hg.mono fun g hg => by simp [hg]
            have hLen : (E' ++ [(conF N (gd_ E' i) (gd_ L j))]).length = E'.length + 1 := by simp
            have hmu := hC.mu
            refine WPL.fin T false tok (by rfl) (by exact byObl) ?_
            refine WP.run T false tok (by rfl) (by exact byObl) ?_
            refine WP.run T false tok (by rfl) (by exact byObl) ?_
            refine Again.next ((j + 1, E' ++ [(conF N (gd_ E' i) (gd_ L j))], D)) (Ghost.cut (Nat.le_refl _) (tauOf [0, 1, 5]) _ _ (Taken.of [0, 1, 5] (LeAll.cons (by rfl) (by first | with_reducible exact Root.Le.refl _ | with_reducible exact le_dead | (exact le_row (Nat.le_of_eq hLen) (fun j hj => ap_row1 rfl _ _ j (by rw [hLen] at hj; exact hj))) | exact byLeq) (by exact byCon) (LeAll.cons (by rfl) (by first | with_reducible exact Root.Le.refl _ | with_reducible exact le_dead | (exact le_row (Nat.le_of_eq hLen) (fun j hj => ap_row1 rfl _ _ j (by rw [hLen] at hj; exact hj))) | exact byLeq) (by exact byCon) (LeAll.cons (by rfl) (by first | with_reducible exact Root.Le.refl _ | with_reducible exact le_dead | (exact le_row (Nat.le_of_eq hLen) (fun j hj => ap_row1 rfl _ _ j (by rw [hLen] at hj; exact hj))) | exact byLeq) (by exact byCon) (trivial)))) rfl rfl) (by exact bySlots)) (⟨hj, hci2, fun a b ha hb => mono _ (hC.com a b ha hb), fun a b ha hb => mono _ (hC.con a b ha hb), fun b hb => (by
              by_cases e : b = j
              · subst e; rw [← hxe]; exact Grp.gen (hci2.np hN hL) (by simp)
              · exact mono _ (hC.now b (by omega))), ⟨T' ++ [(conF N (gd_ E' i) (gd_ L j))], by rw [hT', List.append_assoc]⟩, by dsimp only; rw [hLen]; omega⟩) (by dsimp only; omega)
          · cases h
      · have hj : j = L.length := by have := of_decide_eq_false hc; omega
        subst hj
        obtain ⟨hB', hm1, hm2⟩ := hC.done hi
        refine WP.run T false tok (by rfl) (by exact byObl) ?_
        refine Again.next ((i + 1, E', C')) (Ghost.cut (Nat.le_refl _) (tauOf [0, 1, 2]) _ _ (Taken.of [0, 1, 2] (LeAll.cons (by rfl) (by first | with_reducible exact Root.Le.refl _ | with_reducible exact le_dead | (skip; done) | exact byLeq) (by exact byCon) (LeAll.cons (by rfl) (by first | with_reducible exact Root.Le.refl _ | with_reducible exact le_dead | (skip; done) | exact byLeq) (by exact byCon) (LeAll.cons (by rfl) (by first | with_reducible exact Root.Le.refl _ | with_reducible exact le_dead | (skip; done) | exact byLeq) (by exact byCon) (trivial)))) rfl rfl) (by exact bySlots)) (⟨by dsimp only; omega, hB'⟩) (by dsimp only; omega)
    · have hi : i = E.length := by have := of_decide_eq_false hc; omega
      subst hi
      have hnp := hB.ci.np hN hL
      have hiff := hB.done hN hL
      refine WP.rs T false tok (by rfl) (by exact byObl) ?_
      exact WP.ret (Ends.newE [0, 2] (⟨E, rfl, rfl, hnp, by omega, hiff⟩) (.inl rfl) (by rfl) (by exact byObl) (LeAll.cons (by rfl) (by first | with_reducible exact Root.Le.refl _ | with_reducible exact le_dead | (skip; done) | exact byLeq) (by exact byCon) (LeAll.cons (by rfl) (by first | with_reducible exact Root.Le.refl _ | with_reducible exact le_dead | (skip; done) | exact byLeq) (by exact byCon) (trivial))) rfl rfl (rfl) (sc_sl rfl))

end Go.Proofs.Ytokhjhkicledmaa

/- DerivedSeries, the reference's side; IsSolvable; the laws. -/
namespace Go.Proofs.Ytokhjhkicledmaa
open Go.RowKit DM
set_option linter.unusedSimpArgs false
set_option linter.unusedVariables false
set_option maxRecDepth 100000
set_option maxHeartbeats 1000000

theorem l03Series_fn (N : Nat) (b w : Nat → Nat) (hD : Des N b w) (hnb : Np N b) (hnw : Np N w) : FnS Try.prog 47 [ds_ N b w] [] fun r m' => ∃ k, r = .sl 0 0 (serL N (Grp N [b, w]) k).length 1 ∧ m' = [.row 2 (serL N (Grp N [b, w]) k).length 1 (numsF (serL N (Grp N [b, w]) k))] ∧ Stop N (Grp N [b, w]) k := by
  generalize hG : Grp N [b, w] = G
  have hN := hD.le
  have h1 := hD.pos
  have hL2 := des_L hnb hnw
  refine FnS.intoE T tok Try.func47 (by rfl) rfl rfl rfl (by simp) ?_
  refine WP.rs T false tok (by rfl) (by exact byObl) ?_
  refine WP.rs T false tok (by rfl) (by exact byObl) ?_
  refine WP.rw ?_
  refine WPL.run T false 3 tok (by rfl) (by exact byObl) ?_
  refine WPL.callE [1] (l03Made_fn N h1 hN [b, w] hL2 (by simp)) (LeAll.cons (by rfl) (by first | with_reducible exact Root.Le.refl _ | with_reducible exact le_dead | (exact le_row (Nat.le_refl _) row_two) | exact byLeq) (by exact byCon) (trivial)) (by rfl) (by rfl) (by exact byArgs) (by rfl) (by rfl) (by simp [Sc, sc_pl, sc_ds]) ?_
  rintro _ _ ⟨rfl, C, rfl, hC⟩
  refine ⟨by exact byAllc, .p 2 [] 0, rfl, sc_p rfl, ?_⟩
  refine WPL.mem (by rfl) ?_
  have hO := l03Order_fn N hN C hC.ci.T
  have hK0 : Grp N [b, w] = DK N G 0 := hG
  rw [(hC.done hN h1 hL2).1.ord, ← (DK.small hN hL2 hK0).1] at hO
  refine WPL.callN [2] (.i .i64 ((serO N G 0 : Nat) : Int)) (hO) (LeAll.cons (by rfl) (by first | with_reducible exact Root.Le.refl _ | with_reducible exact le_dead | (skip; done) | exact byLeq) (by exact byCon) (trivial)) (by rfl) (by rfl) (by exact byArgs) (by rfl) (by rfl) (by simp [Sc, sc_pl, sc_ds]) (by exact byAllc) (⟨rfl, trivial⟩) (by exact bySc) rfl ?_
  refine WPL.fin T false tok (by rfl) (by exact byObl) ?_
  refine WP.block ?_
  refine WP.loopH (⟨fun z : Nat × List (Nat → Nat) × List Nat => 1 ≤ z.1 ∧ (∀ g ∈ z.2.1, Np N g) ∧ z.2.1.length ≤ 256 ∧ Grp N z.2.1 = DK N G (z.1 - 1) ∧ (∀ j, j + 1 < z.1 → serO N G (j + 1) ≠ serO N G j) ∧ z.2.2 = serL N G z.1 ∧ z.1 ≤ frK N G (z.1 - 1) + 1, fun z => [(1, .p 0 [] 0), (3, .sl 1 0 z.2.1.length 16), (4, .sl 2 0 z.2.2.length 1)], fun z => [.var (ds_ N b w), .row 27 z.2.1.length 16 (rowP z.2.1), .row 2 z.2.2.length 1 (numsF z.2.2)], fun z => 300 - z.1⟩) ((1, [b, w], [serO N G 0])) (⟨Nat.le_refl _, hL2, by simp, hG, fun j h => absurd h (by omega), rfl, by dsimp only; omega⟩) (Ghost.cut (Nat.le_refl _) (tauOf [0, 1, 3]) _ _ (Taken.of [0, 1, 3] (LeAll.cons (by rfl) (by first | with_reducible exact Root.Le.refl _ | with_reducible exact le_dead | (first | exact le_var (dsf_of rfl rfl rfl fun _ => rfl).symm | exact le_row (Nat.le_refl _) row_two | exact le_row (Nat.le_refl _) (fun j hj => by obtain rfl : j = 0 := (by have : j < 1 := hj; omega); rfl)) | exact byLeq) (by exact byCon) (LeAll.cons (by rfl) (by first | with_reducible exact Root.Le.refl _ | with_reducible exact le_dead | (first | exact le_var (dsf_of rfl rfl rfl fun _ => rfl).symm | exact le_row (Nat.le_refl _) row_two | exact le_row (Nat.le_refl _) (fun j hj => by obtain rfl : j = 0 := (by have : j < 1 := hj; omega); rfl)) | exact byLeq) (by exact byCon) (LeAll.cons (by rfl) (by first | with_reducible exact Root.Le.refl _ | with_reducible exact le_dead | (first | exact le_var (dsf_of rfl rfl rfl fun _ => rfl).symm | exact le_row (Nat.le_refl _) row_two | exact le_row (Nat.le_refl _) (fun j hj => by obtain rfl : j = 0 := (by have : j < 1 := hj; omega); rfl)) | exact byLeq) (by exact byCon) (trivial)))) rfl rfl) (by exact bySlots)) ?_
  clear hC hO hK0
  clear C
  rintro ⟨k, L, O⟩ ⟨hk1, hL, hl, hK, hne, hO, hkm⟩
  dsimp only at hk1 hL hl hK hne hO hkm
  dsimp only [Hd.at]
  have hOl : O.length = k := by rw [hO, serL_len]
  have hk257 : k ≤ 257 := by have := frK_le hN G (k - 1); omega
  refine WP.block ?_
  refine WP.rw ?_
  refine WPL.run T false 3 tok (by rfl) (by exact byObl) ?_
  refine WPL.callE [1] (l03Derived_fn N h1 hN L hL (by omega)) (LeAll.cons (by rfl) (by first | with_reducible exact Root.Le.refl _ | with_reducible exact le_dead | (skip; done) | exact byLeq) (by exact byCon) (trivial)) (by rfl) (by rfl) (by exact byArgs) (by rfl) (by rfl) (by simp [Sc, sc_pl, sc_ds]) ?_
  rintro _ _ ⟨E, rfl, rfl, he1, he2, he3⟩
  refine ⟨by exact byAllc, .sl 3 0 E.length 16, rfl, sc_sl rfl, ?_⟩
  refine WPL.mem (by rfl) ?_
  have hKE : Grp N E = DK N G k := by
    have := DK.gens hN hL hK he3
    rwa [show k - 1 + 1 = k by omega] at this
  refine WPL.fin T false tok (by rfl) (by exact byObl) ?_
  refine WP.rw ?_
  refine WPL.run T false 3 tok (by rfl) (by exact byObl) ?_
  refine WPL.callE [3] (l03Made_fn N h1 hN E he1 (by omega)) (LeAll.cons (by rfl) (by first | with_reducible exact Root.Le.refl _ | with_reducible exact le_dead | (skip; done) | exact byLeq) (by exact byCon) (trivial)) (by rfl) (by rfl) (by exact byArgs) (by rfl) (by rfl) (by simp [Sc, sc_pl, sc_ds]) ?_
  rintro _ _ ⟨rfl, C, rfl, hC⟩
  refine ⟨by exact byAllc, .p 4 [] 0, rfl, sc_p rfl, ?_⟩
  refine WPL.mem (by rfl) ?_
  have hOr := l03Order_fn N hN C hC.ci.T
  rw [(hC.done hN h1 he1).1.ord, ← (DK.small hN he1 hKE).1] at hOr
  have hs2 := (DK.small hN he1 hKE).2
  have hmor : serO N G k ≠ serO N G (k - 1) → frK N G (k - 1) + 1 ≤ frK N G k := fun hn => by
    have := DK.more hN hL hK
    rw [show k - 1 + 1 = k by omega] at this
    exact this hn
  generalize hs : serO N G k = s at *
  refine WPL.callN [4] (.i .i64 ((s : Nat) : Int)) (hOr) (LeAll.cons (by rfl) (by first | with_reducible exact Root.Le.refl _ | with_reducible exact le_dead | (skip; done) | exact byLeq) (by exact byCon) (trivial)) (by rfl) (by rfl) (by exact byArgs) (by rfl) (by rfl) (by simp [Sc, sc_pl, sc_ds]) (by exact byAllc) (⟨rfl, trivial⟩) (by exact bySc) rfl ?_
  refine WPL.fin T false tok (by rfl) (by exact byObl) ?_
  refine WP.seq ?_
  have hP : (((O.length : Nat) : Int) - 1).toNat = k - 1 := by omega
  have hlast : O.getD (addrAt 0 (((O.length : Nat) : Int) - 1).toNat) 0 = serO N G (k - 1) := by rw [addrAt0, hP, hO, serL_last N G hk1]
  refine WP.rw ?_
  refine WPL.run T false 7 tok (by rfl) (by exact byObl) ?_
  rw [hlast]
  refine WPL.fin T false tok (by rfl) (by exact byObl) ?_
  by_cases heq : s = serO N G (k - 1)
  · have hst : Stop N G k := ⟨hk1, by rw [hs]; exact heq, hne⟩
    refine WP.cond (by rfl) (fun h => ?_) (fun h => WP.skip ?_)
    · refine WP.rs T false tok (by rfl) (by exact byObl) ?_
      rw [hO]
      exact WP.ret (Ends.newE [2] (⟨k, rfl, rfl, hst⟩) (.inl rfl) (by rfl) (by exact byObl) (LeAll.cons (by rfl) (by first | with_reducible exact Root.Le.refl _ | with_reducible exact le_dead | (skip; done) | exact byLeq) (by exact byCon) (trivial)) rfl rfl (rfl) (sc_sl rfl))
    · have h := of_decide_eq_false h
      exact absurd (by exact_mod_cast heq) h
  · refine WP.cond (by rfl) (fun h => ?_) (fun h => WP.skip ?_)
    · have h := of_decide_eq_true h
      exact absurd (by exact_mod_cast h) heq
    have h4 := hmor heq
    have hLen : (O ++ [s]).length = O.length + 1 := by simp
    refine WP.run T false tok (by rfl) (by exact byObl) ?_
    refine Again.next ((k + 1, E, O ++ [s])) (Ghost.cut (Nat.le_refl _) (tauOf [0, 3, 6]) _ _ (Taken.of [0, 3, 6] (LeAll.cons (by rfl) (by first | with_reducible exact Root.Le.refl _ | with_reducible exact le_dead | (exact le_row (Nat.le_of_eq hLen) (fun j hj => ap_nums _ _ _ j (by rw [hLen] at hj; exact hj))) | exact byLeq) (by exact byCon) (LeAll.cons (by rfl) (by first | with_reducible exact Root.Le.refl _ | with_reducible exact le_dead | (exact le_row (Nat.le_of_eq hLen) (fun j hj => ap_nums _ _ _ j (by rw [hLen] at hj; exact hj))) | exact byLeq) (by exact byCon) (LeAll.cons (by rfl) (by first | with_reducible exact Root.Le.refl _ | with_reducible exact le_dead | (exact le_row (Nat.le_of_eq hLen) (fun j hj => ap_nums _ _ _ j (by rw [hLen] at hj; exact hj))) | exact byLeq) (by exact byCon) (trivial)))) rfl rfl) (by exact bySlots)) (⟨by dsimp only; omega, he1, he2, by dsimp only; rw [Nat.add_sub_cancel]; exact hKE, fun j hj => (by
      by_cases e2 : j + 1 = k
      · subst e2; rw [hs]; exact heq
      · exact hne j (by omega)), by dsimp only; rw [serL_succ, ← hO, hs], by dsimp only; rw [Nat.add_sub_cancel]; omega⟩) (by dsimp only; omega)

theorem specSeriesNo_fn (n : Int) (b w : Nat → Nat) (hb : ∀ i, b i < 256) (hw : ∀ i, w i < 256) (hc : desB n b w = false) : FnS Try.prog 26 [ds_ n b w] [] fun r m' => r = t2 .ns (.i .i64 1) ∧ m' = [] := by
  refine FnS.intoN T tok Try.func26 (by rfl) rfl rfl rfl (by simp) ?_
  refine WP.rs T false tok (by rfl) (by exact byObl) ?_
  refine WP.seq ?_
  refine WP.rw ?_
  refine WPL.run T false 1 tok (by rfl) (by exact byObl) ?_
  refine WPL.call (hc ▸ l01Is_fn n b w hb hw) (by rfl) (by rfl) (by rfl) (by simp [Sc, sc_pl, sc_ds, pl_ne, ds_ne]) ?_
  refine WPL.fin T false tok (by rfl) (by exact byObl) ?_
  refine WP.cond (by rfl) (fun h => ?_) (fun h => WP.skip ?_)
  · refine WP.rs T false tok (by rfl) (by exact byObl) ?_
    exact WP.ret (Ends.new [] (by rfl) (by exact byObl) (trivial) rfl rfl (ren_t2 ⟨rfl, trivial⟩ ⟨rfl, trivial⟩) (sc_t2 trivial trivial))
  · cases h

theorem specSeries_fn (N : Nat) (b w : Nat → Nat) (hb : ∀ i, b i < 256) (hw : ∀ i, w i < 256) (hc : desB N b w = true) (hD : Des N b w) (hnb : Np N b) (hnw : Np N w) : FnS Try.prog 26 [ds_ N b w] [] fun r m' => ∃ k, r = t2 (.sl 0 0 (serL N (Grp N [b, w]) k).length 1) (.i .i64 0) ∧ m' = [.row 2 (serL N (Grp N [b, w]) k).length 1 (numsF (serL N (Grp N [b, w]) k))] ∧ Stop N (Grp N [b, w]) k := by
  refine FnS.intoE T tok Try.func26 (by rfl) rfl rfl rfl (by simp) ?_
  refine WP.rs T false tok (by rfl) (by exact byObl) ?_
  refine WP.seq ?_
  refine WP.rw ?_
  refine WPL.run T false 1 tok (by rfl) (by exact byObl) ?_
  refine WPL.call (hc ▸ l01Is_fn N b w hb hw) (by rfl) (by rfl) (by rfl) (by simp [Sc, sc_pl, sc_ds, pl_ne, ds_ne]) ?_
  refine WPL.fin T false tok (by rfl) (by exact byObl) ?_
  refine WP.cond (by rfl) (fun h => ?_) (fun h => WP.skip ?_)
  · cases h
  refine WP.rw ?_
  refine WPL.run T false 1 tok (by rfl) (by exact byObl) ?_
  refine WPL.callE [] (l03Series_fn N b w hD hnb hnw) (trivial) (by rfl) (by rfl) (by exact byArgs) (by rfl) (by rfl) (by simp [Sc, sc_pl, sc_ds]) ?_
  rintro _ _ ⟨k, rfl, rfl, hst⟩
  refine ⟨by exact byAllc, .sl 1 0 (serL N (Grp N [b, w]) k).length 1, rfl, sc_sl rfl, ?_⟩
  refine WPL.mem (by rfl) ?_
  refine WPL.fin T false tok (by rfl) (by exact byObl) ?_
  exact WP.ret (Ends.newE [1] (⟨k, rfl, rfl, hst⟩) (.inl rfl) (by rfl) (by exact byObl) (LeAll.cons (by rfl) (by first | with_reducible exact Root.Le.refl _ | with_reducible exact le_dead | (skip; done) | exact byLeq) (by exact byCon) (trivial)) rfl rfl (ren_t2 rfl ⟨rfl, trivial⟩) (sc_t2 (sc_sl rfl) trivial))

theorem law_DerivedSeries (n : Int) (b w : Nat → Nat) (_hn : -9223372036854775808 ≤ n ∧ n ≤ 9223372036854775807) (hb : ∀ i, b i < 256) (hw : ∀ i, w i < 256) : FnP Try.prog 8 [ds_ n b w] (.b true) := by
  have hb' := lim_lt hb
  have hw' := lim_lt hw
  cases hc : desB n (lim b) (lim w)
  · have h1 := specSeriesNo_fn n (lim b) (lim w) hb' hw' hc
    have h2 := implSeriesNo_fn n (lim b) (lim w) hb' hw' hc
    refine FnS.into T tok Try.func8 (by rfl) rfl rfl rfl (by simp) ?_
    refine WP.rs T false tok (by rfl) (by exact byObl) ?_
    refine WP.rw ?_
    refine WPL.run T false 1 tok (by rfl) (by exact byObl) ?_
    refine WPL.call (toDessin_fn n b w) (by rfl) (by rfl) (by rfl) (by simp [Sc, sc_pl, sc_ds, pl_ne, ds_ne]) ?_
    refine WPL.callN [] (t2 .ns (.i .i64 1)) (h1) (trivial) (by rfl) (by rfl) (by exact byArgs) (by rfl) (by rfl) (by simp [Sc, sc_pl, sc_ds]) (by exact byAllc) (ren_t2 ⟨rfl, trivial⟩ ⟨rfl, trivial⟩) (by exact bySc) rfl ?_
    refine WPL.fin T false tok (by rfl) (by exact byObl) ?_
    refine WP.rw ?_
    refine WPL.run T false 1 tok (by rfl) (by exact byObl) ?_
    refine WPL.call (toDessin_fn n b w) (by rfl) (by rfl) (by rfl) (by simp [Sc, sc_pl, sc_ds, pl_ne, ds_ne]) ?_
    refine WPL.callN [] (t2 .ns (.i .i64 1)) (h2) (trivial) (by rfl) (by rfl) (by exact byArgs) (by rfl) (by rfl) (by simp [Sc, sc_pl, sc_ds]) (by exact byAllc) (ren_t2 ⟨rfl, trivial⟩ ⟨rfl, trivial⟩) (by exact bySc) rfl ?_
    refine WPL.fin T false tok (by rfl) (by exact byObl) ?_
    refine WP.seq ?_
    refine WP.rw ?_
    refine WPL.run T false 2 tok (by rfl) (by exact byObl) ?_
    refine WPL.call (eqS_nil) (by rfl) (by rfl) (by rfl) (by simp [Sc, sc_pl, sc_ds, pl_ne, ds_ne]) ?_
    refine WPL.fin T false tok (by rfl) (by exact byObl) ?_
    refine WP.cond (by rfl) (fun h => ?_) (fun h => WP.skip ?_)
    · cases h
    refine WP.rs T false tok (by rfl) (by exact byObl) ?_
    refine WP.rw ?_
    refine WPL.run T false 2 tok (by rfl) (by exact byObl) ?_
    refine WPL.call (markS_nil 1) (by rfl) (by rfl) (by rfl) (by simp [Sc, sc_pl, sc_ds, pl_ne, ds_ne]) ?_
    refine WPL.fin T false tok (by rfl) (by exact byObl) ?_
    refine WP.rs T false tok (by rfl) (by exact byObl) ?_
    refine WP.rw ?_
    refine WPL.run T false 2 tok (by rfl) (by exact byObl) ?_
    refine WPL.call (heldS_nil 1) (by rfl) (by rfl) (by rfl) (by simp [Sc, sc_pl, sc_ds, pl_ne, ds_ne]) ?_
    refine WPL.fin T false tok (by rfl) (by exact byObl) ?_
    refine WP.seq ?_
    refine WP.rs T false tok (by rfl) (by exact byObl) ?_
    refine WP.cond (by rfl) (fun h => ?_) (fun h => WP.skip ?_)
    · cases h
    refine WP.seq ?_
    refine WP.rs T false tok (by rfl) (by exact byObl) ?_
    refine WP.cond (by rfl) (fun h => ?_) (fun h => WP.skip ?_)
    · cases h
    refine WP.rw ?_
    refine WPL.run T false 1 tok (by rfl) (by exact byObl) ?_
    refine WPL.call (toDessin_fn n b w) (by rfl) (by rfl) (by rfl) (by simp [Sc, sc_pl, sc_ds, pl_ne, ds_ne]) ?_
    refine WPL.callN [] (t2 .ns (.i .i64 1)) (h2) (trivial) (by rfl) (by rfl) (by exact byArgs) (by rfl) (by rfl) (by simp [Sc, sc_pl, sc_ds]) (by exact byAllc) (ren_t2 ⟨rfl, trivial⟩ ⟨rfl, trivial⟩) (by exact bySc) rfl ?_
    refine WPL.fin T false tok (by rfl) (by exact byObl) ?_
    refine WP.seq ?_
    refine WP.rw ?_
    refine WPL.run T false 2 tok (by rfl) (by exact byObl) ?_
    refine WPL.call (eqS_nil) (by rfl) (by rfl) (by rfl) (by simp [Sc, sc_pl, sc_ds, pl_ne, ds_ne]) ?_
    refine WPL.fin T false tok (by rfl) (by exact byObl) ?_
    refine WP.cond (by rfl) (fun h => ?_) (fun h => WP.skip ?_)
    · cases h
    refine WP.rs T false tok (by rfl) (by exact byObl) ?_
    refine WP.rw ?_
    refine WPL.run T false 2 tok (by rfl) (by exact byObl) ?_
    refine WPL.call (heldS_nil 1) (by rfl) (by rfl) (by rfl) (by simp [Sc, sc_pl, sc_ds, pl_ne, ds_ne]) ?_
    refine WPL.fin T false tok (by rfl) (by exact byObl) ?_
    refine WP.seq ?_
    refine WP.rs T false tok (by rfl) (by exact byObl) ?_
    refine WP.cond (by rfl) (fun h => ?_) (fun h => WP.skip ?_)
    · cases h
    refine WP.seq ?_
    refine WP.rs T false tok (by rfl) (by exact byObl) ?_
    refine WP.cond (by rfl) (fun h => ?_) (fun h => WP.skip ?_)
    · cases h
    refine WP.rs T false tok (by rfl) (by exact byObl) ?_
    exact WP.ret (Ends.val (by rfl) (by exact byObl) (by rfl) (by trivial))
  · obtain ⟨N, rfl, hD, hnb, hnw⟩ := des_np hc (lim_z b) (lim_z w)
    obtain ⟨k, hst, hk⟩ := Stop.ex hD.le (Grp.isG hD.le (des_L hnb hnw))
    have h1 := (specSeries_fn N (lim b) (lim w) hb' hw' hc hD hnb hnw).mono fun r m' ⟨k', e1, e2, e3⟩ => (by obtain rfl := e3.unique hst; exact (⟨e1, e2⟩ : r = t2 (.sl 0 0 (serL N (Grp N [lim b, lim w]) k').length 1) (.i .i64 0) ∧ m' = [.row 2 (serL N (Grp N [lim b, lim w]) k').length 1 (numsF (serL N (Grp N [lim b, lim w]) k'))]))
    have h2 := (implSeries_fn N (lim b) (lim w) hb' hw' hc hD hnb hnw).mono fun r m' ⟨k', e1, e2, e3⟩ => (by obtain rfl := e3.unique hst; exact (⟨e1, e2⟩ : r = t2 (.sl 0 0 (serL N (Grp N [lim b, lim w]) k').length 1) (.i .i64 0) ∧ m' = [.row 2 (serL N (Grp N [lim b, lim w]) k').length 1 (numsF (serL N (Grp N [lim b, lim w]) k'))]))
    have hOl := serL_len N (Grp N [lim b, lim w]) k
    generalize serL N (Grp N [lim b, lim w]) k = L at *
    have hmark := markS_fn L.length 1 (fun j => ((L.getD j 0 : Nat) : Int)) (by omega) (by omega)
    have hheld := heldS_fn L.length 1 (by omega) (by omega)
    have heq := eqS_fn L.length (fun j => ((L.getD j 0 : Nat) : Int)) (by omega)
    generalize 1 + L.length = M at *
    refine FnS.into T tok Try.func8 (by rfl) rfl rfl rfl (by simp) ?_
    refine WP.rs T false tok (by rfl) (by exact byObl) ?_
    refine WP.rw ?_
    refine WPL.run T false 1 tok (by rfl) (by exact byObl) ?_
    refine WPL.call (toDessin_fn N b w) (by rfl) (by rfl) (by rfl) (by simp [Sc, sc_pl, sc_ds, pl_ne, ds_ne]) ?_
    refine WPL.callN [] (t2 (.sl 1 0 L.length 1) (.i .i64 0)) (h1) (trivial) (by rfl) (by rfl) (by exact byArgs) (by rfl) (by rfl) (by simp [Sc, sc_pl, sc_ds]) (by exact byAllc) (ren_t2 rfl ⟨rfl, trivial⟩) (by exact bySc) rfl ?_
    refine WPL.fin T false tok (by rfl) (by exact byObl) ?_
    refine WP.rw ?_
    refine WPL.run T false 1 tok (by rfl) (by exact byObl) ?_
    refine WPL.call (toDessin_fn N b w) (by rfl) (by rfl) (by rfl) (by simp [Sc, sc_pl, sc_ds, pl_ne, ds_ne]) ?_
    refine WPL.callN [] (t2 (.sl 2 0 L.length 1) (.i .i64 0)) (h2) (trivial) (by rfl) (by rfl) (by exact byArgs) (by rfl) (by rfl) (by simp [Sc, sc_pl, sc_ds]) (by exact byAllc) (ren_t2 rfl ⟨rfl, trivial⟩) (by exact bySc) rfl ?_
    refine WPL.fin T false tok (by rfl) (by exact byObl) ?_
    refine WP.seq ?_
    refine WP.rw ?_
    refine WPL.run T false 2 tok (by rfl) (by exact byObl) ?_
    refine WPL.callR [2, 1] (heq) (by rfl) (LeAll.cons (by rfl) (by first | with_reducible exact Root.Le.refl _ | with_reducible exact le_dead | (skip; done) | exact byLeq) (by exact byCon) (LeAll.cons (by rfl) (by first | with_reducible exact Root.Le.refl _ | with_reducible exact le_dead | (skip; done) | exact byLeq) (by exact byCon) (trivial))) (by exact byArgs) (by rfl) (by rfl) (by simp [Sc, sc_pl, sc_ds]) ?_
    refine WPL.fin T false tok (by rfl) (by exact byObl) ?_
    refine WP.cond (by rfl) (fun h => ?_) (fun h => WP.skip ?_)
    · cases h
    refine WP.rs T false tok (by rfl) (by exact byObl) ?_
    refine WP.rw ?_
    refine WPL.run T false 2 tok (by rfl) (by exact byObl) ?_
    refine WPL.callN [2] (.i .i64 (M : Int)) (hmark) (LeAll.cons (by rfl) (by first | with_reducible exact Root.Le.refl _ | with_reducible exact le_dead | (skip; done) | exact byLeq) (by exact byCon) (trivial)) (by rfl) (by rfl) (by exact byArgs) (by rfl) (by rfl) (by simp [Sc, sc_pl, sc_ds]) (by exact byAllc) (⟨rfl, trivial⟩) (by exact bySc) rfl ?_
    refine WPL.fin T false tok (by rfl) (by exact byObl) ?_
    refine WP.rs T false tok (by rfl) (by exact byObl) ?_
    refine WP.rw ?_
    refine WPL.run T false 2 tok (by rfl) (by exact byObl) ?_
    refine WPL.callR [2] (hheld) (by rfl) (LeAll.cons (by rfl) (by first | with_reducible exact Root.Le.refl _ | with_reducible exact le_dead | (skip; done) | exact byLeq) (by exact byCon) (trivial)) (by exact byArgs) (by rfl) (by rfl) (by simp [Sc, sc_pl, sc_ds]) ?_
    refine WPL.fin T false tok (by rfl) (by exact byObl) ?_
    refine WP.seq ?_
    refine WP.rs T false tok (by rfl) (by exact byObl) ?_
    refine WP.cond (by rfl) (fun h => ?_) (fun h => WP.skip ?_)
    · have h := of_decide_eq_true h; omega
    refine WP.seq ?_
    refine WP.rs T false tok (by rfl) (by exact byObl) ?_
    refine WP.cond (by rfl) (fun h => ?_) (fun h => WP.skip ?_)
    · simp at h
    refine WP.rw ?_
    refine WPL.run T false 1 tok (by rfl) (by exact byObl) ?_
    refine WPL.call (toDessin_fn N b w) (by rfl) (by rfl) (by rfl) (by simp [Sc, sc_pl, sc_ds, pl_ne, ds_ne]) ?_
    refine WPL.callN [] (t2 (.sl 3 0 L.length 1) (.i .i64 0)) (h2) (trivial) (by rfl) (by rfl) (by exact byArgs) (by rfl) (by rfl) (by simp [Sc, sc_pl, sc_ds]) (by exact byAllc) (ren_t2 rfl ⟨rfl, trivial⟩) (by exact bySc) rfl ?_
    refine WPL.fin T false tok (by rfl) (by exact byObl) ?_
    refine WP.seq ?_
    refine WP.rw ?_
    refine WPL.run T false 2 tok (by rfl) (by exact byObl) ?_
    refine WPL.callR [3, 1] (heq) (by rfl) (LeAll.cons (by rfl) (by first | with_reducible exact Root.Le.refl _ | with_reducible exact le_dead | (skip; done) | exact byLeq) (by exact byCon) (LeAll.cons (by rfl) (by first | with_reducible exact Root.Le.refl _ | with_reducible exact le_dead | (skip; done) | exact byLeq) (by exact byCon) (trivial))) (by exact byArgs) (by rfl) (by rfl) (by simp [Sc, sc_pl, sc_ds]) ?_
    refine WPL.fin T false tok (by rfl) (by exact byObl) ?_
    refine WP.cond (by rfl) (fun h => ?_) (fun h => WP.skip ?_)
    · cases h
    refine WP.rs T false tok (by rfl) (by exact byObl) ?_
    refine WP.rw ?_
    refine WPL.run T false 2 tok (by rfl) (by exact byObl) ?_
    refine WPL.callR [2] (hheld) (by rfl) (LeAll.cons (by rfl) (by first | with_reducible exact Root.Le.refl _ | with_reducible exact le_dead | (skip; done) | exact byLeq) (by exact byCon) (trivial)) (by exact byArgs) (by rfl) (by rfl) (by simp [Sc, sc_pl, sc_ds]) ?_
    refine WPL.fin T false tok (by rfl) (by exact byObl) ?_
    refine WP.seq ?_
    refine WP.rs T false tok (by rfl) (by exact byObl) ?_
    refine WP.cond (by rfl) (fun h => ?_) (fun h => WP.skip ?_)
    · have h := of_decide_eq_true h; omega
    refine WP.seq ?_
    refine WP.rs T false tok (by rfl) (by exact byObl) ?_
    refine WP.cond (by rfl) (fun h => ?_) (fun h => WP.skip ?_)
    · simp at h
    refine WP.rs T false tok (by rfl) (by exact byObl) ?_
    exact WP.ret (Ends.val (by rfl) (by exact byObl) (by rfl) (by trivial))

end Go.Proofs.Ytokhjhkicledmaa
