import Derived.Test.YtakapfgjdhliaaaL11
import Derived.Test.YtakapfgjdhliaaaD30
import Derived.Test.YtakapfgjdhliaaaX51
import Derived.Test.YtakapfgjdhliaaaX12
import Derived.Test.YtakapfgjdhliaaaL38
/- The morphisms: both sides. -/
namespace Go.Proofs.Ytakapfgjdhliaaa
open Go.RowKit DM
set_option linter.unusedSimpArgs false
set_option linter.unusedVariables false
set_option maxRecDepth 100000
set_option maxHeartbeats 1000000

/-- Lists of maps as rows inside a row. -/
def moF (N : Nat) (L : List (Nat → Int)) (i : Nat) : Dat := .ow 2 N 1 (intD (L.getD i fun _ => 0))

theorem ap_mo (N : Nat) (L : List (Nat → Int)) (o : Nat → Int) (g : Nat → Dat) (j : Nat) (hj : j < L.length + 1) : moF N (L ++ [o]) j = fup (apF L.length (moF N L) 0 g) L.length (.ow 2 N 1 (intD o)) j := by
  unfold apF moF
  by_cases h : j < L.length
  · rw [fup_ne _ _ (by omega), blt_true h, getD_snoc_lt L o _ h]; rfl
  · have e : j = L.length := by omega
    subst e
    rw [fup_same, getD_snoc]

theorem morphisms_fn (N M : Nat) (b w b' w' : Nat → Nat) (hN0 : 0 < N) (hN : N ≤ 16) (hM : M ≤ 16) (hb : ∀ i, i < N → b i < N) (hw : ∀ i, i < N → w i < N) (hb' : ∀ i, i < M → b' i < M) (hw' : ∀ i, i < M → w' i < M) :
    FnS Try.prog 81 [ds_ N b w, ds_ M b' w'] [] (fun r m' => r = .sl 0 0 (morL b w b' w' M).length 1 ∧ m' = [.row 39 (morL b w b' w' M).length 1 (moF N (morL b w b' w' M))]) := by
  refine FnS.intoN T tok Try.func81 (by rfl) rfl rfl rfl (by simp) ?_
  refine WP.rs T false tok (by rfl) (by exact byObl) ?_
  refine WP.rs T false tok (by rfl) (by exact byObl) ?_
  refine WP.seq ?_
  refine WP.rs T false tok (by rfl) (by exact byObl) ?_
  refine WP.block ?_
  refine WP.loopH (⟨fun x : Nat × List (Nat → Int) => x.1 ≤ M ∧ x.2 = morL b w b' w' x.1, fun x => [(2, .p 0 [] 0), (3, .p 1 [] 0), (10, .i .i64 (M : Int)), (5, .sl 2 0 x.2.length 1), (11, .i .i64 (x.1 : Int))], fun x => [.var (ds_ N b w), .var (ds_ M b' w'), .row 39 x.2.length 1 (moF N x.2)], fun x => M - x.1⟩) ((0, [])) (⟨Nat.zero_le _, rfl⟩) (Ghost.cut (Nat.le_refl _) (tauOf [0, 1, 2]) _ _ (Taken.of [0, 1, 2] (LeAll.cons (by rfl) (by first | with_reducible exact Root.Le.refl _ | with_reducible exact le_dead | (exact le_row (Nat.le_refl _) (fun j hj => absurd hj (Nat.not_lt_zero _))) | exact byLeq) (by exact byCon) (LeAll.cons (by rfl) (by first | with_reducible exact Root.Le.refl _ | with_reducible exact le_dead | (exact le_row (Nat.le_refl _) (fun j hj => absurd hj (Nat.not_lt_zero _))) | exact byLeq) (by exact byCon) (LeAll.cons (by rfl) (by first | with_reducible exact Root.Le.refl _ | with_reducible exact le_dead | (exact le_row (Nat.le_refl _) (fun j hj => absurd hj (Nat.not_lt_zero _))) | exact byLeq) (by exact byCon) (trivial)))) rfl rfl) (by exact bySlots)) ?_
  rintro ⟨y, L⟩ ⟨hy, hT⟩
  have hlen := morL_len b w b' w' y
  dsimp only at hy hT
  rw [← hT] at hlen
  dsimp only [Hd.at]
  refine WP.rs T false tok (by rfl) (by exact byObl) ?_
  refine WP.seq ?_
  refine WP.cond (by rfl) (fun hc => WP.skip ?_) (fun hc => WP.exit ?_)
  · have hy : y < M := by have := of_decide_eq_true hc; omega
    clear hc
    have hm := morphism_fn N M b w b' w' y hy hN0 hN hM hb hw hb' hw'
    refine WP.seq (WP.block ?_)
    refine WP.rs T false tok (by rfl) (by exact byObl) ?_
    cases hR : morF b w b' w' y with
    | none =>
      rw [hR] at hm
      have hn := morL_none hR
      refine WP.rw ?_
      refine WPL.run T false 3 tok (by rfl) (by exact byObl) ?_
      refine WPL.callN [] (.ns) (hm) (trivial) (by rfl) (by rfl) (by exact byArgs) (by rfl) (by rfl) (by simp [Sc, sc_pl, sc_ds]) (by exact byAllc) (⟨rfl, trivial⟩) (by exact bySc) rfl ?_
      refine WPL.fin T false tok (by rfl) (by exact byObl) ?_
      refine WP.seq ?_
      refine WP.region ?_
      refine WPL.run T false 1 tok (by rfl) (by exact byObl) ?_
      refine WPL.op (by rfl) (by rfl) (QOK.op (nsNe_ok tok rfl rfl rfl rfl)) ?_
      refine WPL.fin T false tok (by rfl) (by exact byObl) ?_
      refine WP.cond (by rfl) (fun h => ?_) (fun h => WP.skip ?_)
      · cases h
      clear h
      refine WP.run T false tok (by rfl) (by exact byObl) ?_
      refine Again.next ((y + 1, L)) (Ghost.cut (Nat.le_refl _) (tauOf [0, 1, 2]) _ _ (Taken.of [0, 1, 2] (LeAll.cons (by rfl) (by first | with_reducible exact Root.Le.refl _ | with_reducible exact le_dead | (skip; done) | exact byLeq) (by exact byCon) (LeAll.cons (by rfl) (by first | with_reducible exact Root.Le.refl _ | with_reducible exact le_dead | (skip; done) | exact byLeq) (by exact byCon) (LeAll.cons (by rfl) (by first | with_reducible exact Root.Le.refl _ | with_reducible exact le_dead | (skip; done) | exact byLeq) (by exact byCon) (trivial)))) rfl rfl) (by exact bySlots)) (⟨hy, hT.trans hn.symm⟩) (by dsimp only; omega)
    | some o =>
      rw [hR] at hm
      have hn := morL_some hR
      refine WP.rw ?_
      refine WPL.run T false 3 tok (by rfl) (by exact byObl) ?_
      refine WPL.callN [] (.sl 3 0 N 1) (hm) (trivial) (by rfl) (by rfl) (by exact byArgs) (by rfl) (by rfl) (by simp [Sc, sc_pl, sc_ds]) (by exact byAllc) (rfl) (by exact bySc) rfl ?_
      refine WPL.fin T false tok (by rfl) (by exact byObl) ?_
      refine WP.seq ?_
      refine WP.region ?_
      refine WPL.run T false 1 tok (by rfl) (by exact byObl) ?_
      refine WPL.op (by rfl) (by rfl) (QOK.op (slNe_ok tok rfl rfl rfl rfl rfl)) ?_
      refine WPL.fin T false tok (by rfl) (by exact byObl) ?_
      refine WP.cond (by rfl) (fun h => ?_) (fun h => WP.skip ?_)
      · clear h
        refine WP.run T false tok (by rfl) (by exact byObl) ?_
        refine WP.run T false tok (by rfl) (by exact byObl) ?_
        refine Again.step (Ghost.giveLast 5 3 (by rfl) rfl rfl (by rfl) (by rfl) (Nat.le_refl _)) ?_
        refine Again.next ((y + 1, L ++ [o])) (Ghost.cut (Nat.le_refl _) (tauOf [0, 1, 5]) _ _ (Taken.of [0, 1, 5] (LeAll.cons (by rfl) (by first | with_reducible exact Root.Le.refl _ | with_reducible exact le_dead | (exact le_row (by simp) (fun j hj => ap_mo N L o _ j (by simpa using hj))) | exact byLeq) (by exact byCon) (LeAll.cons (by rfl) (by first | with_reducible exact Root.Le.refl _ | with_reducible exact le_dead | (exact le_row (by simp) (fun j hj => ap_mo N L o _ j (by simpa using hj))) | exact byLeq) (by exact byCon) (LeAll.cons (by rfl) (by first | with_reducible exact Root.Le.refl _ | with_reducible exact le_dead | (exact le_row (by simp) (fun j hj => ap_mo N L o _ j (by simpa using hj))) | exact byLeq) (by exact byCon) (trivial)))) rfl rfl) (by exact bySlots)) (⟨hy, by rw [hn, hT]⟩) (by dsimp only; omega)
      · cases h
  · have hy : y = M := by have := of_decide_eq_false hc; omega
    subst hy
    subst hT
    refine WP.rs T false tok (by rfl) (by exact byObl) ?_
    exact WP.ret (Ends.new [2] (by rfl) (by exact byObl) (LeAll.cons (by rfl) (by first | with_reducible exact Root.Le.refl _ | with_reducible exact le_dead | (skip; done) | exact byLeq) (by exact byCon) (trivial)) rfl rfl (rfl) (sc_sl rfl))

end Go.Proofs.Ytakapfgjdhliaaa

/- The isomorphisms: the program's side. -/
namespace Go.Proofs.Ytakapfgjdhliaaa
open Go.RowKit DM
set_option linter.unusedSimpArgs false
set_option linter.unusedVariables false
set_option maxRecDepth 100000
set_option maxHeartbeats 1000000

/-- A list of arrays. -/
def plsF (L : List (Nat → Nat)) (i : Nat) : Dat := pl (L.getD i fun _ => 0)

theorem ap_pls {L : List (Nat → Nat)} {n : Nat} (hn : L.length = n) (f : Nat → Nat) (z : Nat → Dat) (j : Nat) (hj : j < n + 1) : plsF (L ++ [f]) j = apF n (plsF L) 0 (fup z 0 (pl f)) j := by
  subst hn
  unfold apF plsF
  by_cases h : j < L.length
  · rw [blt_true h, getD_snoc_lt L f _ h]; rfl
  · have e : j = L.length := by omega
    subst e
    rw [blt_false h, getD_snoc, Nat.sub_self, Nat.add_zero, cond_false, fup_same]

/-- The first k maps as arrays. -/
def mapP (N : Nat) (L : List (Nat → Int)) (k : Nat) : List (Nat → Nat) := (L.take k).map fun o => fillF (fun t => (o t).toNat) N
theorem mapP_len {N : Nat} {L : List (Nat → Int)} {k : Nat} (h : k ≤ L.length) : (mapP N L k).length = k := by unfold mapP; rw [List.length_map, List.length_take]; omega
theorem mapP_succ {N : Nat} {L : List (Nat → Int)} {k : Nat} (h : k < L.length) : mapP N L (k + 1) = mapP N L k ++ [fillF (fun t => (L.getD k (fun _ => 0) t).toNat) N] := by
  unfold mapP
  rw [List.take_succ_eq_append_getElem h, List.map_append]
  simp [List.getD_eq_getElem?_getD, List.getElem?_eq_getElem h]

/-- What is answered. -/
def isoR (N : Nat) (b w : Nat → Nat) (M : Nat) (b' w' : Nat → Nat) : List (Nat → Nat) := if N = M then isoL N b w b' w' N else []

theorem isomorphisms_fn (N M : Nat) (b w b' w' : Nat → Nat) (hD : Des N b w) (hD' : Des M b' w') :
    FnS Try.prog 66 [ds_ N b w, ds_ M b' w'] [] (fun r m' => r = .sl 0 0 (isoR N b w M b' w').length 16 ∧ m' = [.row 25 (isoR N b w M b' w').length 16 (plsF (isoR N b w M b' w'))]) := by
  by_cases hNM : N = M
  · subst hNM
    unfold isoR
    rw [if_pos rfl]
    have hms := morphisms_fn N N b w b' w' hD.pos hD.le hD'.le hD.pb.lt hD.pw.lt hD'.pb.lt hD'.pw.lt
    obtain ⟨i1, i2⟩ := iso_mor hD hD' N (Nat.le_refl _)
    have hlen := morL_len b w b' w' N
    have hN := hD.le
    rw [← i1]
    generalize morL b w b' w' N = L at *
    have hend : mapP N L L.length = L.map fun o => fillF (fun t => (o t).toNat) N := by unfold mapP; rw [List.take_length]
    rw [← hend]
    have hv : ∀ i t, i < L.length → t < N → ∃ v : Nat, L.getD i (fun _ => 0) t = (v : Int) ∧ v < 16 := fun i t hi ht => by
      have hm : L.getD i (fun _ => 0) ∈ L := by rw [List.getD_eq_getElem?_getD, List.getElem?_eq_getElem hi]; exact List.getElem_mem hi
      have := i2 _ hm t ht
      exact ⟨(L.getD i (fun _ => 0) t).toNat, by omega, by omega⟩
    clear i1 i2
    refine FnS.intoN T tok Try.func66 (by rfl) rfl rfl rfl (by simp) ?_
    refine WP.rs T false tok (by rfl) (by exact byObl) ?_
    refine WP.rs T false tok (by rfl) (by exact byObl) ?_
    refine WP.seq ?_
    refine WP.rs T false tok (by rfl) (by exact byObl) ?_
    refine WP.cond (by rfl) (fun h => ?_) (fun h => WP.skip ?_)
    · simp at h
    clear h
    refine WP.seq ?_
    refine WP.rw ?_
    refine WPL.run T false 2 tok (by rfl) (by exact byObl) ?_
    refine WPL.callN [] (.sl 3 0 L.length 1) (hms) (trivial) (by rfl) (by rfl) (by exact byArgs) (by rfl) (by rfl) (by simp [Sc, sc_pl, sc_ds]) (by exact byAllc) (rfl) (by exact bySc) rfl ?_
    refine WPL.fin T false tok (by rfl) (by exact byObl) ?_
    refine WP.block ?_
    refine WP.loopH (⟨fun i : Nat => i ≤ L.length, fun i => [(5, .sl 2 0 i 16), (20, .sl 3 0 L.length 1), (21, .i .i64 (L.length : Int)), (22, .i .i64 (i : Int))], fun i => [.var (ds_ N b w), .var (ds_ N b' w'), .row 25 i 16 (plsF (mapP N L i)), .ro L.length 1 (moF N L)], fun i => L.length - i⟩) (0) (Nat.zero_le _) (Ghost.cut (Nat.le_refl _) (tauOf [0, 1, 2, 3]) _ _ (Taken.of [0, 1, 2, 3] (LeAll.cons (by rfl) (by first | with_reducible exact Root.Le.refl _ | with_reducible exact le_dead | (exact le_row (Nat.le_refl _) (fun j hj => absurd hj (Nat.not_lt_zero _))) | exact byLeq) (by exact byCon) (LeAll.cons (by rfl) (by first | with_reducible exact Root.Le.refl _ | with_reducible exact le_dead | (exact le_row (Nat.le_refl _) (fun j hj => absurd hj (Nat.not_lt_zero _))) | exact byLeq) (by exact byCon) (LeAll.cons (by rfl) (by first | with_reducible exact Root.Le.refl _ | with_reducible exact le_dead | (exact le_row (Nat.le_refl _) (fun j hj => absurd hj (Nat.not_lt_zero _))) | exact byLeq) (by exact byCon) (LeAll.cons (by rfl) (by first | with_reducible exact Root.Le.refl _ | with_reducible exact le_dead | (exact le_row (Nat.le_refl _) (fun j hj => absurd hj (Nat.not_lt_zero _))) | exact byLeq) (by exact byCon) (trivial))))) rfl rfl) (by exact bySlots)) ?_
    intro i hi
    dsimp only at hi
    dsimp only [Hd.at]
    refine WP.rs T false tok (by rfl) (by exact byObl) ?_
    refine WP.seq ?_
    refine WP.cond (by rfl) (fun hc => WP.skip ?_) (fun hc => WP.exit ?_)
    · have hi : i < L.length := by have := of_decide_eq_true hc; omega
      clear hc
      have hvi := fun t ht => hv i t hi ht
      refine WP.seq (WP.block ?_)
      refine WP.rs T false tok (by rfl) (by exact byObl) ?_
      refine WP.rs T false tok (by rfl) (by exact byObl) ?_
      refine WP.seq ?_
      refine WP.rs T false tok (by rfl) (by exact byObl) ?_
      refine WP.block ?_
      refine WP.loopH (⟨fun t : Nat => t ≤ N, fun t => [(5, .sl 2 0 i 16), (8, .p 5 [] 0), (20, .sl 3 0 L.length 1), (21, .i .i64 (L.length : Int)), (22, .i .i64 (i : Int)), (27, .sl 4 0 N 1), (28, .i .i64 (N : Int)), (29, .i .i64 (t : Int))], fun t => [.var (ds_ N b w), .var (ds_ N b' w'), .row 25 i 16 (plsF (mapP N L i)), .ro L.length 1 (moF N L), .ro N 1 (intD (L.getD i fun _ => 0)), .var (pl (fillF (fun t => (L.getD i (fun _ => 0) t).toNat) t))], fun t => N - t⟩) (0) (Nat.zero_le _) (Ghost.cut (Nat.le_refl _) (tauOf [0, 1, 2, 3, 4, 5]) _ _ (Taken.of [0, 1, 2, 3, 4, 5] (LeAll.cons (by rfl) (by first | with_reducible exact Root.Le.refl _ | with_reducible exact le_dead | (exact le_var (by rw [fill_zero]; exact byVareq)) | exact byLeq) (by exact byCon) (LeAll.cons (by rfl) (by first | with_reducible exact Root.Le.refl _ | with_reducible exact le_dead | (exact le_var (by rw [fill_zero]; exact byVareq)) | exact byLeq) (by exact byCon) (LeAll.cons (by rfl) (by first | with_reducible exact Root.Le.refl _ | with_reducible exact le_dead | (exact le_var (by rw [fill_zero]; exact byVareq)) | exact byLeq) (by exact byCon) (LeAll.cons (by rfl) (by first | with_reducible exact Root.Le.refl _ | with_reducible exact le_dead | (exact le_var (by rw [fill_zero]; exact byVareq)) | exact byLeq) (by exact byCon) (LeAll.cons (by rfl) (by first | with_reducible exact Root.Le.refl _ | with_reducible exact le_dead | (exact le_var (by rw [fill_zero]; exact byVareq)) | exact byLeq) (by exact byCon) (LeAll.cons (by rfl) (by first | with_reducible exact Root.Le.refl _ | with_reducible exact le_dead | (exact le_var (by rw [fill_zero]; exact byVareq)) | exact byLeq) (by exact byCon) (trivial))))))) rfl rfl) (by exact bySlots)) ?_
      intro t ht
      dsimp only at ht
      dsimp only [Hd.at]
      refine WP.rs T false tok (by rfl) (by exact byObl) ?_
      refine WP.seq ?_
      refine WP.cond (by rfl) (fun hc => WP.skip ?_) (fun hc => WP.exit ?_)
      · have ht : t < N := by have := of_decide_eq_true hc; omega
        clear hc
        obtain ⟨v, hv1, hv2⟩ := hvi t ht
        have hst := fill_step (fun t => (L.getD i (fun _ => 0) t).toNat) t
        have hst' : up (fillF (fun t => (L.getD i (fun _ => 0) t).toNat) t) t v = fillF (fun t => (L.getD i (fun _ => 0) t).toNat) (t + 1) := by
          rw [← hst]; simp only [hv1, Int.toNat_natCast]
        have ht16 : t < 16 := by omega
        have hvt : L.getD i (fun _ => 0) (addrAt 0 ((t : Nat) : Int).toNat) = (v : Int) := hv1
        refine WP.seq (WP.block ?_)
        refine WP.rs T false tok (by rfl) (by exact byObl) ?_
        rw [hvt]
        refine WP.run T false tok (by rfl) (by exact byObl) ?_
        refine WP.run T false tok (by rfl) (by exact byObl) ?_
        refine Again.next (t + 1) (Ghost.cut (Nat.le_refl _) (tauOf [0, 1, 2, 3, 4, 5]) _ _ (Taken.of [0, 1, 2, 3, 4, 5] (LeAll.cons (by rfl) (by first | with_reducible exact Root.Le.refl _ | with_reducible exact le_dead | (exact le_var (by rw [← hst']; exact byVareq)) | exact byLeq) (by exact byCon) (LeAll.cons (by rfl) (by first | with_reducible exact Root.Le.refl _ | with_reducible exact le_dead | (exact le_var (by rw [← hst']; exact byVareq)) | exact byLeq) (by exact byCon) (LeAll.cons (by rfl) (by first | with_reducible exact Root.Le.refl _ | with_reducible exact le_dead | (exact le_var (by rw [← hst']; exact byVareq)) | exact byLeq) (by exact byCon) (LeAll.cons (by rfl) (by first | with_reducible exact Root.Le.refl _ | with_reducible exact le_dead | (exact le_var (by rw [← hst']; exact byVareq)) | exact byLeq) (by exact byCon) (LeAll.cons (by rfl) (by first | with_reducible exact Root.Le.refl _ | with_reducible exact le_dead | (exact le_var (by rw [← hst']; exact byVareq)) | exact byLeq) (by exact byCon) (LeAll.cons (by rfl) (by first | with_reducible exact Root.Le.refl _ | with_reducible exact le_dead | (exact le_var (by rw [← hst']; exact byVareq)) | exact byLeq) (by exact byCon) (trivial))))))) rfl rfl) (by exact bySlots)) (ht) (by dsimp only; omega)
      · have ht : N = t := by have := of_decide_eq_false hc; omega
        subst ht
        refine WP.run T false tok (by rfl) (by exact byObl) ?_
        refine WP.run T false tok (by rfl) (by exact byObl) ?_
        have hs := mapP_succ (N := N) hi
        have hll := mapP_len (N := N) (show i ≤ L.length by omega)
        refine Again.next (i + 1) (Ghost.cut (Nat.le_refl _) (tauOf [0, 1, 7, 3]) _ _ (Taken.of [0, 1, 7, 3] (LeAll.cons (by rfl) (by first | with_reducible exact Root.Le.refl _ | with_reducible exact le_dead | (exact le_row (Nat.le_refl _) (fun j hj => by rw [hs]; exact ap_pls hll _ _ j hj)) | exact byLeq) (by exact byCon) (LeAll.cons (by rfl) (by first | with_reducible exact Root.Le.refl _ | with_reducible exact le_dead | (exact le_row (Nat.le_refl _) (fun j hj => by rw [hs]; exact ap_pls hll _ _ j hj)) | exact byLeq) (by exact byCon) (LeAll.cons (by rfl) (by first | with_reducible exact Root.Le.refl _ | with_reducible exact le_dead | (exact le_row (Nat.le_refl _) (fun j hj => by rw [hs]; exact ap_pls hll _ _ j hj)) | exact byLeq) (by exact byCon) (LeAll.cons (by rfl) (by first | with_reducible exact Root.Le.refl _ | with_reducible exact le_dead | (exact le_row (Nat.le_refl _) (fun j hj => by rw [hs]; exact ap_pls hll _ _ j hj)) | exact byLeq) (by exact byCon) (trivial))))) rfl rfl) (by exact bySlots)) (hi) (by dsimp only; omega)
    · have hi : i = L.length := by have := of_decide_eq_false hc; omega
      subst hi
      rw [mapP_len (Nat.le_refl _)]
      refine WP.rs T false tok (by rfl) (by exact byObl) ?_
      exact WP.ret (Ends.new [2] (by rfl) (by exact byObl) (LeAll.cons (by rfl) (by first | with_reducible exact Root.Le.refl _ | with_reducible exact le_dead | (skip; done) | exact byLeq) (by exact byCon) (trivial)) rfl rfl (rfl) (sc_sl rfl))
  · have hne : ¬ ((N : Int) = (M : Int)) := by omega
    unfold isoR
    rw [if_neg hNM]
    refine FnS.intoN T tok Try.func66 (by rfl) rfl rfl rfl (by simp) ?_
    refine WP.rs T false tok (by rfl) (by exact byObl) ?_
    refine WP.rs T false tok (by rfl) (by exact byObl) ?_
    refine WP.seq ?_
    refine WP.rs T false tok (by rfl) (by exact byObl) ?_
    refine WP.cond (by rfl) (fun h => ?_) (fun h => WP.skip ?_)
    · refine WP.rs T false tok (by rfl) (by exact byObl) ?_
      exact WP.ret (Ends.new [2] (by rfl) (by exact byObl) (LeAll.cons (by rfl) (by first | with_reducible exact Root.Le.refl _ | with_reducible exact le_dead | (exact le_row (Nat.le_refl _) (fun j hj => absurd hj (Nat.not_lt_zero _))) | exact byLeq) (by exact byCon) (trivial)) rfl rfl (rfl) (sc_sl rfl))
    · simp at h; omega

end Go.Proofs.Ytakapfgjdhliaaa
