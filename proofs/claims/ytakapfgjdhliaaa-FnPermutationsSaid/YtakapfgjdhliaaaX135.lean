import Derived.Test.YtakapfgjdhliaaaX132
import Derived.Test.YtakapfgjdhliaaaX10
import Derived.Test.YtakapfgjdhliaaaX19
import Derived.Test.YtakapfgjdhliaaaD22
import Derived.Test.YtakapfgjdhliaaaD34
import Derived.Test.YtakapfgjdhliaaaD38
/- Draws: lists among cycles. -/
namespace Go.Proofs.Ytakapfgjdhliaaa
open Go.RowKit DM
set_option linter.unusedSimpArgs false
set_option linter.unusedVariables false
set_option maxRecDepth 100000
set_option maxHeartbeats 1000000

theorem l01OwnT_fn (l : List Nat) (d c : Nat) (hd : d + c ≤ l.length) (hl : l.length ≤ 4294967296) : FnS Try.prog 62 [.sl 0 d c 1] [.ro l.length 1 (numsF l)] (fun r m' => r = .sl 1 0 c 1 ∧ m' = [.ro l.length 1 (numsF l), .row 2 c 1 (fun j => numsF l (d + j))]) := by
  refine FnS.intoN T tok Try.func62 (by rfl) rfl rfl rfl (by simp) ?_
  refine WP.rs T false tok (by rfl) (by exact byObl) ?_
  refine WP.rs T false tok (by rfl) (by exact byObl) ?_
  have hLen : c = 0 + c := by omega
  exact WP.ret (Ends.new [0, 2] (by rfl) (by exact byObl) (LeAll.cons (by rfl) (by first | with_reducible exact Root.Le.refl _ | with_reducible exact le_dead | (exact le_row (by omega) (fun j hj => by unfold apF; rw [blt_false (by omega)]; simp)) | exact byLeq) (by exact byCon) (LeAll.cons (by rfl) (by first | with_reducible exact Root.Le.refl _ | with_reducible exact le_dead | (exact le_row (by omega) (fun j hj => by unfold apF; rw [blt_false (by omega)]; simp)) | exact byLeq) (by exact byCon) (trivial))) rfl rfl (renD_len hLen rfl) (sc_sl rfl))

/-- The lists out, the first one being told anew. -/
def lnR (out : List (List Nat)) (c : Nat) (j : Nat) : Nat := if j = 0 then c else (out.getD j []).length
def gR (out : List (List Nat)) (g : Nat → Int) (j t : Nat) : Int := if j = 0 then g t else (((out.getD j []).getD t 0 : Nat) : Int)
theorem rowsG_up (out : List (List Nat)) (c : Nat) (g : Nat → Int) (x : Dat) (j : Nat) : rowsG (lnR out c) (gR out g) j = fup (fup (rowsF out) 0 x) 0 (.ow 2 c 1 (fun t => .i .i64 (g t))) j := by
  rw [fup_fup]
  by_cases h : j = 0
  · subst h; rw [fup_same]; rfl
  · rw [fup_ne _ _ h]
    unfold rowsG lnR gR rowsF owN numsF
    simp only [if_neg h]
theorem rowsG_nil (out : List (List Nat)) (c : Nat) (g : Nat → Int) (x y : Dat) (j : Nat) : rowsG (lnR out c) (gR out g) j = fup (fup (fup (rowsF out) 0 x) 0 y) 0 (.ow 2 c 1 (fun t => .i .i64 (g t))) j := by
  rw [fup_fup (fup (rowsF out) 0 x) 0 y]; exact rowsG_up out c g x j
theorem cyTo_pos (p : Nat → Nat) : ∀ i, i ≤ 16 → ∀ l ∈ (cyTo p i).1, 1 ≤ l.length
  | 0, _, l, hl => by simp [cyTo] at hl
  | i + 1, hi, l, hl => by
    cases hm : (cyTo p i).2 i
    · rw [cyTo_new hm] at hl
      simp only [List.mem_append, List.mem_singleton] at hl
      rcases hl with hl | rfl
      · exact cyTo_pos p i (by omega) l hl
      · exact cyc_pos (by omega) hm
    · rw [cyTo_old hm] at hl
      exact cyTo_pos p i (by omega) l hl

theorem nums_up (l : List Nat) (v : Int) : fup (numsF l) 0 (.i .i64 v) = fun t => .i .i64 (if t = 0 then v else ((l.getD t 0 : Nat) : Int)) := by
  funext t
  by_cases h : t = 0
  · subst h; rw [fup_same]; rfl
  · rw [fup_ne _ _ h, if_neg h]; rfl
theorem rowsG_set {out : List (List Nat)} {c : Nat} {g : Nat → Int} {f : Nat → Dat} {x : Dat} (hf : f = fup (fup (rowsF out) 0 x) 0 (.ow 2 c 1 (fun t => .i .i64 (g t)))) {k : Nat} (hk : k ≤ out.length) : (Root.row 39 out.length 1 f).Le (.ro k 1 (rowsG (lnR out c) (gR out g))) :=
  le_frz hk fun j _ => by rw [hf]; exact rowsG_up out c g x j

theorem rowsG_set2 {out : List (List Nat)} {c : Nat} {g : Nat → Int} {f : Nat → Dat} {x y : Dat} (hf : f = fup (fup (fup (rowsF out) 0 x) 0 y) 0 (.ow 2 c 1 (fun t => .i .i64 (g t)))) {k : Nat} (hk : k ≤ out.length) : (Root.row 39 out.length 1 f).Le (.ro k 1 (rowsG (lnR out c) (gR out g))) :=
  le_frz hk fun j _ => by rw [hf]; exact rowsG_nil out c g x y j
def gT (own : List Nat) (c t : Nat) : Int := ((if t < c then own.getD (1 + t) 0 else if t = c then own.getD 0 0 else 0 : Nat) : Int)
theorem apT (own : List Nat) (c : Nat) {h : Nat → Dat} (hh : ∀ t, t < c → h t = numsF own (1 + t)) : apF c h 0 (fup (fun _ => .i .i64 0) 0 (numsF own 0)) = fun t => .i .i64 (gT own c t) := by
  funext t
  unfold apF gT
  by_cases h0 : t < c
  · rw [blt_true h0, if_pos h0, cond_true, hh t h0]; rfl
  · rw [blt_false h0, if_neg h0, cond_false]
    by_cases h2 : t = c
    · rw [if_pos h2, show 0 + (t - c) = 0 by omega, fup_same]; rfl
    · rw [if_neg h2, fup_ne _ _ (by omega)]; rfl
theorem rowsG_setT {out : List (List Nat)} {own : List Nat} {c : Nat} {f : Nat → Dat} {x y : Dat} {h : Nat → Dat} (hh : ∀ t, t < c → h t = numsF own (1 + t)) (hf : f = fup (fup (fup (rowsF out) 0 x) 0 y) 0 (.ow 2 (c + 1) 1 (apF c h 0 (fup (fun _ => .i .i64 0) 0 (numsF own 0))))) {k : Nat} (hk : k ≤ out.length) : (Root.row 39 out.length 1 f).Le (.ro k 1 (rowsG (lnR out (c + 1)) (gR out (gT own c)))) :=
  rowsG_set2 (by rw [hf, apT own c hh]) hk

theorem drawPlacesOfCycles_fn (len : Nat) (g : Nat → Nat) (hg : ∀ j, g j < 256) (hl : len ≤ 4294967296) :
    FnS Try.prog 27 [.sl 0 0 len 1] [.ro len 1 (byF g)] fun r m' => ∃ (k : Nat) (ln : Nat → Nat) (G : Nat → Nat → Int) (n : Int), r = t2 (.sl 1 0 k 1) (.i .i64 n) ∧ k ≤ 16 ∧ (∀ j, ln j ≤ 16) ∧ -1 ≤ n ∧ n ≤ 17 ∧ m' = [.ro len 1 (byF g), .ro k 1 (rowsG ln G)] := by
  have hfr := l01From_fn len g hg hl
  refine FnS.intoE T tok Try.func27 (by rfl) rfl rfl rfl (by simp) ?_
  refine WP.rs T false tok (by rfl) (by exact byObl) ?_
  refine WP.rw ?_
  refine WPL.run T false 1 tok (by rfl) (by exact byObl) ?_
  refine WPL.callE [0] (hfr) (LeAll.cons (by rfl) (by first | with_reducible exact Root.Le.refl _ | with_reducible exact le_dead | (skip; done) | exact byLeq) (by exact byCon) (trivial)) (by rfl) (by rfl) (by exact byArgs) (by rfl) (by rfl) (by simp [Sc, sc_pl, sc_ds]) ?_
  rintro _ _ ⟨rfl, h1, rfl⟩
  refine ⟨⟨fun d hd => by cases hd; exact fun _ _ => trivial, fun d hd => by cases hd; exact sc_src _ _ _ _ _, trivial⟩, .p 1 [] 0, rfl, sc_p rfl, ?_⟩
  refine WPL.mem (by rfl) ?_
  refine WPL.fin T false tok (by rfl) (by exact byObl) ?_
  have hSc : ∀ (k : Nat) (h : Int), Sc k (srcD len g 0 h) := fun k h => sc_src k len g 0 h
  have hnx := l01Next_fn len g hg 0 h1 16 (Nat.zero_le _) hl
  refine WP.rw ?_
  refine WPL.run T false 1 tok (by rfl) (by exact byObl) ?_
  refine WPL.callE [1] (hnx) (LeAll.cons (by rfl) (by first | with_reducible exact Root.Le.refl _ | with_reducible exact le_dead | (skip; done) | exact byLeq) (by exact byCon) (trivial)) (by rfl) (by rfl) (by exact byArgs) (by rfl) (by rfl) (by simp [Sc, sc_pl, sc_ds]) ?_
  rintro _ _ ⟨y, a', h2, rfl, hy1, _, ha', rfl⟩
  obtain ⟨y0, y1⟩ := hy1 (by omega)
  obtain ⟨n, rfl, hn1, hn2⟩ : ∃ n : Nat, y = (n : Int) - 1 ∧ 1 ≤ n ∧ n ≤ 16 := ⟨(y + 1).toNat, by omega, by omega, by omega⟩
  refine ⟨⟨fun d hd => by cases hd; exact sc_src _ _ _ _ _, trivial⟩, .i .i64 ((n : Int) - 1), ⟨rfl, trivial⟩, trivial, ?_⟩
  refine WPL.mem (by rfl) ?_
  refine WPL.run T false 1 tok (by rfl) (by exact byObl) ?_
  have en : (1 : Int) + ((n : Int) - 1) = n := by omega
  rw [en]
  refine WPL.fin T false tok (by rfl) (by exact byObl) ?_
  have hSc : ∀ (k : Nat) (h : Int), Sc k (srcD len g a' h) := fun k h => sc_src k len g a' h
  have hps := l01Pairs_fn len g hg a' h2 n 4 hn1 hn2 (by omega) ha' hl
  refine WP.rw ?_
  refine WPL.run T false 2 tok (by rfl) (by exact byObl) ?_
  refine WPL.callE [1] (hps) (LeAll.cons (by rfl) (by first | with_reducible exact Root.Le.refl _ | with_reducible exact le_dead | (skip; done) | exact byLeq) (by exact byCon) (trivial)) (by rfl) (by rfl) (by exact byArgs) (by rfl) (by rfl) (by simp [Sc, sc_pl, sc_ds]) ?_
  rintro _ _ ⟨p, a3, h3, rfl, hp, ha3, rfl⟩
  refine ⟨⟨fun d hd => by cases hd; exact sc_src _ _ _ _ _, trivial⟩, pl p, ⟨rfl, sc_pl _ _⟩, sc_pl _ _, ?_⟩
  refine WPL.mem (by rfl) ?_
  have hSc : ∀ (k : Nat) (h : Int), Sc k (srcD len g a3 h) := fun k h => sc_src k len g a3 h
  refine WPL.run T false 1 tok (by rfl) (by exact byObl) ?_
  refine WPL.callN [] (.sl 2 0 (cycs p n).length 1) (l01Cycles_fn p n hn2 (fun i _ => hp.lt i)) (trivial) (by rfl) (by rfl) (by exact byArgs) (by rfl) (by rfl) (by simp [Sc, sc_pl, sc_ds]) (by exact byAllc) (rfl) (by exact bySc) rfl ?_
  refine WPL.fin T false tok (by rfl) (by exact byObl) ?_
  have hLs : ∀ j, ((cycs p n).getD j []).length ≤ 16 := fun j => (cycs_ok hn2 (fun i _ => hp.lt i)).1
  have hLp : ∀ j, j < (cycs p n).length → 1 ≤ ((cycs p n).getD j []).length := fun j hj => cyTo_pos p n hn2 _ (by rw [List.getD_eq_getElem?_getD, List.getElem?_eq_getElem hj]; exact List.getElem_mem hj)
  have hLl : (cycs p n).length ≤ n := cyTo_len p n
  generalize cycs p n = L at *
  refine WP.seq ?_
  refine WP.rs T false tok (by rfl) (by exact byObl) ?_
  refine WP.block ?_
  have hSc0 : ∀ k e : Nat, Sc k (.ow e L.length 1 (rowsF L)) := fun k e j _ => fun _ _ => trivial
  have hSc := hSc0
  have sc_ch : ∀ (k a : Nat) (h : Int), Sc k (srcD len g a h) := fun k a h => sc_src k len g a h
  refine WP.loopH (⟨fun z : Nat × (Nat → Dat) × List (List Nat) × Nat × Int => z.1 ≤ L.length ∧ (∀ j, z.1 ≤ j → j < L.length → z.2.1 j = owN (L.getD j [])) ∧ (∀ k e : Nat, Sc k (.ow e L.length 1 z.2.1)) ∧ z.2.2.1.length ≤ z.1 ∧ (∀ j, (z.2.2.1.getD j []).length ≤ 16 ∧ (j < z.2.2.1.length → 1 ≤ (z.2.2.1.getD j []).length)) ∧ z.2.2.2.1 ≤ len, fun z => [(4, .p 1 [] 0), (5, .i .i64 (n : Int)), (6, .sl 2 0 L.length 1), (7, .sl 3 0 z.2.2.1.length 1), (8, .i .i64 (z.1 : Int))], fun z => [.ro len 1 (byF g), .var (srcD len g z.2.2.2.1 z.2.2.2.2), .row 39 L.length 1 z.2.1, .row 39 z.2.2.1.length 1 (rowsF z.2.2.1)], fun z => L.length - z.1⟩) ((0, rowsF L, [], a3, h3)) (⟨Nat.zero_le _, fun j _ _ => rfl, hSc0, Nat.zero_le _, fun j => ⟨by simp, fun h => absurd h (Nat.not_lt_zero _)⟩, ha3⟩) (Ghost.cut (Nat.le_refl _) (tauOf [0, 1, 2, 3]) _ _ (Taken.of [0, 1, 2, 3] (LeAll.cons (by rfl) (by first | with_reducible exact Root.Le.refl _ | with_reducible exact le_dead | (exact le_row (Nat.le_refl _) (fun j hj => absurd hj (Nat.not_lt_zero _))) | exact byLeq) (by exact byCon) (LeAll.cons (by rfl) (by first | with_reducible exact Root.Le.refl _ | with_reducible exact le_dead | (exact le_row (Nat.le_refl _) (fun j hj => absurd hj (Nat.not_lt_zero _))) | exact byLeq) (by exact byCon) (LeAll.cons (by rfl) (by first | with_reducible exact Root.Le.refl _ | with_reducible exact le_dead | (exact le_row (Nat.le_refl _) (fun j hj => absurd hj (Nat.not_lt_zero _))) | exact byLeq) (by exact byCon) (LeAll.cons (by rfl) (by first | with_reducible exact Root.Le.refl _ | with_reducible exact le_dead | (exact le_row (Nat.le_refl _) (fun j hj => absurd hj (Nat.not_lt_zero _))) | exact byLeq) (by exact byCon) (trivial))))) rfl rfl) (by exact bySlots)) ?_
  clear hSc0
  rintro ⟨i, F, out, c, h4⟩ ⟨hi, hF, hScF, hol, hos, hcl⟩
  dsimp only at hi hF hScF hol hos hcl
  dsimp only [Hd.at]
  have hSc := hScF
  have hnx2 := l01Next_fn len g hg c h4 4 hcl hl
  refine WP.seq ?_
  refine WP.rs T false tok (by rfl) (by exact byObl) ?_
  refine WP.cond (by rfl) (fun hc => WP.skip ?_) (fun hc => WP.exit ?_)
  · have hi : i < L.length := by have := of_decide_eq_true hc; omega
    clear hc
    have hFi := hF i (Nat.le_refl _) hi
    have hLi := hLs i
    have hLi2 := hLp i hi
    refine WP.seq (WP.block ?_)
    refine WP.rw ?_
    refine WPL.run T false 1 tok (by rfl) (by exact byObl) ?_
    refine WPL.callE [1] (hnx2) (LeAll.cons (by rfl) (by first | with_reducible exact Root.Le.refl _ | with_reducible exact le_dead | (skip; done) | exact byLeq) (by exact byCon) (trivial)) (by rfl) (by rfl) (by exact byArgs) (by rfl) (by rfl) (by simp [Sc, sc_pl, sc_ds]) ?_
    rintro _ _ ⟨y, c', h5, rfl, hy1, _, hc', rfl⟩
    refine ⟨⟨fun d hd => by cases hd; exact sc_src _ _ _ _ _, trivial⟩, .i .i64 y, ⟨rfl, trivial⟩, trivial, ?_⟩
    refine WPL.mem (by rfl) ?_
    refine WPL.fin T false tok (by rfl) (by exact byObl) ?_
    refine WP.cond (by rfl) (fun hy => ?_) (fun hy => ?_)
    · generalize hown : L.getD i [] = own at *
      refine WP.region ?_
      refine WPL.run T false 4 tok (by rfl) (by exact byObl) ?_
      refine WPL.op (by rfl) (by rfl) (QOK.op (load_row (r := 2) (j := i) (f := F) tok rfl (by show Dat.p 2 [addrAt 0 ((i : Nat) : Int).toNat] _ = Dat.p 2 [i] i; rw [addrAt0]; simp) rfl rfl hFi (by decide) hi (by omega))) ?_
      refine WPL.fin T false tok (by rfl) (by exact byObl) ?_
      refine WP.giveUp (k := 2) (i := i) (by rfl) (fup_same _ _ _) ?_
      intro v
      have hF2 : ∀ j, i + 1 ≤ j → j < L.length → fup F i (.sa v 0 own.length 1) j = owN (L.getD j []) := fun j h1 h2 => by
        rw [fup_ne _ _ (by omega)]; exact hF j (by omega) h2
      have hS2 : ∀ k e : Nat, Sc k (.ow e L.length 1 (fup F i (.sa v 0 own.length 1))) := fun k e j hj => by
        by_cases h : j = i
        · subst h; rw [fup_same]; trivial
        · rw [fup_ne _ _ h]; exact hScF k e j hj
      have hFF : ∀ x, fup (fup F i x) i (.sa v 0 own.length 1) = fup F i (.sa v 0 own.length 1) := fun x => fup_fup _ _ _ _
      generalize hFe : fup F i (.sa v 0 own.length 1) = F2 at *
      have hSc := hS2
      have hle : (out ++ [own]).length ≤ i + 1 := by simp; omega
      refine WP.run T false tok (by rfl) (by exact byObl) ?_
      refine Again.step (Ghost.giveLast 6 4 (by rfl) rfl rfl (by rfl) (by rfl) (Nat.le_refl _)) ?_
      refine Again.next ((i + 1, F2, out ++ [own], c', h5)) (Ghost.cut (Nat.le_refl _) (tauOf [0, 1, 2, 6]) _ _ (Taken.of [0, 1, 2, 6] (LeAll.cons (by rfl) (by first | with_reducible exact Root.Le.refl _ | with_reducible exact le_dead | (first | exact le_row (by simp) (fun j hj => ap_rows out own _ j (by simpa using hj)) | exact le_row (Nat.le_refl _) (fun j _ => (congrFun (hFF _) j).symm)) | exact byLeq) (by exact byCon) (LeAll.cons (by rfl) (by first | with_reducible exact Root.Le.refl _ | with_reducible exact le_dead | (first | exact le_row (by simp) (fun j hj => ap_rows out own _ j (by simpa using hj)) | exact le_row (Nat.le_refl _) (fun j _ => (congrFun (hFF _) j).symm)) | exact byLeq) (by exact byCon) (LeAll.cons (by rfl) (by first | with_reducible exact Root.Le.refl _ | with_reducible exact le_dead | (first | exact le_row (by simp) (fun j hj => ap_rows out own _ j (by simpa using hj)) | exact le_row (Nat.le_refl _) (fun j _ => (congrFun (hFF _) j).symm)) | exact byLeq) (by exact byCon) (LeAll.cons (by rfl) (by first | with_reducible exact Root.Le.refl _ | with_reducible exact le_dead | (first | exact le_row (by simp) (fun j hj => ap_rows out own _ j (by simpa using hj)) | exact le_row (Nat.le_refl _) (fun j _ => (congrFun (hFF _) j).symm)) | exact byLeq) (by exact byCon) (trivial))))) rfl rfl) (by exact bySlots)) (⟨by omega, hF2, hS2, hle, fun j => by
        rcases Nat.lt_trichotomy j out.length with h | h | h
        · rw [getD_snoc_lt _ _ _ h]; exact ⟨(hos j).1, fun _ => (hos j).2 h⟩
        · subst h; rw [getD_snoc]; exact ⟨hLi, fun _ => hLi2⟩
        · rw [List.getD_eq_getElem?_getD, List.getElem?_eq_none (by simp; omega)]; exact ⟨by simp, fun h2 => absurd h2 (by simp; omega)⟩, hc'⟩) (by dsimp only; omega)
    · refine WP.skip ?_
      refine WP.run T false tok (by rfl) (by exact byObl) ?_
      refine Again.next ((i + 1, F, out, c', h5)) (Ghost.cut (Nat.le_refl _) (tauOf [0, 1, 2, 3]) _ _ (Taken.of [0, 1, 2, 3] (LeAll.cons (by rfl) (by first | with_reducible exact Root.Le.refl _ | with_reducible exact le_dead | (skip; done) | exact byLeq) (by exact byCon) (LeAll.cons (by rfl) (by first | with_reducible exact Root.Le.refl _ | with_reducible exact le_dead | (skip; done) | exact byLeq) (by exact byCon) (LeAll.cons (by rfl) (by first | with_reducible exact Root.Le.refl _ | with_reducible exact le_dead | (skip; done) | exact byLeq) (by exact byCon) (LeAll.cons (by rfl) (by first | with_reducible exact Root.Le.refl _ | with_reducible exact le_dead | (skip; done) | exact byLeq) (by exact byCon) (trivial))))) rfl rfl) (by exact bySlots)) (⟨by omega, fun j h1 h2 => hF j (by omega) h2, hScF, Nat.le_succ_of_le hol, hos, hc'⟩) (by dsimp only; omega)
  have hi : i = L.length := by have := of_decide_eq_false hc; omega
  subst hi
  clear hc hF hScF hLs hLp
  refine WP.seq ?_
  refine WP.rs T false tok (by rfl) (by exact byObl) ?_
  have hlnR : ∀ c, c ≤ 16 → ∀ j, lnR out c j ≤ 16 := fun c h j => by
    unfold lnR
    split
    · exact h
    · exact (hos j).1
  refine WP.cond (by rfl) (fun h => ?_) (fun h => ?_)
  case refine_2 =>
    have h0 : out.length = 0 := by have := of_decide_eq_false h; omega
    refine WP.skip ?_
    refine WP.rs T false tok (by rfl) (by exact byObl) ?_
    exact WP.ret (Ends.newE [0, 3] (⟨out.length, lnR out 0, gR out (fun _ => 0), (n : Int), rfl, by omega, hlnR 0 (by omega), by omega, by omega, rfl⟩) (.inl rfl) (by rfl) (by exact byObl) (LeAll.cons (by rfl) (by first | with_reducible exact Root.Le.refl _ | with_reducible exact le_dead | (exact le_frz (Nat.le_refl _) (fun j hj => absurd hj (by omega))) | exact byLeq) (by exact byCon) (LeAll.cons (by rfl) (by first | with_reducible exact Root.Le.refl _ | with_reducible exact le_dead | (exact le_frz (Nat.le_refl _) (fun j hj => absurd hj (by omega))) | exact byLeq) (by exact byCon) (trivial))) rfl rfl (ren_t2 rfl ⟨rfl, trivial⟩) (sc_t2 (sc_sl rfl) trivial))
  have h0 : 0 < out.length := by have := of_decide_eq_true h; omega
  clear h
  obtain ⟨ho1, ho2⟩ := hos 0
  have ho2 := ho2 h0
  generalize hown : out.getD 0 [] = own at *
  refine WP.rw ?_
  refine WPL.run T false 2 tok (by rfl) (by exact byObl) ?_
  refine WPL.op (by rfl) (by rfl) (QOK.op (load_row (r := 3) (j := 0) (f := rowsF out) (k := own.length) (g := numsF own) tok rfl (by rfl) rfl rfl (show owN (out.getD 0 []) = _ by rw [hown]; rfl) (by decide) h0 (by rfl))) ?_
  refine WPL.fin T false tok (by rfl) (by exact byObl) ?_
  have hgv : ∀ (x : Dat) (j : Nat), rowsG (lnR out own.length) (gR out (fun t => ((own.getD t 0 : Nat) : Int))) j = fup (fup (rowsF out) 0 x) 0 (.ow 2 own.length 1 (numsF own)) j := fun x j => rowsG_up out own.length _ x j
  have hnx3 := l01Next_fn len g hg c h4 16 hcl hl
  refine WP.rw ?_
  refine WPL.run T false 1 tok (by rfl) (by exact byObl) ?_
  refine WPL.callE [1] (hnx3) (LeAll.cons (by rfl) (by first | with_reducible exact Root.Le.refl _ | with_reducible exact le_dead | (skip; done) | exact byLeq) (by exact byCon) (trivial)) (by rfl) (by rfl) (by exact byArgs) (by rfl) (by rfl) (by simp [Sc, sc_pl, sc_ds]) ?_
  rintro _ _ ⟨z, c', h5, rfl, hz1, _, hc', rfl⟩
  refine ⟨⟨fun d hd => by cases hd; exact sc_src _ _ _ _ _, trivial⟩, .i .i64 z, ⟨rfl, trivial⟩, trivial, ?_⟩
  refine WPL.mem (by rfl) ?_
  refine WPL.fin T false tok (by rfl) (by exact byObl) ?_
  refine WP.block ?_
  refine WP.rs T false tok (by rfl) (by exact byObl) ?_
  refine WP.cond (by rfl) (fun hz => ?_) (fun hz => ?_)
  · let F2 : Nat → Int := fun j => if j = 0 then -1 else if j = 1 then (n : Int) else 0
    have hpk2 := l01Pick_fn len g hg c' h5 3 F2 (by omega) (by omega) hc' hl
    refine WP.region ?_
    refine WPL.run T false 4 tok (by rfl) (by exact byObl) ?_
    refine WPL.callE [1, 5] (hpk2) (LeAll.cons (by rfl) (by first | with_reducible exact Root.Le.refl _ | with_reducible exact le_dead | (exact le_row (Nat.le_refl _) (fun j hj => by obtain rfl | rfl | rfl : j = 0 ∨ j = 1 ∨ j = 2 := (by omega) <;> rfl)) | exact byLeq) (by exact byCon) (LeAll.cons (by rfl) (by first | with_reducible exact Root.Le.refl _ | with_reducible exact le_dead | (exact le_row (Nat.le_refl _) (fun j hj => by obtain rfl | rfl | rfl : j = 0 ∨ j = 1 ∨ j = 2 := (by omega) <;> rfl)) | exact byLeq) (by exact byCon) (trivial))) (by rfl) (by rfl) (by exact byArgs) (by rfl) (by rfl) (by simp [Sc, sc_pl, sc_ds]) ?_
    rintro _ _ ⟨j2, c2, h6, rfl, hj2, hc2, rfl⟩
    refine ⟨⟨fun d hd => by cases hd; exact sc_src _ _ _ _ _, fun d hd => by cases hd; exact fun _ _ => trivial, trivial⟩, .i .i64 (F2 j2), ⟨rfl, trivial⟩, trivial, ?_⟩
    refine WPL.mem (by rfl) ?_
    refine WPL.fin T false tok (by rfl) (by exact byObl) ?_
    refine WP.ghost (Ghost.give 3 0 4 (by rfl) h0 (fup_same _ _ _) rfl rfl (by rfl) (Nat.le_refl _)) ?_
    refine WP.rs T false tok (by rfl) (by exact byObl) ?_
    exact WP.ret (Ends.newE [0, 3] (⟨out.length, lnR out own.length, gR out (fun t => if t = 0 then F2 j2 else ((own.getD t 0 : Nat) : Int)), (n : Int), rfl, by omega, hlnR _ ho1, by omega, by omega, rfl⟩) (.inl rfl) (by rfl) (by exact byObl) (LeAll.cons (by rfl) (by first | with_reducible exact Root.Le.refl _ | with_reducible exact le_dead | (exact rowsG_set (by rw [← nums_up]; rfl) (Nat.le_refl _)) | exact byLeq) (by exact byCon) (LeAll.cons (by rfl) (by first | with_reducible exact Root.Le.refl _ | with_reducible exact le_dead | (exact rowsG_set (by rw [← nums_up]; rfl) (Nat.le_refl _)) | exact byLeq) (by exact byCon) (trivial))) rfl rfl (ren_t2 rfl ⟨rfl, trivial⟩) (sc_t2 (sc_sl rfl) trivial))
  refine WP.rs T false tok (by rfl) (by exact byObl) ?_
  refine WP.cond (by rfl) (fun hz2 => ?_) (fun hz2 => ?_)
  · refine WP.region ?_
    refine WPL.fin T false tok (by rfl) (by exact byObl) ?_
    refine WP.nilIn (k := 3) (i := 0) (e := 2) (s := 1) (g := fun t => .i .i64 0) (by rfl) (fup_same _ _ _) h0 ?_
    refine WP.rs T false tok (by rfl) (by exact byObl) ?_
    exact WP.ret (Ends.newE [0, 3] (⟨out.length, lnR out 0, gR out (fun t => 0), (n : Int), rfl, by omega, hlnR _ (by omega), by omega, by omega, rfl⟩) (.inl rfl) (by rfl) (by exact byObl) (LeAll.cons (by rfl) (by first | with_reducible exact Root.Le.refl _ | with_reducible exact le_dead | (exact le_ro (Nat.le_refl _) (fun j _ => rowsG_nil out 0 _ _ _ j)) | exact byLeq) (by exact byCon) (LeAll.cons (by rfl) (by first | with_reducible exact Root.Le.refl _ | with_reducible exact le_dead | (exact le_ro (Nat.le_refl _) (fun j _ => rowsG_nil out 0 _ _ _ j)) | exact byLeq) (by exact byCon) (trivial))) rfl rfl (ren_t2 rfl ⟨rfl, trivial⟩) (sc_t2 (sc_sl rfl) trivial))
  refine WP.rs T false tok (by rfl) (by exact byObl) ?_
  refine WP.cond (by rfl) (fun hz3 => ?_) (fun hz3 => ?_)
  · let F3 : Nat → Int := fun j => if j = 0 then 0 else if j = 1 then 17 else (n : Int) - 1
    have hpk3 := l01Pick_fn len g hg c' h5 3 F3 (by omega) (by omega) hc' hl
    refine WP.region ?_
    refine WPL.run T false 4 tok (by rfl) (by exact byObl) ?_
    refine WPL.callE [1, 5] (hpk3) (LeAll.cons (by rfl) (by first | with_reducible exact Root.Le.refl _ | with_reducible exact le_dead | (exact le_row (Nat.le_refl _) (fun j hj => by obtain rfl | rfl | rfl : j = 0 ∨ j = 1 ∨ j = 2 := (by omega) <;> rfl)) | exact byLeq) (by exact byCon) (LeAll.cons (by rfl) (by first | with_reducible exact Root.Le.refl _ | with_reducible exact le_dead | (exact le_row (Nat.le_refl _) (fun j hj => by obtain rfl | rfl | rfl : j = 0 ∨ j = 1 ∨ j = 2 := (by omega) <;> rfl)) | exact byLeq) (by exact byCon) (trivial))) (by rfl) (by rfl) (by exact byArgs) (by rfl) (by rfl) (by simp [Sc, sc_pl, sc_ds]) ?_
    rintro _ _ ⟨j3, c2, h6, rfl, hj3, hc2, rfl⟩
    have hF3 : -1 ≤ F3 j3 ∧ F3 j3 ≤ 17 := by
      show -1 ≤ (if j3 = 0 then (0 : Int) else if j3 = 1 then 17 else (n : Int) - 1) ∧ (if j3 = 0 then (0 : Int) else if j3 = 1 then 17 else (n : Int) - 1) ≤ 17
      obtain rfl | rfl | rfl : j3 = 0 ∨ j3 = 1 ∨ j3 = 2 := by omega
      · exact ⟨(show (-1 : Int) ≤ 0 by decide), (show (0 : Int) ≤ 17 by decide)⟩
      · exact ⟨(show (-1 : Int) ≤ 17 by decide), (show (17 : Int) ≤ 17 by decide)⟩
      · show -1 ≤ (n : Int) - 1 ∧ (n : Int) - 1 ≤ 17; omega
    refine ⟨⟨fun d hd => by cases hd; exact sc_src _ _ _ _ _, fun d hd => by cases hd; exact fun _ _ => trivial, trivial⟩, .i .i64 (F3 j3), ⟨rfl, trivial⟩, trivial, ?_⟩
    refine WPL.mem (by rfl) ?_
    refine WPL.fin T false tok (by rfl) (by exact byObl) ?_
    refine WP.ghost (Ghost.give 3 0 4 (by rfl) h0 (fup_same _ _ _) rfl rfl (by rfl) (Nat.le_refl _)) ?_
    refine WP.rs T false tok (by rfl) (by exact byObl) ?_
    exact WP.ret (Ends.newE [0, 3] (⟨out.length, lnR out own.length, gR out (fun t => ((own.getD t 0 : Nat) : Int)), F3 j3, rfl, by omega, hlnR _ ho1, hF3.1, hF3.2, rfl⟩) (.inl rfl) (by rfl) (by exact byObl) (LeAll.cons (by rfl) (by first | with_reducible exact Root.Le.refl _ | with_reducible exact le_dead | (exact le_frz (Nat.le_refl _) (fun j _ => hgv _ j)) | exact byLeq) (by exact byCon) (LeAll.cons (by rfl) (by first | with_reducible exact Root.Le.refl _ | with_reducible exact le_dead | (exact le_frz (Nat.le_refl _) (fun j _ => hgv _ j)) | exact byLeq) (by exact byCon) (trivial))) rfl rfl (ren_t2 rfl ⟨rfl, trivial⟩) (sc_t2 (sc_sl rfl) trivial))
  refine WP.rs T false tok (by rfl) (by exact byObl) ?_
  refine WP.cond (by rfl) (fun hz4 => ?_) (fun hz4 => ?_)
  · have hnp2 : ∀ j, Pl (numsF own (1 + j)) := fun _ => trivial
    have hnp1 : ∀ j, Pl (numsF [] (0 + j)) := fun _ => trivial
    by_cases hk : own.length = 1
    · obtain ⟨a, rfl⟩ : ∃ a, own = [a] := List.length_eq_one_iff.1 hk
      have hown := l01OwnT_fn [] 0 0 (Nat.le_refl _) (Nat.zero_le _)
      have hc0 : ∀ t, t < 0 → (fun j => numsF [] (0 + j)) t = numsF [a] (1 + t) := fun t ht => absurd ht (Nat.not_lt_zero _)
      refine WP.da (by kernel_rfl) 8 (by kernel_rfl) ?_
      refine WA.takesD T false tok [0, 1, 4] (f' := 8) (by kernel_rfl) (by rfl) (by rfl) (by exact byObl) (by rfl) (by rfl) ?_
      refine WA.allT [2, 5] (by kernel_rfl) (by simp) ?_; intro i' hi'; simp only [List.mem_cons, List.not_mem_nil, or_false] at hi'
      rcases hi' with rfl | rfl
      · refine ⟨_, _, _, rfl, by rfl, by rfl, .inl (MK.q (sle_ok (l := 1) tok (numsF []) rfl rfl rfl rfl rfl rfl rfl (by omega))), ?_⟩
        refine WA.allT [3, 5] (by kernel_rfl) (by simp) ?_; intro i' hi'; simp only [List.mem_cons, List.not_mem_nil, or_false] at hi'
        rcases hi' with rfl | rfl
        · refine ⟨_, _, _, rfl, by rfl, by rfl, .inl (MK.call [5] (.sl 6 0 0 1) (hown) (LeAll.cons (by rfl) (by first | with_reducible exact Root.Le.refl _ | with_reducible exact le_dead | (skip; done) | exact byLeq) (by exact byCon) (trivial)) (by rfl) (by exact .inr (ownNew_row (fun j _ => hnp1 j))) (by rfl) (by exact byArgs) (by simp [Sc, sc_pl, sc_ds]) (by exact byAllc) (by exact rfl) (by exact bySc) (by rfl)), ?_⟩
          refine WA.allT [5] (by kernel_rfl) (by simp) ?_; intro i' hi'; simp only [List.mem_cons, List.not_mem_nil, or_false] at hi'
          subst hi'
          refine ⟨_, _, _, rfl, by rfl, by rfl, .inl (MK.q (evalOp_q tok (wm := false) (by rfl) (by rfl) (by exact byObl))), ?_⟩
          refine WA.allT [6] (by kernel_rfl) (by simp) ?_; intro i' hi'; simp only [List.mem_cons, List.not_mem_nil, or_false] at hi'
          subst hi'
          refine ⟨_, _, _, rfl, by rfl, by rfl, .inl (MK.q (evalOp_q tok (wm := false) (by rfl) (by rfl) (by exact byObl))), ?_⟩
          refine WA.allT [7] (by kernel_rfl) (by simp) ?_; intro i' hi'; simp only [List.mem_cons, List.not_mem_nil, or_false] at hi'
          subst hi'
          refine ⟨_, _, _, rfl, by rfl, by rfl, .inl (MK.of tok (wm := false) (by rfl) (by exact byObl) (by rfl) (by exact byObl)), ?_⟩
          refine WA.allT [8] (by kernel_rfl) (by simp) ?_; intro i' hi'; simp only [List.mem_cons, List.not_mem_nil, or_false] at hi'
          subst hi'
          refine ⟨_, _, _, rfl, by rfl, by rfl, .inr ⟨by decide, TK.of tok (wm := false) (by rfl) (by exact byObl)⟩, ?_⟩
          refine WA.allT [9] (by kernel_rfl) (by simp) ?_; intro i' hi'; simp only [List.mem_cons, List.not_mem_nil, or_false] at hi'
          subst hi'
          refine ⟨_, _, _, rfl, by rfl, by rfl, .inl (MK.q (evalOp_q tok (wm := false) (by rfl) (by rfl) (by exact byObl))), ?_⟩
          refine WA.allT [10] (by kernel_rfl) (by simp) ?_; intro i' hi'; simp only [List.mem_cons, List.not_mem_nil, or_false] at hi'
          subst hi'
          refine ⟨_, _, _, rfl, by rfl, by rfl, .inr ⟨by decide, TK.of tok (wm := false) (by rfl) (by exact byObl)⟩, ?_⟩
          refine WA.end rfl (by kernel_rfl) (noPan ?_)
          refine WP.ghost (Ghost.give 3 0 8 (by rfl) h0 (fup_same _ _ _) rfl rfl (by rfl) (Nat.le_refl _)) ?_
          refine WP.rs T false tok (by rfl) (by exact byObl) ?_
          exact WP.ret (Ends.newE [0, 3] (⟨out.length, lnR out (0 + 1), gR out (gT [a] 0), (n : Int), rfl, by omega, hlnR _ (by omega), by omega, by omega, rfl⟩) (.inl rfl) (by rfl) (by exact byObl) (LeAll.cons (by rfl) (by first | with_reducible exact Root.Le.refl _ | with_reducible exact le_dead | (exact rowsG_setT hc0 rfl (Nat.le_refl _)) | exact byLeq) (by exact byCon) (LeAll.cons (by rfl) (by first | with_reducible exact Root.Le.refl _ | with_reducible exact le_dead | (exact rowsG_setT hc0 rfl (Nat.le_refl _)) | exact byLeq) (by exact byCon) (trivial))) rfl rfl (ren_t2 rfl ⟨rfl, trivial⟩) (sc_t2 (sc_sl rfl) trivial))
        · refine ⟨_, _, _, rfl, by rfl, by rfl, .inl (MK.q (evalOp_q tok (wm := false) (by rfl) (by rfl) (by exact byObl))), ?_⟩
          refine WA.allT [3, 6] (by kernel_rfl) (by simp) ?_; intro i' hi'; simp only [List.mem_cons, List.not_mem_nil, or_false] at hi'
          rcases hi' with rfl | rfl
          · refine ⟨_, _, _, rfl, by rfl, by rfl, .inl (MK.call [5] (.sl 6 0 0 1) (hown) (LeAll.cons (by rfl) (by first | with_reducible exact Root.Le.refl _ | with_reducible exact le_dead | (skip; done) | exact byLeq) (by exact byCon) (trivial)) (by rfl) (by exact .inr (ownNew_row (fun j _ => hnp1 j))) (by rfl) (by exact byArgs) (by simp [Sc, sc_pl, sc_ds]) (by exact byAllc) (by exact rfl) (by exact bySc) (by rfl)), ?_⟩
            refine WA.allT [6] (by kernel_rfl) (by simp) ?_; intro i' hi'; simp only [List.mem_cons, List.not_mem_nil, or_false] at hi'
            subst hi'
            refine ⟨_, _, _, rfl, by rfl, by rfl, .inl (MK.q (evalOp_q tok (wm := false) (by rfl) (by rfl) (by exact byObl))), ?_⟩
            refine WA.allT [7] (by kernel_rfl) (by simp) ?_; intro i' hi'; simp only [List.mem_cons, List.not_mem_nil, or_false] at hi'
            subst hi'
            refine ⟨_, _, _, rfl, by rfl, by rfl, .inl (MK.of tok (wm := false) (by rfl) (by exact byObl) (by rfl) (by exact byObl)), ?_⟩
            refine WA.allT [8] (by kernel_rfl) (by simp) ?_; intro i' hi'; simp only [List.mem_cons, List.not_mem_nil, or_false] at hi'
            subst hi'
            refine ⟨_, _, _, rfl, by rfl, by rfl, .inr ⟨by decide, TK.of tok (wm := false) (by rfl) (by exact byObl)⟩, ?_⟩
            refine WA.allT [9] (by kernel_rfl) (by simp) ?_; intro i' hi'; simp only [List.mem_cons, List.not_mem_nil, or_false] at hi'
            subst hi'
            refine ⟨_, _, _, rfl, by rfl, by rfl, .inl (MK.q (evalOp_q tok (wm := false) (by rfl) (by rfl) (by exact byObl))), ?_⟩
            refine WA.allT [10] (by kernel_rfl) (by simp) ?_; intro i' hi'; simp only [List.mem_cons, List.not_mem_nil, or_false] at hi'
            subst hi'
            refine ⟨_, _, _, rfl, by rfl, by rfl, .inr ⟨by decide, TK.of tok (wm := false) (by rfl) (by exact byObl)⟩, ?_⟩
            refine WA.end rfl (by kernel_rfl) (noPan ?_)
            refine WP.ghost (Ghost.give 3 0 8 (by rfl) h0 (fup_same _ _ _) rfl rfl (by rfl) (Nat.le_refl _)) ?_
            refine WP.rs T false tok (by rfl) (by exact byObl) ?_
            exact WP.ret (Ends.newE [0, 3] (⟨out.length, lnR out (0 + 1), gR out (gT [a] 0), (n : Int), rfl, by omega, hlnR _ (by omega), by omega, by omega, rfl⟩) (.inl rfl) (by rfl) (by exact byObl) (LeAll.cons (by rfl) (by first | with_reducible exact Root.Le.refl _ | with_reducible exact le_dead | (exact rowsG_setT hc0 rfl (Nat.le_refl _)) | exact byLeq) (by exact byCon) (LeAll.cons (by rfl) (by first | with_reducible exact Root.Le.refl _ | with_reducible exact le_dead | (exact rowsG_setT hc0 rfl (Nat.le_refl _)) | exact byLeq) (by exact byCon) (trivial))) rfl rfl (ren_t2 rfl ⟨rfl, trivial⟩) (sc_t2 (sc_sl rfl) trivial))
          · refine ⟨_, _, _, rfl, by rfl, by rfl, .inl (MK.q (evalOp_q tok (wm := false) (by rfl) (by rfl) (by exact byObl))), ?_⟩
            refine WA.allT [3, 7] (by kernel_rfl) (by simp) ?_; intro i' hi'; simp only [List.mem_cons, List.not_mem_nil, or_false] at hi'
            rcases hi' with rfl | rfl
            · refine ⟨_, _, _, rfl, by rfl, by rfl, .inl (MK.call [5] (.sl 6 0 0 1) (hown) (LeAll.cons (by rfl) (by first | with_reducible exact Root.Le.refl _ | with_reducible exact le_dead | (skip; done) | exact byLeq) (by exact byCon) (trivial)) (by rfl) (by exact .inr (ownNew_row (fun j _ => hnp1 j))) (by rfl) (by exact byArgs) (by simp [Sc, sc_pl, sc_ds]) (by exact byAllc) (by exact rfl) (by exact bySc) (by rfl)), ?_⟩
              refine WA.allT [7] (by kernel_rfl) (by simp) ?_; intro i' hi'; simp only [List.mem_cons, List.not_mem_nil, or_false] at hi'
              subst hi'
              refine ⟨_, _, _, rfl, by rfl, by rfl, .inl (MK.of tok (wm := false) (by rfl) (by exact byObl) (by rfl) (by exact byObl)), ?_⟩
              refine WA.allT [8] (by kernel_rfl) (by simp) ?_; intro i' hi'; simp only [List.mem_cons, List.not_mem_nil, or_false] at hi'
              subst hi'
              refine ⟨_, _, _, rfl, by rfl, by rfl, .inr ⟨by decide, TK.of tok (wm := false) (by rfl) (by exact byObl)⟩, ?_⟩
              refine WA.allT [9] (by kernel_rfl) (by simp) ?_; intro i' hi'; simp only [List.mem_cons, List.not_mem_nil, or_false] at hi'
              subst hi'
              refine ⟨_, _, _, rfl, by rfl, by rfl, .inl (MK.q (evalOp_q tok (wm := false) (by rfl) (by rfl) (by exact byObl))), ?_⟩
              refine WA.allT [10] (by kernel_rfl) (by simp) ?_; intro i' hi'; simp only [List.mem_cons, List.not_mem_nil, or_false] at hi'
              subst hi'
              refine ⟨_, _, _, rfl, by rfl, by rfl, .inr ⟨by decide, TK.of tok (wm := false) (by rfl) (by exact byObl)⟩, ?_⟩
              refine WA.end rfl (by kernel_rfl) (noPan ?_)
              refine WP.ghost (Ghost.give 3 0 8 (by rfl) h0 (fup_same _ _ _) rfl rfl (by rfl) (Nat.le_refl _)) ?_
              refine WP.rs T false tok (by rfl) (by exact byObl) ?_
              exact WP.ret (Ends.newE [0, 3] (⟨out.length, lnR out (0 + 1), gR out (gT [a] 0), (n : Int), rfl, by omega, hlnR _ (by omega), by omega, by omega, rfl⟩) (.inl rfl) (by rfl) (by exact byObl) (LeAll.cons (by rfl) (by first | with_reducible exact Root.Le.refl _ | with_reducible exact le_dead | (exact rowsG_setT hc0 rfl (Nat.le_refl _)) | exact byLeq) (by exact byCon) (LeAll.cons (by rfl) (by first | with_reducible exact Root.Le.refl _ | with_reducible exact le_dead | (exact rowsG_setT hc0 rfl (Nat.le_refl _)) | exact byLeq) (by exact byCon) (trivial))) rfl rfl (ren_t2 rfl ⟨rfl, trivial⟩) (sc_t2 (sc_sl rfl) trivial))
            · refine ⟨_, _, _, rfl, by rfl, by rfl, .inl (MK.of tok (wm := false) (by rfl) (by exact byObl) (by rfl) (by exact byObl)), ?_⟩
              refine WA.allT [3] (by kernel_rfl) (by simp) ?_; intro i' hi'; simp only [List.mem_cons, List.not_mem_nil, or_false] at hi'
              subst hi'
              refine ⟨_, _, _, rfl, by rfl, by rfl, .inl (MK.call [5] (.sl 7 0 0 1) (hown) (LeAll.cons (by rfl) (by first | with_reducible exact Root.Le.refl _ | with_reducible exact le_dead | (skip; done) | exact byLeq) (by exact byCon) (trivial)) (by rfl) (by exact .inr (ownNew_row (fun j _ => hnp1 j))) (by rfl) (by exact byArgs) (by simp [Sc, sc_pl, sc_ds]) (by exact byAllc) (by exact rfl) (by exact bySc) (by rfl)), ?_⟩
              refine WA.allT [8] (by kernel_rfl) (by simp) ?_; intro i' hi'; simp only [List.mem_cons, List.not_mem_nil, or_false] at hi'
              subst hi'
              refine ⟨_, _, _, rfl, by rfl, by rfl, .inr ⟨by decide, TK.of tok (wm := false) (by rfl) (by exact byObl)⟩, ?_⟩
              refine WA.allT [9] (by kernel_rfl) (by simp) ?_; intro i' hi'; simp only [List.mem_cons, List.not_mem_nil, or_false] at hi'
              subst hi'
              refine ⟨_, _, _, rfl, by rfl, by rfl, .inl (MK.q (evalOp_q tok (wm := false) (by rfl) (by rfl) (by exact byObl))), ?_⟩
              refine WA.allT [10] (by kernel_rfl) (by simp) ?_; intro i' hi'; simp only [List.mem_cons, List.not_mem_nil, or_false] at hi'
              subst hi'
              refine ⟨_, _, _, rfl, by rfl, by rfl, .inr ⟨by decide, TK.of tok (wm := false) (by rfl) (by exact byObl)⟩, ?_⟩
              refine WA.end rfl (by kernel_rfl) (noPan ?_)
              refine WP.ghost (Ghost.give 3 0 8 (by rfl) h0 (fup_same _ _ _) rfl rfl (by rfl) (Nat.le_refl _)) ?_
              refine WP.rs T false tok (by rfl) (by exact byObl) ?_
              exact WP.ret (Ends.newE [0, 3] (⟨out.length, lnR out (0 + 1), gR out (gT [a] 0), (n : Int), rfl, by omega, hlnR _ (by omega), by omega, by omega, rfl⟩) (.inl rfl) (by rfl) (by exact byObl) (LeAll.cons (by rfl) (by first | with_reducible exact Root.Le.refl _ | with_reducible exact le_dead | (exact rowsG_setT hc0 rfl (Nat.le_refl _)) | exact byLeq) (by exact byCon) (LeAll.cons (by rfl) (by first | with_reducible exact Root.Le.refl _ | with_reducible exact le_dead | (exact rowsG_setT hc0 rfl (Nat.le_refl _)) | exact byLeq) (by exact byCon) (trivial))) rfl rfl (ren_t2 rfl ⟨rfl, trivial⟩) (sc_t2 (sc_sl rfl) trivial))
      · refine ⟨_, _, _, rfl, by rfl, by rfl, .inl (MK.q (evalOp_q tok (wm := false) (by rfl) (by rfl) (by exact byObl))), ?_⟩
        refine WA.allT [2, 6] (by kernel_rfl) (by simp) ?_; intro i' hi'; simp only [List.mem_cons, List.not_mem_nil, or_false] at hi'
        rcases hi' with rfl | rfl
        · refine ⟨_, _, _, rfl, by rfl, by rfl, .inl (MK.q (sle_ok (l := 1) tok (numsF []) rfl rfl rfl rfl rfl rfl rfl (by omega))), ?_⟩
          refine WA.allT [3, 6] (by kernel_rfl) (by simp) ?_; intro i' hi'; simp only [List.mem_cons, List.not_mem_nil, or_false] at hi'
          rcases hi' with rfl | rfl
          · refine ⟨_, _, _, rfl, by rfl, by rfl, .inl (MK.call [5] (.sl 6 0 0 1) (hown) (LeAll.cons (by rfl) (by first | with_reducible exact Root.Le.refl _ | with_reducible exact le_dead | (skip; done) | exact byLeq) (by exact byCon) (trivial)) (by rfl) (by exact .inr (ownNew_row (fun j _ => hnp1 j))) (by rfl) (by exact byArgs) (by simp [Sc, sc_pl, sc_ds]) (by exact byAllc) (by exact rfl) (by exact bySc) (by rfl)), ?_⟩
            refine WA.allT [6] (by kernel_rfl) (by simp) ?_; intro i' hi'; simp only [List.mem_cons, List.not_mem_nil, or_false] at hi'
            subst hi'
            refine ⟨_, _, _, rfl, by rfl, by rfl, .inl (MK.q (evalOp_q tok (wm := false) (by rfl) (by rfl) (by exact byObl))), ?_⟩
            refine WA.allT [7] (by kernel_rfl) (by simp) ?_; intro i' hi'; simp only [List.mem_cons, List.not_mem_nil, or_false] at hi'
            subst hi'
            refine ⟨_, _, _, rfl, by rfl, by rfl, .inl (MK.of tok (wm := false) (by rfl) (by exact byObl) (by rfl) (by exact byObl)), ?_⟩
            refine WA.allT [8] (by kernel_rfl) (by simp) ?_; intro i' hi'; simp only [List.mem_cons, List.not_mem_nil, or_false] at hi'
            subst hi'
            refine ⟨_, _, _, rfl, by rfl, by rfl, .inr ⟨by decide, TK.of tok (wm := false) (by rfl) (by exact byObl)⟩, ?_⟩
            refine WA.allT [9] (by kernel_rfl) (by simp) ?_; intro i' hi'; simp only [List.mem_cons, List.not_mem_nil, or_false] at hi'
            subst hi'
            refine ⟨_, _, _, rfl, by rfl, by rfl, .inl (MK.q (evalOp_q tok (wm := false) (by rfl) (by rfl) (by exact byObl))), ?_⟩
            refine WA.allT [10] (by kernel_rfl) (by simp) ?_; intro i' hi'; simp only [List.mem_cons, List.not_mem_nil, or_false] at hi'
            subst hi'
            refine ⟨_, _, _, rfl, by rfl, by rfl, .inr ⟨by decide, TK.of tok (wm := false) (by rfl) (by exact byObl)⟩, ?_⟩
            refine WA.end rfl (by kernel_rfl) (noPan ?_)
            refine WP.ghost (Ghost.give 3 0 8 (by rfl) h0 (fup_same _ _ _) rfl rfl (by rfl) (Nat.le_refl _)) ?_
            refine WP.rs T false tok (by rfl) (by exact byObl) ?_
            exact WP.ret (Ends.newE [0, 3] (⟨out.length, lnR out (0 + 1), gR out (gT [a] 0), (n : Int), rfl, by omega, hlnR _ (by omega), by omega, by omega, rfl⟩) (.inl rfl) (by rfl) (by exact byObl) (LeAll.cons (by rfl) (by first | with_reducible exact Root.Le.refl _ | with_reducible exact le_dead | (exact rowsG_setT hc0 rfl (Nat.le_refl _)) | exact byLeq) (by exact byCon) (LeAll.cons (by rfl) (by first | with_reducible exact Root.Le.refl _ | with_reducible exact le_dead | (exact rowsG_setT hc0 rfl (Nat.le_refl _)) | exact byLeq) (by exact byCon) (trivial))) rfl rfl (ren_t2 rfl ⟨rfl, trivial⟩) (sc_t2 (sc_sl rfl) trivial))
          · refine ⟨_, _, _, rfl, by rfl, by rfl, .inl (MK.q (evalOp_q tok (wm := false) (by rfl) (by rfl) (by exact byObl))), ?_⟩
            refine WA.allT [3, 7] (by kernel_rfl) (by simp) ?_; intro i' hi'; simp only [List.mem_cons, List.not_mem_nil, or_false] at hi'
            rcases hi' with rfl | rfl
            · refine ⟨_, _, _, rfl, by rfl, by rfl, .inl (MK.call [5] (.sl 6 0 0 1) (hown) (LeAll.cons (by rfl) (by first | with_reducible exact Root.Le.refl _ | with_reducible exact le_dead | (skip; done) | exact byLeq) (by exact byCon) (trivial)) (by rfl) (by exact .inr (ownNew_row (fun j _ => hnp1 j))) (by rfl) (by exact byArgs) (by simp [Sc, sc_pl, sc_ds]) (by exact byAllc) (by exact rfl) (by exact bySc) (by rfl)), ?_⟩
              refine WA.allT [7] (by kernel_rfl) (by simp) ?_; intro i' hi'; simp only [List.mem_cons, List.not_mem_nil, or_false] at hi'
              subst hi'
              refine ⟨_, _, _, rfl, by rfl, by rfl, .inl (MK.of tok (wm := false) (by rfl) (by exact byObl) (by rfl) (by exact byObl)), ?_⟩
              refine WA.allT [8] (by kernel_rfl) (by simp) ?_; intro i' hi'; simp only [List.mem_cons, List.not_mem_nil, or_false] at hi'
              subst hi'
              refine ⟨_, _, _, rfl, by rfl, by rfl, .inr ⟨by decide, TK.of tok (wm := false) (by rfl) (by exact byObl)⟩, ?_⟩
              refine WA.allT [9] (by kernel_rfl) (by simp) ?_; intro i' hi'; simp only [List.mem_cons, List.not_mem_nil, or_false] at hi'
              subst hi'
              refine ⟨_, _, _, rfl, by rfl, by rfl, .inl (MK.q (evalOp_q tok (wm := false) (by rfl) (by rfl) (by exact byObl))), ?_⟩
              refine WA.allT [10] (by kernel_rfl) (by simp) ?_; intro i' hi'; simp only [List.mem_cons, List.not_mem_nil, or_false] at hi'
              subst hi'
              refine ⟨_, _, _, rfl, by rfl, by rfl, .inr ⟨by decide, TK.of tok (wm := false) (by rfl) (by exact byObl)⟩, ?_⟩
              refine WA.end rfl (by kernel_rfl) (noPan ?_)
              refine WP.ghost (Ghost.give 3 0 8 (by rfl) h0 (fup_same _ _ _) rfl rfl (by rfl) (Nat.le_refl _)) ?_
              refine WP.rs T false tok (by rfl) (by exact byObl) ?_
              exact WP.ret (Ends.newE [0, 3] (⟨out.length, lnR out (0 + 1), gR out (gT [a] 0), (n : Int), rfl, by omega, hlnR _ (by omega), by omega, by omega, rfl⟩) (.inl rfl) (by rfl) (by exact byObl) (LeAll.cons (by rfl) (by first | with_reducible exact Root.Le.refl _ | with_reducible exact le_dead | (exact rowsG_setT hc0 rfl (Nat.le_refl _)) | exact byLeq) (by exact byCon) (LeAll.cons (by rfl) (by first | with_reducible exact Root.Le.refl _ | with_reducible exact le_dead | (exact rowsG_setT hc0 rfl (Nat.le_refl _)) | exact byLeq) (by exact byCon) (trivial))) rfl rfl (ren_t2 rfl ⟨rfl, trivial⟩) (sc_t2 (sc_sl rfl) trivial))
            · refine ⟨_, _, _, rfl, by rfl, by rfl, .inl (MK.of tok (wm := false) (by rfl) (by exact byObl) (by rfl) (by exact byObl)), ?_⟩
              refine WA.allT [3] (by kernel_rfl) (by simp) ?_; intro i' hi'; simp only [List.mem_cons, List.not_mem_nil, or_false] at hi'
              subst hi'
              refine ⟨_, _, _, rfl, by rfl, by rfl, .inl (MK.call [5] (.sl 7 0 0 1) (hown) (LeAll.cons (by rfl) (by first | with_reducible exact Root.Le.refl _ | with_reducible exact le_dead | (skip; done) | exact byLeq) (by exact byCon) (trivial)) (by rfl) (by exact .inr (ownNew_row (fun j _ => hnp1 j))) (by rfl) (by exact byArgs) (by simp [Sc, sc_pl, sc_ds]) (by exact byAllc) (by exact rfl) (by exact bySc) (by rfl)), ?_⟩
              refine WA.allT [8] (by kernel_rfl) (by simp) ?_; intro i' hi'; simp only [List.mem_cons, List.not_mem_nil, or_false] at hi'
              subst hi'
              refine ⟨_, _, _, rfl, by rfl, by rfl, .inr ⟨by decide, TK.of tok (wm := false) (by rfl) (by exact byObl)⟩, ?_⟩
              refine WA.allT [9] (by kernel_rfl) (by simp) ?_; intro i' hi'; simp only [List.mem_cons, List.not_mem_nil, or_false] at hi'
              subst hi'
              refine ⟨_, _, _, rfl, by rfl, by rfl, .inl (MK.q (evalOp_q tok (wm := false) (by rfl) (by rfl) (by exact byObl))), ?_⟩
              refine WA.allT [10] (by kernel_rfl) (by simp) ?_; intro i' hi'; simp only [List.mem_cons, List.not_mem_nil, or_false] at hi'
              subst hi'
              refine ⟨_, _, _, rfl, by rfl, by rfl, .inr ⟨by decide, TK.of tok (wm := false) (by rfl) (by exact byObl)⟩, ?_⟩
              refine WA.end rfl (by kernel_rfl) (noPan ?_)
              refine WP.ghost (Ghost.give 3 0 8 (by rfl) h0 (fup_same _ _ _) rfl rfl (by rfl) (Nat.le_refl _)) ?_
              refine WP.rs T false tok (by rfl) (by exact byObl) ?_
              exact WP.ret (Ends.newE [0, 3] (⟨out.length, lnR out (0 + 1), gR out (gT [a] 0), (n : Int), rfl, by omega, hlnR _ (by omega), by omega, by omega, rfl⟩) (.inl rfl) (by rfl) (by exact byObl) (LeAll.cons (by rfl) (by first | with_reducible exact Root.Le.refl _ | with_reducible exact le_dead | (exact rowsG_setT hc0 rfl (Nat.le_refl _)) | exact byLeq) (by exact byCon) (LeAll.cons (by rfl) (by first | with_reducible exact Root.Le.refl _ | with_reducible exact le_dead | (exact rowsG_setT hc0 rfl (Nat.le_refl _)) | exact byLeq) (by exact byCon) (trivial))) rfl rfl (ren_t2 rfl ⟨rfl, trivial⟩) (sc_t2 (sc_sl rfl) trivial))
        · refine ⟨_, _, _, rfl, by rfl, by rfl, .inl (MK.q (evalOp_q tok (wm := false) (by rfl) (by rfl) (by exact byObl))), ?_⟩
          refine WA.allT [2, 7] (by kernel_rfl) (by simp) ?_; intro i' hi'; simp only [List.mem_cons, List.not_mem_nil, or_false] at hi'
          rcases hi' with rfl | rfl
          · refine ⟨_, _, _, rfl, by rfl, by rfl, .inl (MK.q (sle_ok (l := 1) tok (numsF []) rfl rfl rfl rfl rfl rfl rfl (by omega))), ?_⟩
            refine WA.allT [3, 7] (by kernel_rfl) (by simp) ?_; intro i' hi'; simp only [List.mem_cons, List.not_mem_nil, or_false] at hi'
            rcases hi' with rfl | rfl
            · refine ⟨_, _, _, rfl, by rfl, by rfl, .inl (MK.call [5] (.sl 6 0 0 1) (hown) (LeAll.cons (by rfl) (by first | with_reducible exact Root.Le.refl _ | with_reducible exact le_dead | (skip; done) | exact byLeq) (by exact byCon) (trivial)) (by rfl) (by exact .inr (ownNew_row (fun j _ => hnp1 j))) (by rfl) (by exact byArgs) (by simp [Sc, sc_pl, sc_ds]) (by exact byAllc) (by exact rfl) (by exact bySc) (by rfl)), ?_⟩
              refine WA.allT [7] (by kernel_rfl) (by simp) ?_; intro i' hi'; simp only [List.mem_cons, List.not_mem_nil, or_false] at hi'
              subst hi'
              refine ⟨_, _, _, rfl, by rfl, by rfl, .inl (MK.of tok (wm := false) (by rfl) (by exact byObl) (by rfl) (by exact byObl)), ?_⟩
              refine WA.allT [8] (by kernel_rfl) (by simp) ?_; intro i' hi'; simp only [List.mem_cons, List.not_mem_nil, or_false] at hi'
              subst hi'
              refine ⟨_, _, _, rfl, by rfl, by rfl, .inr ⟨by decide, TK.of tok (wm := false) (by rfl) (by exact byObl)⟩, ?_⟩
              refine WA.allT [9] (by kernel_rfl) (by simp) ?_; intro i' hi'; simp only [List.mem_cons, List.not_mem_nil, or_false] at hi'
              subst hi'
              refine ⟨_, _, _, rfl, by rfl, by rfl, .inl (MK.q (evalOp_q tok (wm := false) (by rfl) (by rfl) (by exact byObl))), ?_⟩
              refine WA.allT [10] (by kernel_rfl) (by simp) ?_; intro i' hi'; simp only [List.mem_cons, List.not_mem_nil, or_false] at hi'
              subst hi'
              refine ⟨_, _, _, rfl, by rfl, by rfl, .inr ⟨by decide, TK.of tok (wm := false) (by rfl) (by exact byObl)⟩, ?_⟩
              refine WA.end rfl (by kernel_rfl) (noPan ?_)
              refine WP.ghost (Ghost.give 3 0 8 (by rfl) h0 (fup_same _ _ _) rfl rfl (by rfl) (Nat.le_refl _)) ?_
              refine WP.rs T false tok (by rfl) (by exact byObl) ?_
              exact WP.ret (Ends.newE [0, 3] (⟨out.length, lnR out (0 + 1), gR out (gT [a] 0), (n : Int), rfl, by omega, hlnR _ (by omega), by omega, by omega, rfl⟩) (.inl rfl) (by rfl) (by exact byObl) (LeAll.cons (by rfl) (by first | with_reducible exact Root.Le.refl _ | with_reducible exact le_dead | (exact rowsG_setT hc0 rfl (Nat.le_refl _)) | exact byLeq) (by exact byCon) (LeAll.cons (by rfl) (by first | with_reducible exact Root.Le.refl _ | with_reducible exact le_dead | (exact rowsG_setT hc0 rfl (Nat.le_refl _)) | exact byLeq) (by exact byCon) (trivial))) rfl rfl (ren_t2 rfl ⟨rfl, trivial⟩) (sc_t2 (sc_sl rfl) trivial))
            · refine ⟨_, _, _, rfl, by rfl, by rfl, .inl (MK.of tok (wm := false) (by rfl) (by exact byObl) (by rfl) (by exact byObl)), ?_⟩
              refine WA.allT [3] (by kernel_rfl) (by simp) ?_; intro i' hi'; simp only [List.mem_cons, List.not_mem_nil, or_false] at hi'
              subst hi'
              refine ⟨_, _, _, rfl, by rfl, by rfl, .inl (MK.call [5] (.sl 7 0 0 1) (hown) (LeAll.cons (by rfl) (by first | with_reducible exact Root.Le.refl _ | with_reducible exact le_dead | (skip; done) | exact byLeq) (by exact byCon) (trivial)) (by rfl) (by exact .inr (ownNew_row (fun j _ => hnp1 j))) (by rfl) (by exact byArgs) (by simp [Sc, sc_pl, sc_ds]) (by exact byAllc) (by exact rfl) (by exact bySc) (by rfl)), ?_⟩
              refine WA.allT [8] (by kernel_rfl) (by simp) ?_; intro i' hi'; simp only [List.mem_cons, List.not_mem_nil, or_false] at hi'
              subst hi'
              refine ⟨_, _, _, rfl, by rfl, by rfl, .inr ⟨by decide, TK.of tok (wm := false) (by rfl) (by exact byObl)⟩, ?_⟩
              refine WA.allT [9] (by kernel_rfl) (by simp) ?_; intro i' hi'; simp only [List.mem_cons, List.not_mem_nil, or_false] at hi'
              subst hi'
              refine ⟨_, _, _, rfl, by rfl, by rfl, .inl (MK.q (evalOp_q tok (wm := false) (by rfl) (by rfl) (by exact byObl))), ?_⟩
              refine WA.allT [10] (by kernel_rfl) (by simp) ?_; intro i' hi'; simp only [List.mem_cons, List.not_mem_nil, or_false] at hi'
              subst hi'
              refine ⟨_, _, _, rfl, by rfl, by rfl, .inr ⟨by decide, TK.of tok (wm := false) (by rfl) (by exact byObl)⟩, ?_⟩
              refine WA.end rfl (by kernel_rfl) (noPan ?_)
              refine WP.ghost (Ghost.give 3 0 8 (by rfl) h0 (fup_same _ _ _) rfl rfl (by rfl) (Nat.le_refl _)) ?_
              refine WP.rs T false tok (by rfl) (by exact byObl) ?_
              exact WP.ret (Ends.newE [0, 3] (⟨out.length, lnR out (0 + 1), gR out (gT [a] 0), (n : Int), rfl, by omega, hlnR _ (by omega), by omega, by omega, rfl⟩) (.inl rfl) (by rfl) (by exact byObl) (LeAll.cons (by rfl) (by first | with_reducible exact Root.Le.refl _ | with_reducible exact le_dead | (exact rowsG_setT hc0 rfl (Nat.le_refl _)) | exact byLeq) (by exact byCon) (LeAll.cons (by rfl) (by first | with_reducible exact Root.Le.refl _ | with_reducible exact le_dead | (exact rowsG_setT hc0 rfl (Nat.le_refl _)) | exact byLeq) (by exact byCon) (trivial))) rfl rfl (ren_t2 rfl ⟨rfl, trivial⟩) (sc_t2 (sc_sl rfl) trivial))
          · refine ⟨_, _, _, rfl, by rfl, by rfl, .inl (MK.of tok (wm := false) (by rfl) (by exact byObl) (by rfl) (by exact byObl)), ?_⟩
            refine WA.allT [2] (by kernel_rfl) (by simp) ?_; intro i' hi'; simp only [List.mem_cons, List.not_mem_nil, or_false] at hi'
            subst hi'
            refine ⟨_, _, _, rfl, by rfl, by rfl, .inl (MK.q (sle_ok (l := 1) tok (numsF []) rfl rfl rfl rfl rfl rfl rfl (by omega))), ?_⟩
            refine WA.allT [3] (by kernel_rfl) (by simp) ?_; intro i' hi'; simp only [List.mem_cons, List.not_mem_nil, or_false] at hi'
            subst hi'
            refine ⟨_, _, _, rfl, by rfl, by rfl, .inl (MK.call [6] (.sl 7 0 0 1) (hown) (LeAll.cons (by rfl) (by first | with_reducible exact Root.Le.refl _ | with_reducible exact le_dead | (skip; done) | exact byLeq) (by exact byCon) (trivial)) (by rfl) (by exact .inr (ownNew_row (fun j _ => hnp1 j))) (by rfl) (by exact byArgs) (by simp [Sc, sc_pl, sc_ds]) (by exact byAllc) (by exact rfl) (by exact bySc) (by rfl)), ?_⟩
            refine WA.allT [8] (by kernel_rfl) (by simp) ?_; intro i' hi'; simp only [List.mem_cons, List.not_mem_nil, or_false] at hi'
            subst hi'
            refine ⟨_, _, _, rfl, by rfl, by rfl, .inr ⟨by decide, TK.of tok (wm := false) (by rfl) (by exact byObl)⟩, ?_⟩
            refine WA.allT [9] (by kernel_rfl) (by simp) ?_; intro i' hi'; simp only [List.mem_cons, List.not_mem_nil, or_false] at hi'
            subst hi'
            refine ⟨_, _, _, rfl, by rfl, by rfl, .inl (MK.q (evalOp_q tok (wm := false) (by rfl) (by rfl) (by exact byObl))), ?_⟩
            refine WA.allT [10] (by kernel_rfl) (by simp) ?_; intro i' hi'; simp only [List.mem_cons, List.not_mem_nil, or_false] at hi'
            subst hi'
            refine ⟨_, _, _, rfl, by rfl, by rfl, .inr ⟨by decide, TK.of tok (wm := false) (by rfl) (by exact byObl)⟩, ?_⟩
            refine WA.end rfl (by kernel_rfl) (noPan ?_)
            refine WP.ghost (Ghost.give 3 0 8 (by rfl) h0 (fup_same _ _ _) rfl rfl (by rfl) (Nat.le_refl _)) ?_
            refine WP.rs T false tok (by rfl) (by exact byObl) ?_
            exact WP.ret (Ends.newE [0, 3] (⟨out.length, lnR out (0 + 1), gR out (gT [a] 0), (n : Int), rfl, by omega, hlnR _ (by omega), by omega, by omega, rfl⟩) (.inl rfl) (by rfl) (by exact byObl) (LeAll.cons (by rfl) (by first | with_reducible exact Root.Le.refl _ | with_reducible exact le_dead | (exact rowsG_setT hc0 rfl (Nat.le_refl _)) | exact byLeq) (by exact byCon) (LeAll.cons (by rfl) (by first | with_reducible exact Root.Le.refl _ | with_reducible exact le_dead | (exact rowsG_setT hc0 rfl (Nat.le_refl _)) | exact byLeq) (by exact byCon) (trivial))) rfl rfl (ren_t2 rfl ⟨rfl, trivial⟩) (sc_t2 (sc_sl rfl) trivial))
    · have hc1 : ∀ t, t < own.length - 1 → (fun j => numsF own (1 + j)) t = numsF own (1 + t) := fun t _ => rfl
      have hown := l01OwnT_fn own 1 (own.length - 1) (by omega) (by omega)
      refine WP.da (by kernel_rfl) 8 (by kernel_rfl) ?_
      refine WA.takesD T false tok [0, 1, 4] (f' := 8) (by kernel_rfl) (by rfl) (by rfl) (by exact byObl) (by rfl) (by rfl) ?_
      refine WA.allT [2, 5] (by kernel_rfl) (by simp) ?_; intro i' hi'; simp only [List.mem_cons, List.not_mem_nil, or_false] at hi'
      rcases hi' with rfl | rfl
      · refine ⟨_, _, _, rfl, by rfl, by rfl, .inl (MK.q (sll_ok (l := 1) tok rfl rfl rfl rfl rfl rfl rfl (by omega) (by omega))), ?_⟩
        refine WA.allT [3, 5] (by kernel_rfl) (by simp) ?_; intro i' hi'; simp only [List.mem_cons, List.not_mem_nil, or_false] at hi'
        rcases hi' with rfl | rfl
        · refine ⟨_, _, _, rfl, by rfl, by rfl, .inl (MK.call [4] (.sl 5 0 (own.length - 1) 1) (hown) (LeAll.cons (by rfl) (by first | with_reducible exact Root.Le.refl _ | with_reducible exact le_dead | (exact le_frz (Nat.le_refl _) (fun _ _ => rfl)) | exact byLeq) (by exact byCon) (trivial)) (by rfl) (by exact .inr (ownNew_row (fun j _ => hnp2 j))) (by rfl) (by exact byArgs) (by simp [Sc, sc_pl, sc_ds]) (by exact byAllc) (by exact rfl) (by exact bySc) (by rfl)), ?_⟩
          refine WA.allT [5] (by kernel_rfl) (by simp) ?_; intro i' hi'; simp only [List.mem_cons, List.not_mem_nil, or_false] at hi'
          subst hi'
          refine ⟨_, _, _, rfl, by rfl, by rfl, .inl (MK.q (evalOp_q tok (wm := false) (by rfl) (by rfl) (by exact byObl))), ?_⟩
          refine WA.allT [6] (by kernel_rfl) (by simp) ?_; intro i' hi'; simp only [List.mem_cons, List.not_mem_nil, or_false] at hi'
          subst hi'
          refine ⟨_, _, _, rfl, by rfl, by rfl, .inl (MK.q (evalOp_q tok (wm := false) (by rfl) (by rfl) (by exact byObl))), ?_⟩
          refine WA.allT [7] (by kernel_rfl) (by simp) ?_; intro i' hi'; simp only [List.mem_cons, List.not_mem_nil, or_false] at hi'
          subst hi'
          refine ⟨_, _, _, rfl, by rfl, by rfl, .inl (MK.of tok (wm := false) (by rfl) (by exact byObl) (by rfl) (by exact byObl)), ?_⟩
          refine WA.allT [8] (by kernel_rfl) (by simp) ?_; intro i' hi'; simp only [List.mem_cons, List.not_mem_nil, or_false] at hi'
          subst hi'
          refine ⟨_, _, _, rfl, by rfl, by rfl, .inr ⟨by decide, TK.of tok (wm := false) (by rfl) (by exact byObl)⟩, ?_⟩
          refine WA.allT [9] (by kernel_rfl) (by simp) ?_; intro i' hi'; simp only [List.mem_cons, List.not_mem_nil, or_false] at hi'
          subst hi'
          refine ⟨_, _, _, rfl, by rfl, by rfl, .inl (MK.q (evalOp_q tok (wm := false) (by rfl) (by rfl) (by exact byObl))), ?_⟩
          refine WA.allT [10] (by kernel_rfl) (by simp) ?_; intro i' hi'; simp only [List.mem_cons, List.not_mem_nil, or_false] at hi'
          subst hi'
          refine ⟨_, _, _, rfl, by rfl, by rfl, .inr ⟨by decide, TK.of tok (wm := false) (by rfl) (by exact byObl)⟩, ?_⟩
          refine WA.end rfl (by kernel_rfl) (noPan ?_)
          refine WP.ghost (Ghost.give 3 0 7 (by rfl) h0 (fup_same _ _ _) rfl rfl (by rfl) (Nat.le_refl _)) ?_
          refine WP.rs T false tok (by rfl) (by exact byObl) ?_
          exact WP.ret (Ends.newE [0, 3] (⟨out.length, lnR out ((own.length - 1) + 1), gR out (gT own (own.length - 1)), (n : Int), rfl, by omega, hlnR _ (by omega), by omega, by omega, rfl⟩) (.inl rfl) (by rfl) (by exact byObl) (LeAll.cons (by rfl) (by first | with_reducible exact Root.Le.refl _ | with_reducible exact le_dead | (exact rowsG_setT hc1 rfl (Nat.le_refl _)) | exact byLeq) (by exact byCon) (LeAll.cons (by rfl) (by first | with_reducible exact Root.Le.refl _ | with_reducible exact le_dead | (exact rowsG_setT hc1 rfl (Nat.le_refl _)) | exact byLeq) (by exact byCon) (trivial))) rfl rfl (ren_t2 rfl ⟨rfl, trivial⟩) (sc_t2 (sc_sl rfl) trivial))
        · refine ⟨_, _, _, rfl, by rfl, by rfl, .inl (MK.q (evalOp_q tok (wm := false) (by rfl) (by rfl) (by exact byObl))), ?_⟩
          refine WA.allT [3, 6] (by kernel_rfl) (by simp) ?_; intro i' hi'; simp only [List.mem_cons, List.not_mem_nil, or_false] at hi'
          rcases hi' with rfl | rfl
          · refine ⟨_, _, _, rfl, by rfl, by rfl, .inl (MK.call [4] (.sl 5 0 (own.length - 1) 1) (hown) (LeAll.cons (by rfl) (by first | with_reducible exact Root.Le.refl _ | with_reducible exact le_dead | (exact le_frz (Nat.le_refl _) (fun _ _ => rfl)) | exact byLeq) (by exact byCon) (trivial)) (by rfl) (by exact .inr (ownNew_row (fun j _ => hnp2 j))) (by rfl) (by exact byArgs) (by simp [Sc, sc_pl, sc_ds]) (by exact byAllc) (by exact rfl) (by exact bySc) (by rfl)), ?_⟩
            refine WA.allT [6] (by kernel_rfl) (by simp) ?_; intro i' hi'; simp only [List.mem_cons, List.not_mem_nil, or_false] at hi'
            subst hi'
            refine ⟨_, _, _, rfl, by rfl, by rfl, .inl (MK.q (evalOp_q tok (wm := false) (by rfl) (by rfl) (by exact byObl))), ?_⟩
            refine WA.allT [7] (by kernel_rfl) (by simp) ?_; intro i' hi'; simp only [List.mem_cons, List.not_mem_nil, or_false] at hi'
            subst hi'
            refine ⟨_, _, _, rfl, by rfl, by rfl, .inl (MK.of tok (wm := false) (by rfl) (by exact byObl) (by rfl) (by exact byObl)), ?_⟩
            refine WA.allT [8] (by kernel_rfl) (by simp) ?_; intro i' hi'; simp only [List.mem_cons, List.not_mem_nil, or_false] at hi'
            subst hi'
            refine ⟨_, _, _, rfl, by rfl, by rfl, .inr ⟨by decide, TK.of tok (wm := false) (by rfl) (by exact byObl)⟩, ?_⟩
            refine WA.allT [9] (by kernel_rfl) (by simp) ?_; intro i' hi'; simp only [List.mem_cons, List.not_mem_nil, or_false] at hi'
            subst hi'
            refine ⟨_, _, _, rfl, by rfl, by rfl, .inl (MK.q (evalOp_q tok (wm := false) (by rfl) (by rfl) (by exact byObl))), ?_⟩
            refine WA.allT [10] (by kernel_rfl) (by simp) ?_; intro i' hi'; simp only [List.mem_cons, List.not_mem_nil, or_false] at hi'
            subst hi'
            refine ⟨_, _, _, rfl, by rfl, by rfl, .inr ⟨by decide, TK.of tok (wm := false) (by rfl) (by exact byObl)⟩, ?_⟩
            refine WA.end rfl (by kernel_rfl) (noPan ?_)
            refine WP.ghost (Ghost.give 3 0 7 (by rfl) h0 (fup_same _ _ _) rfl rfl (by rfl) (Nat.le_refl _)) ?_
            refine WP.rs T false tok (by rfl) (by exact byObl) ?_
            exact WP.ret (Ends.newE [0, 3] (⟨out.length, lnR out ((own.length - 1) + 1), gR out (gT own (own.length - 1)), (n : Int), rfl, by omega, hlnR _ (by omega), by omega, by omega, rfl⟩) (.inl rfl) (by rfl) (by exact byObl) (LeAll.cons (by rfl) (by first | with_reducible exact Root.Le.refl _ | with_reducible exact le_dead | (exact rowsG_setT hc1 rfl (Nat.le_refl _)) | exact byLeq) (by exact byCon) (LeAll.cons (by rfl) (by first | with_reducible exact Root.Le.refl _ | with_reducible exact le_dead | (exact rowsG_setT hc1 rfl (Nat.le_refl _)) | exact byLeq) (by exact byCon) (trivial))) rfl rfl (ren_t2 rfl ⟨rfl, trivial⟩) (sc_t2 (sc_sl rfl) trivial))
          · refine ⟨_, _, _, rfl, by rfl, by rfl, .inl (MK.q (evalOp_q tok (wm := false) (by rfl) (by rfl) (by exact byObl))), ?_⟩
            refine WA.allT [3, 7] (by kernel_rfl) (by simp) ?_; intro i' hi'; simp only [List.mem_cons, List.not_mem_nil, or_false] at hi'
            rcases hi' with rfl | rfl
            · refine ⟨_, _, _, rfl, by rfl, by rfl, .inl (MK.call [4] (.sl 5 0 (own.length - 1) 1) (hown) (LeAll.cons (by rfl) (by first | with_reducible exact Root.Le.refl _ | with_reducible exact le_dead | (exact le_frz (Nat.le_refl _) (fun _ _ => rfl)) | exact byLeq) (by exact byCon) (trivial)) (by rfl) (by exact .inr (ownNew_row (fun j _ => hnp2 j))) (by rfl) (by exact byArgs) (by simp [Sc, sc_pl, sc_ds]) (by exact byAllc) (by exact rfl) (by exact bySc) (by rfl)), ?_⟩
              refine WA.allT [7] (by kernel_rfl) (by simp) ?_; intro i' hi'; simp only [List.mem_cons, List.not_mem_nil, or_false] at hi'
              subst hi'
              refine ⟨_, _, _, rfl, by rfl, by rfl, .inl (MK.of tok (wm := false) (by rfl) (by exact byObl) (by rfl) (by exact byObl)), ?_⟩
              refine WA.allT [8] (by kernel_rfl) (by simp) ?_; intro i' hi'; simp only [List.mem_cons, List.not_mem_nil, or_false] at hi'
              subst hi'
              refine ⟨_, _, _, rfl, by rfl, by rfl, .inr ⟨by decide, TK.of tok (wm := false) (by rfl) (by exact byObl)⟩, ?_⟩
              refine WA.allT [9] (by kernel_rfl) (by simp) ?_; intro i' hi'; simp only [List.mem_cons, List.not_mem_nil, or_false] at hi'
              subst hi'
              refine ⟨_, _, _, rfl, by rfl, by rfl, .inl (MK.q (evalOp_q tok (wm := false) (by rfl) (by rfl) (by exact byObl))), ?_⟩
              refine WA.allT [10] (by kernel_rfl) (by simp) ?_; intro i' hi'; simp only [List.mem_cons, List.not_mem_nil, or_false] at hi'
              subst hi'
              refine ⟨_, _, _, rfl, by rfl, by rfl, .inr ⟨by decide, TK.of tok (wm := false) (by rfl) (by exact byObl)⟩, ?_⟩
              refine WA.end rfl (by kernel_rfl) (noPan ?_)
              refine WP.ghost (Ghost.give 3 0 7 (by rfl) h0 (fup_same _ _ _) rfl rfl (by rfl) (Nat.le_refl _)) ?_
              refine WP.rs T false tok (by rfl) (by exact byObl) ?_
              exact WP.ret (Ends.newE [0, 3] (⟨out.length, lnR out ((own.length - 1) + 1), gR out (gT own (own.length - 1)), (n : Int), rfl, by omega, hlnR _ (by omega), by omega, by omega, rfl⟩) (.inl rfl) (by rfl) (by exact byObl) (LeAll.cons (by rfl) (by first | with_reducible exact Root.Le.refl _ | with_reducible exact le_dead | (exact rowsG_setT hc1 rfl (Nat.le_refl _)) | exact byLeq) (by exact byCon) (LeAll.cons (by rfl) (by first | with_reducible exact Root.Le.refl _ | with_reducible exact le_dead | (exact rowsG_setT hc1 rfl (Nat.le_refl _)) | exact byLeq) (by exact byCon) (trivial))) rfl rfl (ren_t2 rfl ⟨rfl, trivial⟩) (sc_t2 (sc_sl rfl) trivial))
            · refine ⟨_, _, _, rfl, by rfl, by rfl, .inl (MK.of tok (wm := false) (by rfl) (by exact byObl) (by rfl) (by exact byObl)), ?_⟩
              refine WA.allT [3] (by kernel_rfl) (by simp) ?_; intro i' hi'; simp only [List.mem_cons, List.not_mem_nil, or_false] at hi'
              subst hi'
              refine ⟨_, _, _, rfl, by rfl, by rfl, .inl (MK.call [4] (.sl 6 0 (own.length - 1) 1) (hown) (LeAll.cons (by rfl) (by first | with_reducible exact Root.Le.refl _ | with_reducible exact le_dead | (exact le_frz (Nat.le_refl _) (fun _ _ => rfl)) | exact byLeq) (by exact byCon) (trivial)) (by rfl) (by exact .inr (ownNew_row (fun j _ => hnp2 j))) (by rfl) (by exact byArgs) (by simp [Sc, sc_pl, sc_ds]) (by exact byAllc) (by exact rfl) (by exact bySc) (by rfl)), ?_⟩
              refine WA.allT [8] (by kernel_rfl) (by simp) ?_; intro i' hi'; simp only [List.mem_cons, List.not_mem_nil, or_false] at hi'
              subst hi'
              refine ⟨_, _, _, rfl, by rfl, by rfl, .inr ⟨by decide, TK.of tok (wm := false) (by rfl) (by exact byObl)⟩, ?_⟩
              refine WA.allT [9] (by kernel_rfl) (by simp) ?_; intro i' hi'; simp only [List.mem_cons, List.not_mem_nil, or_false] at hi'
              subst hi'
              refine ⟨_, _, _, rfl, by rfl, by rfl, .inl (MK.q (evalOp_q tok (wm := false) (by rfl) (by rfl) (by exact byObl))), ?_⟩
              refine WA.allT [10] (by kernel_rfl) (by simp) ?_; intro i' hi'; simp only [List.mem_cons, List.not_mem_nil, or_false] at hi'
              subst hi'
              refine ⟨_, _, _, rfl, by rfl, by rfl, .inr ⟨by decide, TK.of tok (wm := false) (by rfl) (by exact byObl)⟩, ?_⟩
              refine WA.end rfl (by kernel_rfl) (noPan ?_)
              refine WP.ghost (Ghost.give 3 0 7 (by rfl) h0 (fup_same _ _ _) rfl rfl (by rfl) (Nat.le_refl _)) ?_
              refine WP.rs T false tok (by rfl) (by exact byObl) ?_
              exact WP.ret (Ends.newE [0, 3] (⟨out.length, lnR out ((own.length - 1) + 1), gR out (gT own (own.length - 1)), (n : Int), rfl, by omega, hlnR _ (by omega), by omega, by omega, rfl⟩) (.inl rfl) (by rfl) (by exact byObl) (LeAll.cons (by rfl) (by first | with_reducible exact Root.Le.refl _ | with_reducible exact le_dead | (exact rowsG_setT hc1 rfl (Nat.le_refl _)) | exact byLeq) (by exact byCon) (LeAll.cons (by rfl) (by first | with_reducible exact Root.Le.refl _ | with_reducible exact le_dead | (exact rowsG_setT hc1 rfl (Nat.le_refl _)) | exact byLeq) (by exact byCon) (trivial))) rfl rfl (ren_t2 rfl ⟨rfl, trivial⟩) (sc_t2 (sc_sl rfl) trivial))
      · refine ⟨_, _, _, rfl, by rfl, by rfl, .inl (MK.q (evalOp_q tok (wm := false) (by rfl) (by rfl) (by exact byObl))), ?_⟩
        refine WA.allT [2, 6] (by kernel_rfl) (by simp) ?_; intro i' hi'; simp only [List.mem_cons, List.not_mem_nil, or_false] at hi'
        rcases hi' with rfl | rfl
        · refine ⟨_, _, _, rfl, by rfl, by rfl, .inl (MK.q (sll_ok (l := 1) tok rfl rfl rfl rfl rfl rfl rfl (by omega) (by omega))), ?_⟩
          refine WA.allT [3, 6] (by kernel_rfl) (by simp) ?_; intro i' hi'; simp only [List.mem_cons, List.not_mem_nil, or_false] at hi'
          rcases hi' with rfl | rfl
          · refine ⟨_, _, _, rfl, by rfl, by rfl, .inl (MK.call [4] (.sl 5 0 (own.length - 1) 1) (hown) (LeAll.cons (by rfl) (by first | with_reducible exact Root.Le.refl _ | with_reducible exact le_dead | (exact le_frz (Nat.le_refl _) (fun _ _ => rfl)) | exact byLeq) (by exact byCon) (trivial)) (by rfl) (by exact .inr (ownNew_row (fun j _ => hnp2 j))) (by rfl) (by exact byArgs) (by simp [Sc, sc_pl, sc_ds]) (by exact byAllc) (by exact rfl) (by exact bySc) (by rfl)), ?_⟩
            refine WA.allT [6] (by kernel_rfl) (by simp) ?_; intro i' hi'; simp only [List.mem_cons, List.not_mem_nil, or_false] at hi'
            subst hi'
            refine ⟨_, _, _, rfl, by rfl, by rfl, .inl (MK.q (evalOp_q tok (wm := false) (by rfl) (by rfl) (by exact byObl))), ?_⟩
            refine WA.allT [7] (by kernel_rfl) (by simp) ?_; intro i' hi'; simp only [List.mem_cons, List.not_mem_nil, or_false] at hi'
            subst hi'
            refine ⟨_, _, _, rfl, by rfl, by rfl, .inl (MK.of tok (wm := false) (by rfl) (by exact byObl) (by rfl) (by exact byObl)), ?_⟩
            refine WA.allT [8] (by kernel_rfl) (by simp) ?_; intro i' hi'; simp only [List.mem_cons, List.not_mem_nil, or_false] at hi'
            subst hi'
            refine ⟨_, _, _, rfl, by rfl, by rfl, .inr ⟨by decide, TK.of tok (wm := false) (by rfl) (by exact byObl)⟩, ?_⟩
            refine WA.allT [9] (by kernel_rfl) (by simp) ?_; intro i' hi'; simp only [List.mem_cons, List.not_mem_nil, or_false] at hi'
            subst hi'
            refine ⟨_, _, _, rfl, by rfl, by rfl, .inl (MK.q (evalOp_q tok (wm := false) (by rfl) (by rfl) (by exact byObl))), ?_⟩
            refine WA.allT [10] (by kernel_rfl) (by simp) ?_; intro i' hi'; simp only [List.mem_cons, List.not_mem_nil, or_false] at hi'
            subst hi'
            refine ⟨_, _, _, rfl, by rfl, by rfl, .inr ⟨by decide, TK.of tok (wm := false) (by rfl) (by exact byObl)⟩, ?_⟩
            refine WA.end rfl (by kernel_rfl) (noPan ?_)
            refine WP.ghost (Ghost.give 3 0 7 (by rfl) h0 (fup_same _ _ _) rfl rfl (by rfl) (Nat.le_refl _)) ?_
            refine WP.rs T false tok (by rfl) (by exact byObl) ?_
            exact WP.ret (Ends.newE [0, 3] (⟨out.length, lnR out ((own.length - 1) + 1), gR out (gT own (own.length - 1)), (n : Int), rfl, by omega, hlnR _ (by omega), by omega, by omega, rfl⟩) (.inl rfl) (by rfl) (by exact byObl) (LeAll.cons (by rfl) (by first | with_reducible exact Root.Le.refl _ | with_reducible exact le_dead | (exact rowsG_setT hc1 rfl (Nat.le_refl _)) | exact byLeq) (by exact byCon) (LeAll.cons (by rfl) (by first | with_reducible exact Root.Le.refl _ | with_reducible exact le_dead | (exact rowsG_setT hc1 rfl (Nat.le_refl _)) | exact byLeq) (by exact byCon) (trivial))) rfl rfl (ren_t2 rfl ⟨rfl, trivial⟩) (sc_t2 (sc_sl rfl) trivial))
          · refine ⟨_, _, _, rfl, by rfl, by rfl, .inl (MK.q (evalOp_q tok (wm := false) (by rfl) (by rfl) (by exact byObl))), ?_⟩
            refine WA.allT [3, 7] (by kernel_rfl) (by simp) ?_; intro i' hi'; simp only [List.mem_cons, List.not_mem_nil, or_false] at hi'
            rcases hi' with rfl | rfl
            · refine ⟨_, _, _, rfl, by rfl, by rfl, .inl (MK.call [4] (.sl 5 0 (own.length - 1) 1) (hown) (LeAll.cons (by rfl) (by first | with_reducible exact Root.Le.refl _ | with_reducible exact le_dead | (exact le_frz (Nat.le_refl _) (fun _ _ => rfl)) | exact byLeq) (by exact byCon) (trivial)) (by rfl) (by exact .inr (ownNew_row (fun j _ => hnp2 j))) (by rfl) (by exact byArgs) (by simp [Sc, sc_pl, sc_ds]) (by exact byAllc) (by exact rfl) (by exact bySc) (by rfl)), ?_⟩
              refine WA.allT [7] (by kernel_rfl) (by simp) ?_; intro i' hi'; simp only [List.mem_cons, List.not_mem_nil, or_false] at hi'
              subst hi'
              refine ⟨_, _, _, rfl, by rfl, by rfl, .inl (MK.of tok (wm := false) (by rfl) (by exact byObl) (by rfl) (by exact byObl)), ?_⟩
              refine WA.allT [8] (by kernel_rfl) (by simp) ?_; intro i' hi'; simp only [List.mem_cons, List.not_mem_nil, or_false] at hi'
              subst hi'
              refine ⟨_, _, _, rfl, by rfl, by rfl, .inr ⟨by decide, TK.of tok (wm := false) (by rfl) (by exact byObl)⟩, ?_⟩
              refine WA.allT [9] (by kernel_rfl) (by simp) ?_; intro i' hi'; simp only [List.mem_cons, List.not_mem_nil, or_false] at hi'
              subst hi'
              refine ⟨_, _, _, rfl, by rfl, by rfl, .inl (MK.q (evalOp_q tok (wm := false) (by rfl) (by rfl) (by exact byObl))), ?_⟩
              refine WA.allT [10] (by kernel_rfl) (by simp) ?_; intro i' hi'; simp only [List.mem_cons, List.not_mem_nil, or_false] at hi'
              subst hi'
              refine ⟨_, _, _, rfl, by rfl, by rfl, .inr ⟨by decide, TK.of tok (wm := false) (by rfl) (by exact byObl)⟩, ?_⟩
              refine WA.end rfl (by kernel_rfl) (noPan ?_)
              refine WP.ghost (Ghost.give 3 0 7 (by rfl) h0 (fup_same _ _ _) rfl rfl (by rfl) (Nat.le_refl _)) ?_
              refine WP.rs T false tok (by rfl) (by exact byObl) ?_
              exact WP.ret (Ends.newE [0, 3] (⟨out.length, lnR out ((own.length - 1) + 1), gR out (gT own (own.length - 1)), (n : Int), rfl, by omega, hlnR _ (by omega), by omega, by omega, rfl⟩) (.inl rfl) (by rfl) (by exact byObl) (LeAll.cons (by rfl) (by first | with_reducible exact Root.Le.refl _ | with_reducible exact le_dead | (exact rowsG_setT hc1 rfl (Nat.le_refl _)) | exact byLeq) (by exact byCon) (LeAll.cons (by rfl) (by first | with_reducible exact Root.Le.refl _ | with_reducible exact le_dead | (exact rowsG_setT hc1 rfl (Nat.le_refl _)) | exact byLeq) (by exact byCon) (trivial))) rfl rfl (ren_t2 rfl ⟨rfl, trivial⟩) (sc_t2 (sc_sl rfl) trivial))
            · refine ⟨_, _, _, rfl, by rfl, by rfl, .inl (MK.of tok (wm := false) (by rfl) (by exact byObl) (by rfl) (by exact byObl)), ?_⟩
              refine WA.allT [3] (by kernel_rfl) (by simp) ?_; intro i' hi'; simp only [List.mem_cons, List.not_mem_nil, or_false] at hi'
              subst hi'
              refine ⟨_, _, _, rfl, by rfl, by rfl, .inl (MK.call [4] (.sl 6 0 (own.length - 1) 1) (hown) (LeAll.cons (by rfl) (by first | with_reducible exact Root.Le.refl _ | with_reducible exact le_dead | (exact le_frz (Nat.le_refl _) (fun _ _ => rfl)) | exact byLeq) (by exact byCon) (trivial)) (by rfl) (by exact .inr (ownNew_row (fun j _ => hnp2 j))) (by rfl) (by exact byArgs) (by simp [Sc, sc_pl, sc_ds]) (by exact byAllc) (by exact rfl) (by exact bySc) (by rfl)), ?_⟩
              refine WA.allT [8] (by kernel_rfl) (by simp) ?_; intro i' hi'; simp only [List.mem_cons, List.not_mem_nil, or_false] at hi'
              subst hi'
              refine ⟨_, _, _, rfl, by rfl, by rfl, .inr ⟨by decide, TK.of tok (wm := false) (by rfl) (by exact byObl)⟩, ?_⟩
              refine WA.allT [9] (by kernel_rfl) (by simp) ?_; intro i' hi'; simp only [List.mem_cons, List.not_mem_nil, or_false] at hi'
              subst hi'
              refine ⟨_, _, _, rfl, by rfl, by rfl, .inl (MK.q (evalOp_q tok (wm := false) (by rfl) (by rfl) (by exact byObl))), ?_⟩
              refine WA.allT [10] (by kernel_rfl) (by simp) ?_; intro i' hi'; simp only [List.mem_cons, List.not_mem_nil, or_false] at hi'
              subst hi'
              refine ⟨_, _, _, rfl, by rfl, by rfl, .inr ⟨by decide, TK.of tok (wm := false) (by rfl) (by exact byObl)⟩, ?_⟩
              refine WA.end rfl (by kernel_rfl) (noPan ?_)
              refine WP.ghost (Ghost.give 3 0 7 (by rfl) h0 (fup_same _ _ _) rfl rfl (by rfl) (Nat.le_refl _)) ?_
              refine WP.rs T false tok (by rfl) (by exact byObl) ?_
              exact WP.ret (Ends.newE [0, 3] (⟨out.length, lnR out ((own.length - 1) + 1), gR out (gT own (own.length - 1)), (n : Int), rfl, by omega, hlnR _ (by omega), by omega, by omega, rfl⟩) (.inl rfl) (by rfl) (by exact byObl) (LeAll.cons (by rfl) (by first | with_reducible exact Root.Le.refl _ | with_reducible exact le_dead | (exact rowsG_setT hc1 rfl (Nat.le_refl _)) | exact byLeq) (by exact byCon) (LeAll.cons (by rfl) (by first | with_reducible exact Root.Le.refl _ | with_reducible exact le_dead | (exact rowsG_setT hc1 rfl (Nat.le_refl _)) | exact byLeq) (by exact byCon) (trivial))) rfl rfl (ren_t2 rfl ⟨rfl, trivial⟩) (sc_t2 (sc_sl rfl) trivial))
        · refine ⟨_, _, _, rfl, by rfl, by rfl, .inl (MK.q (evalOp_q tok (wm := false) (by rfl) (by rfl) (by exact byObl))), ?_⟩
          refine WA.allT [2, 7] (by kernel_rfl) (by simp) ?_; intro i' hi'; simp only [List.mem_cons, List.not_mem_nil, or_false] at hi'
          rcases hi' with rfl | rfl
          · refine ⟨_, _, _, rfl, by rfl, by rfl, .inl (MK.q (sll_ok (l := 1) tok rfl rfl rfl rfl rfl rfl rfl (by omega) (by omega))), ?_⟩
            refine WA.allT [3, 7] (by kernel_rfl) (by simp) ?_; intro i' hi'; simp only [List.mem_cons, List.not_mem_nil, or_false] at hi'
            rcases hi' with rfl | rfl
            · refine ⟨_, _, _, rfl, by rfl, by rfl, .inl (MK.call [4] (.sl 5 0 (own.length - 1) 1) (hown) (LeAll.cons (by rfl) (by first | with_reducible exact Root.Le.refl _ | with_reducible exact le_dead | (exact le_frz (Nat.le_refl _) (fun _ _ => rfl)) | exact byLeq) (by exact byCon) (trivial)) (by rfl) (by exact .inr (ownNew_row (fun j _ => hnp2 j))) (by rfl) (by exact byArgs) (by simp [Sc, sc_pl, sc_ds]) (by exact byAllc) (by exact rfl) (by exact bySc) (by rfl)), ?_⟩
              refine WA.allT [7] (by kernel_rfl) (by simp) ?_; intro i' hi'; simp only [List.mem_cons, List.not_mem_nil, or_false] at hi'
              subst hi'
              refine ⟨_, _, _, rfl, by rfl, by rfl, .inl (MK.of tok (wm := false) (by rfl) (by exact byObl) (by rfl) (by exact byObl)), ?_⟩
              refine WA.allT [8] (by kernel_rfl) (by simp) ?_; intro i' hi'; simp only [List.mem_cons, List.not_mem_nil, or_false] at hi'
              subst hi'
              refine ⟨_, _, _, rfl, by rfl, by rfl, .inr ⟨by decide, TK.of tok (wm := false) (by rfl) (by exact byObl)⟩, ?_⟩
              refine WA.allT [9] (by kernel_rfl) (by simp) ?_; intro i' hi'; simp only [List.mem_cons, List.not_mem_nil, or_false] at hi'
              subst hi'
              refine ⟨_, _, _, rfl, by rfl, by rfl, .inl (MK.q (evalOp_q tok (wm := false) (by rfl) (by rfl) (by exact byObl))), ?_⟩
              refine WA.allT [10] (by kernel_rfl) (by simp) ?_; intro i' hi'; simp only [List.mem_cons, List.not_mem_nil, or_false] at hi'
              subst hi'
              refine ⟨_, _, _, rfl, by rfl, by rfl, .inr ⟨by decide, TK.of tok (wm := false) (by rfl) (by exact byObl)⟩, ?_⟩
              refine WA.end rfl (by kernel_rfl) (noPan ?_)
              refine WP.ghost (Ghost.give 3 0 7 (by rfl) h0 (fup_same _ _ _) rfl rfl (by rfl) (Nat.le_refl _)) ?_
              refine WP.rs T false tok (by rfl) (by exact byObl) ?_
              exact WP.ret (Ends.newE [0, 3] (⟨out.length, lnR out ((own.length - 1) + 1), gR out (gT own (own.length - 1)), (n : Int), rfl, by omega, hlnR _ (by omega), by omega, by omega, rfl⟩) (.inl rfl) (by rfl) (by exact byObl) (LeAll.cons (by rfl) (by first | with_reducible exact Root.Le.refl _ | with_reducible exact le_dead | (exact rowsG_setT hc1 rfl (Nat.le_refl _)) | exact byLeq) (by exact byCon) (LeAll.cons (by rfl) (by first | with_reducible exact Root.Le.refl _ | with_reducible exact le_dead | (exact rowsG_setT hc1 rfl (Nat.le_refl _)) | exact byLeq) (by exact byCon) (trivial))) rfl rfl (ren_t2 rfl ⟨rfl, trivial⟩) (sc_t2 (sc_sl rfl) trivial))
            · refine ⟨_, _, _, rfl, by rfl, by rfl, .inl (MK.of tok (wm := false) (by rfl) (by exact byObl) (by rfl) (by exact byObl)), ?_⟩
              refine WA.allT [3] (by kernel_rfl) (by simp) ?_; intro i' hi'; simp only [List.mem_cons, List.not_mem_nil, or_false] at hi'
              subst hi'
              refine ⟨_, _, _, rfl, by rfl, by rfl, .inl (MK.call [4] (.sl 6 0 (own.length - 1) 1) (hown) (LeAll.cons (by rfl) (by first | with_reducible exact Root.Le.refl _ | with_reducible exact le_dead | (exact le_frz (Nat.le_refl _) (fun _ _ => rfl)) | exact byLeq) (by exact byCon) (trivial)) (by rfl) (by exact .inr (ownNew_row (fun j _ => hnp2 j))) (by rfl) (by exact byArgs) (by simp [Sc, sc_pl, sc_ds]) (by exact byAllc) (by exact rfl) (by exact bySc) (by rfl)), ?_⟩
              refine WA.allT [8] (by kernel_rfl) (by simp) ?_; intro i' hi'; simp only [List.mem_cons, List.not_mem_nil, or_false] at hi'
              subst hi'
              refine ⟨_, _, _, rfl, by rfl, by rfl, .inr ⟨by decide, TK.of tok (wm := false) (by rfl) (by exact byObl)⟩, ?_⟩
              refine WA.allT [9] (by kernel_rfl) (by simp) ?_; intro i' hi'; simp only [List.mem_cons, List.not_mem_nil, or_false] at hi'
              subst hi'
              refine ⟨_, _, _, rfl, by rfl, by rfl, .inl (MK.q (evalOp_q tok (wm := false) (by rfl) (by rfl) (by exact byObl))), ?_⟩
              refine WA.allT [10] (by kernel_rfl) (by simp) ?_; intro i' hi'; simp only [List.mem_cons, List.not_mem_nil, or_false] at hi'
              subst hi'
              refine ⟨_, _, _, rfl, by rfl, by rfl, .inr ⟨by decide, TK.of tok (wm := false) (by rfl) (by exact byObl)⟩, ?_⟩
              refine WA.end rfl (by kernel_rfl) (noPan ?_)
              refine WP.ghost (Ghost.give 3 0 7 (by rfl) h0 (fup_same _ _ _) rfl rfl (by rfl) (Nat.le_refl _)) ?_
              refine WP.rs T false tok (by rfl) (by exact byObl) ?_
              exact WP.ret (Ends.newE [0, 3] (⟨out.length, lnR out ((own.length - 1) + 1), gR out (gT own (own.length - 1)), (n : Int), rfl, by omega, hlnR _ (by omega), by omega, by omega, rfl⟩) (.inl rfl) (by rfl) (by exact byObl) (LeAll.cons (by rfl) (by first | with_reducible exact Root.Le.refl _ | with_reducible exact le_dead | (exact rowsG_setT hc1 rfl (Nat.le_refl _)) | exact byLeq) (by exact byCon) (LeAll.cons (by rfl) (by first | with_reducible exact Root.Le.refl _ | with_reducible exact le_dead | (exact rowsG_setT hc1 rfl (Nat.le_refl _)) | exact byLeq) (by exact byCon) (trivial))) rfl rfl (ren_t2 rfl ⟨rfl, trivial⟩) (sc_t2 (sc_sl rfl) trivial))
          · refine ⟨_, _, _, rfl, by rfl, by rfl, .inl (MK.of tok (wm := false) (by rfl) (by exact byObl) (by rfl) (by exact byObl)), ?_⟩
            refine WA.allT [2] (by kernel_rfl) (by simp) ?_; intro i' hi'; simp only [List.mem_cons, List.not_mem_nil, or_false] at hi'
            subst hi'
            refine ⟨_, _, _, rfl, by rfl, by rfl, .inl (MK.q (sll_ok (l := 1) tok rfl rfl rfl rfl rfl rfl rfl (by omega) (by omega))), ?_⟩
            refine WA.allT [3] (by kernel_rfl) (by simp) ?_; intro i' hi'; simp only [List.mem_cons, List.not_mem_nil, or_false] at hi'
            subst hi'
            refine ⟨_, _, _, rfl, by rfl, by rfl, .inl (MK.call [4] (.sl 6 0 (own.length - 1) 1) (hown) (LeAll.cons (by rfl) (by first | with_reducible exact Root.Le.refl _ | with_reducible exact le_dead | (exact le_frz (Nat.le_refl _) (fun _ _ => rfl)) | exact byLeq) (by exact byCon) (trivial)) (by rfl) (by exact .inr (ownNew_row (fun j _ => hnp2 j))) (by rfl) (by exact byArgs) (by simp [Sc, sc_pl, sc_ds]) (by exact byAllc) (by exact rfl) (by exact bySc) (by rfl)), ?_⟩
            refine WA.allT [8] (by kernel_rfl) (by simp) ?_; intro i' hi'; simp only [List.mem_cons, List.not_mem_nil, or_false] at hi'
            subst hi'
            refine ⟨_, _, _, rfl, by rfl, by rfl, .inr ⟨by decide, TK.of tok (wm := false) (by rfl) (by exact byObl)⟩, ?_⟩
            refine WA.allT [9] (by kernel_rfl) (by simp) ?_; intro i' hi'; simp only [List.mem_cons, List.not_mem_nil, or_false] at hi'
            subst hi'
            refine ⟨_, _, _, rfl, by rfl, by rfl, .inl (MK.q (evalOp_q tok (wm := false) (by rfl) (by rfl) (by exact byObl))), ?_⟩
            refine WA.allT [10] (by kernel_rfl) (by simp) ?_; intro i' hi'; simp only [List.mem_cons, List.not_mem_nil, or_false] at hi'
            subst hi'
            refine ⟨_, _, _, rfl, by rfl, by rfl, .inr ⟨by decide, TK.of tok (wm := false) (by rfl) (by exact byObl)⟩, ?_⟩
            refine WA.end rfl (by kernel_rfl) (noPan ?_)
            refine WP.ghost (Ghost.give 3 0 7 (by rfl) h0 (fup_same _ _ _) rfl rfl (by rfl) (Nat.le_refl _)) ?_
            refine WP.rs T false tok (by rfl) (by exact byObl) ?_
            exact WP.ret (Ends.newE [0, 3] (⟨out.length, lnR out ((own.length - 1) + 1), gR out (gT own (own.length - 1)), (n : Int), rfl, by omega, hlnR _ (by omega), by omega, by omega, rfl⟩) (.inl rfl) (by rfl) (by exact byObl) (LeAll.cons (by rfl) (by first | with_reducible exact Root.Le.refl _ | with_reducible exact le_dead | (exact rowsG_setT hc1 rfl (Nat.le_refl _)) | exact byLeq) (by exact byCon) (LeAll.cons (by rfl) (by first | with_reducible exact Root.Le.refl _ | with_reducible exact le_dead | (exact rowsG_setT hc1 rfl (Nat.le_refl _)) | exact byLeq) (by exact byCon) (trivial))) rfl rfl (ren_t2 rfl ⟨rfl, trivial⟩) (sc_t2 (sc_sl rfl) trivial))
  · refine WP.skip ?_
    refine WP.ghost (Ghost.give 3 0 4 (by rfl) h0 (fup_same _ _ _) rfl rfl (by rfl) (Nat.le_refl _)) ?_
    refine WP.rs T false tok (by rfl) (by exact byObl) ?_
    exact WP.ret (Ends.newE [0, 3] (⟨out.length, lnR out own.length, gR out (fun t => ((own.getD t 0 : Nat) : Int)), (n : Int), rfl, by omega, hlnR _ ho1, by omega, by omega, rfl⟩) (.inl rfl) (by rfl) (by exact byObl) (LeAll.cons (by rfl) (by first | with_reducible exact Root.Le.refl _ | with_reducible exact le_dead | (exact le_frz (Nat.le_refl _) (fun j _ => hgv _ j)) | exact byLeq) (by exact byCon) (LeAll.cons (by rfl) (by first | with_reducible exact Root.Le.refl _ | with_reducible exact le_dead | (exact le_frz (Nat.le_refl _) (fun j _ => hgv _ j)) | exact byLeq) (by exact byCon) (trivial))) rfl rfl (ren_t2 rfl ⟨rfl, trivial⟩) (sc_t2 (sc_sl rfl) trivial))

end Go.Proofs.Ytakapfgjdhliaaa
