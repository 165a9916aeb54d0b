import Derived.Test.YthjnmlpibafbnaaL9
import Derived.Test.YthjnmlpibafbnaaX36
import Derived.Test.YthjnmlpibafbnaaL46
namespace Go.Proofs.Ythjnmlpibafbnaa
open Go.RowKit DM
set_option linter.unusedSimpArgs false
set_option linter.unusedVariables false
set_option maxRecDepth 100000
set_option maxHeartbeats 1000000
set_option maxHeartbeats 16000000
theorem qu_bt {N : Nat} {b w p : Nat → Nat} (hD : Des N b w) (hp : Perm N p) {v : Nat → Nat} (hv : ∀ i, i < N → v i < N) : Bt 16 (fillF (hdQ (cycs p N) v) (cycs p N).length) := by
  have hlen : (cycs p N).length ≤ N := cyTo_len p N
  have hN := hD.le
  refine ⟨fun i => ?_, fun i hi => ?_⟩
  · show (if i < (cycs p N).length then hdQ (cycs p N) v i else 0) < 16
    split
    · have h1 : (((cycs p N).getD i []).getD 0 0) < N := by
        by_cases e : 0 < ((cycs p N).getD i []).length
        · exact (cycs_ok hN hp.lt).2 _ (getD_mem e)
        · rw [List.getD_eq_getElem?_getD (l := (cycs p N).getD i []), List.getElem?_eq_none (by omega)]; exact hD.pos
      have := prt_lt hN hp (hv _ h1)
      unfold hdQ; omega
    · omega
  · show (if i < (cycs p N).length then hdQ (cycs p N) v i else 0) = 0
    rw [if_neg (by omega)]
theorem pb_z {p : Nat → Nat} {n : Nat} (h : permB p n = true) (hz : ∀ i, 16 ≤ i → p i = 0) : ∀ i, n ≤ i → p i = 0 := fun i hi => by
  have h1 := @of_decide_eq_true _ (Classical.propDecidable _) h
  by_cases c : i < 16
  · exact (h1.2 i c).2 (by simpa using hi)
  · exact hz i (by omega)
theorem des_z {N : Nat} {b w : Nat → Nat} (h : desB N b w = true) (hz : ∀ i, 16 ≤ i → b i = 0) : ∀ i, N ≤ i → b i = 0 := by
  unfold desB at h
  simp only [Bool.and_eq_true] at h
  exact pb_z h.1 hz
theorem des_z2 {N : Nat} {b w : Nat → Nat} (h : desB N b w = true) (hz : ∀ i, 16 ≤ i → w i = 0) : ∀ i, N ≤ i → w i = 0 := by
  unfold desB at h
  simp only [Bool.and_eq_true] at h
  exact pb_z h.2.1 hz
theorem isoR_len2 {N : Nat} (hN : N ≤ 16) (b w b' w' : Nat → Nat) : (isoR N b w N b' w').length ≤ 16 := by
  unfold isoR
  rw [if_pos rfl]
  exact Nat.le_trans (isoL_len N b w b' w' N) hN
abbrev dz : Dat := ds_ 0 (fun _ => 0) (fun _ => 0)
theorem nx_nat {z : Int} {n : Nat} (h : 1 ≤ (n : Int) → 0 ≤ z ∧ z < n) (h1 : 1 ≤ (n : Int)) : ∃ j : Nat, j < n ∧ (j : Int) = z := ⟨z.toNat, by have := h h1; omega, by have := h h1; omega⟩
theorem perm_B {N : Nat} {b w : Nat → Nat} (hD : Des N b w) {p : Nat → Nat} (hp : Perm N p) (hz : ∀ i, N ≤ i → p i = 0) : permB p N = true :=
  permB_true hD.pos hD.le fun i _ => ⟨fun hi => ⟨hp.lt i hi, fun j hj e => by have := hp.inj j i (by omega) hi e; omega⟩, fun hi => hz i hi⟩
theorem quR_aut {N : Nat} {b w : Nat → Nat} (hd : desB N b w = true) (hD : Des N b w) (hbz : ∀ i, N ≤ i → b i = 0) (hwz : ∀ i, N ≤ i → w i = 0) {p : Nat → Nat} (hp : Perm N p) (hz : ∀ i, N ≤ i → p i = 0) (he : Eqv N b w b w p) :
    quR N b w p = (t3 (ds_ (cycs p N).length (fillF (hdQ (cycs p N) b) (cycs p N).length) (fillF (hdQ (cycs p N) w) (cycs p N).length)) (.sl 0 0 N 1) (.i .i64 0), [.row 2 N 1 (nmF (prtF (cycs p N)))]) := by
  obtain ⟨e1, e2⟩ := iso_ren hD hD hbz hwz hp he
  unfold quR
  rw [hd, perm_B hD hp hz, Int.toNat_natCast, e1, e2]
  have : eqDs N b w N b w = true := by unfold eqDs; rw [eq16_of (fun _ => rfl), eq16_of (fun _ => rfl)]; simp
  rw [this]; rfl
theorem cutA {len : Nat} {g : Nat → Nat} {n n' : Int} {b w b' w' : Nat → Nat} {fr : Nat → Dat} {m : List Root} (h0 : m[0]? = some (.ro len 1 (byF g))) (h1 : m[1]? = some (.var (ds_ n b w))) (h2 : m[2]? = some (.var (ds_ n' b' w'))) (s2 : fr 2 = .p 1 [] 0) (s3 : fr 3 = .p 2 [] 0) :
    Ghost 1 ⟨fr, m⟩ ⟨lst [(2, .p 1 [] 0), (3, .p 2 [] 0)], [.ro len 1 (byF g), .var (ds_ n b w), .var (ds_ n' b' w')]⟩ :=
  Ghost.cut (Nat.le_refl _) (tauOf [0, 1, 2]) _ _ (Taken.of [0, 1, 2] (LeAll.cons h0 (Root.Le.refl _) (by exact byCon) (LeAll.cons h1 (Root.Le.refl _) (by exact byCon) (LeAll.cons h2 (Root.Le.refl _) (by exact byCon) trivial))) rfl rfl)
    (SlotsR.cons s2 (sc_p rfl) (SlotsR.cons s3 (sc_p rfl) trivial))
theorem cutQ {len : Nat} {g : Nat → Nat} {a k : Nat} {h : Int} {n : Int} {b w B W : Nat → Nat} {fr : Nat → Dat} {m : List Root} (x : Nat) {d1 d2 d5 : Dat} (hd : DM.distinct [0, 1, 2, 3, 4, x] = true) (h0 : m[0]? = some (.ro len 1 (byF g))) (h1 : m[1]? = some (.var d1)) (h2 : m[2]? = some (.var d2)) (h3 : m[3]? = some (.var (srcD len g a h))) (h4 : m[4]? = some (.var (ds_ n b w))) (h5 : m[x]? = some (.var d5))
    (e1 : ds_ 0 (fun _ => 0) (fun _ => 0) = d1) (e2 : ds_ 0 (fun _ => 0) (fun _ => 0) = d2) (e5 : ds_ k B W = d5) (s2 : fr 2 = .p 1 [] 0) (s3 : fr 3 = .p 2 [] 0) (s4 : fr 4 = .p 3 [] 0) (s5 : fr 5 = .p 4 [] 0) (s7 : fr 7 = .p x [] 0) :
    Ghost 1 ⟨fr, m⟩ ⟨lst [(2, .p 1 [] 0), (3, .p 2 [] 0), (4, .p 3 [] 0), (5, .p 4 [] 0), (7, .p 5 [] 0)], [.ro len 1 (byF g), .var (ds_ 0 (fun _ => 0) (fun _ => 0)), .var (ds_ 0 (fun _ => 0) (fun _ => 0)), .var (srcD len g a h), .var (ds_ n b w), .var (ds_ k B W)]⟩ := by
  have sc_ch : ∀ (k a : Nat) (h : Int), Sc k (srcD len g a h) := fun k a h => sc_src k len g a h
  exact Ghost.cut (Nat.le_refl _) (tauOf [0, 1, 2, 3, 4, x]) _ _ (Taken.of [0, 1, 2, 3, 4, x] (LeAll.cons h0 (Root.Le.refl _) (by exact byCon) (LeAll.cons h1 (le_var e1) (by exact byCon) (LeAll.cons h2 (le_var e2) (by exact byCon) (LeAll.cons h3 (Root.Le.refl _) (by exact byCon) (LeAll.cons h4 (Root.Le.refl _) (by exact byCon) (LeAll.cons h5 (le_var e5) (by exact byCon) trivial)))))) hd rfl)
    (SlotsR.cons s2 (sc_p rfl) (SlotsR.cons s3 (sc_p rfl) (SlotsR.cons s4 (sc_p rfl) (SlotsR.cons s5 (sc_p rfl) (SlotsR.cons s7 (sc_p rfl) trivial)))))
theorem l02Two_fn (len : Nat) (g : Nat → Nat) (hg : ∀ j, g j < 256) (hl : len ≤ 4294967296) :
    FnS Try.prog 20 [.sl 0 0 len 1] [.ro len 1 (byF g)] fun r m' => ∃ (n : Int) (b w : Nat → Nat) (n' : Int) (b' w' : Nat → Nat), r = t2 (ds_ n b w) (ds_ n' b' w') ∧ DrB n b w ∧ DrB n' b' w' ∧ m' = [.ro len 1 (byF g)] := by
  have hSc : ∀ (k a : Nat) (h : Int), Sc k (srcD len g a h) := fun k a h => sc_src k len g a h
  have sc_ch := hSc
  have hfr := l01From_fn len g hg hl
  refine FnS.intoE T tok Try.func20 (by rfl) rfl rfl rfl (by simp) ?_
  refine rS ?_
  refine WP.rw ?_
  refine rU 1 ?_
  refine WPL.callE [0] (hfr) (leC leZ) (by rfl) (by rfl) (by exact byArgs) (by rfl) (by rfl) (by simp [Sc, sc_pl, sc_ds]) ?_
  rintro _ _ ⟨rfl, h1, rfl⟩
  refine ⟨⟨fun d hd => by cases hd; exact fun _ _ => trivial, fun d hd => by cases hd; exact sc_src _ _ _ _ _, trivial⟩, .p 3 [] 0, rfl, sc_p rfl, ?_⟩
  refine WPL.mem (by rfl) ?_
  refine rF ?_
  have hso := l02Some_fn len g hg 0 h1 (Nat.zero_le _) hl
  refine WP.rw ?_
  refine rU 1 ?_
  refine WPL.callE [3] (hso) (leC leZ) (by rfl) (by rfl) (by exact byArgs) (by rfl) (by rfl) (by simp [Sc, sc_pl, sc_ds]) ?_
  rintro _ _ ⟨n, b, w, a2, h2, rfl, hn1, hn2, hb, hw, ha2, rfl⟩
  have hdr : DrB n b w := ⟨hn1, hn2, hb, hw⟩
  refine ⟨⟨fun d hd => by cases hd; exact sc_src _ _ _ _ _, trivial⟩, ds_ n b w, ⟨rfl, sc_ds _ _ _ _⟩, sc_ds _ _ _ _, ?_⟩
  refine WPL.mem (by rfl) ?_
  refine rF ?_
  refine WP.ghost (gC [0, 1, 2, 3, 4] (leC (leC (leC (leC (leC leZ))))) (l := [(2, .p 1 [] 0), (3, .p 2 [] 0), (4, .p 3 [] 0), (5, .p 4 [] 0)]) (m' := [.ro len 1 (byF g), .var (ds_ 0 (fun _ => 0) (fun _ => 0)), .var (ds_ 0 (fun _ => 0) (fun _ => 0)), .var (srcD len g a2 h2), .var (ds_ n b w)])) ?_
  have his := l01Is_fn n b w hb.lt hw.lt
  refine WP.seq ?_
  refine WP.rw ?_
  refine rU 1 ?_
  refine cA (his) ?_
  cases hd : desB n b w
  · have hs2 := l02Some_fn len g hg a2 h2 ha2 hl
    refine rF ?_
    refine WP.cond (by rfl) (fun h => ?_) (fun h => WP.skip ?_)
    case refine_2 => cases h
    refine WP.seqX (fun z : Int × (Nat → Nat) × (Nat → Nat) × Nat × Int => DrB z.1 z.2.1 z.2.2.1) (fun z => ⟨lst [(2, .p 1 [] 0), (3, .p 2 [] 0)], [.ro len 1 (byF g), .var (ds_ n b w), .var (ds_ z.1 z.2.1 z.2.2.1)]⟩) ?_ ?_
    · refine WP.da (by kernel_rfl) 2 (by kernel_rfl) ?_
      refine WA.takesD T false tok [1] (f' := 4) (by kernel_rfl) (by rfl) (by rfl) (by exact byObl) (by rfl) (by rfl) ?_
      refine w2 0 2 ?_ ?_
      · refine wq ?_
        refine w1 2 ?_
        refine wSo (fun a' h' => .ro len 1 (byF g) :: .var dz :: .var dz :: .var (srcD len g a' h') :: .var (ds_ n b w) :: []) hs2 ?_
        intro n' b' w' a4 h4 hdr' _
        refine w1 3 ?_
        refine wt ?_
        refine w1 4 ?_
        refine wt ?_
        refine WA.end rfl (by kernel_rfl) (noPan ?_)
        exact ⟨(n', b', w', a4, h4), hdr', cutA rfl rfl rfl rfl rfl⟩
      · refine wSo (fun a' h' => .ro len 1 (byF g) :: .var dz :: .var dz :: .var (srcD len g a' h') :: .var (ds_ n b w) :: []) hs2 ?_
        intro n' b' w' a4 h4 hdr' _
        refine w1 0 ?_
        refine wq ?_
        refine w1 3 ?_
        refine wt ?_
        refine w1 4 ?_
        refine wt ?_
        refine WA.end rfl (by kernel_rfl) (noPan ?_)
        exact ⟨(n', b', w', a4, h4), hdr', cutA rfl rfl rfl rfl rfl⟩
    · rintro ⟨n', b', w', a3, h3⟩ hdr'
      dsimp only at hdr'
      dsimp only
      exact WP.ret (Ends.newE [0] (⟨n, b, w, n', b', w', rfl, hdr, hdr', rfl⟩) (.inl rfl) (by rfl) (by exact byObl) (leC leZ) rfl rfl (ren_t2 ⟨rfl, sc_ds _ _ _ _⟩ ⟨rfl, sc_ds _ _ _ _⟩) (sc_t2 (sc_ds _ _ _ _) (sc_ds _ _ _ _)))
  obtain ⟨N, rfl, hD⟩ := des_of_B hd
  have hN := hD.le
  have hN1 := hD.pos
  have hb16 : ∀ i, i < N → b i < 16 := fun i hi => Nat.lt_of_lt_of_le (hD.pb.lt i hi) hN
  have hw16 : ∀ i, i < N → w i < 16 := fun i hi => Nat.lt_of_lt_of_le (hD.pw.lt i hi) hN
  refine rF ?_
  refine WP.cond (by rfl) (fun h => ?_) (fun h => WP.skip ?_)
  · cases h
  have hnx := l01Next_fn len g hg a2 h2 4 ha2 hl
  refine WP.seq ?_
  refine WP.rw ?_
  refine rU 1 ?_
  refine WPL.callE [3] (hnx) (leC leZ) (by rfl) (by rfl) (by exact byArgs) (by rfl) (by rfl) (by simp [Sc, sc_pl, sc_ds]) ?_
  rintro _ _ ⟨x, a3, h3, rfl, _, _, ha3, rfl⟩
  refine ⟨⟨fun d hd => by cases hd; exact sc_src _ _ _ _ _, trivial⟩, .i .i64 x, ⟨rfl, trivial⟩, trivial, ?_⟩
  refine WPL.mem (by rfl) ?_
  refine rF ?_
  refine WP.block ?_
  refine rS ?_
  refine WP.cond (by rfl) (fun hz => ?_) (fun hz => ?_)
  · have hdp := l01DrawPlaces_fn len g hg a3 h3 (N : Int) (by omega) (by omega) ha3 hl
    have fin : ∀ p : Nat → Nat, Bt (bN (N : Int)) p → FnP Try.prog 36 [ds_ N b w, pl p] (ds_ N (renTo p b N) (renTo p w N)) := fun p hp => l02Rename_fn N b w p hN hb16 hw16 (fun i _ => Nat.lt_of_lt_of_le (hp.lt i) (bN_le (by omega)))
    have fin2 : ∀ p : Nat → Nat, Bt (bN (N : Int)) p → DrB N (renTo p b N) (renTo p w N) := fun p hp => ⟨by omega, by omega, (renTo_bt (fun i => Nat.lt_of_lt_of_le (hp.lt i) (bN_le (by omega))) N).mono (by decide), (renTo_bt (fun i => Nat.lt_of_lt_of_le (hp.lt i) (bN_le (by omega))) N).mono (by decide)⟩
    refine WP.seqX (fun z : Int × (Nat → Nat) × (Nat → Nat) × Nat × Int => DrB z.1 z.2.1 z.2.2.1) (fun z => ⟨lst [(2, .p 1 [] 0), (3, .p 2 [] 0)], [.ro len 1 (byF g), .var (ds_ N b w), .var (ds_ z.1 z.2.1 z.2.2.1)]⟩) ?_ ?_
    · refine WP.da (by kernel_rfl) 5 (by kernel_rfl) ?_
      refine WA.takesD T false tok [2] (f' := 8) (by kernel_rfl) (by rfl) (by rfl) (by exact byObl) (by rfl) (by rfl) ?_
      refine w3 0 1 3 ?_ ?_ ?_
      · refine wq ?_
        refine w2 1 3 ?_ ?_
        · refine wq ?_
          refine w1 3 ?_
          refine wq ?_
          refine w1 4 ?_
          refine wq ?_
          refine w1 5 ?_
          refine wDp (fun a' h' => .ro len 1 (byF g) :: .var dz :: .var dz :: .var (srcD len g a' h') :: .var (ds_ N b w) :: []) hdp ?_
          intro p a6 h6 hp _
          refine w1 6 ?_
          refine ⟨_, _, rfl, by rfl, by rfl, .inl (MKE.of (MK.callP (fin p hp) (by rfl) (by simp [Sc, sc_pl, sc_ds, pl_ne, ds_ne]))), ?_⟩; rintro _ _ ⟨rfl, rfl⟩
          refine w1 7 ?_
          refine wt ?_
          refine w1 8 ?_
          refine wt ?_
          refine WA.end rfl (by kernel_rfl) (noPan ?_)
          exact ⟨((N : Int), (renTo p b N), (renTo p w N), a6, h6), fin2 p hp, cutA rfl rfl rfl rfl rfl⟩
        · refine wq ?_
          refine w2 1 4 ?_ ?_
          · refine wq ?_
            refine w1 4 ?_
            refine wq ?_
            refine w1 5 ?_
            refine wDp (fun a' h' => .ro len 1 (byF g) :: .var dz :: .var dz :: .var (srcD len g a' h') :: .var (ds_ N b w) :: []) hdp ?_
            intro p a6 h6 hp _
            refine w1 6 ?_
            refine ⟨_, _, rfl, by rfl, by rfl, .inl (MKE.of (MK.callP (fin p hp) (by rfl) (by simp [Sc, sc_pl, sc_ds, pl_ne, ds_ne]))), ?_⟩; rintro _ _ ⟨rfl, rfl⟩
            refine w1 7 ?_
            refine wt ?_
            refine w1 8 ?_
            refine wt ?_
            refine WA.end rfl (by kernel_rfl) (noPan ?_)
            exact ⟨((N : Int), (renTo p b N), (renTo p w N), a6, h6), fin2 p hp, cutA rfl rfl rfl rfl rfl⟩
          · refine wq ?_
            refine w2 1 5 ?_ ?_
            · refine wq ?_
              refine w1 5 ?_
              refine wDp (fun a' h' => .ro len 1 (byF g) :: .var dz :: .var dz :: .var (srcD len g a' h') :: .var (ds_ N b w) :: []) hdp ?_
              intro p a6 h6 hp _
              refine w1 6 ?_
              refine ⟨_, _, rfl, by rfl, by rfl, .inl (MKE.of (MK.callP (fin p hp) (by rfl) (by simp [Sc, sc_pl, sc_ds, pl_ne, ds_ne]))), ?_⟩; rintro _ _ ⟨rfl, rfl⟩
              refine w1 7 ?_
              refine wt ?_
              refine w1 8 ?_
              refine wt ?_
              refine WA.end rfl (by kernel_rfl) (noPan ?_)
              exact ⟨((N : Int), (renTo p b N), (renTo p w N), a6, h6), fin2 p hp, cutA rfl rfl rfl rfl rfl⟩
            · refine wDp (fun a' h' => .ro len 1 (byF g) :: .var dz :: .var dz :: .var (srcD len g a' h') :: .var (ds_ N b w) :: []) hdp ?_
              intro p a6 h6 hp _
              refine w1 1 ?_
              refine wq ?_
              refine w1 6 ?_
              refine ⟨_, _, rfl, by rfl, by rfl, .inl (MKE.of (MK.callP (fin p hp) (by rfl) (by simp [Sc, sc_pl, sc_ds, pl_ne, ds_ne]))), ?_⟩; rintro _ _ ⟨rfl, rfl⟩
              refine w1 7 ?_
              refine wt ?_
              refine w1 8 ?_
              refine wt ?_
              refine WA.end rfl (by kernel_rfl) (noPan ?_)
              exact ⟨((N : Int), (renTo p b N), (renTo p w N), a6, h6), fin2 p hp, cutA rfl rfl rfl rfl rfl⟩
      · refine wq ?_
        refine w2 0 3 ?_ ?_
        · refine wq ?_
          refine w1 3 ?_
          refine wq ?_
          refine w1 4 ?_
          refine wq ?_
          refine w1 5 ?_
          refine wDp (fun a' h' => .ro len 1 (byF g) :: .var dz :: .var dz :: .var (srcD len g a' h') :: .var (ds_ N b w) :: []) hdp ?_
          intro p a6 h6 hp _
          refine w1 6 ?_
          refine ⟨_, _, rfl, by rfl, by rfl, .inl (MKE.of (MK.callP (fin p hp) (by rfl) (by simp [Sc, sc_pl, sc_ds, pl_ne, ds_ne]))), ?_⟩; rintro _ _ ⟨rfl, rfl⟩
          refine w1 7 ?_
          refine wt ?_
          refine w1 8 ?_
          refine wt ?_
          refine WA.end rfl (by kernel_rfl) (noPan ?_)
          exact ⟨((N : Int), (renTo p b N), (renTo p w N), a6, h6), fin2 p hp, cutA rfl rfl rfl rfl rfl⟩
        · refine wq ?_
          refine w2 0 4 ?_ ?_
          · refine wq ?_
            refine w1 4 ?_
            refine wq ?_
            refine w1 5 ?_
            refine wDp (fun a' h' => .ro len 1 (byF g) :: .var dz :: .var dz :: .var (srcD len g a' h') :: .var (ds_ N b w) :: []) hdp ?_
            intro p a6 h6 hp _
            refine w1 6 ?_
            refine ⟨_, _, rfl, by rfl, by rfl, .inl (MKE.of (MK.callP (fin p hp) (by rfl) (by simp [Sc, sc_pl, sc_ds, pl_ne, ds_ne]))), ?_⟩; rintro _ _ ⟨rfl, rfl⟩
            refine w1 7 ?_
            refine wt ?_
            refine w1 8 ?_
            refine wt ?_
            refine WA.end rfl (by kernel_rfl) (noPan ?_)
            exact ⟨((N : Int), (renTo p b N), (renTo p w N), a6, h6), fin2 p hp, cutA rfl rfl rfl rfl rfl⟩
          · refine wq ?_
            refine w2 0 5 ?_ ?_
            · refine wq ?_
              refine w1 5 ?_
              refine wDp (fun a' h' => .ro len 1 (byF g) :: .var dz :: .var dz :: .var (srcD len g a' h') :: .var (ds_ N b w) :: []) hdp ?_
              intro p a6 h6 hp _
              refine w1 6 ?_
              refine ⟨_, _, rfl, by rfl, by rfl, .inl (MKE.of (MK.callP (fin p hp) (by rfl) (by simp [Sc, sc_pl, sc_ds, pl_ne, ds_ne]))), ?_⟩; rintro _ _ ⟨rfl, rfl⟩
              refine w1 7 ?_
              refine wt ?_
              refine w1 8 ?_
              refine wt ?_
              refine WA.end rfl (by kernel_rfl) (noPan ?_)
              exact ⟨((N : Int), (renTo p b N), (renTo p w N), a6, h6), fin2 p hp, cutA rfl rfl rfl rfl rfl⟩
            · refine wDp (fun a' h' => .ro len 1 (byF g) :: .var dz :: .var dz :: .var (srcD len g a' h') :: .var (ds_ N b w) :: []) hdp ?_
              intro p a6 h6 hp _
              refine w2 0 6 ?_ ?_
              · refine wq ?_
                refine w1 6 ?_
                refine ⟨_, _, rfl, by rfl, by rfl, .inl (MKE.of (MK.callP (fin p hp) (by rfl) (by simp [Sc, sc_pl, sc_ds, pl_ne, ds_ne]))), ?_⟩; rintro _ _ ⟨rfl, rfl⟩
                refine w1 7 ?_
                refine wt ?_
                refine w1 8 ?_
                refine wt ?_
                refine WA.end rfl (by kernel_rfl) (noPan ?_)
                exact ⟨((N : Int), (renTo p b N), (renTo p w N), a6, h6), fin2 p hp, cutA rfl rfl rfl rfl rfl⟩
              · refine ⟨_, _, rfl, by rfl, by rfl, .inl (MKE.of (MK.callP (fin p hp) (by rfl) (by simp [Sc, sc_pl, sc_ds, pl_ne, ds_ne]))), ?_⟩; rintro _ _ ⟨rfl, rfl⟩
                refine w1 0 ?_
                refine wq ?_
                refine w1 7 ?_
                refine wt ?_
                refine w1 8 ?_
                refine wt ?_
                refine WA.end rfl (by kernel_rfl) (noPan ?_)
                exact ⟨((N : Int), (renTo p b N), (renTo p w N), a6, h6), fin2 p hp, cutA rfl rfl rfl rfl rfl⟩
      · refine wq ?_
        refine w3 0 1 4 ?_ ?_ ?_
        · refine wq ?_
          refine w2 1 4 ?_ ?_
          · refine wq ?_
            refine w1 4 ?_
            refine wq ?_
            refine w1 5 ?_
            refine wDp (fun a' h' => .ro len 1 (byF g) :: .var dz :: .var dz :: .var (srcD len g a' h') :: .var (ds_ N b w) :: []) hdp ?_
            intro p a6 h6 hp _
            refine w1 6 ?_
            refine ⟨_, _, rfl, by rfl, by rfl, .inl (MKE.of (MK.callP (fin p hp) (by rfl) (by simp [Sc, sc_pl, sc_ds, pl_ne, ds_ne]))), ?_⟩; rintro _ _ ⟨rfl, rfl⟩
            refine w1 7 ?_
            refine wt ?_
            refine w1 8 ?_
            refine wt ?_
            refine WA.end rfl (by kernel_rfl) (noPan ?_)
            exact ⟨((N : Int), (renTo p b N), (renTo p w N), a6, h6), fin2 p hp, cutA rfl rfl rfl rfl rfl⟩
          · refine wq ?_
            refine w2 1 5 ?_ ?_
            · refine wq ?_
              refine w1 5 ?_
              refine wDp (fun a' h' => .ro len 1 (byF g) :: .var dz :: .var dz :: .var (srcD len g a' h') :: .var (ds_ N b w) :: []) hdp ?_
              intro p a6 h6 hp _
              refine w1 6 ?_
              refine ⟨_, _, rfl, by rfl, by rfl, .inl (MKE.of (MK.callP (fin p hp) (by rfl) (by simp [Sc, sc_pl, sc_ds, pl_ne, ds_ne]))), ?_⟩; rintro _ _ ⟨rfl, rfl⟩
              refine w1 7 ?_
              refine wt ?_
              refine w1 8 ?_
              refine wt ?_
              refine WA.end rfl (by kernel_rfl) (noPan ?_)
              exact ⟨((N : Int), (renTo p b N), (renTo p w N), a6, h6), fin2 p hp, cutA rfl rfl rfl rfl rfl⟩
            · refine wDp (fun a' h' => .ro len 1 (byF g) :: .var dz :: .var dz :: .var (srcD len g a' h') :: .var (ds_ N b w) :: []) hdp ?_
              intro p a6 h6 hp _
              refine w1 1 ?_
              refine wq ?_
              refine w1 6 ?_
              refine ⟨_, _, rfl, by rfl, by rfl, .inl (MKE.of (MK.callP (fin p hp) (by rfl) (by simp [Sc, sc_pl, sc_ds, pl_ne, ds_ne]))), ?_⟩; rintro _ _ ⟨rfl, rfl⟩
              refine w1 7 ?_
              refine wt ?_
              refine w1 8 ?_
              refine wt ?_
              refine WA.end rfl (by kernel_rfl) (noPan ?_)
              exact ⟨((N : Int), (renTo p b N), (renTo p w N), a6, h6), fin2 p hp, cutA rfl rfl rfl rfl rfl⟩
        · refine wq ?_
          refine w2 0 4 ?_ ?_
          · refine wq ?_
            refine w1 4 ?_
            refine wq ?_
            refine w1 5 ?_
            refine wDp (fun a' h' => .ro len 1 (byF g) :: .var dz :: .var dz :: .var (srcD len g a' h') :: .var (ds_ N b w) :: []) hdp ?_
            intro p a6 h6 hp _
            refine w1 6 ?_
            refine ⟨_, _, rfl, by rfl, by rfl, .inl (MKE.of (MK.callP (fin p hp) (by rfl) (by simp [Sc, sc_pl, sc_ds, pl_ne, ds_ne]))), ?_⟩; rintro _ _ ⟨rfl, rfl⟩
            refine w1 7 ?_
            refine wt ?_
            refine w1 8 ?_
            refine wt ?_
            refine WA.end rfl (by kernel_rfl) (noPan ?_)
            exact ⟨((N : Int), (renTo p b N), (renTo p w N), a6, h6), fin2 p hp, cutA rfl rfl rfl rfl rfl⟩
          · refine wq ?_
            refine w2 0 5 ?_ ?_
            · refine wq ?_
              refine w1 5 ?_
              refine wDp (fun a' h' => .ro len 1 (byF g) :: .var dz :: .var dz :: .var (srcD len g a' h') :: .var (ds_ N b w) :: []) hdp ?_
              intro p a6 h6 hp _
              refine w1 6 ?_
              refine ⟨_, _, rfl, by rfl, by rfl, .inl (MKE.of (MK.callP (fin p hp) (by rfl) (by simp [Sc, sc_pl, sc_ds, pl_ne, ds_ne]))), ?_⟩; rintro _ _ ⟨rfl, rfl⟩
              refine w1 7 ?_
              refine wt ?_
              refine w1 8 ?_
              refine wt ?_
              refine WA.end rfl (by kernel_rfl) (noPan ?_)
              exact ⟨((N : Int), (renTo p b N), (renTo p w N), a6, h6), fin2 p hp, cutA rfl rfl rfl rfl rfl⟩
            · refine wDp (fun a' h' => .ro len 1 (byF g) :: .var dz :: .var dz :: .var (srcD len g a' h') :: .var (ds_ N b w) :: []) hdp ?_
              intro p a6 h6 hp _
              refine w2 0 6 ?_ ?_
              · refine wq ?_
                refine w1 6 ?_
                refine ⟨_, _, rfl, by rfl, by rfl, .inl (MKE.of (MK.callP (fin p hp) (by rfl) (by simp [Sc, sc_pl, sc_ds, pl_ne, ds_ne]))), ?_⟩; rintro _ _ ⟨rfl, rfl⟩
                refine w1 7 ?_
                refine wt ?_
                refine w1 8 ?_
                refine wt ?_
                refine WA.end rfl (by kernel_rfl) (noPan ?_)
                exact ⟨((N : Int), (renTo p b N), (renTo p w N), a6, h6), fin2 p hp, cutA rfl rfl rfl rfl rfl⟩
              · refine ⟨_, _, rfl, by rfl, by rfl, .inl (MKE.of (MK.callP (fin p hp) (by rfl) (by simp [Sc, sc_pl, sc_ds, pl_ne, ds_ne]))), ?_⟩; rintro _ _ ⟨rfl, rfl⟩
                refine w1 0 ?_
                refine wq ?_
                refine w1 7 ?_
                refine wt ?_
                refine w1 8 ?_
                refine wt ?_
                refine WA.end rfl (by kernel_rfl) (noPan ?_)
                exact ⟨((N : Int), (renTo p b N), (renTo p w N), a6, h6), fin2 p hp, cutA rfl rfl rfl rfl rfl⟩
        · refine wq ?_
          refine w3 0 1 5 ?_ ?_ ?_
          · refine wq ?_
            refine w2 1 5 ?_ ?_
            · refine wq ?_
              refine w1 5 ?_
              refine wDp (fun a' h' => .ro len 1 (byF g) :: .var dz :: .var dz :: .var (srcD len g a' h') :: .var (ds_ N b w) :: []) hdp ?_
              intro p a6 h6 hp _
              refine w1 6 ?_
              refine ⟨_, _, rfl, by rfl, by rfl, .inl (MKE.of (MK.callP (fin p hp) (by rfl) (by simp [Sc, sc_pl, sc_ds, pl_ne, ds_ne]))), ?_⟩; rintro _ _ ⟨rfl, rfl⟩
              refine w1 7 ?_
              refine wt ?_
              refine w1 8 ?_
              refine wt ?_
              refine WA.end rfl (by kernel_rfl) (noPan ?_)
              exact ⟨((N : Int), (renTo p b N), (renTo p w N), a6, h6), fin2 p hp, cutA rfl rfl rfl rfl rfl⟩
            · refine wDp (fun a' h' => .ro len 1 (byF g) :: .var dz :: .var dz :: .var (srcD len g a' h') :: .var (ds_ N b w) :: []) hdp ?_
              intro p a6 h6 hp _
              refine w1 1 ?_
              refine wq ?_
              refine w1 6 ?_
              refine ⟨_, _, rfl, by rfl, by rfl, .inl (MKE.of (MK.callP (fin p hp) (by rfl) (by simp [Sc, sc_pl, sc_ds, pl_ne, ds_ne]))), ?_⟩; rintro _ _ ⟨rfl, rfl⟩
              refine w1 7 ?_
              refine wt ?_
              refine w1 8 ?_
              refine wt ?_
              refine WA.end rfl (by kernel_rfl) (noPan ?_)
              exact ⟨((N : Int), (renTo p b N), (renTo p w N), a6, h6), fin2 p hp, cutA rfl rfl rfl rfl rfl⟩
          · refine wq ?_
            refine w2 0 5 ?_ ?_
            · refine wq ?_
              refine w1 5 ?_
              refine wDp (fun a' h' => .ro len 1 (byF g) :: .var dz :: .var dz :: .var (srcD len g a' h') :: .var (ds_ N b w) :: []) hdp ?_
              intro p a6 h6 hp _
              refine w1 6 ?_
              refine ⟨_, _, rfl, by rfl, by rfl, .inl (MKE.of (MK.callP (fin p hp) (by rfl) (by simp [Sc, sc_pl, sc_ds, pl_ne, ds_ne]))), ?_⟩; rintro _ _ ⟨rfl, rfl⟩
              refine w1 7 ?_
              refine wt ?_
              refine w1 8 ?_
              refine wt ?_
              refine WA.end rfl (by kernel_rfl) (noPan ?_)
              exact ⟨((N : Int), (renTo p b N), (renTo p w N), a6, h6), fin2 p hp, cutA rfl rfl rfl rfl rfl⟩
            · refine wDp (fun a' h' => .ro len 1 (byF g) :: .var dz :: .var dz :: .var (srcD len g a' h') :: .var (ds_ N b w) :: []) hdp ?_
              intro p a6 h6 hp _
              refine w2 0 6 ?_ ?_
              · refine wq ?_
                refine w1 6 ?_
                refine ⟨_, _, rfl, by rfl, by rfl, .inl (MKE.of (MK.callP (fin p hp) (by rfl) (by simp [Sc, sc_pl, sc_ds, pl_ne, ds_ne]))), ?_⟩; rintro _ _ ⟨rfl, rfl⟩
                refine w1 7 ?_
                refine wt ?_
                refine w1 8 ?_
                refine wt ?_
                refine WA.end rfl (by kernel_rfl) (noPan ?_)
                exact ⟨((N : Int), (renTo p b N), (renTo p w N), a6, h6), fin2 p hp, cutA rfl rfl rfl rfl rfl⟩
              · refine ⟨_, _, rfl, by rfl, by rfl, .inl (MKE.of (MK.callP (fin p hp) (by rfl) (by simp [Sc, sc_pl, sc_ds, pl_ne, ds_ne]))), ?_⟩; rintro _ _ ⟨rfl, rfl⟩
                refine w1 0 ?_
                refine wq ?_
                refine w1 7 ?_
                refine wt ?_
                refine w1 8 ?_
                refine wt ?_
                refine WA.end rfl (by kernel_rfl) (noPan ?_)
                exact ⟨((N : Int), (renTo p b N), (renTo p w N), a6, h6), fin2 p hp, cutA rfl rfl rfl rfl rfl⟩
          · refine wDp (fun a' h' => .ro len 1 (byF g) :: .var dz :: .var dz :: .var (srcD len g a' h') :: .var (ds_ N b w) :: []) hdp ?_
            intro p a6 h6 hp _
            refine w2 0 1 ?_ ?_
            · refine wq ?_
              refine w1 1 ?_
              refine wq ?_
              refine w1 6 ?_
              refine ⟨_, _, rfl, by rfl, by rfl, .inl (MKE.of (MK.callP (fin p hp) (by rfl) (by simp [Sc, sc_pl, sc_ds, pl_ne, ds_ne]))), ?_⟩; rintro _ _ ⟨rfl, rfl⟩
              refine w1 7 ?_
              refine wt ?_
              refine w1 8 ?_
              refine wt ?_
              refine WA.end rfl (by kernel_rfl) (noPan ?_)
              exact ⟨((N : Int), (renTo p b N), (renTo p w N), a6, h6), fin2 p hp, cutA rfl rfl rfl rfl rfl⟩
            · refine wq ?_
              refine w2 0 6 ?_ ?_
              · refine wq ?_
                refine w1 6 ?_
                refine ⟨_, _, rfl, by rfl, by rfl, .inl (MKE.of (MK.callP (fin p hp) (by rfl) (by simp [Sc, sc_pl, sc_ds, pl_ne, ds_ne]))), ?_⟩; rintro _ _ ⟨rfl, rfl⟩
                refine w1 7 ?_
                refine wt ?_
                refine w1 8 ?_
                refine wt ?_
                refine WA.end rfl (by kernel_rfl) (noPan ?_)
                exact ⟨((N : Int), (renTo p b N), (renTo p w N), a6, h6), fin2 p hp, cutA rfl rfl rfl rfl rfl⟩
              · refine ⟨_, _, rfl, by rfl, by rfl, .inl (MKE.of (MK.callP (fin p hp) (by rfl) (by simp [Sc, sc_pl, sc_ds, pl_ne, ds_ne]))), ?_⟩; rintro _ _ ⟨rfl, rfl⟩
                refine w1 0 ?_
                refine wq ?_
                refine w1 7 ?_
                refine wt ?_
                refine w1 8 ?_
                refine wt ?_
                refine WA.end rfl (by kernel_rfl) (noPan ?_)
                exact ⟨((N : Int), (renTo p b N), (renTo p w N), a6, h6), fin2 p hp, cutA rfl rfl rfl rfl rfl⟩
    · rintro ⟨n', b', w', a4, h4⟩ hdr'
      dsimp only at hdr'
      dsimp only
      exact WP.ret (Ends.newE [0] (⟨N, b, w, n', b', w', rfl, hdr, hdr', rfl⟩) (.inl rfl) (by rfl) (by exact byObl) (leC leZ) rfl rfl (ren_t2 ⟨rfl, sc_ds _ _ _ _⟩ ⟨rfl, sc_ds _ _ _ _⟩) (sc_t2 (sc_ds _ _ _ _) (sc_ds _ _ _ _)))
  refine rS ?_
  refine WP.cond (by rfl) (fun hz => ?_) (fun hz => ?_)
  · have hall := l02All_fn N N b w b w hD hD
    have hbz : ∀ i, N ≤ i → b i = 0 := des_z hd hb.z
    have hwz : ∀ i, N ≤ i → w i = 0 := des_z2 hd hw.z
    have hpos := auts_pos hD
    have hget := fun i (hi : i < (isoR N b w N b w).length) => isoL_get (N := N) (b := b) (w := w) (b' := b) (w' := w) hD hD (i := i) (by unfold isoR at hi; rw [if_pos rfl] at hi; exact hi)
    have hposR : 0 < (isoR N b w N b w).length := by unfold isoR; rw [if_pos rfl]; exact hpos
    have hqu : ∀ j, j < (isoR N b w N b w).length → ∃ (k : Nat) (B W R : Nat → Nat), k ≤ 16 ∧ Bt 16 B ∧ Bt 16 W ∧ FnS Try.prog 11 [ds_ N b w, pl ((isoR N b w N b w).getD j fun _ => 0)] [] fun r m' => r = t3 (ds_ k B W) (.sl 0 0 N 1) (.i .i64 0) ∧ m' = [.row 2 N 1 (nmF R)] := fun j hj => by
      obtain ⟨y, hy, hB, e⟩ := hget j hj
      obtain ⟨c1, c2, c3, c4⟩ := iso_of hD hD hy hB
      have e' : (isoR N b w N b w).getD j (fun _ => 0) = isoP N b w b w y := by unfold isoR; rw [if_pos rfl]; exact e
      have hlen : (cycs (isoP N b w b w y) N).length ≤ N := cyTo_len _ N
      rw [e']
      have h9 := specQuotient_fn N b w (isoP N b w b w y) hb.lt hw.lt (fun i => by
        by_cases hi : i < N
        · have := c1.lt i hi; omega
        · rw [c4 i (by omega)]; omega)
      rw [quR_aut hd hD hbz hwz c1 c4 c3] at h9
      exact ⟨_, _, _, _, by omega, qu_bt hD c1 hD.pb.lt, qu_bt hD c1 hD.pw.lt, h9⟩
    have hlR : (isoR N b w N b w).length ≤ 16 := isoR_len2 hN b w b w
    generalize isoR N b w N b w = L at *
    refine WP.rw ?_
    refine rU 2 ?_
    refine cN [] (.sl 5 0 L.length 16) (hall) leZ (rfl) ?_
    refine rF ?_
    have hnx2 := l01Next_fn len g hg a3 h3 (L.length : Int) ha3 hl
    refine WP.seqX (fun z : Nat × (Nat → Nat) × (Nat → Nat) × Nat × Int => z.1 ≤ 16 ∧ Bt 16 z.2.1 ∧ Bt 16 z.2.2.1 ∧ z.2.2.2.1 ≤ len) (fun z => ⟨lst [(2, .p 1 [] 0), (3, .p 2 [] 0), (4, .p 3 [] 0), (5, .p 4 [] 0), (7, .p 5 [] 0)], [.ro len 1 (byF g), .var (ds_ 0 (fun _ => 0) (fun _ => 0)), .var (ds_ 0 (fun _ => 0) (fun _ => 0)), .var (srcD len g z.2.2.2.1 z.2.2.2.2), .var (ds_ N b w), .var (ds_ z.1 z.2.1 z.2.2.1)]⟩) ?_ ?_
    · refine WP.da (by kernel_rfl) 5 (by kernel_rfl) ?_
      refine WA.takesD T false tok [1, 2, 3] (f' := 14) (by kernel_rfl) (by rfl) (by rfl) (by exact byObl) (by rfl) (by rfl) ?_
      refine w3 0 4 13 ?_ ?_ ?_
      · refine wq ?_
        refine w2 4 13 ?_ ?_
        · refine wq ?_
          refine w2 5 13 ?_ ?_
          · refine wNx (fun a' h' => .ro len 1 (byF g) :: .var dz :: .var dz :: .var (srcD len g a' h') :: .var (ds_ N b w) :: [.row 25 L.length 16 (plsF L)]) hnx2 ?_
            intro z a4 h4 hz ha4
            obtain ⟨j, hj, rfl⟩ := nx_nat hz (by omega)
            obtain ⟨k, B, W, R, hk, hB, hW, hq⟩ := hqu j hj
            refine w2 6 13 ?_ ?_
            · refine wq ?_
              refine w2 7 13 ?_ ?_
              · refine wq ?_
                refine w2 8 13 ?_ ?_
                · refine ⟨_, fun v m' => v = t3 (ds_ k B W) (.sl 6 0 N 1) (.i .i64 0) ∧ m' = .ro len 1 (byF g) :: .var dz :: .var dz :: .var (srcD len g a4 h4) :: .var (ds_ N b w) :: [.row 25 L.length 16 (plsF L), .row 2 N 1 (nmF R)], rfl, by rfl, by rfl, .inr ⟨by decide, TKE.call [] (hq) leZ (by rfl) (by rfl) (by exact byArgs) (by simp [Sc, sc_pl, sc_ds]) ?_⟩, ?_⟩
                  · rintro _ _ ⟨rfl, rfl⟩
                    exact ⟨by exact byAllc, _, ren_t3 ⟨rfl, sc_ds _ _ _ _⟩ rfl ⟨rfl, trivial⟩, sc_t3 (sc_ds _ _ _ _) (sc_sl rfl) trivial, rfl, rfl⟩
                  rintro _ _ ⟨rfl, rfl⟩
                  refine WA.takesD T false tok [9, 10, 11, 12] (f' := 4) (by kernel_rfl) (by rfl) (by rfl) (by exact byObl) (by rfl) (by rfl) ?_
                  refine w1 13 ?_
                  refine ⟨_, _, rfl, by rfl, by rfl, .inl (MKE.of (MK.of tok (wm := false) (by rfl) (by exact byObl) (by rfl) (by exact byObl))), ?_⟩; rintro _ _ ⟨rfl, rfl⟩
                  refine w1 14 ?_
                  refine wt ?_
                  refine WA.takesD T false tok [15, 16] (f' := 0) (by kernel_rfl) (by rfl) (by rfl) (by exact byObl) (by rfl) (by rfl) ?_
                  refine WA.end rfl (by kernel_rfl) (noPan ?_)
                  exact ⟨(k, B, W, a4, h4), ⟨hk, hB, hW, ha4⟩, cutQ 7 rfl rfl rfl rfl rfl rfl rfl rfl rfl (dsf_of rfl rfl rfl fun _ => rfl).symm rfl rfl rfl rfl rfl⟩
                · refine ⟨_, _, rfl, by rfl, by rfl, .inl (MKE.of (MK.of tok (wm := false) (by rfl) (by exact byObl) (by rfl) (by exact byObl))), ?_⟩; rintro _ _ ⟨rfl, rfl⟩
                  refine w1 8 ?_
                  refine ⟨_, fun v m' => v = t3 (ds_ k B W) (.sl 7 0 N 1) (.i .i64 0) ∧ m' = .ro len 1 (byF g) :: .var dz :: .var dz :: .var (srcD len g a4 h4) :: .var (ds_ N b w) :: [.row 25 L.length 16 (plsF L), .var ti27.z, .row 2 N 1 (nmF R)], rfl, by rfl, by rfl, .inr ⟨by decide, TKE.call [] (hq) leZ (by rfl) (by rfl) (by exact byArgs) (by simp [Sc, sc_pl, sc_ds]) ?_⟩, ?_⟩
                  · rintro _ _ ⟨rfl, rfl⟩
                    exact ⟨by exact byAllc, _, ren_t3 ⟨rfl, sc_ds _ _ _ _⟩ rfl ⟨rfl, trivial⟩, sc_t3 (sc_ds _ _ _ _) (sc_sl rfl) trivial, rfl, rfl⟩
                  rintro _ _ ⟨rfl, rfl⟩
                  refine WA.takesD T false tok [9, 10, 11, 12] (f' := 3) (by kernel_rfl) (by rfl) (by rfl) (by exact byObl) (by rfl) (by rfl) ?_
                  refine w1 14 ?_
                  refine wt ?_
                  refine WA.takesD T false tok [15, 16] (f' := 0) (by kernel_rfl) (by rfl) (by rfl) (by exact byObl) (by rfl) (by rfl) ?_
                  refine WA.end rfl (by kernel_rfl) (noPan ?_)
                  exact ⟨(k, B, W, a4, h4), ⟨hk, hB, hW, ha4⟩, cutQ 6 rfl rfl rfl rfl rfl rfl rfl rfl rfl (dsf_of rfl rfl rfl fun _ => rfl).symm rfl rfl rfl rfl rfl⟩
              · refine ⟨_, _, rfl, by rfl, by rfl, .inl (MKE.of (MK.of tok (wm := false) (by rfl) (by exact byObl) (by rfl) (by exact byObl))), ?_⟩; rintro _ _ ⟨rfl, rfl⟩
                refine w1 7 ?_
                refine wq ?_
                refine w1 8 ?_
                refine ⟨_, fun v m' => v = t3 (ds_ k B W) (.sl 7 0 N 1) (.i .i64 0) ∧ m' = .ro len 1 (byF g) :: .var dz :: .var dz :: .var (srcD len g a4 h4) :: .var (ds_ N b w) :: [.row 25 L.length 16 (plsF L), .var ti27.z, .row 2 N 1 (nmF R)], rfl, by rfl, by rfl, .inr ⟨by decide, TKE.call [] (hq) leZ (by rfl) (by rfl) (by exact byArgs) (by simp [Sc, sc_pl, sc_ds]) ?_⟩, ?_⟩
                · rintro _ _ ⟨rfl, rfl⟩
                  exact ⟨by exact byAllc, _, ren_t3 ⟨rfl, sc_ds _ _ _ _⟩ rfl ⟨rfl, trivial⟩, sc_t3 (sc_ds _ _ _ _) (sc_sl rfl) trivial, rfl, rfl⟩
                rintro _ _ ⟨rfl, rfl⟩
                refine WA.takesD T false tok [9, 10, 11, 12] (f' := 3) (by kernel_rfl) (by rfl) (by rfl) (by exact byObl) (by rfl) (by rfl) ?_
                refine w1 14 ?_
                refine wt ?_
                refine WA.takesD T false tok [15, 16] (f' := 0) (by kernel_rfl) (by rfl) (by rfl) (by exact byObl) (by rfl) (by rfl) ?_
                refine WA.end rfl (by kernel_rfl) (noPan ?_)
                exact ⟨(k, B, W, a4, h4), ⟨hk, hB, hW, ha4⟩, cutQ 6 rfl rfl rfl rfl rfl rfl rfl rfl rfl (dsf_of rfl rfl rfl fun _ => rfl).symm rfl rfl rfl rfl rfl⟩
            · refine ⟨_, _, rfl, by rfl, by rfl, .inl (MKE.of (MK.of tok (wm := false) (by rfl) (by exact byObl) (by rfl) (by exact byObl))), ?_⟩; rintro _ _ ⟨rfl, rfl⟩
              refine w1 6 ?_
              refine wq ?_
              refine w1 7 ?_
              refine wq ?_
              refine w1 8 ?_
              refine ⟨_, fun v m' => v = t3 (ds_ k B W) (.sl 7 0 N 1) (.i .i64 0) ∧ m' = .ro len 1 (byF g) :: .var dz :: .var dz :: .var (srcD len g a4 h4) :: .var (ds_ N b w) :: [.row 25 L.length 16 (plsF L), .var ti27.z, .row 2 N 1 (nmF R)], rfl, by rfl, by rfl, .inr ⟨by decide, TKE.call [] (hq) leZ (by rfl) (by rfl) (by exact byArgs) (by simp [Sc, sc_pl, sc_ds]) ?_⟩, ?_⟩
              · rintro _ _ ⟨rfl, rfl⟩
                exact ⟨by exact byAllc, _, ren_t3 ⟨rfl, sc_ds _ _ _ _⟩ rfl ⟨rfl, trivial⟩, sc_t3 (sc_ds _ _ _ _) (sc_sl rfl) trivial, rfl, rfl⟩
              rintro _ _ ⟨rfl, rfl⟩
              refine WA.takesD T false tok [9, 10, 11, 12] (f' := 3) (by kernel_rfl) (by rfl) (by rfl) (by exact byObl) (by rfl) (by rfl) ?_
              refine w1 14 ?_
              refine wt ?_
              refine WA.takesD T false tok [15, 16] (f' := 0) (by kernel_rfl) (by rfl) (by rfl) (by exact byObl) (by rfl) (by rfl) ?_
              refine WA.end rfl (by kernel_rfl) (noPan ?_)
              exact ⟨(k, B, W, a4, h4), ⟨hk, hB, hW, ha4⟩, cutQ 6 rfl rfl rfl rfl rfl rfl rfl rfl rfl (dsf_of rfl rfl rfl fun _ => rfl).symm rfl rfl rfl rfl rfl⟩
          · refine ⟨_, _, rfl, by rfl, by rfl, .inl (MKE.of (MK.of tok (wm := false) (by rfl) (by exact byObl) (by rfl) (by exact byObl))), ?_⟩; rintro _ _ ⟨rfl, rfl⟩
            refine w1 5 ?_
            refine wNx (fun a' h' => .ro len 1 (byF g) :: .var dz :: .var dz :: .var (srcD len g a' h') :: .var (ds_ N b w) :: [.row 25 L.length 16 (plsF L), .var ti27.z]) hnx2 ?_
            intro z a4 h4 hz ha4
            obtain ⟨j, hj, rfl⟩ := nx_nat hz (by omega)
            obtain ⟨k, B, W, R, hk, hB, hW, hq⟩ := hqu j hj
            refine w1 6 ?_
            refine wq ?_
            refine w1 7 ?_
            refine wq ?_
            refine w1 8 ?_
            refine ⟨_, fun v m' => v = t3 (ds_ k B W) (.sl 7 0 N 1) (.i .i64 0) ∧ m' = .ro len 1 (byF g) :: .var dz :: .var dz :: .var (srcD len g a4 h4) :: .var (ds_ N b w) :: [.row 25 L.length 16 (plsF L), .var ti27.z, .row 2 N 1 (nmF R)], rfl, by rfl, by rfl, .inr ⟨by decide, TKE.call [] (hq) leZ (by rfl) (by rfl) (by exact byArgs) (by simp [Sc, sc_pl, sc_ds]) ?_⟩, ?_⟩
            · rintro _ _ ⟨rfl, rfl⟩
              exact ⟨by exact byAllc, _, ren_t3 ⟨rfl, sc_ds _ _ _ _⟩ rfl ⟨rfl, trivial⟩, sc_t3 (sc_ds _ _ _ _) (sc_sl rfl) trivial, rfl, rfl⟩
            rintro _ _ ⟨rfl, rfl⟩
            refine WA.takesD T false tok [9, 10, 11, 12] (f' := 3) (by kernel_rfl) (by rfl) (by rfl) (by exact byObl) (by rfl) (by rfl) ?_
            refine w1 14 ?_
            refine wt ?_
            refine WA.takesD T false tok [15, 16] (f' := 0) (by kernel_rfl) (by rfl) (by rfl) (by exact byObl) (by rfl) (by rfl) ?_
            refine WA.end rfl (by kernel_rfl) (noPan ?_)
            exact ⟨(k, B, W, a4, h4), ⟨hk, hB, hW, ha4⟩, cutQ 6 rfl rfl rfl rfl rfl rfl rfl rfl rfl (dsf_of rfl rfl rfl fun _ => rfl).symm rfl rfl rfl rfl rfl⟩
        · refine ⟨_, _, rfl, by rfl, by rfl, .inl (MKE.of (MK.of tok (wm := false) (by rfl) (by exact byObl) (by rfl) (by exact byObl))), ?_⟩; rintro _ _ ⟨rfl, rfl⟩
          refine w1 4 ?_
          refine wq ?_
          refine w1 5 ?_
          refine wNx (fun a' h' => .ro len 1 (byF g) :: .var dz :: .var dz :: .var (srcD len g a' h') :: .var (ds_ N b w) :: [.row 25 L.length 16 (plsF L), .var ti27.z]) hnx2 ?_
          intro z a4 h4 hz ha4
          obtain ⟨j, hj, rfl⟩ := nx_nat hz (by omega)
          obtain ⟨k, B, W, R, hk, hB, hW, hq⟩ := hqu j hj
          refine w1 6 ?_
          refine wq ?_
          refine w1 7 ?_
          refine wq ?_
          refine w1 8 ?_
          refine ⟨_, fun v m' => v = t3 (ds_ k B W) (.sl 7 0 N 1) (.i .i64 0) ∧ m' = .ro len 1 (byF g) :: .var dz :: .var dz :: .var (srcD len g a4 h4) :: .var (ds_ N b w) :: [.row 25 L.length 16 (plsF L), .var ti27.z, .row 2 N 1 (nmF R)], rfl, by rfl, by rfl, .inr ⟨by decide, TKE.call [] (hq) leZ (by rfl) (by rfl) (by exact byArgs) (by simp [Sc, sc_pl, sc_ds]) ?_⟩, ?_⟩
          · rintro _ _ ⟨rfl, rfl⟩
            exact ⟨by exact byAllc, _, ren_t3 ⟨rfl, sc_ds _ _ _ _⟩ rfl ⟨rfl, trivial⟩, sc_t3 (sc_ds _ _ _ _) (sc_sl rfl) trivial, rfl, rfl⟩
          rintro _ _ ⟨rfl, rfl⟩
          refine WA.takesD T false tok [9, 10, 11, 12] (f' := 3) (by kernel_rfl) (by rfl) (by rfl) (by exact byObl) (by rfl) (by rfl) ?_
          refine w1 14 ?_
          refine wt ?_
          refine WA.takesD T false tok [15, 16] (f' := 0) (by kernel_rfl) (by rfl) (by rfl) (by exact byObl) (by rfl) (by rfl) ?_
          refine WA.end rfl (by kernel_rfl) (noPan ?_)
          exact ⟨(k, B, W, a4, h4), ⟨hk, hB, hW, ha4⟩, cutQ 6 rfl rfl rfl rfl rfl rfl rfl rfl rfl (dsf_of rfl rfl rfl fun _ => rfl).symm rfl rfl rfl rfl rfl⟩
      · refine wq ?_
        refine w3 0 5 13 ?_ ?_ ?_
        · refine wq ?_
          refine w2 5 13 ?_ ?_
          · refine wNx (fun a' h' => .ro len 1 (byF g) :: .var dz :: .var dz :: .var (srcD len g a' h') :: .var (ds_ N b w) :: [.row 25 L.length 16 (plsF L)]) hnx2 ?_
            intro z a4 h4 hz ha4
            obtain ⟨j, hj, rfl⟩ := nx_nat hz (by omega)
            obtain ⟨k, B, W, R, hk, hB, hW, hq⟩ := hqu j hj
            refine w2 6 13 ?_ ?_
            · refine wq ?_
              refine w2 7 13 ?_ ?_
              · refine wq ?_
                refine w2 8 13 ?_ ?_
                · refine ⟨_, fun v m' => v = t3 (ds_ k B W) (.sl 6 0 N 1) (.i .i64 0) ∧ m' = .ro len 1 (byF g) :: .var dz :: .var dz :: .var (srcD len g a4 h4) :: .var (ds_ N b w) :: [.row 25 L.length 16 (plsF L), .row 2 N 1 (nmF R)], rfl, by rfl, by rfl, .inr ⟨by decide, TKE.call [] (hq) leZ (by rfl) (by rfl) (by exact byArgs) (by simp [Sc, sc_pl, sc_ds]) ?_⟩, ?_⟩
                  · rintro _ _ ⟨rfl, rfl⟩
                    exact ⟨by exact byAllc, _, ren_t3 ⟨rfl, sc_ds _ _ _ _⟩ rfl ⟨rfl, trivial⟩, sc_t3 (sc_ds _ _ _ _) (sc_sl rfl) trivial, rfl, rfl⟩
                  rintro _ _ ⟨rfl, rfl⟩
                  refine WA.takesD T false tok [9, 10, 11, 12] (f' := 4) (by kernel_rfl) (by rfl) (by rfl) (by exact byObl) (by rfl) (by rfl) ?_
                  refine w1 13 ?_
                  refine ⟨_, _, rfl, by rfl, by rfl, .inl (MKE.of (MK.of tok (wm := false) (by rfl) (by exact byObl) (by rfl) (by exact byObl))), ?_⟩; rintro _ _ ⟨rfl, rfl⟩
                  refine w1 14 ?_
                  refine wt ?_
                  refine WA.takesD T false tok [15, 16] (f' := 0) (by kernel_rfl) (by rfl) (by rfl) (by exact byObl) (by rfl) (by rfl) ?_
                  refine WA.end rfl (by kernel_rfl) (noPan ?_)
                  exact ⟨(k, B, W, a4, h4), ⟨hk, hB, hW, ha4⟩, cutQ 7 rfl rfl rfl rfl rfl rfl rfl rfl rfl (dsf_of rfl rfl rfl fun _ => rfl).symm rfl rfl rfl rfl rfl⟩
                · refine ⟨_, _, rfl, by rfl, by rfl, .inl (MKE.of (MK.of tok (wm := false) (by rfl) (by exact byObl) (by rfl) (by exact byObl))), ?_⟩; rintro _ _ ⟨rfl, rfl⟩
                  refine w1 8 ?_
                  refine ⟨_, fun v m' => v = t3 (ds_ k B W) (.sl 7 0 N 1) (.i .i64 0) ∧ m' = .ro len 1 (byF g) :: .var dz :: .var dz :: .var (srcD len g a4 h4) :: .var (ds_ N b w) :: [.row 25 L.length 16 (plsF L), .var ti27.z, .row 2 N 1 (nmF R)], rfl, by rfl, by rfl, .inr ⟨by decide, TKE.call [] (hq) leZ (by rfl) (by rfl) (by exact byArgs) (by simp [Sc, sc_pl, sc_ds]) ?_⟩, ?_⟩
                  · rintro _ _ ⟨rfl, rfl⟩
                    exact ⟨by exact byAllc, _, ren_t3 ⟨rfl, sc_ds _ _ _ _⟩ rfl ⟨rfl, trivial⟩, sc_t3 (sc_ds _ _ _ _) (sc_sl rfl) trivial, rfl, rfl⟩
                  rintro _ _ ⟨rfl, rfl⟩
                  refine WA.takesD T false tok [9, 10, 11, 12] (f' := 3) (by kernel_rfl) (by rfl) (by rfl) (by exact byObl) (by rfl) (by rfl) ?_
                  refine w1 14 ?_
                  refine wt ?_
                  refine WA.takesD T false tok [15, 16] (f' := 0) (by kernel_rfl) (by rfl) (by rfl) (by exact byObl) (by rfl) (by rfl) ?_
                  refine WA.end rfl (by kernel_rfl) (noPan ?_)
                  exact ⟨(k, B, W, a4, h4), ⟨hk, hB, hW, ha4⟩, cutQ 6 rfl rfl rfl rfl rfl rfl rfl rfl rfl (dsf_of rfl rfl rfl fun _ => rfl).symm rfl rfl rfl rfl rfl⟩
              · refine ⟨_, _, rfl, by rfl, by rfl, .inl (MKE.of (MK.of tok (wm := false) (by rfl) (by exact byObl) (by rfl) (by exact byObl))), ?_⟩; rintro _ _ ⟨rfl, rfl⟩
                refine w1 7 ?_
                refine wq ?_
                refine w1 8 ?_
                refine ⟨_, fun v m' => v = t3 (ds_ k B W) (.sl 7 0 N 1) (.i .i64 0) ∧ m' = .ro len 1 (byF g) :: .var dz :: .var dz :: .var (srcD len g a4 h4) :: .var (ds_ N b w) :: [.row 25 L.length 16 (plsF L), .var ti27.z, .row 2 N 1 (nmF R)], rfl, by rfl, by rfl, .inr ⟨by decide, TKE.call [] (hq) leZ (by rfl) (by rfl) (by exact byArgs) (by simp [Sc, sc_pl, sc_ds]) ?_⟩, ?_⟩
                · rintro _ _ ⟨rfl, rfl⟩
                  exact ⟨by exact byAllc, _, ren_t3 ⟨rfl, sc_ds _ _ _ _⟩ rfl ⟨rfl, trivial⟩, sc_t3 (sc_ds _ _ _ _) (sc_sl rfl) trivial, rfl, rfl⟩
                rintro _ _ ⟨rfl, rfl⟩
                refine WA.takesD T false tok [9, 10, 11, 12] (f' := 3) (by kernel_rfl) (by rfl) (by rfl) (by exact byObl) (by rfl) (by rfl) ?_
                refine w1 14 ?_
                refine wt ?_
                refine WA.takesD T false tok [15, 16] (f' := 0) (by kernel_rfl) (by rfl) (by rfl) (by exact byObl) (by rfl) (by rfl) ?_
                refine WA.end rfl (by kernel_rfl) (noPan ?_)
                exact ⟨(k, B, W, a4, h4), ⟨hk, hB, hW, ha4⟩, cutQ 6 rfl rfl rfl rfl rfl rfl rfl rfl rfl (dsf_of rfl rfl rfl fun _ => rfl).symm rfl rfl rfl rfl rfl⟩
            · refine ⟨_, _, rfl, by rfl, by rfl, .inl (MKE.of (MK.of tok (wm := false) (by rfl) (by exact byObl) (by rfl) (by exact byObl))), ?_⟩; rintro _ _ ⟨rfl, rfl⟩
              refine w1 6 ?_
              refine wq ?_
              refine w1 7 ?_
              refine wq ?_
              refine w1 8 ?_
              refine ⟨_, fun v m' => v = t3 (ds_ k B W) (.sl 7 0 N 1) (.i .i64 0) ∧ m' = .ro len 1 (byF g) :: .var dz :: .var dz :: .var (srcD len g a4 h4) :: .var (ds_ N b w) :: [.row 25 L.length 16 (plsF L), .var ti27.z, .row 2 N 1 (nmF R)], rfl, by rfl, by rfl, .inr ⟨by decide, TKE.call [] (hq) leZ (by rfl) (by rfl) (by exact byArgs) (by simp [Sc, sc_pl, sc_ds]) ?_⟩, ?_⟩
              · rintro _ _ ⟨rfl, rfl⟩
                exact ⟨by exact byAllc, _, ren_t3 ⟨rfl, sc_ds _ _ _ _⟩ rfl ⟨rfl, trivial⟩, sc_t3 (sc_ds _ _ _ _) (sc_sl rfl) trivial, rfl, rfl⟩
              rintro _ _ ⟨rfl, rfl⟩
              refine WA.takesD T false tok [9, 10, 11, 12] (f' := 3) (by kernel_rfl) (by rfl) (by rfl) (by exact byObl) (by rfl) (by rfl) ?_
              refine w1 14 ?_
              refine wt ?_
              refine WA.takesD T false tok [15, 16] (f' := 0) (by kernel_rfl) (by rfl) (by rfl) (by exact byObl) (by rfl) (by rfl) ?_
              refine WA.end rfl (by kernel_rfl) (noPan ?_)
              exact ⟨(k, B, W, a4, h4), ⟨hk, hB, hW, ha4⟩, cutQ 6 rfl rfl rfl rfl rfl rfl rfl rfl rfl (dsf_of rfl rfl rfl fun _ => rfl).symm rfl rfl rfl rfl rfl⟩
          · refine ⟨_, _, rfl, by rfl, by rfl, .inl (MKE.of (MK.of tok (wm := false) (by rfl) (by exact byObl) (by rfl) (by exact byObl))), ?_⟩; rintro _ _ ⟨rfl, rfl⟩
            refine w1 5 ?_
            refine wNx (fun a' h' => .ro len 1 (byF g) :: .var dz :: .var dz :: .var (srcD len g a' h') :: .var (ds_ N b w) :: [.row 25 L.length 16 (plsF L), .var ti27.z]) hnx2 ?_
            intro z a4 h4 hz ha4
            obtain ⟨j, hj, rfl⟩ := nx_nat hz (by omega)
            obtain ⟨k, B, W, R, hk, hB, hW, hq⟩ := hqu j hj
            refine w1 6 ?_
            refine wq ?_
            refine w1 7 ?_
            refine wq ?_
            refine w1 8 ?_
            refine ⟨_, fun v m' => v = t3 (ds_ k B W) (.sl 7 0 N 1) (.i .i64 0) ∧ m' = .ro len 1 (byF g) :: .var dz :: .var dz :: .var (srcD len g a4 h4) :: .var (ds_ N b w) :: [.row 25 L.length 16 (plsF L), .var ti27.z, .row 2 N 1 (nmF R)], rfl, by rfl, by rfl, .inr ⟨by decide, TKE.call [] (hq) leZ (by rfl) (by rfl) (by exact byArgs) (by simp [Sc, sc_pl, sc_ds]) ?_⟩, ?_⟩
            · rintro _ _ ⟨rfl, rfl⟩
              exact ⟨by exact byAllc, _, ren_t3 ⟨rfl, sc_ds _ _ _ _⟩ rfl ⟨rfl, trivial⟩, sc_t3 (sc_ds _ _ _ _) (sc_sl rfl) trivial, rfl, rfl⟩
            rintro _ _ ⟨rfl, rfl⟩
            refine WA.takesD T false tok [9, 10, 11, 12] (f' := 3) (by kernel_rfl) (by rfl) (by rfl) (by exact byObl) (by rfl) (by rfl) ?_
            refine w1 14 ?_
            refine wt ?_
            refine WA.takesD T false tok [15, 16] (f' := 0) (by kernel_rfl) (by rfl) (by rfl) (by exact byObl) (by rfl) (by rfl) ?_
            refine WA.end rfl (by kernel_rfl) (noPan ?_)
            exact ⟨(k, B, W, a4, h4), ⟨hk, hB, hW, ha4⟩, cutQ 6 rfl rfl rfl rfl rfl rfl rfl rfl rfl (dsf_of rfl rfl rfl fun _ => rfl).symm rfl rfl rfl rfl rfl⟩
        · refine wNx (fun a' h' => .ro len 1 (byF g) :: .var dz :: .var dz :: .var (srcD len g a' h') :: .var (ds_ N b w) :: [.row 25 L.length 16 (plsF L)]) hnx2 ?_
          intro z a4 h4 hz ha4
          obtain ⟨j, hj, rfl⟩ := nx_nat hz (by omega)
          obtain ⟨k, B, W, R, hk, hB, hW, hq⟩ := hqu j hj
          refine w3 0 6 13 ?_ ?_ ?_
          · refine wq ?_
            refine w2 6 13 ?_ ?_
            · refine wq ?_
              refine w2 7 13 ?_ ?_
              · refine wq ?_
                refine w2 8 13 ?_ ?_
                · refine ⟨_, fun v m' => v = t3 (ds_ k B W) (.sl 6 0 N 1) (.i .i64 0) ∧ m' = .ro len 1 (byF g) :: .var dz :: .var dz :: .var (srcD len g a4 h4) :: .var (ds_ N b w) :: [.row 25 L.length 16 (plsF L), .row 2 N 1 (nmF R)], rfl, by rfl, by rfl, .inr ⟨by decide, TKE.call [] (hq) leZ (by rfl) (by rfl) (by exact byArgs) (by simp [Sc, sc_pl, sc_ds]) ?_⟩, ?_⟩
                  · rintro _ _ ⟨rfl, rfl⟩
                    exact ⟨by exact byAllc, _, ren_t3 ⟨rfl, sc_ds _ _ _ _⟩ rfl ⟨rfl, trivial⟩, sc_t3 (sc_ds _ _ _ _) (sc_sl rfl) trivial, rfl, rfl⟩
                  rintro _ _ ⟨rfl, rfl⟩
                  refine WA.takesD T false tok [9, 10, 11, 12] (f' := 4) (by kernel_rfl) (by rfl) (by rfl) (by exact byObl) (by rfl) (by rfl) ?_
                  refine w1 13 ?_
                  refine ⟨_, _, rfl, by rfl, by rfl, .inl (MKE.of (MK.of tok (wm := false) (by rfl) (by exact byObl) (by rfl) (by exact byObl))), ?_⟩; rintro _ _ ⟨rfl, rfl⟩
                  refine w1 14 ?_
                  refine wt ?_
                  refine WA.takesD T false tok [15, 16] (f' := 0) (by kernel_rfl) (by rfl) (by rfl) (by exact byObl) (by rfl) (by rfl) ?_
                  refine WA.end rfl (by kernel_rfl) (noPan ?_)
                  exact ⟨(k, B, W, a4, h4), ⟨hk, hB, hW, ha4⟩, cutQ 7 rfl rfl rfl rfl rfl rfl rfl rfl rfl (dsf_of rfl rfl rfl fun _ => rfl).symm rfl rfl rfl rfl rfl⟩
                · refine ⟨_, _, rfl, by rfl, by rfl, .inl (MKE.of (MK.of tok (wm := false) (by rfl) (by exact byObl) (by rfl) (by exact byObl))), ?_⟩; rintro _ _ ⟨rfl, rfl⟩
                  refine w1 8 ?_
                  refine ⟨_, fun v m' => v = t3 (ds_ k B W) (.sl 7 0 N 1) (.i .i64 0) ∧ m' = .ro len 1 (byF g) :: .var dz :: .var dz :: .var (srcD len g a4 h4) :: .var (ds_ N b w) :: [.row 25 L.length 16 (plsF L), .var ti27.z, .row 2 N 1 (nmF R)], rfl, by rfl, by rfl, .inr ⟨by decide, TKE.call [] (hq) leZ (by rfl) (by rfl) (by exact byArgs) (by simp [Sc, sc_pl, sc_ds]) ?_⟩, ?_⟩
                  · rintro _ _ ⟨rfl, rfl⟩
                    exact ⟨by exact byAllc, _, ren_t3 ⟨rfl, sc_ds _ _ _ _⟩ rfl ⟨rfl, trivial⟩, sc_t3 (sc_ds _ _ _ _) (sc_sl rfl) trivial, rfl, rfl⟩
                  rintro _ _ ⟨rfl, rfl⟩
                  refine WA.takesD T false tok [9, 10, 11, 12] (f' := 3) (by kernel_rfl) (by rfl) (by rfl) (by exact byObl) (by rfl) (by rfl) ?_
                  refine w1 14 ?_
                  refine wt ?_
                  refine WA.takesD T false tok [15, 16] (f' := 0) (by kernel_rfl) (by rfl) (by rfl) (by exact byObl) (by rfl) (by rfl) ?_
                  refine WA.end rfl (by kernel_rfl) (noPan ?_)
                  exact ⟨(k, B, W, a4, h4), ⟨hk, hB, hW, ha4⟩, cutQ 6 rfl rfl rfl rfl rfl rfl rfl rfl rfl (dsf_of rfl rfl rfl fun _ => rfl).symm rfl rfl rfl rfl rfl⟩
              · refine ⟨_, _, rfl, by rfl, by rfl, .inl (MKE.of (MK.of tok (wm := false) (by rfl) (by exact byObl) (by rfl) (by exact byObl))), ?_⟩; rintro _ _ ⟨rfl, rfl⟩
                refine w1 7 ?_
                refine wq ?_
                refine w1 8 ?_
                refine ⟨_, fun v m' => v = t3 (ds_ k B W) (.sl 7 0 N 1) (.i .i64 0) ∧ m' = .ro len 1 (byF g) :: .var dz :: .var dz :: .var (srcD len g a4 h4) :: .var (ds_ N b w) :: [.row 25 L.length 16 (plsF L), .var ti27.z, .row 2 N 1 (nmF R)], rfl, by rfl, by rfl, .inr ⟨by decide, TKE.call [] (hq) leZ (by rfl) (by rfl) (by exact byArgs) (by simp [Sc, sc_pl, sc_ds]) ?_⟩, ?_⟩
                · rintro _ _ ⟨rfl, rfl⟩
                  exact ⟨by exact byAllc, _, ren_t3 ⟨rfl, sc_ds _ _ _ _⟩ rfl ⟨rfl, trivial⟩, sc_t3 (sc_ds _ _ _ _) (sc_sl rfl) trivial, rfl, rfl⟩
                rintro _ _ ⟨rfl, rfl⟩
                refine WA.takesD T false tok [9, 10, 11, 12] (f' := 3) (by kernel_rfl) (by rfl) (by rfl) (by exact byObl) (by rfl) (by rfl) ?_
                refine w1 14 ?_
                refine wt ?_
                refine WA.takesD T false tok [15, 16] (f' := 0) (by kernel_rfl) (by rfl) (by rfl) (by exact byObl) (by rfl) (by rfl) ?_
                refine WA.end rfl (by kernel_rfl) (noPan ?_)
                exact ⟨(k, B, W, a4, h4), ⟨hk, hB, hW, ha4⟩, cutQ 6 rfl rfl rfl rfl rfl rfl rfl rfl rfl (dsf_of rfl rfl rfl fun _ => rfl).symm rfl rfl rfl rfl rfl⟩
            · refine ⟨_, _, rfl, by rfl, by rfl, .inl (MKE.of (MK.of tok (wm := false) (by rfl) (by exact byObl) (by rfl) (by exact byObl))), ?_⟩; rintro _ _ ⟨rfl, rfl⟩
              refine w1 6 ?_
              refine wq ?_
              refine w1 7 ?_
              refine wq ?_
              refine w1 8 ?_
              refine ⟨_, fun v m' => v = t3 (ds_ k B W) (.sl 7 0 N 1) (.i .i64 0) ∧ m' = .ro len 1 (byF g) :: .var dz :: .var dz :: .var (srcD len g a4 h4) :: .var (ds_ N b w) :: [.row 25 L.length 16 (plsF L), .var ti27.z, .row 2 N 1 (nmF R)], rfl, by rfl, by rfl, .inr ⟨by decide, TKE.call [] (hq) leZ (by rfl) (by rfl) (by exact byArgs) (by simp [Sc, sc_pl, sc_ds]) ?_⟩, ?_⟩
              · rintro _ _ ⟨rfl, rfl⟩
                exact ⟨by exact byAllc, _, ren_t3 ⟨rfl, sc_ds _ _ _ _⟩ rfl ⟨rfl, trivial⟩, sc_t3 (sc_ds _ _ _ _) (sc_sl rfl) trivial, rfl, rfl⟩
              rintro _ _ ⟨rfl, rfl⟩
              refine WA.takesD T false tok [9, 10, 11, 12] (f' := 3) (by kernel_rfl) (by rfl) (by rfl) (by exact byObl) (by rfl) (by rfl) ?_
              refine w1 14 ?_
              refine wt ?_
              refine WA.takesD T false tok [15, 16] (f' := 0) (by kernel_rfl) (by rfl) (by rfl) (by exact byObl) (by rfl) (by rfl) ?_
              refine WA.end rfl (by kernel_rfl) (noPan ?_)
              exact ⟨(k, B, W, a4, h4), ⟨hk, hB, hW, ha4⟩, cutQ 6 rfl rfl rfl rfl rfl rfl rfl rfl rfl (dsf_of rfl rfl rfl fun _ => rfl).symm rfl rfl rfl rfl rfl⟩
          · refine wq ?_
            refine w3 0 7 13 ?_ ?_ ?_
            · refine wq ?_
              refine w2 7 13 ?_ ?_
              · refine wq ?_
                refine w2 8 13 ?_ ?_
                · refine ⟨_, fun v m' => v = t3 (ds_ k B W) (.sl 6 0 N 1) (.i .i64 0) ∧ m' = .ro len 1 (byF g) :: .var dz :: .var dz :: .var (srcD len g a4 h4) :: .var (ds_ N b w) :: [.row 25 L.length 16 (plsF L), .row 2 N 1 (nmF R)], rfl, by rfl, by rfl, .inr ⟨by decide, TKE.call [] (hq) leZ (by rfl) (by rfl) (by exact byArgs) (by simp [Sc, sc_pl, sc_ds]) ?_⟩, ?_⟩
                  · rintro _ _ ⟨rfl, rfl⟩
                    exact ⟨by exact byAllc, _, ren_t3 ⟨rfl, sc_ds _ _ _ _⟩ rfl ⟨rfl, trivial⟩, sc_t3 (sc_ds _ _ _ _) (sc_sl rfl) trivial, rfl, rfl⟩
                  rintro _ _ ⟨rfl, rfl⟩
                  refine WA.takesD T false tok [9, 10, 11, 12] (f' := 4) (by kernel_rfl) (by rfl) (by rfl) (by exact byObl) (by rfl) (by rfl) ?_
                  refine w1 13 ?_
                  refine ⟨_, _, rfl, by rfl, by rfl, .inl (MKE.of (MK.of tok (wm := false) (by rfl) (by exact byObl) (by rfl) (by exact byObl))), ?_⟩; rintro _ _ ⟨rfl, rfl⟩
                  refine w1 14 ?_
                  refine wt ?_
                  refine WA.takesD T false tok [15, 16] (f' := 0) (by kernel_rfl) (by rfl) (by rfl) (by exact byObl) (by rfl) (by rfl) ?_
                  refine WA.end rfl (by kernel_rfl) (noPan ?_)
                  exact ⟨(k, B, W, a4, h4), ⟨hk, hB, hW, ha4⟩, cutQ 7 rfl rfl rfl rfl rfl rfl rfl rfl rfl (dsf_of rfl rfl rfl fun _ => rfl).symm rfl rfl rfl rfl rfl⟩
                · refine ⟨_, _, rfl, by rfl, by rfl, .inl (MKE.of (MK.of tok (wm := false) (by rfl) (by exact byObl) (by rfl) (by exact byObl))), ?_⟩; rintro _ _ ⟨rfl, rfl⟩
                  refine w1 8 ?_
                  refine ⟨_, fun v m' => v = t3 (ds_ k B W) (.sl 7 0 N 1) (.i .i64 0) ∧ m' = .ro len 1 (byF g) :: .var dz :: .var dz :: .var (srcD len g a4 h4) :: .var (ds_ N b w) :: [.row 25 L.length 16 (plsF L), .var ti27.z, .row 2 N 1 (nmF R)], rfl, by rfl, by rfl, .inr ⟨by decide, TKE.call [] (hq) leZ (by rfl) (by rfl) (by exact byArgs) (by simp [Sc, sc_pl, sc_ds]) ?_⟩, ?_⟩
                  · rintro _ _ ⟨rfl, rfl⟩
                    exact ⟨by exact byAllc, _, ren_t3 ⟨rfl, sc_ds _ _ _ _⟩ rfl ⟨rfl, trivial⟩, sc_t3 (sc_ds _ _ _ _) (sc_sl rfl) trivial, rfl, rfl⟩
                  rintro _ _ ⟨rfl, rfl⟩
                  refine WA.takesD T false tok [9, 10, 11, 12] (f' := 3) (by kernel_rfl) (by rfl) (by rfl) (by exact byObl) (by rfl) (by rfl) ?_
                  refine w1 14 ?_
                  refine wt ?_
                  refine WA.takesD T false tok [15, 16] (f' := 0) (by kernel_rfl) (by rfl) (by rfl) (by exact byObl) (by rfl) (by rfl) ?_
                  refine WA.end rfl (by kernel_rfl) (noPan ?_)
                  exact ⟨(k, B, W, a4, h4), ⟨hk, hB, hW, ha4⟩, cutQ 6 rfl rfl rfl rfl rfl rfl rfl rfl rfl (dsf_of rfl rfl rfl fun _ => rfl).symm rfl rfl rfl rfl rfl⟩
              · refine ⟨_, _, rfl, by rfl, by rfl, .inl (MKE.of (MK.of tok (wm := false) (by rfl) (by exact byObl) (by rfl) (by exact byObl))), ?_⟩; rintro _ _ ⟨rfl, rfl⟩
                refine w1 7 ?_
                refine wq ?_
                refine w1 8 ?_
                refine ⟨_, fun v m' => v = t3 (ds_ k B W) (.sl 7 0 N 1) (.i .i64 0) ∧ m' = .ro len 1 (byF g) :: .var dz :: .var dz :: .var (srcD len g a4 h4) :: .var (ds_ N b w) :: [.row 25 L.length 16 (plsF L), .var ti27.z, .row 2 N 1 (nmF R)], rfl, by rfl, by rfl, .inr ⟨by decide, TKE.call [] (hq) leZ (by rfl) (by rfl) (by exact byArgs) (by simp [Sc, sc_pl, sc_ds]) ?_⟩, ?_⟩
                · rintro _ _ ⟨rfl, rfl⟩
                  exact ⟨by exact byAllc, _, ren_t3 ⟨rfl, sc_ds _ _ _ _⟩ rfl ⟨rfl, trivial⟩, sc_t3 (sc_ds _ _ _ _) (sc_sl rfl) trivial, rfl, rfl⟩
                rintro _ _ ⟨rfl, rfl⟩
                refine WA.takesD T false tok [9, 10, 11, 12] (f' := 3) (by kernel_rfl) (by rfl) (by rfl) (by exact byObl) (by rfl) (by rfl) ?_
                refine w1 14 ?_
                refine wt ?_
                refine WA.takesD T false tok [15, 16] (f' := 0) (by kernel_rfl) (by rfl) (by rfl) (by exact byObl) (by rfl) (by rfl) ?_
                refine WA.end rfl (by kernel_rfl) (noPan ?_)
                exact ⟨(k, B, W, a4, h4), ⟨hk, hB, hW, ha4⟩, cutQ 6 rfl rfl rfl rfl rfl rfl rfl rfl rfl (dsf_of rfl rfl rfl fun _ => rfl).symm rfl rfl rfl rfl rfl⟩
            · refine wq ?_
              refine w2 0 13 ?_ ?_
              · refine wq ?_
                refine w2 8 13 ?_ ?_
                · refine ⟨_, fun v m' => v = t3 (ds_ k B W) (.sl 6 0 N 1) (.i .i64 0) ∧ m' = .ro len 1 (byF g) :: .var dz :: .var dz :: .var (srcD len g a4 h4) :: .var (ds_ N b w) :: [.row 25 L.length 16 (plsF L), .row 2 N 1 (nmF R)], rfl, by rfl, by rfl, .inr ⟨by decide, TKE.call [] (hq) leZ (by rfl) (by rfl) (by exact byArgs) (by simp [Sc, sc_pl, sc_ds]) ?_⟩, ?_⟩
                  · rintro _ _ ⟨rfl, rfl⟩
                    exact ⟨by exact byAllc, _, ren_t3 ⟨rfl, sc_ds _ _ _ _⟩ rfl ⟨rfl, trivial⟩, sc_t3 (sc_ds _ _ _ _) (sc_sl rfl) trivial, rfl, rfl⟩
                  rintro _ _ ⟨rfl, rfl⟩
                  refine WA.takesD T false tok [9, 10, 11, 12] (f' := 4) (by kernel_rfl) (by rfl) (by rfl) (by exact byObl) (by rfl) (by rfl) ?_
                  refine w1 13 ?_
                  refine ⟨_, _, rfl, by rfl, by rfl, .inl (MKE.of (MK.of tok (wm := false) (by rfl) (by exact byObl) (by rfl) (by exact byObl))), ?_⟩; rintro _ _ ⟨rfl, rfl⟩
                  refine w1 14 ?_
                  refine wt ?_
                  refine WA.takesD T false tok [15, 16] (f' := 0) (by kernel_rfl) (by rfl) (by rfl) (by exact byObl) (by rfl) (by rfl) ?_
                  refine WA.end rfl (by kernel_rfl) (noPan ?_)
                  exact ⟨(k, B, W, a4, h4), ⟨hk, hB, hW, ha4⟩, cutQ 7 rfl rfl rfl rfl rfl rfl rfl rfl rfl (dsf_of rfl rfl rfl fun _ => rfl).symm rfl rfl rfl rfl rfl⟩
                · refine ⟨_, _, rfl, by rfl, by rfl, .inl (MKE.of (MK.of tok (wm := false) (by rfl) (by exact byObl) (by rfl) (by exact byObl))), ?_⟩; rintro _ _ ⟨rfl, rfl⟩
                  refine w1 8 ?_
                  refine ⟨_, fun v m' => v = t3 (ds_ k B W) (.sl 7 0 N 1) (.i .i64 0) ∧ m' = .ro len 1 (byF g) :: .var dz :: .var dz :: .var (srcD len g a4 h4) :: .var (ds_ N b w) :: [.row 25 L.length 16 (plsF L), .var ti27.z, .row 2 N 1 (nmF R)], rfl, by rfl, by rfl, .inr ⟨by decide, TKE.call [] (hq) leZ (by rfl) (by rfl) (by exact byArgs) (by simp [Sc, sc_pl, sc_ds]) ?_⟩, ?_⟩
                  · rintro _ _ ⟨rfl, rfl⟩
                    exact ⟨by exact byAllc, _, ren_t3 ⟨rfl, sc_ds _ _ _ _⟩ rfl ⟨rfl, trivial⟩, sc_t3 (sc_ds _ _ _ _) (sc_sl rfl) trivial, rfl, rfl⟩
                  rintro _ _ ⟨rfl, rfl⟩
                  refine WA.takesD T false tok [9, 10, 11, 12] (f' := 3) (by kernel_rfl) (by rfl) (by rfl) (by exact byObl) (by rfl) (by rfl) ?_
                  refine w1 14 ?_
                  refine wt ?_
                  refine WA.takesD T false tok [15, 16] (f' := 0) (by kernel_rfl) (by rfl) (by rfl) (by exact byObl) (by rfl) (by rfl) ?_
                  refine WA.end rfl (by kernel_rfl) (noPan ?_)
                  exact ⟨(k, B, W, a4, h4), ⟨hk, hB, hW, ha4⟩, cutQ 6 rfl rfl rfl rfl rfl rfl rfl rfl rfl (dsf_of rfl rfl rfl fun _ => rfl).symm rfl rfl rfl rfl rfl⟩
              · refine ⟨_, _, rfl, by rfl, by rfl, .inl (MKE.of (MK.of tok (wm := false) (by rfl) (by exact byObl) (by rfl) (by exact byObl))), ?_⟩; rintro _ _ ⟨rfl, rfl⟩
                refine w1 0 ?_
                refine wq ?_
                refine w1 8 ?_
                refine ⟨_, fun v m' => v = t3 (ds_ k B W) (.sl 7 0 N 1) (.i .i64 0) ∧ m' = .ro len 1 (byF g) :: .var dz :: .var dz :: .var (srcD len g a4 h4) :: .var (ds_ N b w) :: [.row 25 L.length 16 (plsF L), .var ti27.z, .row 2 N 1 (nmF R)], rfl, by rfl, by rfl, .inr ⟨by decide, TKE.call [] (hq) leZ (by rfl) (by rfl) (by exact byArgs) (by simp [Sc, sc_pl, sc_ds]) ?_⟩, ?_⟩
                · rintro _ _ ⟨rfl, rfl⟩
                  exact ⟨by exact byAllc, _, ren_t3 ⟨rfl, sc_ds _ _ _ _⟩ rfl ⟨rfl, trivial⟩, sc_t3 (sc_ds _ _ _ _) (sc_sl rfl) trivial, rfl, rfl⟩
                rintro _ _ ⟨rfl, rfl⟩
                refine WA.takesD T false tok [9, 10, 11, 12] (f' := 3) (by kernel_rfl) (by rfl) (by rfl) (by exact byObl) (by rfl) (by rfl) ?_
                refine w1 14 ?_
                refine wt ?_
                refine WA.takesD T false tok [15, 16] (f' := 0) (by kernel_rfl) (by rfl) (by rfl) (by exact byObl) (by rfl) (by rfl) ?_
                refine WA.end rfl (by kernel_rfl) (noPan ?_)
                exact ⟨(k, B, W, a4, h4), ⟨hk, hB, hW, ha4⟩, cutQ 6 rfl rfl rfl rfl rfl rfl rfl rfl rfl (dsf_of rfl rfl rfl fun _ => rfl).symm rfl rfl rfl rfl rfl⟩
            · refine ⟨_, _, rfl, by rfl, by rfl, .inl (MKE.of (MK.of tok (wm := false) (by rfl) (by exact byObl) (by rfl) (by exact byObl))), ?_⟩; rintro _ _ ⟨rfl, rfl⟩
              refine w2 0 7 ?_ ?_
              · refine wq ?_
                refine w1 7 ?_
                refine wq ?_
                refine w1 8 ?_
                refine ⟨_, fun v m' => v = t3 (ds_ k B W) (.sl 7 0 N 1) (.i .i64 0) ∧ m' = .ro len 1 (byF g) :: .var dz :: .var dz :: .var (srcD len g a4 h4) :: .var (ds_ N b w) :: [.row 25 L.length 16 (plsF L), .var ti27.z, .row 2 N 1 (nmF R)], rfl, by rfl, by rfl, .inr ⟨by decide, TKE.call [] (hq) leZ (by rfl) (by rfl) (by exact byArgs) (by simp [Sc, sc_pl, sc_ds]) ?_⟩, ?_⟩
                · rintro _ _ ⟨rfl, rfl⟩
                  exact ⟨by exact byAllc, _, ren_t3 ⟨rfl, sc_ds _ _ _ _⟩ rfl ⟨rfl, trivial⟩, sc_t3 (sc_ds _ _ _ _) (sc_sl rfl) trivial, rfl, rfl⟩
                rintro _ _ ⟨rfl, rfl⟩
                refine WA.takesD T false tok [9, 10, 11, 12] (f' := 3) (by kernel_rfl) (by rfl) (by rfl) (by exact byObl) (by rfl) (by rfl) ?_
                refine w1 14 ?_
                refine wt ?_
                refine WA.takesD T false tok [15, 16] (f' := 0) (by kernel_rfl) (by rfl) (by rfl) (by exact byObl) (by rfl) (by rfl) ?_
                refine WA.end rfl (by kernel_rfl) (noPan ?_)
                exact ⟨(k, B, W, a4, h4), ⟨hk, hB, hW, ha4⟩, cutQ 6 rfl rfl rfl rfl rfl rfl rfl rfl rfl (dsf_of rfl rfl rfl fun _ => rfl).symm rfl rfl rfl rfl rfl⟩
              · refine wq ?_
                refine w1 0 ?_
                refine wq ?_
                refine w1 8 ?_
                refine ⟨_, fun v m' => v = t3 (ds_ k B W) (.sl 7 0 N 1) (.i .i64 0) ∧ m' = .ro len 1 (byF g) :: .var dz :: .var dz :: .var (srcD len g a4 h4) :: .var (ds_ N b w) :: [.row 25 L.length 16 (plsF L), .var ti27.z, .row 2 N 1 (nmF R)], rfl, by rfl, by rfl, .inr ⟨by decide, TKE.call [] (hq) leZ (by rfl) (by rfl) (by exact byArgs) (by simp [Sc, sc_pl, sc_ds]) ?_⟩, ?_⟩
                · rintro _ _ ⟨rfl, rfl⟩
                  exact ⟨by exact byAllc, _, ren_t3 ⟨rfl, sc_ds _ _ _ _⟩ rfl ⟨rfl, trivial⟩, sc_t3 (sc_ds _ _ _ _) (sc_sl rfl) trivial, rfl, rfl⟩
                rintro _ _ ⟨rfl, rfl⟩
                refine WA.takesD T false tok [9, 10, 11, 12] (f' := 3) (by kernel_rfl) (by rfl) (by rfl) (by exact byObl) (by rfl) (by rfl) ?_
                refine w1 14 ?_
                refine wt ?_
                refine WA.takesD T false tok [15, 16] (f' := 0) (by kernel_rfl) (by rfl) (by rfl) (by exact byObl) (by rfl) (by rfl) ?_
                refine WA.end rfl (by kernel_rfl) (noPan ?_)
                exact ⟨(k, B, W, a4, h4), ⟨hk, hB, hW, ha4⟩, cutQ 6 rfl rfl rfl rfl rfl rfl rfl rfl rfl (dsf_of rfl rfl rfl fun _ => rfl).symm rfl rfl rfl rfl rfl⟩
          · refine ⟨_, _, rfl, by rfl, by rfl, .inl (MKE.of (MK.of tok (wm := false) (by rfl) (by exact byObl) (by rfl) (by exact byObl))), ?_⟩; rintro _ _ ⟨rfl, rfl⟩
            refine w2 0 6 ?_ ?_
            · refine wq ?_
              refine w1 6 ?_
              refine wq ?_
              refine w1 7 ?_
              refine wq ?_
              refine w1 8 ?_
              refine ⟨_, fun v m' => v = t3 (ds_ k B W) (.sl 7 0 N 1) (.i .i64 0) ∧ m' = .ro len 1 (byF g) :: .var dz :: .var dz :: .var (srcD len g a4 h4) :: .var (ds_ N b w) :: [.row 25 L.length 16 (plsF L), .var ti27.z, .row 2 N 1 (nmF R)], rfl, by rfl, by rfl, .inr ⟨by decide, TKE.call [] (hq) leZ (by rfl) (by rfl) (by exact byArgs) (by simp [Sc, sc_pl, sc_ds]) ?_⟩, ?_⟩
              · rintro _ _ ⟨rfl, rfl⟩
                exact ⟨by exact byAllc, _, ren_t3 ⟨rfl, sc_ds _ _ _ _⟩ rfl ⟨rfl, trivial⟩, sc_t3 (sc_ds _ _ _ _) (sc_sl rfl) trivial, rfl, rfl⟩
              rintro _ _ ⟨rfl, rfl⟩
              refine WA.takesD T false tok [9, 10, 11, 12] (f' := 3) (by kernel_rfl) (by rfl) (by rfl) (by exact byObl) (by rfl) (by rfl) ?_
              refine w1 14 ?_
              refine wt ?_
              refine WA.takesD T false tok [15, 16] (f' := 0) (by kernel_rfl) (by rfl) (by rfl) (by exact byObl) (by rfl) (by rfl) ?_
              refine WA.end rfl (by kernel_rfl) (noPan ?_)
              exact ⟨(k, B, W, a4, h4), ⟨hk, hB, hW, ha4⟩, cutQ 6 rfl rfl rfl rfl rfl rfl rfl rfl rfl (dsf_of rfl rfl rfl fun _ => rfl).symm rfl rfl rfl rfl rfl⟩
            · refine wq ?_
              refine w2 0 7 ?_ ?_
              · refine wq ?_
                refine w1 7 ?_
                refine wq ?_
                refine w1 8 ?_
                refine ⟨_, fun v m' => v = t3 (ds_ k B W) (.sl 7 0 N 1) (.i .i64 0) ∧ m' = .ro len 1 (byF g) :: .var dz :: .var dz :: .var (srcD len g a4 h4) :: .var (ds_ N b w) :: [.row 25 L.length 16 (plsF L), .var ti27.z, .row 2 N 1 (nmF R)], rfl, by rfl, by rfl, .inr ⟨by decide, TKE.call [] (hq) leZ (by rfl) (by rfl) (by exact byArgs) (by simp [Sc, sc_pl, sc_ds]) ?_⟩, ?_⟩
                · rintro _ _ ⟨rfl, rfl⟩
                  exact ⟨by exact byAllc, _, ren_t3 ⟨rfl, sc_ds _ _ _ _⟩ rfl ⟨rfl, trivial⟩, sc_t3 (sc_ds _ _ _ _) (sc_sl rfl) trivial, rfl, rfl⟩
                rintro _ _ ⟨rfl, rfl⟩
                refine WA.takesD T false tok [9, 10, 11, 12] (f' := 3) (by kernel_rfl) (by rfl) (by rfl) (by exact byObl) (by rfl) (by rfl) ?_
                refine w1 14 ?_
                refine wt ?_
                refine WA.takesD T false tok [15, 16] (f' := 0) (by kernel_rfl) (by rfl) (by rfl) (by exact byObl) (by rfl) (by rfl) ?_
                refine WA.end rfl (by kernel_rfl) (noPan ?_)
                exact ⟨(k, B, W, a4, h4), ⟨hk, hB, hW, ha4⟩, cutQ 6 rfl rfl rfl rfl rfl rfl rfl rfl rfl (dsf_of rfl rfl rfl fun _ => rfl).symm rfl rfl rfl rfl rfl⟩
              · refine wq ?_
                refine w1 0 ?_
                refine wq ?_
                refine w1 8 ?_
                refine ⟨_, fun v m' => v = t3 (ds_ k B W) (.sl 7 0 N 1) (.i .i64 0) ∧ m' = .ro len 1 (byF g) :: .var dz :: .var dz :: .var (srcD len g a4 h4) :: .var (ds_ N b w) :: [.row 25 L.length 16 (plsF L), .var ti27.z, .row 2 N 1 (nmF R)], rfl, by rfl, by rfl, .inr ⟨by decide, TKE.call [] (hq) leZ (by rfl) (by rfl) (by exact byArgs) (by simp [Sc, sc_pl, sc_ds]) ?_⟩, ?_⟩
                · rintro _ _ ⟨rfl, rfl⟩
                  exact ⟨by exact byAllc, _, ren_t3 ⟨rfl, sc_ds _ _ _ _⟩ rfl ⟨rfl, trivial⟩, sc_t3 (sc_ds _ _ _ _) (sc_sl rfl) trivial, rfl, rfl⟩
                rintro _ _ ⟨rfl, rfl⟩
                refine WA.takesD T false tok [9, 10, 11, 12] (f' := 3) (by kernel_rfl) (by rfl) (by rfl) (by exact byObl) (by rfl) (by rfl) ?_
                refine w1 14 ?_
                refine wt ?_
                refine WA.takesD T false tok [15, 16] (f' := 0) (by kernel_rfl) (by rfl) (by rfl) (by exact byObl) (by rfl) (by rfl) ?_
                refine WA.end rfl (by kernel_rfl) (noPan ?_)
                exact ⟨(k, B, W, a4, h4), ⟨hk, hB, hW, ha4⟩, cutQ 6 rfl rfl rfl rfl rfl rfl rfl rfl rfl (dsf_of rfl rfl rfl fun _ => rfl).symm rfl rfl rfl rfl rfl⟩
        · refine ⟨_, _, rfl, by rfl, by rfl, .inl (MKE.of (MK.of tok (wm := false) (by rfl) (by exact byObl) (by rfl) (by exact byObl))), ?_⟩; rintro _ _ ⟨rfl, rfl⟩
          refine w2 0 5 ?_ ?_
          · refine wq ?_
            refine w1 5 ?_
            refine wNx (fun a' h' => .ro len 1 (byF g) :: .var dz :: .var dz :: .var (srcD len g a' h') :: .var (ds_ N b w) :: [.row 25 L.length 16 (plsF L), .var ti27.z]) hnx2 ?_
            intro z a4 h4 hz ha4
            obtain ⟨j, hj, rfl⟩ := nx_nat hz (by omega)
            obtain ⟨k, B, W, R, hk, hB, hW, hq⟩ := hqu j hj
            refine w1 6 ?_
            refine wq ?_
            refine w1 7 ?_
            refine wq ?_
            refine w1 8 ?_
            refine ⟨_, fun v m' => v = t3 (ds_ k B W) (.sl 7 0 N 1) (.i .i64 0) ∧ m' = .ro len 1 (byF g) :: .var dz :: .var dz :: .var (srcD len g a4 h4) :: .var (ds_ N b w) :: [.row 25 L.length 16 (plsF L), .var ti27.z, .row 2 N 1 (nmF R)], rfl, by rfl, by rfl, .inr ⟨by decide, TKE.call [] (hq) leZ (by rfl) (by rfl) (by exact byArgs) (by simp [Sc, sc_pl, sc_ds]) ?_⟩, ?_⟩
            · rintro _ _ ⟨rfl, rfl⟩
              exact ⟨by exact byAllc, _, ren_t3 ⟨rfl, sc_ds _ _ _ _⟩ rfl ⟨rfl, trivial⟩, sc_t3 (sc_ds _ _ _ _) (sc_sl rfl) trivial, rfl, rfl⟩
            rintro _ _ ⟨rfl, rfl⟩
            refine WA.takesD T false tok [9, 10, 11, 12] (f' := 3) (by kernel_rfl) (by rfl) (by rfl) (by exact byObl) (by rfl) (by rfl) ?_
            refine w1 14 ?_
            refine wt ?_
            refine WA.takesD T false tok [15, 16] (f' := 0) (by kernel_rfl) (by rfl) (by rfl) (by exact byObl) (by rfl) (by rfl) ?_
            refine WA.end rfl (by kernel_rfl) (noPan ?_)
            exact ⟨(k, B, W, a4, h4), ⟨hk, hB, hW, ha4⟩, cutQ 6 rfl rfl rfl rfl rfl rfl rfl rfl rfl (dsf_of rfl rfl rfl fun _ => rfl).symm rfl rfl rfl rfl rfl⟩
          · refine wNx (fun a' h' => .ro len 1 (byF g) :: .var dz :: .var dz :: .var (srcD len g a' h') :: .var (ds_ N b w) :: [.row 25 L.length 16 (plsF L), .var ti27.z]) hnx2 ?_
            intro z a4 h4 hz ha4
            obtain ⟨j, hj, rfl⟩ := nx_nat hz (by omega)
            obtain ⟨k, B, W, R, hk, hB, hW, hq⟩ := hqu j hj
            refine w2 0 6 ?_ ?_
            · refine wq ?_
              refine w1 6 ?_
              refine wq ?_
              refine w1 7 ?_
              refine wq ?_
              refine w1 8 ?_
              refine ⟨_, fun v m' => v = t3 (ds_ k B W) (.sl 7 0 N 1) (.i .i64 0) ∧ m' = .ro len 1 (byF g) :: .var dz :: .var dz :: .var (srcD len g a4 h4) :: .var (ds_ N b w) :: [.row 25 L.length 16 (plsF L), .var ti27.z, .row 2 N 1 (nmF R)], rfl, by rfl, by rfl, .inr ⟨by decide, TKE.call [] (hq) leZ (by rfl) (by rfl) (by exact byArgs) (by simp [Sc, sc_pl, sc_ds]) ?_⟩, ?_⟩
              · rintro _ _ ⟨rfl, rfl⟩
                exact ⟨by exact byAllc, _, ren_t3 ⟨rfl, sc_ds _ _ _ _⟩ rfl ⟨rfl, trivial⟩, sc_t3 (sc_ds _ _ _ _) (sc_sl rfl) trivial, rfl, rfl⟩
              rintro _ _ ⟨rfl, rfl⟩
              refine WA.takesD T false tok [9, 10, 11, 12] (f' := 3) (by kernel_rfl) (by rfl) (by rfl) (by exact byObl) (by rfl) (by rfl) ?_
              refine w1 14 ?_
              refine wt ?_
              refine WA.takesD T false tok [15, 16] (f' := 0) (by kernel_rfl) (by rfl) (by rfl) (by exact byObl) (by rfl) (by rfl) ?_
              refine WA.end rfl (by kernel_rfl) (noPan ?_)
              exact ⟨(k, B, W, a4, h4), ⟨hk, hB, hW, ha4⟩, cutQ 6 rfl rfl rfl rfl rfl rfl rfl rfl rfl (dsf_of rfl rfl rfl fun _ => rfl).symm rfl rfl rfl rfl rfl⟩
            · refine wq ?_
              refine w2 0 7 ?_ ?_
              · refine wq ?_
                refine w1 7 ?_
                refine wq ?_
                refine w1 8 ?_
                refine ⟨_, fun v m' => v = t3 (ds_ k B W) (.sl 7 0 N 1) (.i .i64 0) ∧ m' = .ro len 1 (byF g) :: .var dz :: .var dz :: .var (srcD len g a4 h4) :: .var (ds_ N b w) :: [.row 25 L.length 16 (plsF L), .var ti27.z, .row 2 N 1 (nmF R)], rfl, by rfl, by rfl, .inr ⟨by decide, TKE.call [] (hq) leZ (by rfl) (by rfl) (by exact byArgs) (by simp [Sc, sc_pl, sc_ds]) ?_⟩, ?_⟩
                · rintro _ _ ⟨rfl, rfl⟩
                  exact ⟨by exact byAllc, _, ren_t3 ⟨rfl, sc_ds _ _ _ _⟩ rfl ⟨rfl, trivial⟩, sc_t3 (sc_ds _ _ _ _) (sc_sl rfl) trivial, rfl, rfl⟩
                rintro _ _ ⟨rfl, rfl⟩
                refine WA.takesD T false tok [9, 10, 11, 12] (f' := 3) (by kernel_rfl) (by rfl) (by rfl) (by exact byObl) (by rfl) (by rfl) ?_
                refine w1 14 ?_
                refine wt ?_
                refine WA.takesD T false tok [15, 16] (f' := 0) (by kernel_rfl) (by rfl) (by rfl) (by exact byObl) (by rfl) (by rfl) ?_
                refine WA.end rfl (by kernel_rfl) (noPan ?_)
                exact ⟨(k, B, W, a4, h4), ⟨hk, hB, hW, ha4⟩, cutQ 6 rfl rfl rfl rfl rfl rfl rfl rfl rfl (dsf_of rfl rfl rfl fun _ => rfl).symm rfl rfl rfl rfl rfl⟩
              · refine wq ?_
                refine w1 0 ?_
                refine wq ?_
                refine w1 8 ?_
                refine ⟨_, fun v m' => v = t3 (ds_ k B W) (.sl 7 0 N 1) (.i .i64 0) ∧ m' = .ro len 1 (byF g) :: .var dz :: .var dz :: .var (srcD len g a4 h4) :: .var (ds_ N b w) :: [.row 25 L.length 16 (plsF L), .var ti27.z, .row 2 N 1 (nmF R)], rfl, by rfl, by rfl, .inr ⟨by decide, TKE.call [] (hq) leZ (by rfl) (by rfl) (by exact byArgs) (by simp [Sc, sc_pl, sc_ds]) ?_⟩, ?_⟩
                · rintro _ _ ⟨rfl, rfl⟩
                  exact ⟨by exact byAllc, _, ren_t3 ⟨rfl, sc_ds _ _ _ _⟩ rfl ⟨rfl, trivial⟩, sc_t3 (sc_ds _ _ _ _) (sc_sl rfl) trivial, rfl, rfl⟩
                rintro _ _ ⟨rfl, rfl⟩
                refine WA.takesD T false tok [9, 10, 11, 12] (f' := 3) (by kernel_rfl) (by rfl) (by rfl) (by exact byObl) (by rfl) (by rfl) ?_
                refine w1 14 ?_
                refine wt ?_
                refine WA.takesD T false tok [15, 16] (f' := 0) (by kernel_rfl) (by rfl) (by rfl) (by exact byObl) (by rfl) (by rfl) ?_
                refine WA.end rfl (by kernel_rfl) (noPan ?_)
                exact ⟨(k, B, W, a4, h4), ⟨hk, hB, hW, ha4⟩, cutQ 6 rfl rfl rfl rfl rfl rfl rfl rfl rfl (dsf_of rfl rfl rfl fun _ => rfl).symm rfl rfl rfl rfl rfl⟩
      · refine ⟨_, _, rfl, by rfl, by rfl, .inl (MKE.of (MK.of tok (wm := false) (by rfl) (by exact byObl) (by rfl) (by exact byObl))), ?_⟩; rintro _ _ ⟨rfl, rfl⟩
        refine w2 0 4 ?_ ?_
        · refine wq ?_
          refine w1 4 ?_
          refine wq ?_
          refine w1 5 ?_
          refine wNx (fun a' h' => .ro len 1 (byF g) :: .var dz :: .var dz :: .var (srcD len g a' h') :: .var (ds_ N b w) :: [.row 25 L.length 16 (plsF L), .var ti27.z]) hnx2 ?_
          intro z a4 h4 hz ha4
          obtain ⟨j, hj, rfl⟩ := nx_nat hz (by omega)
          obtain ⟨k, B, W, R, hk, hB, hW, hq⟩ := hqu j hj
          refine w1 6 ?_
          refine wq ?_
          refine w1 7 ?_
          refine wq ?_
          refine w1 8 ?_
          refine ⟨_, fun v m' => v = t3 (ds_ k B W) (.sl 7 0 N 1) (.i .i64 0) ∧ m' = .ro len 1 (byF g) :: .var dz :: .var dz :: .var (srcD len g a4 h4) :: .var (ds_ N b w) :: [.row 25 L.length 16 (plsF L), .var ti27.z, .row 2 N 1 (nmF R)], rfl, by rfl, by rfl, .inr ⟨by decide, TKE.call [] (hq) leZ (by rfl) (by rfl) (by exact byArgs) (by simp [Sc, sc_pl, sc_ds]) ?_⟩, ?_⟩
          · rintro _ _ ⟨rfl, rfl⟩
            exact ⟨by exact byAllc, _, ren_t3 ⟨rfl, sc_ds _ _ _ _⟩ rfl ⟨rfl, trivial⟩, sc_t3 (sc_ds _ _ _ _) (sc_sl rfl) trivial, rfl, rfl⟩
          rintro _ _ ⟨rfl, rfl⟩
          refine WA.takesD T false tok [9, 10, 11, 12] (f' := 3) (by kernel_rfl) (by rfl) (by rfl) (by exact byObl) (by rfl) (by rfl) ?_
          refine w1 14 ?_
          refine wt ?_
          refine WA.takesD T false tok [15, 16] (f' := 0) (by kernel_rfl) (by rfl) (by rfl) (by exact byObl) (by rfl) (by rfl) ?_
          refine WA.end rfl (by kernel_rfl) (noPan ?_)
          exact ⟨(k, B, W, a4, h4), ⟨hk, hB, hW, ha4⟩, cutQ 6 rfl rfl rfl rfl rfl rfl rfl rfl rfl (dsf_of rfl rfl rfl fun _ => rfl).symm rfl rfl rfl rfl rfl⟩
        · refine wq ?_
          refine w2 0 5 ?_ ?_
          · refine wq ?_
            refine w1 5 ?_
            refine wNx (fun a' h' => .ro len 1 (byF g) :: .var dz :: .var dz :: .var (srcD len g a' h') :: .var (ds_ N b w) :: [.row 25 L.length 16 (plsF L), .var ti27.z]) hnx2 ?_
            intro z a4 h4 hz ha4
            obtain ⟨j, hj, rfl⟩ := nx_nat hz (by omega)
            obtain ⟨k, B, W, R, hk, hB, hW, hq⟩ := hqu j hj
            refine w1 6 ?_
            refine wq ?_
            refine w1 7 ?_
            refine wq ?_
            refine w1 8 ?_
            refine ⟨_, fun v m' => v = t3 (ds_ k B W) (.sl 7 0 N 1) (.i .i64 0) ∧ m' = .ro len 1 (byF g) :: .var dz :: .var dz :: .var (srcD len g a4 h4) :: .var (ds_ N b w) :: [.row 25 L.length 16 (plsF L), .var ti27.z, .row 2 N 1 (nmF R)], rfl, by rfl, by rfl, .inr ⟨by decide, TKE.call [] (hq) leZ (by rfl) (by rfl) (by exact byArgs) (by simp [Sc, sc_pl, sc_ds]) ?_⟩, ?_⟩
            · rintro _ _ ⟨rfl, rfl⟩
              exact ⟨by exact byAllc, _, ren_t3 ⟨rfl, sc_ds _ _ _ _⟩ rfl ⟨rfl, trivial⟩, sc_t3 (sc_ds _ _ _ _) (sc_sl rfl) trivial, rfl, rfl⟩
            rintro _ _ ⟨rfl, rfl⟩
            refine WA.takesD T false tok [9, 10, 11, 12] (f' := 3) (by kernel_rfl) (by rfl) (by rfl) (by exact byObl) (by rfl) (by rfl) ?_
            refine w1 14 ?_
            refine wt ?_
            refine WA.takesD T false tok [15, 16] (f' := 0) (by kernel_rfl) (by rfl) (by rfl) (by exact byObl) (by rfl) (by rfl) ?_
            refine WA.end rfl (by kernel_rfl) (noPan ?_)
            exact ⟨(k, B, W, a4, h4), ⟨hk, hB, hW, ha4⟩, cutQ 6 rfl rfl rfl rfl rfl rfl rfl rfl rfl (dsf_of rfl rfl rfl fun _ => rfl).symm rfl rfl rfl rfl rfl⟩
          · refine wNx (fun a' h' => .ro len 1 (byF g) :: .var dz :: .var dz :: .var (srcD len g a' h') :: .var (ds_ N b w) :: [.row 25 L.length 16 (plsF L), .var ti27.z]) hnx2 ?_
            intro z a4 h4 hz ha4
            obtain ⟨j, hj, rfl⟩ := nx_nat hz (by omega)
            obtain ⟨k, B, W, R, hk, hB, hW, hq⟩ := hqu j hj
            refine w2 0 6 ?_ ?_
            · refine wq ?_
              refine w1 6 ?_
              refine wq ?_
              refine w1 7 ?_
              refine wq ?_
              refine w1 8 ?_
              refine ⟨_, fun v m' => v = t3 (ds_ k B W) (.sl 7 0 N 1) (.i .i64 0) ∧ m' = .ro len 1 (byF g) :: .var dz :: .var dz :: .var (srcD len g a4 h4) :: .var (ds_ N b w) :: [.row 25 L.length 16 (plsF L), .var ti27.z, .row 2 N 1 (nmF R)], rfl, by rfl, by rfl, .inr ⟨by decide, TKE.call [] (hq) leZ (by rfl) (by rfl) (by exact byArgs) (by simp [Sc, sc_pl, sc_ds]) ?_⟩, ?_⟩
              · rintro _ _ ⟨rfl, rfl⟩
                exact ⟨by exact byAllc, _, ren_t3 ⟨rfl, sc_ds _ _ _ _⟩ rfl ⟨rfl, trivial⟩, sc_t3 (sc_ds _ _ _ _) (sc_sl rfl) trivial, rfl, rfl⟩
              rintro _ _ ⟨rfl, rfl⟩
              refine WA.takesD T false tok [9, 10, 11, 12] (f' := 3) (by kernel_rfl) (by rfl) (by rfl) (by exact byObl) (by rfl) (by rfl) ?_
              refine w1 14 ?_
              refine wt ?_
              refine WA.takesD T false tok [15, 16] (f' := 0) (by kernel_rfl) (by rfl) (by rfl) (by exact byObl) (by rfl) (by rfl) ?_
              refine WA.end rfl (by kernel_rfl) (noPan ?_)
              exact ⟨(k, B, W, a4, h4), ⟨hk, hB, hW, ha4⟩, cutQ 6 rfl rfl rfl rfl rfl rfl rfl rfl rfl (dsf_of rfl rfl rfl fun _ => rfl).symm rfl rfl rfl rfl rfl⟩
            · refine wq ?_
              refine w2 0 7 ?_ ?_
              · refine wq ?_
                refine w1 7 ?_
                refine wq ?_
                refine w1 8 ?_
                refine ⟨_, fun v m' => v = t3 (ds_ k B W) (.sl 7 0 N 1) (.i .i64 0) ∧ m' = .ro len 1 (byF g) :: .var dz :: .var dz :: .var (srcD len g a4 h4) :: .var (ds_ N b w) :: [.row 25 L.length 16 (plsF L), .var ti27.z, .row 2 N 1 (nmF R)], rfl, by rfl, by rfl, .inr ⟨by decide, TKE.call [] (hq) leZ (by rfl) (by rfl) (by exact byArgs) (by simp [Sc, sc_pl, sc_ds]) ?_⟩, ?_⟩
                · rintro _ _ ⟨rfl, rfl⟩
                  exact ⟨by exact byAllc, _, ren_t3 ⟨rfl, sc_ds _ _ _ _⟩ rfl ⟨rfl, trivial⟩, sc_t3 (sc_ds _ _ _ _) (sc_sl rfl) trivial, rfl, rfl⟩
                rintro _ _ ⟨rfl, rfl⟩
                refine WA.takesD T false tok [9, 10, 11, 12] (f' := 3) (by kernel_rfl) (by rfl) (by rfl) (by exact byObl) (by rfl) (by rfl) ?_
                refine w1 14 ?_
                refine wt ?_
                refine WA.takesD T false tok [15, 16] (f' := 0) (by kernel_rfl) (by rfl) (by rfl) (by exact byObl) (by rfl) (by rfl) ?_
                refine WA.end rfl (by kernel_rfl) (noPan ?_)
                exact ⟨(k, B, W, a4, h4), ⟨hk, hB, hW, ha4⟩, cutQ 6 rfl rfl rfl rfl rfl rfl rfl rfl rfl (dsf_of rfl rfl rfl fun _ => rfl).symm rfl rfl rfl rfl rfl⟩
              · refine wq ?_
                refine w1 0 ?_
                refine wq ?_
                refine w1 8 ?_
                refine ⟨_, fun v m' => v = t3 (ds_ k B W) (.sl 7 0 N 1) (.i .i64 0) ∧ m' = .ro len 1 (byF g) :: .var dz :: .var dz :: .var (srcD len g a4 h4) :: .var (ds_ N b w) :: [.row 25 L.length 16 (plsF L), .var ti27.z, .row 2 N 1 (nmF R)], rfl, by rfl, by rfl, .inr ⟨by decide, TKE.call [] (hq) leZ (by rfl) (by rfl) (by exact byArgs) (by simp [Sc, sc_pl, sc_ds]) ?_⟩, ?_⟩
                · rintro _ _ ⟨rfl, rfl⟩
                  exact ⟨by exact byAllc, _, ren_t3 ⟨rfl, sc_ds _ _ _ _⟩ rfl ⟨rfl, trivial⟩, sc_t3 (sc_ds _ _ _ _) (sc_sl rfl) trivial, rfl, rfl⟩
                rintro _ _ ⟨rfl, rfl⟩
                refine WA.takesD T false tok [9, 10, 11, 12] (f' := 3) (by kernel_rfl) (by rfl) (by rfl) (by exact byObl) (by rfl) (by rfl) ?_
                refine w1 14 ?_
                refine wt ?_
                refine WA.takesD T false tok [15, 16] (f' := 0) (by kernel_rfl) (by rfl) (by rfl) (by exact byObl) (by rfl) (by rfl) ?_
                refine WA.end rfl (by kernel_rfl) (noPan ?_)
                exact ⟨(k, B, W, a4, h4), ⟨hk, hB, hW, ha4⟩, cutQ 6 rfl rfl rfl rfl rfl rfl rfl rfl rfl (dsf_of rfl rfl rfl fun _ => rfl).symm rfl rfl rfl rfl rfl⟩
    rintro ⟨k, B, W, a5, h5⟩ ⟨hk, hB, hW, ha5⟩
    dsimp only at hk hB hW ha5
    dsimp only
    have hdp := l01DrawPlaces_fn len g hg a5 h5 (k : Int) (by omega) (by omega) ha5 hl
    have fin : ∀ p : Nat → Nat, Bt (bN (k : Int)) p → FnP Try.prog 36 [ds_ k B W, pl p] (ds_ k (renTo p B k) (renTo p W k)) := fun p hp => l02Rename_fn k B W p hk (fun i _ => hB.lt i) (fun i _ => hW.lt i) (fun i _ => Nat.lt_of_lt_of_le (hp.lt i) (bN_le (by omega)))
    have fin2 : ∀ p : Nat → Nat, Bt (bN (k : Int)) p → DrB k (renTo p B k) (renTo p W k) := fun p hp => ⟨by omega, by omega, (renTo_bt (fun i => Nat.lt_of_lt_of_le (hp.lt i) (bN_le (by omega))) k).mono (by decide), (renTo_bt (fun i => Nat.lt_of_lt_of_le (hp.lt i) (bN_le (by omega))) k).mono (by decide)⟩
    refine WP.seqX (fun z : Int × (Nat → Nat) × (Nat → Nat) × Nat × Int => DrB z.1 z.2.1 z.2.2.1) (fun z => ⟨lst [(2, .p 1 [] 0), (3, .p 2 [] 0)], [.ro len 1 (byF g), .var (ds_ N b w), .var (ds_ z.1 z.2.1 z.2.2.1)]⟩) ?_ ?_
    · refine WP.da (by kernel_rfl) 5 (by kernel_rfl) ?_
      refine WA.takesD T false tok [2] (f' := 8) (by kernel_rfl) (by rfl) (by rfl) (by exact byObl) (by rfl) (by rfl) ?_
      refine w3 0 1 3 ?_ ?_ ?_
      · refine wq ?_
        refine w2 1 3 ?_ ?_
        · refine wq ?_
          refine w1 3 ?_
          refine wq ?_
          refine w1 4 ?_
          refine wq ?_
          refine w1 5 ?_
          refine wDp (fun a' h' => .ro len 1 (byF g) :: .var dz :: .var dz :: .var (srcD len g a' h') :: .var (ds_ N b w) :: [.var (ds_ k B W)]) hdp ?_
          intro p a6 h6 hp _
          refine w1 6 ?_
          refine ⟨_, _, rfl, by rfl, by rfl, .inl (MKE.of (MK.callP (fin p hp) (by rfl) (by simp [Sc, sc_pl, sc_ds, pl_ne, ds_ne]))), ?_⟩; rintro _ _ ⟨rfl, rfl⟩
          refine w1 7 ?_
          refine wt ?_
          refine w1 8 ?_
          refine wt ?_
          refine WA.end rfl (by kernel_rfl) (noPan ?_)
          exact ⟨((k : Int), (renTo p B k), (renTo p W k), a6, h6), fin2 p hp, cutA rfl rfl rfl rfl rfl⟩
        · refine wq ?_
          refine w2 1 4 ?_ ?_
          · refine wq ?_
            refine w1 4 ?_
            refine wq ?_
            refine w1 5 ?_
            refine wDp (fun a' h' => .ro len 1 (byF g) :: .var dz :: .var dz :: .var (srcD len g a' h') :: .var (ds_ N b w) :: [.var (ds_ k B W)]) hdp ?_
            intro p a6 h6 hp _
            refine w1 6 ?_
            refine ⟨_, _, rfl, by rfl, by rfl, .inl (MKE.of (MK.callP (fin p hp) (by rfl) (by simp [Sc, sc_pl, sc_ds, pl_ne, ds_ne]))), ?_⟩; rintro _ _ ⟨rfl, rfl⟩
            refine w1 7 ?_
            refine wt ?_
            refine w1 8 ?_
            refine wt ?_
            refine WA.end rfl (by kernel_rfl) (noPan ?_)
            exact ⟨((k : Int), (renTo p B k), (renTo p W k), a6, h6), fin2 p hp, cutA rfl rfl rfl rfl rfl⟩
          · refine wq ?_
            refine w2 1 5 ?_ ?_
            · refine wq ?_
              refine w1 5 ?_
              refine wDp (fun a' h' => .ro len 1 (byF g) :: .var dz :: .var dz :: .var (srcD len g a' h') :: .var (ds_ N b w) :: [.var (ds_ k B W)]) hdp ?_
              intro p a6 h6 hp _
              refine w1 6 ?_
              refine ⟨_, _, rfl, by rfl, by rfl, .inl (MKE.of (MK.callP (fin p hp) (by rfl) (by simp [Sc, sc_pl, sc_ds, pl_ne, ds_ne]))), ?_⟩; rintro _ _ ⟨rfl, rfl⟩
              refine w1 7 ?_
              refine wt ?_
              refine w1 8 ?_
              refine wt ?_
              refine WA.end rfl (by kernel_rfl) (noPan ?_)
              exact ⟨((k : Int), (renTo p B k), (renTo p W k), a6, h6), fin2 p hp, cutA rfl rfl rfl rfl rfl⟩
            · refine wDp (fun a' h' => .ro len 1 (byF g) :: .var dz :: .var dz :: .var (srcD len g a' h') :: .var (ds_ N b w) :: [.var (ds_ k B W)]) hdp ?_
              intro p a6 h6 hp _
              refine w1 1 ?_
              refine wq ?_
              refine w1 6 ?_
              refine ⟨_, _, rfl, by rfl, by rfl, .inl (MKE.of (MK.callP (fin p hp) (by rfl) (by simp [Sc, sc_pl, sc_ds, pl_ne, ds_ne]))), ?_⟩; rintro _ _ ⟨rfl, rfl⟩
              refine w1 7 ?_
              refine wt ?_
              refine w1 8 ?_
              refine wt ?_
              refine WA.end rfl (by kernel_rfl) (noPan ?_)
              exact ⟨((k : Int), (renTo p B k), (renTo p W k), a6, h6), fin2 p hp, cutA rfl rfl rfl rfl rfl⟩
      · refine wq ?_
        refine w2 0 3 ?_ ?_
        · refine wq ?_
          refine w1 3 ?_
          refine wq ?_
          refine w1 4 ?_
          refine wq ?_
          refine w1 5 ?_
          refine wDp (fun a' h' => .ro len 1 (byF g) :: .var dz :: .var dz :: .var (srcD len g a' h') :: .var (ds_ N b w) :: [.var (ds_ k B W)]) hdp ?_
          intro p a6 h6 hp _
          refine w1 6 ?_
          refine ⟨_, _, rfl, by rfl, by rfl, .inl (MKE.of (MK.callP (fin p hp) (by rfl) (by simp [Sc, sc_pl, sc_ds, pl_ne, ds_ne]))), ?_⟩; rintro _ _ ⟨rfl, rfl⟩
          refine w1 7 ?_
          refine wt ?_
          refine w1 8 ?_
          refine wt ?_
          refine WA.end rfl (by kernel_rfl) (noPan ?_)
          exact ⟨((k : Int), (renTo p B k), (renTo p W k), a6, h6), fin2 p hp, cutA rfl rfl rfl rfl rfl⟩
        · refine wq ?_
          refine w2 0 4 ?_ ?_
          · refine wq ?_
            refine w1 4 ?_
            refine wq ?_
            refine w1 5 ?_
            refine wDp (fun a' h' => .ro len 1 (byF g) :: .var dz :: .var dz :: .var (srcD len g a' h') :: .var (ds_ N b w) :: [.var (ds_ k B W)]) hdp ?_
            intro p a6 h6 hp _
            refine w1 6 ?_
            refine ⟨_, _, rfl, by rfl, by rfl, .inl (MKE.of (MK.callP (fin p hp) (by rfl) (by simp [Sc, sc_pl, sc_ds, pl_ne, ds_ne]))), ?_⟩; rintro _ _ ⟨rfl, rfl⟩
            refine w1 7 ?_
            refine wt ?_
            refine w1 8 ?_
            refine wt ?_
            refine WA.end rfl (by kernel_rfl) (noPan ?_)
            exact ⟨((k : Int), (renTo p B k), (renTo p W k), a6, h6), fin2 p hp, cutA rfl rfl rfl rfl rfl⟩
          · refine wq ?_
            refine w2 0 5 ?_ ?_
            · refine wq ?_
              refine w1 5 ?_
              refine wDp (fun a' h' => .ro len 1 (byF g) :: .var dz :: .var dz :: .var (srcD len g a' h') :: .var (ds_ N b w) :: [.var (ds_ k B W)]) hdp ?_
              intro p a6 h6 hp _
              refine w1 6 ?_
              refine ⟨_, _, rfl, by rfl, by rfl, .inl (MKE.of (MK.callP (fin p hp) (by rfl) (by simp [Sc, sc_pl, sc_ds, pl_ne, ds_ne]))), ?_⟩; rintro _ _ ⟨rfl, rfl⟩
              refine w1 7 ?_
              refine wt ?_
              refine w1 8 ?_
              refine wt ?_
              refine WA.end rfl (by kernel_rfl) (noPan ?_)
              exact ⟨((k : Int), (renTo p B k), (renTo p W k), a6, h6), fin2 p hp, cutA rfl rfl rfl rfl rfl⟩
            · refine wDp (fun a' h' => .ro len 1 (byF g) :: .var dz :: .var dz :: .var (srcD len g a' h') :: .var (ds_ N b w) :: [.var (ds_ k B W)]) hdp ?_
              intro p a6 h6 hp _
              refine w2 0 6 ?_ ?_
              · refine wq ?_
                refine w1 6 ?_
                refine ⟨_, _, rfl, by rfl, by rfl, .inl (MKE.of (MK.callP (fin p hp) (by rfl) (by simp [Sc, sc_pl, sc_ds, pl_ne, ds_ne]))), ?_⟩; rintro _ _ ⟨rfl, rfl⟩
                refine w1 7 ?_
                refine wt ?_
                refine w1 8 ?_
                refine wt ?_
                refine WA.end rfl (by kernel_rfl) (noPan ?_)
                exact ⟨((k : Int), (renTo p B k), (renTo p W k), a6, h6), fin2 p hp, cutA rfl rfl rfl rfl rfl⟩
              · refine ⟨_, _, rfl, by rfl, by rfl, .inl (MKE.of (MK.callP (fin p hp) (by rfl) (by simp [Sc, sc_pl, sc_ds, pl_ne, ds_ne]))), ?_⟩; rintro _ _ ⟨rfl, rfl⟩
                refine w1 0 ?_
                refine wq ?_
                refine w1 7 ?_
                refine wt ?_
                refine w1 8 ?_
                refine wt ?_
                refine WA.end rfl (by kernel_rfl) (noPan ?_)
                exact ⟨((k : Int), (renTo p B k), (renTo p W k), a6, h6), fin2 p hp, cutA rfl rfl rfl rfl rfl⟩
      · refine wq ?_
        refine w3 0 1 4 ?_ ?_ ?_
        · refine wq ?_
          refine w2 1 4 ?_ ?_
          · refine wq ?_
            refine w1 4 ?_
            refine wq ?_
            refine w1 5 ?_
            refine wDp (fun a' h' => .ro len 1 (byF g) :: .var dz :: .var dz :: .var (srcD len g a' h') :: .var (ds_ N b w) :: [.var (ds_ k B W)]) hdp ?_
            intro p a6 h6 hp _
            refine w1 6 ?_
            refine ⟨_, _, rfl, by rfl, by rfl, .inl (MKE.of (MK.callP (fin p hp) (by rfl) (by simp [Sc, sc_pl, sc_ds, pl_ne, ds_ne]))), ?_⟩; rintro _ _ ⟨rfl, rfl⟩
            refine w1 7 ?_
            refine wt ?_
            refine w1 8 ?_
            refine wt ?_
            refine WA.end rfl (by kernel_rfl) (noPan ?_)
            exact ⟨((k : Int), (renTo p B k), (renTo p W k), a6, h6), fin2 p hp, cutA rfl rfl rfl rfl rfl⟩
          · refine wq ?_
            refine w2 1 5 ?_ ?_
            · refine wq ?_
              refine w1 5 ?_
              refine wDp (fun a' h' => .ro len 1 (byF g) :: .var dz :: .var dz :: .var (srcD len g a' h') :: .var (ds_ N b w) :: [.var (ds_ k B W)]) hdp ?_
              intro p a6 h6 hp _
              refine w1 6 ?_
              refine ⟨_, _, rfl, by rfl, by rfl, .inl (MKE.of (MK.callP (fin p hp) (by rfl) (by simp [Sc, sc_pl, sc_ds, pl_ne, ds_ne]))), ?_⟩; rintro _ _ ⟨rfl, rfl⟩
              refine w1 7 ?_
              refine wt ?_
              refine w1 8 ?_
              refine wt ?_
              refine WA.end rfl (by kernel_rfl) (noPan ?_)
              exact ⟨((k : Int), (renTo p B k), (renTo p W k), a6, h6), fin2 p hp, cutA rfl rfl rfl rfl rfl⟩
            · refine wDp (fun a' h' => .ro len 1 (byF g) :: .var dz :: .var dz :: .var (srcD len g a' h') :: .var (ds_ N b w) :: [.var (ds_ k B W)]) hdp ?_
              intro p a6 h6 hp _
              refine w1 1 ?_
              refine wq ?_
              refine w1 6 ?_
              refine ⟨_, _, rfl, by rfl, by rfl, .inl (MKE.of (MK.callP (fin p hp) (by rfl) (by simp [Sc, sc_pl, sc_ds, pl_ne, ds_ne]))), ?_⟩; rintro _ _ ⟨rfl, rfl⟩
              refine w1 7 ?_
              refine wt ?_
              refine w1 8 ?_
              refine wt ?_
              refine WA.end rfl (by kernel_rfl) (noPan ?_)
              exact ⟨((k : Int), (renTo p B k), (renTo p W k), a6, h6), fin2 p hp, cutA rfl rfl rfl rfl rfl⟩
        · refine wq ?_
          refine w2 0 4 ?_ ?_
          · refine wq ?_
            refine w1 4 ?_
            refine wq ?_
            refine w1 5 ?_
            refine wDp (fun a' h' => .ro len 1 (byF g) :: .var dz :: .var dz :: .var (srcD len g a' h') :: .var (ds_ N b w) :: [.var (ds_ k B W)]) hdp ?_
            intro p a6 h6 hp _
            refine w1 6 ?_
            refine ⟨_, _, rfl, by rfl, by rfl, .inl (MKE.of (MK.callP (fin p hp) (by rfl) (by simp [Sc, sc_pl, sc_ds, pl_ne, ds_ne]))), ?_⟩; rintro _ _ ⟨rfl, rfl⟩
            refine w1 7 ?_
            refine wt ?_
            refine w1 8 ?_
            refine wt ?_
            refine WA.end rfl (by kernel_rfl) (noPan ?_)
            exact ⟨((k : Int), (renTo p B k), (renTo p W k), a6, h6), fin2 p hp, cutA rfl rfl rfl rfl rfl⟩
          · refine wq ?_
            refine w2 0 5 ?_ ?_
            · refine wq ?_
              refine w1 5 ?_
              refine wDp (fun a' h' => .ro len 1 (byF g) :: .var dz :: .var dz :: .var (srcD len g a' h') :: .var (ds_ N b w) :: [.var (ds_ k B W)]) hdp ?_
              intro p a6 h6 hp _
              refine w1 6 ?_
              refine ⟨_, _, rfl, by rfl, by rfl, .inl (MKE.of (MK.callP (fin p hp) (by rfl) (by simp [Sc, sc_pl, sc_ds, pl_ne, ds_ne]))), ?_⟩; rintro _ _ ⟨rfl, rfl⟩
              refine w1 7 ?_
              refine wt ?_
              refine w1 8 ?_
              refine wt ?_
              refine WA.end rfl (by kernel_rfl) (noPan ?_)
              exact ⟨((k : Int), (renTo p B k), (renTo p W k), a6, h6), fin2 p hp, cutA rfl rfl rfl rfl rfl⟩
            · refine wDp (fun a' h' => .ro len 1 (byF g) :: .var dz :: .var dz :: .var (srcD len g a' h') :: .var (ds_ N b w) :: [.var (ds_ k B W)]) hdp ?_
              intro p a6 h6 hp _
              refine w2 0 6 ?_ ?_
              · refine wq ?_
                refine w1 6 ?_
                refine ⟨_, _, rfl, by rfl, by rfl, .inl (MKE.of (MK.callP (fin p hp) (by rfl) (by simp [Sc, sc_pl, sc_ds, pl_ne, ds_ne]))), ?_⟩; rintro _ _ ⟨rfl, rfl⟩
                refine w1 7 ?_
                refine wt ?_
                refine w1 8 ?_
                refine wt ?_
                refine WA.end rfl (by kernel_rfl) (noPan ?_)
                exact ⟨((k : Int), (renTo p B k), (renTo p W k), a6, h6), fin2 p hp, cutA rfl rfl rfl rfl rfl⟩
              · refine ⟨_, _, rfl, by rfl, by rfl, .inl (MKE.of (MK.callP (fin p hp) (by rfl) (by simp [Sc, sc_pl, sc_ds, pl_ne, ds_ne]))), ?_⟩; rintro _ _ ⟨rfl, rfl⟩
                refine w1 0 ?_
                refine wq ?_
                refine w1 7 ?_
                refine wt ?_
                refine w1 8 ?_
                refine wt ?_
                refine WA.end rfl (by kernel_rfl) (noPan ?_)
                exact ⟨((k : Int), (renTo p B k), (renTo p W k), a6, h6), fin2 p hp, cutA rfl rfl rfl rfl rfl⟩
        · refine wq ?_
          refine w3 0 1 5 ?_ ?_ ?_
          · refine wq ?_
            refine w2 1 5 ?_ ?_
            · refine wq ?_
              refine w1 5 ?_
              refine wDp (fun a' h' => .ro len 1 (byF g) :: .var dz :: .var dz :: .var (srcD len g a' h') :: .var (ds_ N b w) :: [.var (ds_ k B W)]) hdp ?_
              intro p a6 h6 hp _
              refine w1 6 ?_
              refine ⟨_, _, rfl, by rfl, by rfl, .inl (MKE.of (MK.callP (fin p hp) (by rfl) (by simp [Sc, sc_pl, sc_ds, pl_ne, ds_ne]))), ?_⟩; rintro _ _ ⟨rfl, rfl⟩
              refine w1 7 ?_
              refine wt ?_
              refine w1 8 ?_
              refine wt ?_
              refine WA.end rfl (by kernel_rfl) (noPan ?_)
              exact ⟨((k : Int), (renTo p B k), (renTo p W k), a6, h6), fin2 p hp, cutA rfl rfl rfl rfl rfl⟩
            · refine wDp (fun a' h' => .ro len 1 (byF g) :: .var dz :: .var dz :: .var (srcD len g a' h') :: .var (ds_ N b w) :: [.var (ds_ k B W)]) hdp ?_
              intro p a6 h6 hp _
              refine w1 1 ?_
              refine wq ?_
              refine w1 6 ?_
              refine ⟨_, _, rfl, by rfl, by rfl, .inl (MKE.of (MK.callP (fin p hp) (by rfl) (by simp [Sc, sc_pl, sc_ds, pl_ne, ds_ne]))), ?_⟩; rintro _ _ ⟨rfl, rfl⟩
              refine w1 7 ?_
              refine wt ?_
              refine w1 8 ?_
              refine wt ?_
              refine WA.end rfl (by kernel_rfl) (noPan ?_)
              exact ⟨((k : Int), (renTo p B k), (renTo p W k), a6, h6), fin2 p hp, cutA rfl rfl rfl rfl rfl⟩
          · refine wq ?_
            refine w2 0 5 ?_ ?_
            · refine wq ?_
              refine w1 5 ?_
              refine wDp (fun a' h' => .ro len 1 (byF g) :: .var dz :: .var dz :: .var (srcD len g a' h') :: .var (ds_ N b w) :: [.var (ds_ k B W)]) hdp ?_
              intro p a6 h6 hp _
              refine w1 6 ?_
              refine ⟨_, _, rfl, by rfl, by rfl, .inl (MKE.of (MK.callP (fin p hp) (by rfl) (by simp [Sc, sc_pl, sc_ds, pl_ne, ds_ne]))), ?_⟩; rintro _ _ ⟨rfl, rfl⟩
              refine w1 7 ?_
              refine wt ?_
              refine w1 8 ?_
              refine wt ?_
              refine WA.end rfl (by kernel_rfl) (noPan ?_)
              exact ⟨((k : Int), (renTo p B k), (renTo p W k), a6, h6), fin2 p hp, cutA rfl rfl rfl rfl rfl⟩
            · refine wDp (fun a' h' => .ro len 1 (byF g) :: .var dz :: .var dz :: .var (srcD len g a' h') :: .var (ds_ N b w) :: [.var (ds_ k B W)]) hdp ?_
              intro p a6 h6 hp _
              refine w2 0 6 ?_ ?_
              · refine wq ?_
                refine w1 6 ?_
                refine ⟨_, _, rfl, by rfl, by rfl, .inl (MKE.of (MK.callP (fin p hp) (by rfl) (by simp [Sc, sc_pl, sc_ds, pl_ne, ds_ne]))), ?_⟩; rintro _ _ ⟨rfl, rfl⟩
                refine w1 7 ?_
                refine wt ?_
                refine w1 8 ?_
                refine wt ?_
                refine WA.end rfl (by kernel_rfl) (noPan ?_)
                exact ⟨((k : Int), (renTo p B k), (renTo p W k), a6, h6), fin2 p hp, cutA rfl rfl rfl rfl rfl⟩
              · refine ⟨_, _, rfl, by rfl, by rfl, .inl (MKE.of (MK.callP (fin p hp) (by rfl) (by simp [Sc, sc_pl, sc_ds, pl_ne, ds_ne]))), ?_⟩; rintro _ _ ⟨rfl, rfl⟩
                refine w1 0 ?_
                refine wq ?_
                refine w1 7 ?_
                refine wt ?_
                refine w1 8 ?_
                refine wt ?_
                refine WA.end rfl (by kernel_rfl) (noPan ?_)
                exact ⟨((k : Int), (renTo p B k), (renTo p W k), a6, h6), fin2 p hp, cutA rfl rfl rfl rfl rfl⟩
          · refine wDp (fun a' h' => .ro len 1 (byF g) :: .var dz :: .var dz :: .var (srcD len g a' h') :: .var (ds_ N b w) :: [.var (ds_ k B W)]) hdp ?_
            intro p a6 h6 hp _
            refine w2 0 1 ?_ ?_
            · refine wq ?_
              refine w1 1 ?_
              refine wq ?_
              refine w1 6 ?_
              refine ⟨_, _, rfl, by rfl, by rfl, .inl (MKE.of (MK.callP (fin p hp) (by rfl) (by simp [Sc, sc_pl, sc_ds, pl_ne, ds_ne]))), ?_⟩; rintro _ _ ⟨rfl, rfl⟩
              refine w1 7 ?_
              refine wt ?_
              refine w1 8 ?_
              refine wt ?_
              refine WA.end rfl (by kernel_rfl) (noPan ?_)
              exact ⟨((k : Int), (renTo p B k), (renTo p W k), a6, h6), fin2 p hp, cutA rfl rfl rfl rfl rfl⟩
            · refine wq ?_
              refine w2 0 6 ?_ ?_
              · refine wq ?_
                refine w1 6 ?_
                refine ⟨_, _, rfl, by rfl, by rfl, .inl (MKE.of (MK.callP (fin p hp) (by rfl) (by simp [Sc, sc_pl, sc_ds, pl_ne, ds_ne]))), ?_⟩; rintro _ _ ⟨rfl, rfl⟩
                refine w1 7 ?_
                refine wt ?_
                refine w1 8 ?_
                refine wt ?_
                refine WA.end rfl (by kernel_rfl) (noPan ?_)
                exact ⟨((k : Int), (renTo p B k), (renTo p W k), a6, h6), fin2 p hp, cutA rfl rfl rfl rfl rfl⟩
              · refine ⟨_, _, rfl, by rfl, by rfl, .inl (MKE.of (MK.callP (fin p hp) (by rfl) (by simp [Sc, sc_pl, sc_ds, pl_ne, ds_ne]))), ?_⟩; rintro _ _ ⟨rfl, rfl⟩
                refine w1 0 ?_
                refine wq ?_
                refine w1 7 ?_
                refine wt ?_
                refine w1 8 ?_
                refine wt ?_
                refine WA.end rfl (by kernel_rfl) (noPan ?_)
                exact ⟨((k : Int), (renTo p B k), (renTo p W k), a6, h6), fin2 p hp, cutA rfl rfl rfl rfl rfl⟩
    · rintro ⟨n', b', w', a4, h4⟩ hdr'
      dsimp only at hdr'
      dsimp only
      exact WP.ret (Ends.newE [0] (⟨N, b, w, n', b', w', rfl, hdr, hdr', rfl⟩) (.inl rfl) (by rfl) (by exact byObl) (leC leZ) rfl rfl (ren_t2 ⟨rfl, sc_ds _ _ _ _⟩ ⟨rfl, sc_ds _ _ _ _⟩) (sc_t2 (sc_ds _ _ _ _) (sc_ds _ _ _ _)))
  · refine WP.skip ?_
    have hs2 := l02Some_fn len g hg a3 h3 ha3 hl
    refine WP.seqX (fun z : Int × (Nat → Nat) × (Nat → Nat) × Nat × Int => DrB z.1 z.2.1 z.2.2.1) (fun z => ⟨lst [(2, .p 1 [] 0), (3, .p 2 [] 0)], [.ro len 1 (byF g), .var (ds_ N b w), .var (ds_ z.1 z.2.1 z.2.2.1)]⟩) ?_ ?_
    · refine WP.da (by kernel_rfl) 2 (by kernel_rfl) ?_
      refine WA.takesD T false tok [1] (f' := 4) (by kernel_rfl) (by rfl) (by rfl) (by exact byObl) (by rfl) (by rfl) ?_
      refine w2 0 2 ?_ ?_
      · refine wq ?_
        refine w1 2 ?_
        refine wSo (fun a' h' => .ro len 1 (byF g) :: .var dz :: .var dz :: .var (srcD len g a' h') :: .var (ds_ N b w) :: []) hs2 ?_
        intro n' b' w' a4 h4 hdr' _
        refine w1 3 ?_
        refine wt ?_
        refine w1 4 ?_
        refine wt ?_
        refine WA.end rfl (by kernel_rfl) (noPan ?_)
        exact ⟨(n', b', w', a4, h4), hdr', cutA rfl rfl rfl rfl rfl⟩
      · refine wSo (fun a' h' => .ro len 1 (byF g) :: .var dz :: .var dz :: .var (srcD len g a' h') :: .var (ds_ N b w) :: []) hs2 ?_
        intro n' b' w' a4 h4 hdr' _
        refine w1 0 ?_
        refine wq ?_
        refine w1 3 ?_
        refine wt ?_
        refine w1 4 ?_
        refine wt ?_
        refine WA.end rfl (by kernel_rfl) (noPan ?_)
        exact ⟨(n', b', w', a4, h4), hdr', cutA rfl rfl rfl rfl rfl⟩
    · rintro ⟨n', b', w', a4, h4⟩ hdr'
      dsimp only at hdr'
      dsimp only
      exact WP.ret (Ends.newE [0] (⟨N, b, w, n', b', w', rfl, hdr, hdr', rfl⟩) (.inl rfl) (by rfl) (by exact byObl) (leC leZ) rfl rfl (ren_t2 ⟨rfl, sc_ds _ _ _ _⟩ ⟨rfl, sc_ds _ _ _ _⟩) (sc_t2 (sc_ds _ _ _ _) (sc_ds _ _ _ _)))
end Go.Proofs.Ythjnmlpibafbnaa
