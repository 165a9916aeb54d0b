import Derived.Test.YthjnmlpibafbnaaX150
import Derived.Test.YthjnmlpibafbnaaX151
import Derived.Test.YthjnmlpibafbnaaX55
import Derived.Test.YthjnmlpibafbnaaX114
import Derived.Test.YthjnmlpibafbnaaX116
import Derived.Test.YthjnmlpibafbnaaD34
import Derived.Test.YthjnmlpibafbnaaL9
namespace Go.Proofs.Ythjnmlpibafbnaa
open Go.RowKit DM
set_option linter.unusedSimpArgs false
set_option linter.unusedVariables false
set_option maxRecDepth 100000
set_option maxHeartbeats 1000000
set_option maxHeartbeats 32000000
def cntO (o : Nat → Int) (z : Int) : Nat → Nat
  | 0 => 0
  | k + 1 => cntO o z k + if o k = z then 1 else 0
theorem cntO_le (o : Nat → Int) (z : Int) : ∀ k, cntO o z k ≤ k
  | 0 => Nat.le_refl _
  | k + 1 => by have := cntO_le o z k; simp only [cntO]; split <;> omega
theorem cntO_fib {N : Nat} {o : Nat → Int} {f : Nat → Nat} (h : ∀ x, x < N → o x = (f x : Int)) (z : Nat) : cntO o z N = fibN N f z := by
  unfold fibN
  have : ∀ k, k ≤ N → cntO o z k = ((List.range k).filter fun x => decide (f x = z)).length := fun k => by
    induction k with
    | zero => intro _; rfl
    | succ k ih =>
      intro hk
      rw [List.range_succ, List.filter_append, List.length_append, ← ih (by omega)]
      simp only [cntO, List.filter_cons, List.filter_nil]
      rw [h k (by omega)]
      by_cases c : f k = z
      · rw [if_pos (by omega), decide_eq_true c]; rfl
      · rw [if_neg (by omega), decide_eq_false c]; rfl
  exact this N (Nat.le_refl _)
theorem restB (len : Nat) (g : Nat → Nat) (hg : ∀ j, g j < 256) (hl2 : len ≤ 4096) (N M : Nat) (b w b' w' : Nat → Nat) (L : List (Nat → Int)) (hN16 : N ≤ 16) (hM16 : M ≤ 16) (hLl : L.length ≤ 16) (hcnt : ∀ i, i < L.length → ∀ z, z < M → ((cntO (L.getD i fun _ => 0) (z : Int) N : Nat) : Int) * (M : Int) = (N : Int)) : ∀ d b0, Try.f3.body = some b0 → dropO 17 b0 = some d → WP Try.prog Try.f3.ntmps 1 d (DM.Ends T Try.f3.results.toList fun r' _ => r' = .b true ∧ Sc 0 (.b true)) ⟨lst [(0, .sl 0 0 len 1), (3, .p 1 [] 0), (4, .p 2 [] 0), (5, .sl 3 0 L.length 1), (6, .i .i64 0)], [.ro len 1 (byF g), .var (ds_ N b w), .var (ds_ M b' w'), .ro L.length 1 (moF N L)]⟩ := by
  intro d b0 hb0 hd0
  injection hb0 with hb0
  subst hb0
  injection hd0 with hd0
  subst hd0
  refine WP.seq ?_
  refine rS ?_
  refine WP.cond (by rfl) (fun h => ?_) (fun h => WP.skip ?_)
  · cases h
  refine WP.seq ?_
  refine rS ?_
  refine WP.block ?_
  refine WP.loopH (⟨fun i : Nat => i ≤ L.length, fun i => [(3, .p 1 [] 0), (4, .p 2 [] 0), (5, .sl 3 0 L.length 1), (39, .i .i64 (i : Int))], fun i => [.ro len 1 (byF g), .var (ds_ N b w), .var (ds_ M b' w'), .ro L.length 1 (moF N L)], fun i => L.length - i⟩) (0) (Nat.zero_le _) (gC [0, 1, 2, 3] (leC (leC (leC (leC leZ))))) ?_
  intro i hi
  dsimp only at hi
  dsimp only [Hd.at]
  refine WP.seq ?_
  refine rS ?_
  refine WP.cond (by rfl) (fun hc => WP.skip ?_) (fun hc => WP.exit ?_)
  · have hi : i < L.length := by have := of_decide_eq_true hc; omega
    clear hc
    refine WP.seq (WP.block ?_)
    refine rS ?_
    refine WP.block ?_
    refine WP.loopH (⟨fun z : Nat => z ≤ M, fun z => [(3, .p 1 [] 0), (4, .p 2 [] 0), (5, .sl 3 0 L.length 1), (39, .i .i64 (i : Int)), (40, .i .i64 (z : Int))], fun z => [.ro len 1 (byF g), .var (ds_ N b w), .var (ds_ M b' w'), .ro L.length 1 (moF N L)], fun z => M - z⟩) (0) (Nat.zero_le _) (gC [0, 1, 2, 3] (leC (leC (leC (leC leZ))))) ?_
    intro z hz
    dsimp only at hz
    dsimp only [Hd.at]
    refine WP.seq ?_
    refine rS ?_
    refine WP.cond (by rfl) (fun hc => WP.skip ?_) (fun hc => WP.exit ?_)
    · have hz : z < M := by have := of_decide_eq_true hc; omega
      clear hc
      have hct := hcnt i hi z hz
      refine WP.seq (WP.block ?_)
      refine rS ?_
      refine WP.seq ?_
      refine rS ?_
      refine WP.block ?_
      refine WP.loopH (⟨fun y : Nat × Nat => y.1 ≤ N ∧ y.2 = cntO (L.getD i fun _ => 0) (z : Int) y.1, fun y => [(3, .p 1 [] 0), (4, .p 2 [] 0), (5, .sl 3 0 L.length 1), (39, .i .i64 (i : Int)), (40, .i .i64 (z : Int)), (41, .i .i64 (y.2 : Int)), (42, .i .i64 (y.1 : Int))], fun y => [.ro len 1 (byF g), .var (ds_ N b w), .var (ds_ M b' w'), .ro L.length 1 (moF N L)], fun y => N - y.1⟩) ((0, 0)) (⟨Nat.zero_le _, rfl⟩) (gC [0, 1, 2, 3] (leC (leC (leC (leC leZ))))) ?_
      rintro ⟨k, u⟩ ⟨hk, hu⟩
      dsimp only at hk hu
      dsimp only [Hd.at]
      have hle := cntO_le (L.getD i fun _ => 0) (z : Int) k
      refine WP.seq ?_
      refine rS ?_
      refine WP.cond (by rfl) (fun hc => WP.skip ?_) (fun hc => WP.exit ?_)
      · have hk : k < N := by have := of_decide_eq_true hc; omega
        clear hc
        refine WP.seq (WP.block ?_)
        refine rS ?_
        refine WP.cond (by rfl) (fun hx => ?_) (fun hx => ?_)
        · have hx : (L.getD i fun _ => 0) k = (z : Int) := of_decide_eq_true hx
          refine rE ?_
          refine rE ?_
          refine Again.next ((k + 1, u + 1)) (gC [0, 1, 2, 3] (leC (leC (leC (leC leZ))))) (⟨hk, by simp only [cntO]; rw [if_pos hx, hu]⟩) (by dsimp only; omega)
        · have hx : ¬ (L.getD i fun _ => 0) k = (z : Int) := of_decide_eq_false hx
          refine WP.skip ?_
          refine rE ?_
          refine Again.next ((k + 1, u)) (gC [0, 1, 2, 3] (leC (leC (leC (leC leZ))))) (⟨hk, by simp only [cntO]; rw [if_neg hx, hu]; rfl⟩) (by dsimp only; omega)
      obtain rfl : k = N := by have := of_decide_eq_false hc; omega
      clear hc
      rw [← hu] at hct
      refine WP.rw ?_
      refine rU 4 ?_
      rw [hct]
      refine rU 3 ?_
      rw [decide_eq_true (rfl : (k : Int) = (k : Int))]
      refine rF ?_
      refine WP.cond (by rfl) (fun h => ?_) (fun h => WP.skip ?_)
      · cases h
      refine rE ?_
      refine Again.next (z + 1) (gC [0, 1, 2, 3] (leC (leC (leC (leC leZ))))) (hz) (by dsimp only; omega)
    refine rE ?_
    refine Again.next (i + 1) (gC [0, 1, 2, 3] (leC (leC (leC (leC leZ))))) (hi) (by dsimp only; omega)
  refine rS ?_
  exact WP.ret (Ends.val (by rfl) (by exact byObl) (by rfl) (by trivial))
theorem leafA11 (len : Nat) (g : Nat → Nat) (hg : ∀ j, g j < 256) (hl2 : len ≤ 4096) (F K : Nat) (bf wf B W R : Nat → Nat) (i0 : Nat) (hbf : Bt 256 bf) (hwf : Bt 256 wf) (hf1 : desB F bf wf = true) (hf2 : desB K B W = true) (hF1 : 1 ≤ F) (hF16 : F ≤ 16) (hK1 : 1 ≤ K) (hK16 : K ≤ 16) (hB : ∀ i, B i < 256) (hW : ∀ i, W i < 256) (hdv : K ∣ F) (hi0 : i0 < (morL bf wf B W K).length) (hLK : (morL bf wf B W K).length ≤ K) (hLi : ∀ x, x < F → (morL bf wf B W K).getD i0 (fun _ => 0) x = ((R x : Nat) : Int)) (Fa Gb Kp : Nat) (ba wa bb wb Bp Wp : Nat → Nat) (hba : Bt 256 ba) (hwa : Bt 256 wa) (hbb : Bt 256 bb) (hwb : Bt 256 wb) (ha1 : desB Fa ba wa = true) (ha2 : desB Gb bb wb = true) (hp3 : desB Kp Bp Wp = true) (hKp : Kp ≤ 16) (hFa : Fa ≤ 16) (hGb : Gb ≤ 16) (hBp : ∀ i, Bp i < 256) (hWp : ∀ i, Wp i < 256) (hla : 0 < (morL Bp Wp ba wa Fa).length) (hlb : 0 < (morL Bp Wp bb wb Gb).length) (hla2 : (morL Bp Wp ba wa Fa).length ≤ Fa) (hlb2 : (morL Bp Wp bb wb Gb).length ≤ Gb) : ∀ d b0, Try.f3.body = some b0 → dropO 11 b0 = some d → WP Try.prog Try.f3.ntmps 1 d (DM.Ends T Try.f3.results.toList fun r' _ => r' = .b true ∧ Sc 0 (.b true)) ⟨lst [(0, .sl 0 0 len 1), (5, .ns), (6, .i .i64 1), (9, .p 1 [] 0), (11, .p 2 [] 0), (12, .sl 3 0 F 1), (13, .i .i64 0), (17, .p 4 [] 0), (18, .p 5 [] 0), (21, .p 6 [] 0), (22, .i .i64 0)], [.ro len 1 (byF g), .var (ds_ F bf wf), .var (ds_ K B W), .row 2 F 1 (nmF R), .var (ds_ Fa ba wa), .var (ds_ Gb bb wb), .var (ds_ Kp Bp Wp)]⟩ := by
  intro d b0 hb0 hd0
  injection hb0 with hb0
  subst hb0
  injection hd0 with hd0
  subst hd0
  have hdS := drawTwo_S len g hg (by omega)
  refine WP.share 4 ⟨lst [(0, .sl 0 0 len 1), (5, .ns), (6, .i .i64 1), (9, .p 1 [] 0), (11, .p 2 [] 0), (12, .sl 3 0 F 1), (13, .i .i64 0), (17, .p 4 [] 0), (18, .p 5 [] 0), (21, .p 6 [] 0), (22, .i .i64 0)], [.ro len 1 (byF g), .var (ds_ F bf wf), .var (ds_ K B W), .row 2 F 1 (nmF R), .var (ds_ Fa ba wa), .var (ds_ Gb bb wb), .var (ds_ Kp Bp Wp)]⟩ (by rfl) ?_ (fun hs => ?_)
  · have hm1 := implMors_fn F K bf wf B W hbf.lt hwf.lt hB hW
    rw [mors_B (both_true hf1 hf2)] at hm1
    have hrem : ((F : Int)).tmod (K : Int) = 0 := Int.tmod_eq_zero_of_dvd (Int.natCast_dvd_natCast.2 hdv)
    generalize morL bf wf B W K = LL at *
    refine WP.seq ?_
    refine rS ?_
    refine WP.cond (by rfl) (fun h => ?_) (fun h => ?_)
    case refine_2 => cases h
    refine WP.rw ?_
    refine rU 2 ?_
    refine cN [] (t2 (.sl 7 0 LL.length 1) (.i .i64 0)) (hm1) leZ (ren_t2 rfl ⟨rfl, trivial⟩) ?_
    refine rF ?_
    refine rS ?_
    refine WP.seq ?_
    refine rS ?_
    refine WP.block ?_
    refine WP.loopH (⟨fun z : Nat × Bool => z.1 ≤ LL.length ∧ (i0 < z.1 → z.2 = true), fun z => [(0, .sl 0 0 len 1), (5, .ns), (6, .i .i64 1), (9, .p 1 [] 0), (11, .p 2 [] 0), (12, .sl 3 0 F 1), (13, .i .i64 0), (17, .p 4 [] 0), (18, .p 5 [] 0), (21, .p 6 [] 0), (22, .i .i64 0), (31, .sl 7 0 LL.length 1), (32, .i .i64 0), (33, .b z.2), (34, .i .i64 (z.1 : Int))], fun z => [.ro len 1 (byF g), .var (ds_ F bf wf), .var (ds_ K B W), .row 2 F 1 (nmF R), .var (ds_ Fa ba wa), .var (ds_ Gb bb wb), .var (ds_ Kp Bp Wp), .ro LL.length 1 (moF F LL)], fun z => LL.length - z.1⟩) ((0, false)) (⟨Nat.zero_le _, fun h => absurd h (Nat.not_lt_zero _)⟩) (gC [0, 1, 2, 3, 4, 5, 6, 7] (leC (leC (leC (leC (leC (leC (leC (leC leZ))))))))) ?_
    rintro ⟨i, m⟩ ⟨hi, hm⟩
    dsimp only at hi hm
    dsimp only [Hd.at]
    refine WP.seq ?_
    refine rS ?_
    refine WP.cond (by rfl) (fun hc => WP.skip ?_) (fun hc => WP.exit ?_)
    · have hi : i < LL.length := by have := of_decide_eq_true hc; omega
      clear hc
      cases m
      · have hlk := likeInts_fn F F (LL.getD i fun _ => 0) (fun t => ((R t : Nat) : Int)) (by omega) (by omega)
        refine WP.seq (WP.block ?_)
        refine WP.region ?_
        refine rU 7 ?_
        refine cR [8, 3] (hlk) (leC (leC leZ)) ?_
        refine rF ?_
        refine rE ?_
        refine Again.next ((i + 1, likeB F F (LL.getD i fun _ => 0) (fun t => ((R t : Nat) : Int)))) (gC [0, 1, 2, 3, 4, 5, 6, 7] (leC (leC (leC (leC (leC (leC (leC (leC leZ))))))))) (⟨hi, fun h => by
          by_cases e : i0 = i
          · subst e; exact likeB_t ⟨rfl, hLi⟩
          · exact absurd (hm (by dsimp only at h; omega)) (by decide)⟩) (by dsimp only; omega)
      · refine WP.seq (WP.block ?_)
        refine WP.region ?_
        refine rU 2 ?_
        iterate 6 refine WPL.skipU (by rfl) (by rfl) ?_
        refine rF ?_
        refine rE ?_
        refine Again.next ((i + 1, true)) (gC [0, 1, 2, 3, 4, 5, 6, 7] (leC (leC (leC (leC (leC (leC (leC (leC leZ))))))))) (⟨hi, fun _ => rfl⟩) (by dsimp only; omega)
    have hi : ¬ i < LL.length := by have := of_decide_eq_false hc; omega
    have hm2 : m = true := hm (by omega)
    subst hm2
    clear hc hm
    refine WP.rw ?_
    refine rU 12 ?_
    rw [hrem]
    refine rF ?_
    refine WP.cond (by rfl) (fun h => ?_) (fun h => WP.skip ?_)
    · cases h
    refine WP.ghost (gC [0, 1, 2, 3, 4, 5, 6] (leC (leC (leC (leC (leC (leC (leC leZ))))))) (l := [(0, .sl 0 0 len 1), (5, .ns), (6, .i .i64 1), (17, .p 4 [] 0), (18, .p 5 [] 0), (21, .p 6 [] 0), (22, .i .i64 0)]) (m' := [.ro len 1 (byF g), .var (ds_ F bf wf), .var (ds_ K B W), .row 2 F 1 (nmF R), .var (ds_ Fa ba wa), .var (ds_ Gb bb wb), .var (ds_ Kp Bp Wp)])) ?_
    have hma := implMors_fn Kp Fa Bp Wp ba wa hBp hWp hba.lt hwa.lt
    have hmb := implMors_fn Kp Gb Bp Wp bb wb hBp hWp hbb.lt hwb.lt
    rw [mors_B (both_true hp3 ha1)] at hma
    rw [mors_B (both_true hp3 ha2)] at hmb
    generalize morL Bp Wp ba wa Fa = LA at *
    generalize morL Bp Wp bb wb Gb = LB at *
    refine WP.seq ?_
    refine rS ?_
    refine WP.cond (by rfl) (fun h => ?_) (fun h => ?_)
    case refine_2 => cases h
    refine WP.rw ?_
    refine rU 2 ?_
    refine cN [] (t2 (.sl 7 0 LA.length 1) (.i .i64 0)) (hma) leZ (ren_t2 rfl ⟨rfl, trivial⟩) ?_
    refine rF ?_
    refine WP.rw ?_
    refine rU 2 ?_
    refine cN [] (t2 (.sl 8 0 LB.length 1) (.i .i64 0)) (hmb) leZ (ren_t2 rfl ⟨rfl, trivial⟩) ?_
    refine rF ?_
    refine WP.rw ?_
    refine rU 10 ?_
    rw [decide_eq_false (by omega : ¬ ((LA.length : Nat) : Int) = 0)]
    refine rU 5 ?_
    rw [decide_eq_false (by omega : ¬ ((LB.length : Nat) : Int) = 0)]
    refine rF ?_
    refine WP.cond (by rfl) (fun h => ?_) (fun h => WP.skip ?_)
    · cases h
    refine WP.seq ?_
    refine rS ?_
    refine WP.cond (by rfl) (fun h => ?_) (fun h => WP.skip ?_)
    case refine_2 => cases h
    refine rS ?_
    exact WP.ret (Ends.val (by rfl) (by exact byObl) (by rfl) (by trivial))
  refine WP.rw ?_
  refine rU 1 ?_
  refine WPL.callE [0] (hdS) (leC leZ) (by rfl) (by rfl) (by exact byArgs) (by rfl) (by rfl) (by simp [Sc, sc_pl, sc_ds]) ?_
  rintro _ _ ⟨ng, bg, wg, nh, bh, wh, rfl, ⟨_, _, hbg, hwg⟩, ⟨_, _, hbh, hwh⟩, rfl⟩
  refine ⟨⟨fun d hd => by cases hd; exact fun _ _ => trivial, trivial⟩, t2 (ds_ ng bg wg) (ds_ nh bh wh), ren_t2 ⟨rfl, sc_ds _ _ _ _⟩ ⟨rfl, sc_ds _ _ _ _⟩, sc_t2 (sc_ds _ _ _ _) (sc_ds _ _ _ _), ?_⟩
  refine WPL.mem (by rfl) ?_
  refine rF ?_
  have hs1 := implProductSizes_fn ng bg wg nh bh wh hbg.lt hwg.lt hbh.lt hwh.lt
  have hs2 := specProductSizes_fn ng bg wg nh bh wh hbg.lt hwg.lt hbh.lt hwh.lt
  cases hbs : bothB ng bg wg nh bh wh
  · rw [szT_A hbs] at hs1 hs2
    refine WP.rw ?_
    refine rU 2 ?_
    refine cN [] (t2 .ns (.i .i64 1)) (hs1) leZ (ren_t2 ⟨rfl, trivial⟩ ⟨rfl, trivial⟩) ?_
    refine rF ?_
    refine WP.seq ?_
    refine WP.rw ?_
    refine rU 2 ?_
    refine cN [] (t2 .ns (.i .i64 1)) (hs2) leZ (ren_t2 ⟨rfl, trivial⟩ ⟨rfl, trivial⟩) ?_
    refine rF ?_
    refine WP.rw ?_
    refine rU 6 ?_
    refine cA (likeInts_nil) ?_
    refine rF ?_
    refine WP.cond (by rfl) (fun h => ?_) (fun h => WP.skip ?_)
    · cases h
    refine WP.seq ?_
    refine WP.seq ?_
    refine WP.da (by kernel_rfl) 12 (by kernel_rfl) ?_
    refine WA.takesD T false tok [0, 1, 2] (f' := 9) (by kernel_rfl) (by rfl) (by rfl) (by exact byObl) (by rfl) (by rfl) ?_
    refine WA.skipU 3 (by rfl) (by kernel_rfl) (by kernel_rfl) (by rfl) (by rfl) ?_
    refine WA.skipU 4 (by rfl) (by kernel_rfl) (by kernel_rfl) (by rfl) (by rfl) ?_
    refine WA.skipU 5 (by rfl) (by kernel_rfl) (by kernel_rfl) (by rfl) (by rfl) ?_
    refine WA.skipU 6 (by rfl) (by kernel_rfl) (by kernel_rfl) (by rfl) (by rfl) ?_
    refine WA.skipU 7 (by rfl) (by kernel_rfl) (by kernel_rfl) (by rfl) (by rfl) ?_
    refine WA.skipU 8 (by rfl) (by kernel_rfl) (by kernel_rfl) (by rfl) (by rfl) ?_
    refine WA.skipU 9 (by rfl) (by kernel_rfl) (by kernel_rfl) (by rfl) (by rfl) ?_
    refine WA.skipU 10 (by rfl) (by kernel_rfl) (by kernel_rfl) (by rfl) (by rfl) ?_
    refine WA.takesD T false tok [11] (f' := 0) (by kernel_rfl) (by rfl) (by rfl) (by exact byObl) (by rfl) (by rfl) ?_
    refine WA.end rfl (by kernel_rfl) (noPan ?_)
    refine WP.cond (by rfl) (fun h => ?_) (fun h => WP.skip ?_)
    · cases h
    refine WP.ghost (gC [0, 1, 2, 3, 4, 5, 6] (leC (leC (leC (leC (leC (leC (leC leZ))))))) (l := [(0, .sl 0 0 len 1), (5, .ns), (6, .i .i64 1), (9, .p 1 [] 0), (11, .p 2 [] 0), (12, .sl 3 0 F 1), (13, .i .i64 0), (17, .p 4 [] 0), (18, .p 5 [] 0), (21, .p 6 [] 0), (22, .i .i64 0)]) (m' := [.ro len 1 (byF g), .var (ds_ F bf wf), .var (ds_ K B W), .row 2 F 1 (nmF R), .var (ds_ Fa ba wa), .var (ds_ Gb bb wb), .var (ds_ Kp Bp Wp)])) ?_
    exact hs
  · obtain ⟨hg1, hg2⟩ : desB ng bg wg = true ∧ desB nh bh wh = true := by unfold bothB at hbs; simpa using hbs
    obtain ⟨G, rfl, hDg⟩ := des_of_B hg1
    obtain ⟨H, rfl, hDh⟩ := des_of_B hg2
    rw [szT_B hbs] at hs1 hs2
    have hGl := hDg.le
    have hHl := hDh.le
    have hsm : (szR G H bg wg bh wh).sum = G * H := sz_sum hDg hDh
    have hsl : (szR G H bg wg bh wh).length ≤ 256 := by
      unfold szR
      rw [srtN_len]
      exact sz_len _ hHl hGl
    have hGH : G * H ≤ 16 * 16 := Nat.mul_le_mul hGl hHl
    have hm1 : (G : Int) * (H : Int) ≤ 256 := by exact_mod_cast hGH
    have hm0 : 0 ≤ (G : Int) * (H : Int) := Int.mul_nonneg (Int.natCast_nonneg _) (Int.natCast_nonneg _)
    have hli := likeInts_fn (szR G H bg wg bh wh).length (szR G H bg wg bh wh).length (fun t => (((szR G H bg wg bh wh).getD t 0 : Nat) : Int)) (fun t => (((szR G H bg wg bh wh).getD t 0 : Nat) : Int)) (by omega) (by omega)
    rw [likeB_same] at hli
    have hsu := sum_fn (szR G H bg wg bh wh) (by omega) (by omega)
    rw [hsm, Int.natCast_mul] at hsu
    generalize szR G H bg wg bh wh = l at *
    refine WP.rw ?_
    refine rU 2 ?_
    refine cN [] (t2 (.sl 9 0 l.length 1) (.i .i64 0)) (hs1) leZ (ren_t2 rfl ⟨rfl, trivial⟩) ?_
    refine rF ?_
    refine WP.seq ?_
    refine WP.rw ?_
    refine rU 2 ?_
    refine cN [] (t2 (.sl 10 0 l.length 1) (.i .i64 0)) (hs2) leZ (ren_t2 rfl ⟨rfl, trivial⟩) ?_
    refine rF ?_
    refine WP.rw ?_
    refine rU 6 ?_
    refine cR [9, 10] (hli) (leC (leC leZ)) ?_
    refine rF ?_
    refine WP.cond (by rfl) (fun h => ?_) (fun h => WP.skip ?_)
    · cases h
    refine WP.seq ?_
    refine WP.seq ?_
    refine WP.drawsQ (by kernel_rfl) (by kernel_rfl) ?_
    refine WQ.run T false 4 tok (by rfl) (by rfl) (by exact byObl) ?_
    refine WQ.callR [9] (hsu) (by rfl) (leC leZ) (by exact byArgs) (by rfl) (by rfl) (by simp [Sc, sc_pl, sc_ds]) (⟨trivial, trivial, trivial⟩) ?_
    refine WQ.run T false 6 tok (by rfl) (by rfl) (by exact byObl) ?_
    rw [decide_eq_true (rfl : (G : Int) * (H : Int) = (G : Int) * (H : Int))]
    refine WQ.fin T false tok (by rfl) (by rfl) (by exact byObl) ?_
    refine WP.cond (by rfl) (fun h => ?_) (fun h => WP.skip ?_)
    · cases h
    refine WP.ghost (gC [0, 1, 2, 3, 4, 5, 6] (leC (leC (leC (leC (leC (leC (leC leZ))))))) (l := [(0, .sl 0 0 len 1), (5, .ns), (6, .i .i64 1), (9, .p 1 [] 0), (11, .p 2 [] 0), (12, .sl 3 0 F 1), (13, .i .i64 0), (17, .p 4 [] 0), (18, .p 5 [] 0), (21, .p 6 [] 0), (22, .i .i64 0)]) (m' := [.ro len 1 (byF g), .var (ds_ F bf wf), .var (ds_ K B W), .row 2 F 1 (nmF R), .var (ds_ Fa ba wa), .var (ds_ Gb bb wb), .var (ds_ Kp Bp Wp)])) ?_
    exact hs
theorem leafA10 (len : Nat) (g : Nat → Nat) (hg : ∀ j, g j < 256) (hl2 : len ≤ 4096) (F K : Nat) (bf wf B W R : Nat → Nat) (i0 : Nat) (hbf : Bt 256 bf) (hwf : Bt 256 wf) (hf1 : desB F bf wf = true) (hf2 : desB K B W = true) (hF1 : 1 ≤ F) (hF16 : F ≤ 16) (hK1 : 1 ≤ K) (hK16 : K ≤ 16) (hB : ∀ i, B i < 256) (hW : ∀ i, W i < 256) (hdv : K ∣ F) (hi0 : i0 < (morL bf wf B W K).length) (hLK : (morL bf wf B W K).length ≤ K) (hLi : ∀ x, x < F → (morL bf wf B W K).getD i0 (fun _ => 0) x = ((R x : Nat) : Int)) (c2 : Int) (hc2 : c2 ≠ 0) : ∀ d b0, Try.f3.body = some b0 → dropO 11 b0 = some d → WP Try.prog Try.f3.ntmps 1 d (DM.Ends T Try.f3.results.toList fun r' _ => r' = .b true ∧ Sc 0 (.b true)) ⟨lst [(0, .sl 0 0 len 1), (5, .ns), (6, .i .i64 1), (9, .p 1 [] 0), (11, .p 2 [] 0), (12, .sl 3 0 F 1), (13, .i .i64 0), (22, .i .i64 c2)], [.ro len 1 (byF g), .var (ds_ F bf wf), .var (ds_ K B W), .row 2 F 1 (nmF R)]⟩ := by
  intro d b0 hb0 hd0
  injection hb0 with hb0
  subst hb0
  injection hd0 with hd0
  subst hd0
  have hdS := drawTwo_S len g hg (by omega)
  refine WP.share 4 ⟨lst [(0, .sl 0 0 len 1), (5, .ns), (6, .i .i64 1), (9, .p 1 [] 0), (11, .p 2 [] 0), (12, .sl 3 0 F 1), (13, .i .i64 0), (22, .i .i64 c2)], [.ro len 1 (byF g), .var (ds_ F bf wf), .var (ds_ K B W), .row 2 F 1 (nmF R)]⟩ (by rfl) ?_ (fun hs => ?_)
  · have hm1 := implMors_fn F K bf wf B W hbf.lt hwf.lt hB hW
    rw [mors_B (both_true hf1 hf2)] at hm1
    have hrem : ((F : Int)).tmod (K : Int) = 0 := Int.tmod_eq_zero_of_dvd (Int.natCast_dvd_natCast.2 hdv)
    generalize morL bf wf B W K = LL at *
    refine WP.seq ?_
    refine rS ?_
    refine WP.cond (by rfl) (fun h => ?_) (fun h => ?_)
    case refine_2 => cases h
    refine WP.rw ?_
    refine rU 2 ?_
    refine cN [] (t2 (.sl 4 0 LL.length 1) (.i .i64 0)) (hm1) leZ (ren_t2 rfl ⟨rfl, trivial⟩) ?_
    refine rF ?_
    refine rS ?_
    refine WP.seq ?_
    refine rS ?_
    refine WP.block ?_
    refine WP.loopH (⟨fun z : Nat × Bool => z.1 ≤ LL.length ∧ (i0 < z.1 → z.2 = true), fun z => [(0, .sl 0 0 len 1), (5, .ns), (6, .i .i64 1), (9, .p 1 [] 0), (11, .p 2 [] 0), (12, .sl 3 0 F 1), (13, .i .i64 0), (22, .i .i64 c2), (31, .sl 4 0 LL.length 1), (32, .i .i64 0), (33, .b z.2), (34, .i .i64 (z.1 : Int))], fun z => [.ro len 1 (byF g), .var (ds_ F bf wf), .var (ds_ K B W), .row 2 F 1 (nmF R), .ro LL.length 1 (moF F LL)], fun z => LL.length - z.1⟩) ((0, false)) (⟨Nat.zero_le _, fun h => absurd h (Nat.not_lt_zero _)⟩) (gC [0, 1, 2, 3, 4] (leC (leC (leC (leC (leC leZ)))))) ?_
    rintro ⟨i, m⟩ ⟨hi, hm⟩
    dsimp only at hi hm
    dsimp only [Hd.at]
    refine WP.seq ?_
    refine rS ?_
    refine WP.cond (by rfl) (fun hc => WP.skip ?_) (fun hc => WP.exit ?_)
    · have hi : i < LL.length := by have := of_decide_eq_true hc; omega
      clear hc
      cases m
      · have hlk := likeInts_fn F F (LL.getD i fun _ => 0) (fun t => ((R t : Nat) : Int)) (by omega) (by omega)
        refine WP.seq (WP.block ?_)
        refine WP.region ?_
        refine rU 7 ?_
        refine cR [5, 3] (hlk) (leC (leC leZ)) ?_
        refine rF ?_
        refine rE ?_
        refine Again.next ((i + 1, likeB F F (LL.getD i fun _ => 0) (fun t => ((R t : Nat) : Int)))) (gC [0, 1, 2, 3, 4] (leC (leC (leC (leC (leC leZ)))))) (⟨hi, fun h => by
          by_cases e : i0 = i
          · subst e; exact likeB_t ⟨rfl, hLi⟩
          · exact absurd (hm (by dsimp only at h; omega)) (by decide)⟩) (by dsimp only; omega)
      · refine WP.seq (WP.block ?_)
        refine WP.region ?_
        refine rU 2 ?_
        iterate 6 refine WPL.skipU (by rfl) (by rfl) ?_
        refine rF ?_
        refine rE ?_
        refine Again.next ((i + 1, true)) (gC [0, 1, 2, 3, 4] (leC (leC (leC (leC (leC leZ)))))) (⟨hi, fun _ => rfl⟩) (by dsimp only; omega)
    have hi : ¬ i < LL.length := by have := of_decide_eq_false hc; omega
    have hm2 : m = true := hm (by omega)
    subst hm2
    clear hc hm
    refine WP.rw ?_
    refine rU 12 ?_
    rw [hrem]
    refine rF ?_
    refine WP.cond (by rfl) (fun h => ?_) (fun h => WP.skip ?_)
    · cases h
    refine WP.ghost (gC [0, 1, 2, 3] (leC (leC (leC (leC leZ)))) (l := [(0, .sl 0 0 len 1), (5, .ns), (6, .i .i64 1), (22, .i .i64 c2)]) (m' := [.ro len 1 (byF g), .var (ds_ F bf wf), .var (ds_ K B W), .row 2 F 1 (nmF R)])) ?_
    refine WP.seq ?_
    refine rS ?_
    refine WP.cond (by rfl) (fun h => ?_) (fun h => WP.skip ?_)
    · exact absurd (of_decide_eq_true h) hc2
    refine WP.seq ?_
    refine rS ?_
    refine WP.cond (by rfl) (fun h => ?_) (fun h => WP.skip ?_)
    case refine_2 => cases h
    refine rS ?_
    exact WP.ret (Ends.val (by rfl) (by exact byObl) (by rfl) (by trivial))
  refine WP.rw ?_
  refine rU 1 ?_
  refine WPL.callE [0] (hdS) (leC leZ) (by rfl) (by rfl) (by exact byArgs) (by rfl) (by rfl) (by simp [Sc, sc_pl, sc_ds]) ?_
  rintro _ _ ⟨ng, bg, wg, nh, bh, wh, rfl, ⟨_, _, hbg, hwg⟩, ⟨_, _, hbh, hwh⟩, rfl⟩
  refine ⟨⟨fun d hd => by cases hd; exact fun _ _ => trivial, trivial⟩, t2 (ds_ ng bg wg) (ds_ nh bh wh), ren_t2 ⟨rfl, sc_ds _ _ _ _⟩ ⟨rfl, sc_ds _ _ _ _⟩, sc_t2 (sc_ds _ _ _ _) (sc_ds _ _ _ _), ?_⟩
  refine WPL.mem (by rfl) ?_
  refine rF ?_
  have hs1 := implProductSizes_fn ng bg wg nh bh wh hbg.lt hwg.lt hbh.lt hwh.lt
  have hs2 := specProductSizes_fn ng bg wg nh bh wh hbg.lt hwg.lt hbh.lt hwh.lt
  cases hbs : bothB ng bg wg nh bh wh
  · rw [szT_A hbs] at hs1 hs2
    refine WP.rw ?_
    refine rU 2 ?_
    refine cN [] (t2 .ns (.i .i64 1)) (hs1) leZ (ren_t2 ⟨rfl, trivial⟩ ⟨rfl, trivial⟩) ?_
    refine rF ?_
    refine WP.seq ?_
    refine WP.rw ?_
    refine rU 2 ?_
    refine cN [] (t2 .ns (.i .i64 1)) (hs2) leZ (ren_t2 ⟨rfl, trivial⟩ ⟨rfl, trivial⟩) ?_
    refine rF ?_
    refine WP.rw ?_
    refine rU 6 ?_
    refine cA (likeInts_nil) ?_
    refine rF ?_
    refine WP.cond (by rfl) (fun h => ?_) (fun h => WP.skip ?_)
    · cases h
    refine WP.seq ?_
    refine WP.seq ?_
    refine WP.da (by kernel_rfl) 12 (by kernel_rfl) ?_
    refine WA.takesD T false tok [0, 1, 2] (f' := 9) (by kernel_rfl) (by rfl) (by rfl) (by exact byObl) (by rfl) (by rfl) ?_
    refine WA.skipU 3 (by rfl) (by kernel_rfl) (by kernel_rfl) (by rfl) (by rfl) ?_
    refine WA.skipU 4 (by rfl) (by kernel_rfl) (by kernel_rfl) (by rfl) (by rfl) ?_
    refine WA.skipU 5 (by rfl) (by kernel_rfl) (by kernel_rfl) (by rfl) (by rfl) ?_
    refine WA.skipU 6 (by rfl) (by kernel_rfl) (by kernel_rfl) (by rfl) (by rfl) ?_
    refine WA.skipU 7 (by rfl) (by kernel_rfl) (by kernel_rfl) (by rfl) (by rfl) ?_
    refine WA.skipU 8 (by rfl) (by kernel_rfl) (by kernel_rfl) (by rfl) (by rfl) ?_
    refine WA.skipU 9 (by rfl) (by kernel_rfl) (by kernel_rfl) (by rfl) (by rfl) ?_
    refine WA.skipU 10 (by rfl) (by kernel_rfl) (by kernel_rfl) (by rfl) (by rfl) ?_
    refine WA.takesD T false tok [11] (f' := 0) (by kernel_rfl) (by rfl) (by rfl) (by exact byObl) (by rfl) (by rfl) ?_
    refine WA.end rfl (by kernel_rfl) (noPan ?_)
    refine WP.cond (by rfl) (fun h => ?_) (fun h => WP.skip ?_)
    · cases h
    refine WP.ghost (gC [0, 1, 2, 3] (leC (leC (leC (leC leZ)))) (l := [(0, .sl 0 0 len 1), (5, .ns), (6, .i .i64 1), (9, .p 1 [] 0), (11, .p 2 [] 0), (12, .sl 3 0 F 1), (13, .i .i64 0), (22, .i .i64 c2)]) (m' := [.ro len 1 (byF g), .var (ds_ F bf wf), .var (ds_ K B W), .row 2 F 1 (nmF R)])) ?_
    exact hs
  · obtain ⟨hg1, hg2⟩ : desB ng bg wg = true ∧ desB nh bh wh = true := by unfold bothB at hbs; simpa using hbs
    obtain ⟨G, rfl, hDg⟩ := des_of_B hg1
    obtain ⟨H, rfl, hDh⟩ := des_of_B hg2
    rw [szT_B hbs] at hs1 hs2
    have hGl := hDg.le
    have hHl := hDh.le
    have hsm : (szR G H bg wg bh wh).sum = G * H := sz_sum hDg hDh
    have hsl : (szR G H bg wg bh wh).length ≤ 256 := by
      unfold szR
      rw [srtN_len]
      exact sz_len _ hHl hGl
    have hGH : G * H ≤ 16 * 16 := Nat.mul_le_mul hGl hHl
    have hm1 : (G : Int) * (H : Int) ≤ 256 := by exact_mod_cast hGH
    have hm0 : 0 ≤ (G : Int) * (H : Int) := Int.mul_nonneg (Int.natCast_nonneg _) (Int.natCast_nonneg _)
    have hli := likeInts_fn (szR G H bg wg bh wh).length (szR G H bg wg bh wh).length (fun t => (((szR G H bg wg bh wh).getD t 0 : Nat) : Int)) (fun t => (((szR G H bg wg bh wh).getD t 0 : Nat) : Int)) (by omega) (by omega)
    rw [likeB_same] at hli
    have hsu := sum_fn (szR G H bg wg bh wh) (by omega) (by omega)
    rw [hsm, Int.natCast_mul] at hsu
    generalize szR G H bg wg bh wh = l at *
    refine WP.rw ?_
    refine rU 2 ?_
    refine cN [] (t2 (.sl 6 0 l.length 1) (.i .i64 0)) (hs1) leZ (ren_t2 rfl ⟨rfl, trivial⟩) ?_
    refine rF ?_
    refine WP.seq ?_
    refine WP.rw ?_
    refine rU 2 ?_
    refine cN [] (t2 (.sl 7 0 l.length 1) (.i .i64 0)) (hs2) leZ (ren_t2 rfl ⟨rfl, trivial⟩) ?_
    refine rF ?_
    refine WP.rw ?_
    refine rU 6 ?_
    refine cR [6, 7] (hli) (leC (leC leZ)) ?_
    refine rF ?_
    refine WP.cond (by rfl) (fun h => ?_) (fun h => WP.skip ?_)
    · cases h
    refine WP.seq ?_
    refine WP.seq ?_
    refine WP.drawsQ (by kernel_rfl) (by kernel_rfl) ?_
    refine WQ.run T false 4 tok (by rfl) (by rfl) (by exact byObl) ?_
    refine WQ.callR [6] (hsu) (by rfl) (leC leZ) (by exact byArgs) (by rfl) (by rfl) (by simp [Sc, sc_pl, sc_ds]) (⟨trivial, trivial, trivial⟩) ?_
    refine WQ.run T false 6 tok (by rfl) (by rfl) (by exact byObl) ?_
    rw [decide_eq_true (rfl : (G : Int) * (H : Int) = (G : Int) * (H : Int))]
    refine WQ.fin T false tok (by rfl) (by rfl) (by exact byObl) ?_
    refine WP.cond (by rfl) (fun h => ?_) (fun h => WP.skip ?_)
    · cases h
    refine WP.ghost (gC [0, 1, 2, 3] (leC (leC (leC (leC leZ)))) (l := [(0, .sl 0 0 len 1), (5, .ns), (6, .i .i64 1), (9, .p 1 [] 0), (11, .p 2 [] 0), (12, .sl 3 0 F 1), (13, .i .i64 0), (22, .i .i64 c2)]) (m' := [.ro len 1 (byF g), .var (ds_ F bf wf), .var (ds_ K B W), .row 2 F 1 (nmF R)])) ?_
    exact hs
theorem leafA01 (len : Nat) (g : Nat → Nat) (hg : ∀ j, g j < 256) (hl2 : len ≤ 4096) (c : Int) (hc0 : c ≠ 0) (Fa Gb Kp : Nat) (ba wa bb wb Bp Wp : Nat → Nat) (hba : Bt 256 ba) (hwa : Bt 256 wa) (hbb : Bt 256 bb) (hwb : Bt 256 wb) (ha1 : desB Fa ba wa = true) (ha2 : desB Gb bb wb = true) (hp3 : desB Kp Bp Wp = true) (hKp : Kp ≤ 16) (hFa : Fa ≤ 16) (hGb : Gb ≤ 16) (hBp : ∀ i, Bp i < 256) (hWp : ∀ i, Wp i < 256) (hla : 0 < (morL Bp Wp ba wa Fa).length) (hlb : 0 < (morL Bp Wp bb wb Gb).length) (hla2 : (morL Bp Wp ba wa Fa).length ≤ Fa) (hlb2 : (morL Bp Wp bb wb Gb).length ≤ Gb) : ∀ d b0, Try.f3.body = some b0 → dropO 11 b0 = some d → WP Try.prog Try.f3.ntmps 1 d (DM.Ends T Try.f3.results.toList fun r' _ => r' = .b true ∧ Sc 0 (.b true)) ⟨lst [(0, .sl 0 0 len 1), (5, .ns), (6, .i .i64 1), (13, .i .i64 c), (17, .p 1 [] 0), (18, .p 2 [] 0), (21, .p 3 [] 0), (22, .i .i64 0)], [.ro len 1 (byF g), .var (ds_ Fa ba wa), .var (ds_ Gb bb wb), .var (ds_ Kp Bp Wp)]⟩ := by
  intro d b0 hb0 hd0
  injection hb0 with hb0
  subst hb0
  injection hd0 with hd0
  subst hd0
  have hdS := drawTwo_S len g hg (by omega)
  refine WP.share 4 ⟨lst [(0, .sl 0 0 len 1), (5, .ns), (6, .i .i64 1), (13, .i .i64 c), (17, .p 1 [] 0), (18, .p 2 [] 0), (21, .p 3 [] 0), (22, .i .i64 0)], [.ro len 1 (byF g), .var (ds_ Fa ba wa), .var (ds_ Gb bb wb), .var (ds_ Kp Bp Wp)]⟩ (by rfl) ?_ (fun hs => ?_)
  · refine WP.seq ?_
    refine rS ?_
    refine WP.cond (by rfl) (fun h => ?_) (fun h => WP.skip ?_)
    · exact absurd (of_decide_eq_true h) hc0
    have hma := implMors_fn Kp Fa Bp Wp ba wa hBp hWp hba.lt hwa.lt
    have hmb := implMors_fn Kp Gb Bp Wp bb wb hBp hWp hbb.lt hwb.lt
    rw [mors_B (both_true hp3 ha1)] at hma
    rw [mors_B (both_true hp3 ha2)] at hmb
    generalize morL Bp Wp ba wa Fa = LA at *
    generalize morL Bp Wp bb wb Gb = LB at *
    refine WP.seq ?_
    refine rS ?_
    refine WP.cond (by rfl) (fun h => ?_) (fun h => ?_)
    case refine_2 => cases h
    refine WP.rw ?_
    refine rU 2 ?_
    refine cN [] (t2 (.sl 4 0 LA.length 1) (.i .i64 0)) (hma) leZ (ren_t2 rfl ⟨rfl, trivial⟩) ?_
    refine rF ?_
    refine WP.rw ?_
    refine rU 2 ?_
    refine cN [] (t2 (.sl 5 0 LB.length 1) (.i .i64 0)) (hmb) leZ (ren_t2 rfl ⟨rfl, trivial⟩) ?_
    refine rF ?_
    refine WP.rw ?_
    refine rU 10 ?_
    rw [decide_eq_false (by omega : ¬ ((LA.length : Nat) : Int) = 0)]
    refine rU 5 ?_
    rw [decide_eq_false (by omega : ¬ ((LB.length : Nat) : Int) = 0)]
    refine rF ?_
    refine WP.cond (by rfl) (fun h => ?_) (fun h => WP.skip ?_)
    · cases h
    refine WP.seq ?_
    refine rS ?_
    refine WP.cond (by rfl) (fun h => ?_) (fun h => WP.skip ?_)
    case refine_2 => cases h
    refine rS ?_
    exact WP.ret (Ends.val (by rfl) (by exact byObl) (by rfl) (by trivial))
  refine WP.rw ?_
  refine rU 1 ?_
  refine WPL.callE [0] (hdS) (leC leZ) (by rfl) (by rfl) (by exact byArgs) (by rfl) (by rfl) (by simp [Sc, sc_pl, sc_ds]) ?_
  rintro _ _ ⟨ng, bg, wg, nh, bh, wh, rfl, ⟨_, _, hbg, hwg⟩, ⟨_, _, hbh, hwh⟩, rfl⟩
  refine ⟨⟨fun d hd => by cases hd; exact fun _ _ => trivial, trivial⟩, t2 (ds_ ng bg wg) (ds_ nh bh wh), ren_t2 ⟨rfl, sc_ds _ _ _ _⟩ ⟨rfl, sc_ds _ _ _ _⟩, sc_t2 (sc_ds _ _ _ _) (sc_ds _ _ _ _), ?_⟩
  refine WPL.mem (by rfl) ?_
  refine rF ?_
  have hs1 := implProductSizes_fn ng bg wg nh bh wh hbg.lt hwg.lt hbh.lt hwh.lt
  have hs2 := specProductSizes_fn ng bg wg nh bh wh hbg.lt hwg.lt hbh.lt hwh.lt
  cases hbs : bothB ng bg wg nh bh wh
  · rw [szT_A hbs] at hs1 hs2
    refine WP.rw ?_
    refine rU 2 ?_
    refine cN [] (t2 .ns (.i .i64 1)) (hs1) leZ (ren_t2 ⟨rfl, trivial⟩ ⟨rfl, trivial⟩) ?_
    refine rF ?_
    refine WP.seq ?_
    refine WP.rw ?_
    refine rU 2 ?_
    refine cN [] (t2 .ns (.i .i64 1)) (hs2) leZ (ren_t2 ⟨rfl, trivial⟩ ⟨rfl, trivial⟩) ?_
    refine rF ?_
    refine WP.rw ?_
    refine rU 6 ?_
    refine cA (likeInts_nil) ?_
    refine rF ?_
    refine WP.cond (by rfl) (fun h => ?_) (fun h => WP.skip ?_)
    · cases h
    refine WP.seq ?_
    refine WP.seq ?_
    refine WP.da (by kernel_rfl) 12 (by kernel_rfl) ?_
    refine WA.takesD T false tok [0, 1, 2] (f' := 9) (by kernel_rfl) (by rfl) (by rfl) (by exact byObl) (by rfl) (by rfl) ?_
    refine WA.skipU 3 (by rfl) (by kernel_rfl) (by kernel_rfl) (by rfl) (by rfl) ?_
    refine WA.skipU 4 (by rfl) (by kernel_rfl) (by kernel_rfl) (by rfl) (by rfl) ?_
    refine WA.skipU 5 (by rfl) (by kernel_rfl) (by kernel_rfl) (by rfl) (by rfl) ?_
    refine WA.skipU 6 (by rfl) (by kernel_rfl) (by kernel_rfl) (by rfl) (by rfl) ?_
    refine WA.skipU 7 (by rfl) (by kernel_rfl) (by kernel_rfl) (by rfl) (by rfl) ?_
    refine WA.skipU 8 (by rfl) (by kernel_rfl) (by kernel_rfl) (by rfl) (by rfl) ?_
    refine WA.skipU 9 (by rfl) (by kernel_rfl) (by kernel_rfl) (by rfl) (by rfl) ?_
    refine WA.skipU 10 (by rfl) (by kernel_rfl) (by kernel_rfl) (by rfl) (by rfl) ?_
    refine WA.takesD T false tok [11] (f' := 0) (by kernel_rfl) (by rfl) (by rfl) (by exact byObl) (by rfl) (by rfl) ?_
    refine WA.end rfl (by kernel_rfl) (noPan ?_)
    refine WP.cond (by rfl) (fun h => ?_) (fun h => WP.skip ?_)
    · cases h
    refine WP.ghost (gC [0, 1, 2, 3] (leC (leC (leC (leC leZ)))) (l := [(0, .sl 0 0 len 1), (5, .ns), (6, .i .i64 1), (13, .i .i64 c), (17, .p 1 [] 0), (18, .p 2 [] 0), (21, .p 3 [] 0), (22, .i .i64 0)]) (m' := [.ro len 1 (byF g), .var (ds_ Fa ba wa), .var (ds_ Gb bb wb), .var (ds_ Kp Bp Wp)])) ?_
    exact hs
  · obtain ⟨hg1, hg2⟩ : desB ng bg wg = true ∧ desB nh bh wh = true := by unfold bothB at hbs; simpa using hbs
    obtain ⟨G, rfl, hDg⟩ := des_of_B hg1
    obtain ⟨H, rfl, hDh⟩ := des_of_B hg2
    rw [szT_B hbs] at hs1 hs2
    have hGl := hDg.le
    have hHl := hDh.le
    have hsm : (szR G H bg wg bh wh).sum = G * H := sz_sum hDg hDh
    have hsl : (szR G H bg wg bh wh).length ≤ 256 := by
      unfold szR
      rw [srtN_len]
      exact sz_len _ hHl hGl
    have hGH : G * H ≤ 16 * 16 := Nat.mul_le_mul hGl hHl
    have hm1 : (G : Int) * (H : Int) ≤ 256 := by exact_mod_cast hGH
    have hm0 : 0 ≤ (G : Int) * (H : Int) := Int.mul_nonneg (Int.natCast_nonneg _) (Int.natCast_nonneg _)
    have hli := likeInts_fn (szR G H bg wg bh wh).length (szR G H bg wg bh wh).length (fun t => (((szR G H bg wg bh wh).getD t 0 : Nat) : Int)) (fun t => (((szR G H bg wg bh wh).getD t 0 : Nat) : Int)) (by omega) (by omega)
    rw [likeB_same] at hli
    have hsu := sum_fn (szR G H bg wg bh wh) (by omega) (by omega)
    rw [hsm, Int.natCast_mul] at hsu
    generalize szR G H bg wg bh wh = l at *
    refine WP.rw ?_
    refine rU 2 ?_
    refine cN [] (t2 (.sl 6 0 l.length 1) (.i .i64 0)) (hs1) leZ (ren_t2 rfl ⟨rfl, trivial⟩) ?_
    refine rF ?_
    refine WP.seq ?_
    refine WP.rw ?_
    refine rU 2 ?_
    refine cN [] (t2 (.sl 7 0 l.length 1) (.i .i64 0)) (hs2) leZ (ren_t2 rfl ⟨rfl, trivial⟩) ?_
    refine rF ?_
    refine WP.rw ?_
    refine rU 6 ?_
    refine cR [6, 7] (hli) (leC (leC leZ)) ?_
    refine rF ?_
    refine WP.cond (by rfl) (fun h => ?_) (fun h => WP.skip ?_)
    · cases h
    refine WP.seq ?_
    refine WP.seq ?_
    refine WP.drawsQ (by kernel_rfl) (by kernel_rfl) ?_
    refine WQ.run T false 4 tok (by rfl) (by rfl) (by exact byObl) ?_
    refine WQ.callR [6] (hsu) (by rfl) (leC leZ) (by exact byArgs) (by rfl) (by rfl) (by simp [Sc, sc_pl, sc_ds]) (⟨trivial, trivial, trivial⟩) ?_
    refine WQ.run T false 6 tok (by rfl) (by rfl) (by exact byObl) ?_
    rw [decide_eq_true (rfl : (G : Int) * (H : Int) = (G : Int) * (H : Int))]
    refine WQ.fin T false tok (by rfl) (by rfl) (by exact byObl) ?_
    refine WP.cond (by rfl) (fun h => ?_) (fun h => WP.skip ?_)
    · cases h
    refine WP.ghost (gC [0, 1, 2, 3] (leC (leC (leC (leC leZ)))) (l := [(0, .sl 0 0 len 1), (5, .ns), (6, .i .i64 1), (13, .i .i64 c), (17, .p 1 [] 0), (18, .p 2 [] 0), (21, .p 3 [] 0), (22, .i .i64 0)]) (m' := [.ro len 1 (byF g), .var (ds_ Fa ba wa), .var (ds_ Gb bb wb), .var (ds_ Kp Bp Wp)])) ?_
    exact hs
theorem leafA00 (len : Nat) (g : Nat → Nat) (hg : ∀ j, g j < 256) (hl2 : len ≤ 4096) (c : Int) (hc0 : c ≠ 0) (c2 : Int) (hc2 : c2 ≠ 0) : ∀ d b0, Try.f3.body = some b0 → dropO 11 b0 = some d → WP Try.prog Try.f3.ntmps 1 d (DM.Ends T Try.f3.results.toList fun r' _ => r' = .b true ∧ Sc 0 (.b true)) ⟨lst [(0, .sl 0 0 len 1), (5, .ns), (6, .i .i64 1), (13, .i .i64 c), (22, .i .i64 c2)], [.ro len 1 (byF g)]⟩ := by
  intro d b0 hb0 hd0
  injection hb0 with hb0
  subst hb0
  injection hd0 with hd0
  subst hd0
  have hdS := drawTwo_S len g hg (by omega)
  refine WP.share 4 ⟨lst [(0, .sl 0 0 len 1), (5, .ns), (6, .i .i64 1), (13, .i .i64 c), (22, .i .i64 c2)], [.ro len 1 (byF g)]⟩ (by rfl) ?_ (fun hs => ?_)
  · refine WP.seq ?_
    refine rS ?_
    refine WP.cond (by rfl) (fun h => ?_) (fun h => WP.skip ?_)
    · exact absurd (of_decide_eq_true h) hc0
    refine WP.seq ?_
    refine rS ?_
    refine WP.cond (by rfl) (fun h => ?_) (fun h => WP.skip ?_)
    · exact absurd (of_decide_eq_true h) hc2
    refine WP.seq ?_
    refine rS ?_
    refine WP.cond (by rfl) (fun h => ?_) (fun h => WP.skip ?_)
    case refine_2 => cases h
    refine rS ?_
    exact WP.ret (Ends.val (by rfl) (by exact byObl) (by rfl) (by trivial))
  refine WP.rw ?_
  refine rU 1 ?_
  refine WPL.callE [0] (hdS) (leC leZ) (by rfl) (by rfl) (by exact byArgs) (by rfl) (by rfl) (by simp [Sc, sc_pl, sc_ds]) ?_
  rintro _ _ ⟨ng, bg, wg, nh, bh, wh, rfl, ⟨_, _, hbg, hwg⟩, ⟨_, _, hbh, hwh⟩, rfl⟩
  refine ⟨⟨fun d hd => by cases hd; exact fun _ _ => trivial, trivial⟩, t2 (ds_ ng bg wg) (ds_ nh bh wh), ren_t2 ⟨rfl, sc_ds _ _ _ _⟩ ⟨rfl, sc_ds _ _ _ _⟩, sc_t2 (sc_ds _ _ _ _) (sc_ds _ _ _ _), ?_⟩
  refine WPL.mem (by rfl) ?_
  refine rF ?_
  have hs1 := implProductSizes_fn ng bg wg nh bh wh hbg.lt hwg.lt hbh.lt hwh.lt
  have hs2 := specProductSizes_fn ng bg wg nh bh wh hbg.lt hwg.lt hbh.lt hwh.lt
  cases hbs : bothB ng bg wg nh bh wh
  · rw [szT_A hbs] at hs1 hs2
    refine WP.rw ?_
    refine rU 2 ?_
    refine cN [] (t2 .ns (.i .i64 1)) (hs1) leZ (ren_t2 ⟨rfl, trivial⟩ ⟨rfl, trivial⟩) ?_
    refine rF ?_
    refine WP.seq ?_
    refine WP.rw ?_
    refine rU 2 ?_
    refine cN [] (t2 .ns (.i .i64 1)) (hs2) leZ (ren_t2 ⟨rfl, trivial⟩ ⟨rfl, trivial⟩) ?_
    refine rF ?_
    refine WP.rw ?_
    refine rU 6 ?_
    refine cA (likeInts_nil) ?_
    refine rF ?_
    refine WP.cond (by rfl) (fun h => ?_) (fun h => WP.skip ?_)
    · cases h
    refine WP.seq ?_
    refine WP.seq ?_
    refine WP.da (by kernel_rfl) 12 (by kernel_rfl) ?_
    refine WA.takesD T false tok [0, 1, 2] (f' := 9) (by kernel_rfl) (by rfl) (by rfl) (by exact byObl) (by rfl) (by rfl) ?_
    refine WA.skipU 3 (by rfl) (by kernel_rfl) (by kernel_rfl) (by rfl) (by rfl) ?_
    refine WA.skipU 4 (by rfl) (by kernel_rfl) (by kernel_rfl) (by rfl) (by rfl) ?_
    refine WA.skipU 5 (by rfl) (by kernel_rfl) (by kernel_rfl) (by rfl) (by rfl) ?_
    refine WA.skipU 6 (by rfl) (by kernel_rfl) (by kernel_rfl) (by rfl) (by rfl) ?_
    refine WA.skipU 7 (by rfl) (by kernel_rfl) (by kernel_rfl) (by rfl) (by rfl) ?_
    refine WA.skipU 8 (by rfl) (by kernel_rfl) (by kernel_rfl) (by rfl) (by rfl) ?_
    refine WA.skipU 9 (by rfl) (by kernel_rfl) (by kernel_rfl) (by rfl) (by rfl) ?_
    refine WA.skipU 10 (by rfl) (by kernel_rfl) (by kernel_rfl) (by rfl) (by rfl) ?_
    refine WA.takesD T false tok [11] (f' := 0) (by kernel_rfl) (by rfl) (by rfl) (by exact byObl) (by rfl) (by rfl) ?_
    refine WA.end rfl (by kernel_rfl) (noPan ?_)
    refine WP.cond (by rfl) (fun h => ?_) (fun h => WP.skip ?_)
    · cases h
    refine WP.ghost (gC [0] (leC leZ) (l := [(0, .sl 0 0 len 1), (5, .ns), (6, .i .i64 1), (13, .i .i64 c), (22, .i .i64 c2)]) (m' := [.ro len 1 (byF g)])) ?_
    exact hs
  · obtain ⟨hg1, hg2⟩ : desB ng bg wg = true ∧ desB nh bh wh = true := by unfold bothB at hbs; simpa using hbs
    obtain ⟨G, rfl, hDg⟩ := des_of_B hg1
    obtain ⟨H, rfl, hDh⟩ := des_of_B hg2
    rw [szT_B hbs] at hs1 hs2
    have hGl := hDg.le
    have hHl := hDh.le
    have hsm : (szR G H bg wg bh wh).sum = G * H := sz_sum hDg hDh
    have hsl : (szR G H bg wg bh wh).length ≤ 256 := by
      unfold szR
      rw [srtN_len]
      exact sz_len _ hHl hGl
    have hGH : G * H ≤ 16 * 16 := Nat.mul_le_mul hGl hHl
    have hm1 : (G : Int) * (H : Int) ≤ 256 := by exact_mod_cast hGH
    have hm0 : 0 ≤ (G : Int) * (H : Int) := Int.mul_nonneg (Int.natCast_nonneg _) (Int.natCast_nonneg _)
    have hli := likeInts_fn (szR G H bg wg bh wh).length (szR G H bg wg bh wh).length (fun t => (((szR G H bg wg bh wh).getD t 0 : Nat) : Int)) (fun t => (((szR G H bg wg bh wh).getD t 0 : Nat) : Int)) (by omega) (by omega)
    rw [likeB_same] at hli
    have hsu := sum_fn (szR G H bg wg bh wh) (by omega) (by omega)
    rw [hsm, Int.natCast_mul] at hsu
    generalize szR G H bg wg bh wh = l at *
    refine WP.rw ?_
    refine rU 2 ?_
    refine cN [] (t2 (.sl 3 0 l.length 1) (.i .i64 0)) (hs1) leZ (ren_t2 rfl ⟨rfl, trivial⟩) ?_
    refine rF ?_
    refine WP.seq ?_
    refine WP.rw ?_
    refine rU 2 ?_
    refine cN [] (t2 (.sl 4 0 l.length 1) (.i .i64 0)) (hs2) leZ (ren_t2 rfl ⟨rfl, trivial⟩) ?_
    refine rF ?_
    refine WP.rw ?_
    refine rU 6 ?_
    refine cR [3, 4] (hli) (leC (leC leZ)) ?_
    refine rF ?_
    refine WP.cond (by rfl) (fun h => ?_) (fun h => WP.skip ?_)
    · cases h
    refine WP.seq ?_
    refine WP.seq ?_
    refine WP.drawsQ (by kernel_rfl) (by kernel_rfl) ?_
    refine WQ.run T false 4 tok (by rfl) (by rfl) (by exact byObl) ?_
    refine WQ.callR [3] (hsu) (by rfl) (leC leZ) (by exact byArgs) (by rfl) (by rfl) (by simp [Sc, sc_pl, sc_ds]) (⟨trivial, trivial, trivial⟩) ?_
    refine WQ.run T false 6 tok (by rfl) (by rfl) (by exact byObl) ?_
    rw [decide_eq_true (rfl : (G : Int) * (H : Int) = (G : Int) * (H : Int))]
    refine WQ.fin T false tok (by rfl) (by rfl) (by exact byObl) ?_
    refine WP.cond (by rfl) (fun h => ?_) (fun h => WP.skip ?_)
    · cases h
    refine WP.ghost (gC [0] (leC leZ) (l := [(0, .sl 0 0 len 1), (5, .ns), (6, .i .i64 1), (13, .i .i64 c), (22, .i .i64 c2)]) (m' := [.ro len 1 (byF g)])) ?_
    exact hs
theorem leafB11 (len : Nat) (g : Nat → Nat) (hg : ∀ j, g j < 256) (hl2 : len ≤ 4096) (N M : Nat) (b w b' w' : Nat → Nat) (L : List (Nat → Int)) (hN16 : N ≤ 16) (hM16 : M ≤ 16) (hLl : L.length ≤ 16) (hcnt : ∀ i, i < L.length → ∀ z, z < M → ((cntO (L.getD i fun _ => 0) (z : Int) N : Nat) : Int) * (M : Int) = (N : Int)) (F K : Nat) (bf wf B W R : Nat → Nat) (i0 : Nat) (hbf : Bt 256 bf) (hwf : Bt 256 wf) (hf1 : desB F bf wf = true) (hf2 : desB K B W = true) (hF1 : 1 ≤ F) (hF16 : F ≤ 16) (hK1 : 1 ≤ K) (hK16 : K ≤ 16) (hB : ∀ i, B i < 256) (hW : ∀ i, W i < 256) (hdv : K ∣ F) (hi0 : i0 < (morL bf wf B W K).length) (hLK : (morL bf wf B W K).length ≤ K) (hLi : ∀ x, x < F → (morL bf wf B W K).getD i0 (fun _ => 0) x = ((R x : Nat) : Int)) (Fa Gb Kp : Nat) (ba wa bb wb Bp Wp : Nat → Nat) (hba : Bt 256 ba) (hwa : Bt 256 wa) (hbb : Bt 256 bb) (hwb : Bt 256 wb) (ha1 : desB Fa ba wa = true) (ha2 : desB Gb bb wb = true) (hp3 : desB Kp Bp Wp = true) (hKp : Kp ≤ 16) (hFa : Fa ≤ 16) (hGb : Gb ≤ 16) (hBp : ∀ i, Bp i < 256) (hWp : ∀ i, Wp i < 256) (hla : 0 < (morL Bp Wp ba wa Fa).length) (hlb : 0 < (morL Bp Wp bb wb Gb).length) (hla2 : (morL Bp Wp ba wa Fa).length ≤ Fa) (hlb2 : (morL Bp Wp bb wb Gb).length ≤ Gb) : ∀ d b0, Try.f3.body = some b0 → dropO 11 b0 = some d → WP Try.prog Try.f3.ntmps 1 d (DM.Ends T Try.f3.results.toList fun r' _ => r' = .b true ∧ Sc 0 (.b true)) ⟨lst [(0, .sl 0 0 len 1), (3, .p 1 [] 0), (4, .p 2 [] 0), (5, .sl 3 0 L.length 1), (6, .i .i64 0), (9, .p 4 [] 0), (11, .p 5 [] 0), (12, .sl 6 0 F 1), (13, .i .i64 0), (17, .p 7 [] 0), (18, .p 8 [] 0), (21, .p 9 [] 0), (22, .i .i64 0)], [.ro len 1 (byF g), .var (ds_ N b w), .var (ds_ M b' w'), .ro L.length 1 (moF N L), .var (ds_ F bf wf), .var (ds_ K B W), .row 2 F 1 (nmF R), .var (ds_ Fa ba wa), .var (ds_ Gb bb wb), .var (ds_ Kp Bp Wp)]⟩ := by
  intro d b0 hb0 hd0
  injection hb0 with hb0
  subst hb0
  injection hd0 with hd0
  subst hd0
  have hdS := drawTwo_S len g hg (by omega)
  refine WP.share 4 ⟨lst [(0, .sl 0 0 len 1), (3, .p 1 [] 0), (4, .p 2 [] 0), (5, .sl 3 0 L.length 1), (6, .i .i64 0), (9, .p 4 [] 0), (11, .p 5 [] 0), (12, .sl 6 0 F 1), (13, .i .i64 0), (17, .p 7 [] 0), (18, .p 8 [] 0), (21, .p 9 [] 0), (22, .i .i64 0)], [.ro len 1 (byF g), .var (ds_ N b w), .var (ds_ M b' w'), .ro L.length 1 (moF N L), .var (ds_ F bf wf), .var (ds_ K B W), .row 2 F 1 (nmF R), .var (ds_ Fa ba wa), .var (ds_ Gb bb wb), .var (ds_ Kp Bp Wp)]⟩ (by rfl) ?_ (fun hs => ?_)
  · have hm1 := implMors_fn F K bf wf B W hbf.lt hwf.lt hB hW
    rw [mors_B (both_true hf1 hf2)] at hm1
    have hrem : ((F : Int)).tmod (K : Int) = 0 := Int.tmod_eq_zero_of_dvd (Int.natCast_dvd_natCast.2 hdv)
    generalize morL bf wf B W K = LL at *
    refine WP.seq ?_
    refine rS ?_
    refine WP.cond (by rfl) (fun h => ?_) (fun h => ?_)
    case refine_2 => cases h
    refine WP.rw ?_
    refine rU 2 ?_
    refine cN [] (t2 (.sl 10 0 LL.length 1) (.i .i64 0)) (hm1) leZ (ren_t2 rfl ⟨rfl, trivial⟩) ?_
    refine rF ?_
    refine rS ?_
    refine WP.seq ?_
    refine rS ?_
    refine WP.block ?_
    refine WP.loopH (⟨fun z : Nat × Bool => z.1 ≤ LL.length ∧ (i0 < z.1 → z.2 = true), fun z => [(0, .sl 0 0 len 1), (3, .p 1 [] 0), (4, .p 2 [] 0), (5, .sl 3 0 L.length 1), (6, .i .i64 0), (9, .p 4 [] 0), (11, .p 5 [] 0), (12, .sl 6 0 F 1), (13, .i .i64 0), (17, .p 7 [] 0), (18, .p 8 [] 0), (21, .p 9 [] 0), (22, .i .i64 0), (31, .sl 10 0 LL.length 1), (32, .i .i64 0), (33, .b z.2), (34, .i .i64 (z.1 : Int))], fun z => [.ro len 1 (byF g), .var (ds_ N b w), .var (ds_ M b' w'), .ro L.length 1 (moF N L), .var (ds_ F bf wf), .var (ds_ K B W), .row 2 F 1 (nmF R), .var (ds_ Fa ba wa), .var (ds_ Gb bb wb), .var (ds_ Kp Bp Wp), .ro LL.length 1 (moF F LL)], fun z => LL.length - z.1⟩) ((0, false)) (⟨Nat.zero_le _, fun h => absurd h (Nat.not_lt_zero _)⟩) (gC [0, 1, 2, 3, 4, 5, 6, 7, 8, 9, 10] (leC (leC (leC (leC (leC (leC (leC (leC (leC (leC (leC leZ)))))))))))) ?_
    rintro ⟨i, m⟩ ⟨hi, hm⟩
    dsimp only at hi hm
    dsimp only [Hd.at]
    refine WP.seq ?_
    refine rS ?_
    refine WP.cond (by rfl) (fun hc => WP.skip ?_) (fun hc => WP.exit ?_)
    · have hi : i < LL.length := by have := of_decide_eq_true hc; omega
      clear hc
      cases m
      · have hlk := likeInts_fn F F (LL.getD i fun _ => 0) (fun t => ((R t : Nat) : Int)) (by omega) (by omega)
        refine WP.seq (WP.block ?_)
        refine WP.region ?_
        refine rU 7 ?_
        refine cR [11, 6] (hlk) (leC (leC leZ)) ?_
        refine rF ?_
        refine rE ?_
        refine Again.next ((i + 1, likeB F F (LL.getD i fun _ => 0) (fun t => ((R t : Nat) : Int)))) (gC [0, 1, 2, 3, 4, 5, 6, 7, 8, 9, 10] (leC (leC (leC (leC (leC (leC (leC (leC (leC (leC (leC leZ)))))))))))) (⟨hi, fun h => by
          by_cases e : i0 = i
          · subst e; exact likeB_t ⟨rfl, hLi⟩
          · exact absurd (hm (by dsimp only at h; omega)) (by decide)⟩) (by dsimp only; omega)
      · refine WP.seq (WP.block ?_)
        refine WP.region ?_
        refine rU 2 ?_
        iterate 6 refine WPL.skipU (by rfl) (by rfl) ?_
        refine rF ?_
        refine rE ?_
        refine Again.next ((i + 1, true)) (gC [0, 1, 2, 3, 4, 5, 6, 7, 8, 9, 10] (leC (leC (leC (leC (leC (leC (leC (leC (leC (leC (leC leZ)))))))))))) (⟨hi, fun _ => rfl⟩) (by dsimp only; omega)
    have hi : ¬ i < LL.length := by have := of_decide_eq_false hc; omega
    have hm2 : m = true := hm (by omega)
    subst hm2
    clear hc hm
    refine WP.rw ?_
    refine rU 12 ?_
    rw [hrem]
    refine rF ?_
    refine WP.cond (by rfl) (fun h => ?_) (fun h => WP.skip ?_)
    · cases h
    refine WP.ghost (gC [0, 1, 2, 3, 4, 5, 6, 7, 8, 9] (leC (leC (leC (leC (leC (leC (leC (leC (leC (leC leZ)))))))))) (l := [(0, .sl 0 0 len 1), (3, .p 1 [] 0), (4, .p 2 [] 0), (5, .sl 3 0 L.length 1), (6, .i .i64 0), (17, .p 7 [] 0), (18, .p 8 [] 0), (21, .p 9 [] 0), (22, .i .i64 0)]) (m' := [.ro len 1 (byF g), .var (ds_ N b w), .var (ds_ M b' w'), .ro L.length 1 (moF N L), .var (ds_ F bf wf), .var (ds_ K B W), .row 2 F 1 (nmF R), .var (ds_ Fa ba wa), .var (ds_ Gb bb wb), .var (ds_ Kp Bp Wp)])) ?_
    have hma := implMors_fn Kp Fa Bp Wp ba wa hBp hWp hba.lt hwa.lt
    have hmb := implMors_fn Kp Gb Bp Wp bb wb hBp hWp hbb.lt hwb.lt
    rw [mors_B (both_true hp3 ha1)] at hma
    rw [mors_B (both_true hp3 ha2)] at hmb
    generalize morL Bp Wp ba wa Fa = LA at *
    generalize morL Bp Wp bb wb Gb = LB at *
    refine WP.seq ?_
    refine rS ?_
    refine WP.cond (by rfl) (fun h => ?_) (fun h => ?_)
    case refine_2 => cases h
    refine WP.rw ?_
    refine rU 2 ?_
    refine cN [] (t2 (.sl 10 0 LA.length 1) (.i .i64 0)) (hma) leZ (ren_t2 rfl ⟨rfl, trivial⟩) ?_
    refine rF ?_
    refine WP.rw ?_
    refine rU 2 ?_
    refine cN [] (t2 (.sl 11 0 LB.length 1) (.i .i64 0)) (hmb) leZ (ren_t2 rfl ⟨rfl, trivial⟩) ?_
    refine rF ?_
    refine WP.rw ?_
    refine rU 10 ?_
    rw [decide_eq_false (by omega : ¬ ((LA.length : Nat) : Int) = 0)]
    refine rU 5 ?_
    rw [decide_eq_false (by omega : ¬ ((LB.length : Nat) : Int) = 0)]
    refine rF ?_
    refine WP.cond (by rfl) (fun h => ?_) (fun h => WP.skip ?_)
    · cases h
    refine WP.ghost (gC [0, 1, 2, 3] (leC (leC (leC (leC leZ)))) (l := [(0, .sl 0 0 len 1), (3, .p 1 [] 0), (4, .p 2 [] 0), (5, .sl 3 0 L.length 1), (6, .i .i64 0)]) (m' := [.ro len 1 (byF g), .var (ds_ N b w), .var (ds_ M b' w'), .ro L.length 1 (moF N L)])) ?_
    exact restB len g hg hl2 N M b w b' w' L hN16 hM16 hLl hcnt _ _ rfl rfl
  refine WP.rw ?_
  refine rU 1 ?_
  refine WPL.callE [0] (hdS) (leC leZ) (by rfl) (by rfl) (by exact byArgs) (by rfl) (by rfl) (by simp [Sc, sc_pl, sc_ds]) ?_
  rintro _ _ ⟨ng, bg, wg, nh, bh, wh, rfl, ⟨_, _, hbg, hwg⟩, ⟨_, _, hbh, hwh⟩, rfl⟩
  refine ⟨⟨fun d hd => by cases hd; exact fun _ _ => trivial, trivial⟩, t2 (ds_ ng bg wg) (ds_ nh bh wh), ren_t2 ⟨rfl, sc_ds _ _ _ _⟩ ⟨rfl, sc_ds _ _ _ _⟩, sc_t2 (sc_ds _ _ _ _) (sc_ds _ _ _ _), ?_⟩
  refine WPL.mem (by rfl) ?_
  refine rF ?_
  have hs1 := implProductSizes_fn ng bg wg nh bh wh hbg.lt hwg.lt hbh.lt hwh.lt
  have hs2 := specProductSizes_fn ng bg wg nh bh wh hbg.lt hwg.lt hbh.lt hwh.lt
  cases hbs : bothB ng bg wg nh bh wh
  · rw [szT_A hbs] at hs1 hs2
    refine WP.rw ?_
    refine rU 2 ?_
    refine cN [] (t2 .ns (.i .i64 1)) (hs1) leZ (ren_t2 ⟨rfl, trivial⟩ ⟨rfl, trivial⟩) ?_
    refine rF ?_
    refine WP.seq ?_
    refine WP.rw ?_
    refine rU 2 ?_
    refine cN [] (t2 .ns (.i .i64 1)) (hs2) leZ (ren_t2 ⟨rfl, trivial⟩ ⟨rfl, trivial⟩) ?_
    refine rF ?_
    refine WP.rw ?_
    refine rU 6 ?_
    refine cA (likeInts_nil) ?_
    refine rF ?_
    refine WP.cond (by rfl) (fun h => ?_) (fun h => WP.skip ?_)
    · cases h
    refine WP.seq ?_
    refine WP.seq ?_
    refine WP.da (by kernel_rfl) 12 (by kernel_rfl) ?_
    refine WA.takesD T false tok [0, 1, 2] (f' := 9) (by kernel_rfl) (by rfl) (by rfl) (by exact byObl) (by rfl) (by rfl) ?_
    refine WA.skipU 3 (by rfl) (by kernel_rfl) (by kernel_rfl) (by rfl) (by rfl) ?_
    refine WA.skipU 4 (by rfl) (by kernel_rfl) (by kernel_rfl) (by rfl) (by rfl) ?_
    refine WA.skipU 5 (by rfl) (by kernel_rfl) (by kernel_rfl) (by rfl) (by rfl) ?_
    refine WA.skipU 6 (by rfl) (by kernel_rfl) (by kernel_rfl) (by rfl) (by rfl) ?_
    refine WA.skipU 7 (by rfl) (by kernel_rfl) (by kernel_rfl) (by rfl) (by rfl) ?_
    refine WA.skipU 8 (by rfl) (by kernel_rfl) (by kernel_rfl) (by rfl) (by rfl) ?_
    refine WA.skipU 9 (by rfl) (by kernel_rfl) (by kernel_rfl) (by rfl) (by rfl) ?_
    refine WA.skipU 10 (by rfl) (by kernel_rfl) (by kernel_rfl) (by rfl) (by rfl) ?_
    refine WA.takesD T false tok [11] (f' := 0) (by kernel_rfl) (by rfl) (by rfl) (by exact byObl) (by rfl) (by rfl) ?_
    refine WA.end rfl (by kernel_rfl) (noPan ?_)
    refine WP.cond (by rfl) (fun h => ?_) (fun h => WP.skip ?_)
    · cases h
    refine WP.ghost (gC [0, 1, 2, 3, 4, 5, 6, 7, 8, 9] (leC (leC (leC (leC (leC (leC (leC (leC (leC (leC leZ)))))))))) (l := [(0, .sl 0 0 len 1), (3, .p 1 [] 0), (4, .p 2 [] 0), (5, .sl 3 0 L.length 1), (6, .i .i64 0), (9, .p 4 [] 0), (11, .p 5 [] 0), (12, .sl 6 0 F 1), (13, .i .i64 0), (17, .p 7 [] 0), (18, .p 8 [] 0), (21, .p 9 [] 0), (22, .i .i64 0)]) (m' := [.ro len 1 (byF g), .var (ds_ N b w), .var (ds_ M b' w'), .ro L.length 1 (moF N L), .var (ds_ F bf wf), .var (ds_ K B W), .row 2 F 1 (nmF R), .var (ds_ Fa ba wa), .var (ds_ Gb bb wb), .var (ds_ Kp Bp Wp)])) ?_
    exact hs
  · obtain ⟨hg1, hg2⟩ : desB ng bg wg = true ∧ desB nh bh wh = true := by unfold bothB at hbs; simpa using hbs
    obtain ⟨G, rfl, hDg⟩ := des_of_B hg1
    obtain ⟨H, rfl, hDh⟩ := des_of_B hg2
    rw [szT_B hbs] at hs1 hs2
    have hGl := hDg.le
    have hHl := hDh.le
    have hsm : (szR G H bg wg bh wh).sum = G * H := sz_sum hDg hDh
    have hsl : (szR G H bg wg bh wh).length ≤ 256 := by
      unfold szR
      rw [srtN_len]
      exact sz_len _ hHl hGl
    have hGH : G * H ≤ 16 * 16 := Nat.mul_le_mul hGl hHl
    have hm1 : (G : Int) * (H : Int) ≤ 256 := by exact_mod_cast hGH
    have hm0 : 0 ≤ (G : Int) * (H : Int) := Int.mul_nonneg (Int.natCast_nonneg _) (Int.natCast_nonneg _)
    have hli := likeInts_fn (szR G H bg wg bh wh).length (szR G H bg wg bh wh).length (fun t => (((szR G H bg wg bh wh).getD t 0 : Nat) : Int)) (fun t => (((szR G H bg wg bh wh).getD t 0 : Nat) : Int)) (by omega) (by omega)
    rw [likeB_same] at hli
    have hsu := sum_fn (szR G H bg wg bh wh) (by omega) (by omega)
    rw [hsm, Int.natCast_mul] at hsu
    generalize szR G H bg wg bh wh = l at *
    refine WP.rw ?_
    refine rU 2 ?_
    refine cN [] (t2 (.sl 12 0 l.length 1) (.i .i64 0)) (hs1) leZ (ren_t2 rfl ⟨rfl, trivial⟩) ?_
    refine rF ?_
    refine WP.seq ?_
    refine WP.rw ?_
    refine rU 2 ?_
    refine cN [] (t2 (.sl 13 0 l.length 1) (.i .i64 0)) (hs2) leZ (ren_t2 rfl ⟨rfl, trivial⟩) ?_
    refine rF ?_
    refine WP.rw ?_
    refine rU 6 ?_
    refine cR [12, 13] (hli) (leC (leC leZ)) ?_
    refine rF ?_
    refine WP.cond (by rfl) (fun h => ?_) (fun h => WP.skip ?_)
    · cases h
    refine WP.seq ?_
    refine WP.seq ?_
    refine WP.drawsQ (by kernel_rfl) (by kernel_rfl) ?_
    refine WQ.run T false 4 tok (by rfl) (by rfl) (by exact byObl) ?_
    refine WQ.callR [12] (hsu) (by rfl) (leC leZ) (by exact byArgs) (by rfl) (by rfl) (by simp [Sc, sc_pl, sc_ds]) (⟨trivial, trivial, trivial⟩) ?_
    refine WQ.run T false 6 tok (by rfl) (by rfl) (by exact byObl) ?_
    rw [decide_eq_true (rfl : (G : Int) * (H : Int) = (G : Int) * (H : Int))]
    refine WQ.fin T false tok (by rfl) (by rfl) (by exact byObl) ?_
    refine WP.cond (by rfl) (fun h => ?_) (fun h => WP.skip ?_)
    · cases h
    refine WP.ghost (gC [0, 1, 2, 3, 4, 5, 6, 7, 8, 9] (leC (leC (leC (leC (leC (leC (leC (leC (leC (leC leZ)))))))))) (l := [(0, .sl 0 0 len 1), (3, .p 1 [] 0), (4, .p 2 [] 0), (5, .sl 3 0 L.length 1), (6, .i .i64 0), (9, .p 4 [] 0), (11, .p 5 [] 0), (12, .sl 6 0 F 1), (13, .i .i64 0), (17, .p 7 [] 0), (18, .p 8 [] 0), (21, .p 9 [] 0), (22, .i .i64 0)]) (m' := [.ro len 1 (byF g), .var (ds_ N b w), .var (ds_ M b' w'), .ro L.length 1 (moF N L), .var (ds_ F bf wf), .var (ds_ K B W), .row 2 F 1 (nmF R), .var (ds_ Fa ba wa), .var (ds_ Gb bb wb), .var (ds_ Kp Bp Wp)])) ?_
    exact hs
theorem leafB10 (len : Nat) (g : Nat → Nat) (hg : ∀ j, g j < 256) (hl2 : len ≤ 4096) (N M : Nat) (b w b' w' : Nat → Nat) (L : List (Nat → Int)) (hN16 : N ≤ 16) (hM16 : M ≤ 16) (hLl : L.length ≤ 16) (hcnt : ∀ i, i < L.length → ∀ z, z < M → ((cntO (L.getD i fun _ => 0) (z : Int) N : Nat) : Int) * (M : Int) = (N : Int)) (F K : Nat) (bf wf B W R : Nat → Nat) (i0 : Nat) (hbf : Bt 256 bf) (hwf : Bt 256 wf) (hf1 : desB F bf wf = true) (hf2 : desB K B W = true) (hF1 : 1 ≤ F) (hF16 : F ≤ 16) (hK1 : 1 ≤ K) (hK16 : K ≤ 16) (hB : ∀ i, B i < 256) (hW : ∀ i, W i < 256) (hdv : K ∣ F) (hi0 : i0 < (morL bf wf B W K).length) (hLK : (morL bf wf B W K).length ≤ K) (hLi : ∀ x, x < F → (morL bf wf B W K).getD i0 (fun _ => 0) x = ((R x : Nat) : Int)) (c2 : Int) (hc2 : c2 ≠ 0) : ∀ d b0, Try.f3.body = some b0 → dropO 11 b0 = some d → WP Try.prog Try.f3.ntmps 1 d (DM.Ends T Try.f3.results.toList fun r' _ => r' = .b true ∧ Sc 0 (.b true)) ⟨lst [(0, .sl 0 0 len 1), (3, .p 1 [] 0), (4, .p 2 [] 0), (5, .sl 3 0 L.length 1), (6, .i .i64 0), (9, .p 4 [] 0), (11, .p 5 [] 0), (12, .sl 6 0 F 1), (13, .i .i64 0), (22, .i .i64 c2)], [.ro len 1 (byF g), .var (ds_ N b w), .var (ds_ M b' w'), .ro L.length 1 (moF N L), .var (ds_ F bf wf), .var (ds_ K B W), .row 2 F 1 (nmF R)]⟩ := by
  intro d b0 hb0 hd0
  injection hb0 with hb0
  subst hb0
  injection hd0 with hd0
  subst hd0
  have hdS := drawTwo_S len g hg (by omega)
  refine WP.share 4 ⟨lst [(0, .sl 0 0 len 1), (3, .p 1 [] 0), (4, .p 2 [] 0), (5, .sl 3 0 L.length 1), (6, .i .i64 0), (9, .p 4 [] 0), (11, .p 5 [] 0), (12, .sl 6 0 F 1), (13, .i .i64 0), (22, .i .i64 c2)], [.ro len 1 (byF g), .var (ds_ N b w), .var (ds_ M b' w'), .ro L.length 1 (moF N L), .var (ds_ F bf wf), .var (ds_ K B W), .row 2 F 1 (nmF R)]⟩ (by rfl) ?_ (fun hs => ?_)
  · have hm1 := implMors_fn F K bf wf B W hbf.lt hwf.lt hB hW
    rw [mors_B (both_true hf1 hf2)] at hm1
    have hrem : ((F : Int)).tmod (K : Int) = 0 := Int.tmod_eq_zero_of_dvd (Int.natCast_dvd_natCast.2 hdv)
    generalize morL bf wf B W K = LL at *
    refine WP.seq ?_
    refine rS ?_
    refine WP.cond (by rfl) (fun h => ?_) (fun h => ?_)
    case refine_2 => cases h
    refine WP.rw ?_
    refine rU 2 ?_
    refine cN [] (t2 (.sl 7 0 LL.length 1) (.i .i64 0)) (hm1) leZ (ren_t2 rfl ⟨rfl, trivial⟩) ?_
    refine rF ?_
    refine rS ?_
    refine WP.seq ?_
    refine rS ?_
    refine WP.block ?_
    refine WP.loopH (⟨fun z : Nat × Bool => z.1 ≤ LL.length ∧ (i0 < z.1 → z.2 = true), fun z => [(0, .sl 0 0 len 1), (3, .p 1 [] 0), (4, .p 2 [] 0), (5, .sl 3 0 L.length 1), (6, .i .i64 0), (9, .p 4 [] 0), (11, .p 5 [] 0), (12, .sl 6 0 F 1), (13, .i .i64 0), (22, .i .i64 c2), (31, .sl 7 0 LL.length 1), (32, .i .i64 0), (33, .b z.2), (34, .i .i64 (z.1 : Int))], fun z => [.ro len 1 (byF g), .var (ds_ N b w), .var (ds_ M b' w'), .ro L.length 1 (moF N L), .var (ds_ F bf wf), .var (ds_ K B W), .row 2 F 1 (nmF R), .ro LL.length 1 (moF F LL)], fun z => LL.length - z.1⟩) ((0, false)) (⟨Nat.zero_le _, fun h => absurd h (Nat.not_lt_zero _)⟩) (gC [0, 1, 2, 3, 4, 5, 6, 7] (leC (leC (leC (leC (leC (leC (leC (leC leZ))))))))) ?_
    rintro ⟨i, m⟩ ⟨hi, hm⟩
    dsimp only at hi hm
    dsimp only [Hd.at]
    refine WP.seq ?_
    refine rS ?_
    refine WP.cond (by rfl) (fun hc => WP.skip ?_) (fun hc => WP.exit ?_)
    · have hi : i < LL.length := by have := of_decide_eq_true hc; omega
      clear hc
      cases m
      · have hlk := likeInts_fn F F (LL.getD i fun _ => 0) (fun t => ((R t : Nat) : Int)) (by omega) (by omega)
        refine WP.seq (WP.block ?_)
        refine WP.region ?_
        refine rU 7 ?_
        refine cR [8, 6] (hlk) (leC (leC leZ)) ?_
        refine rF ?_
        refine rE ?_
        refine Again.next ((i + 1, likeB F F (LL.getD i fun _ => 0) (fun t => ((R t : Nat) : Int)))) (gC [0, 1, 2, 3, 4, 5, 6, 7] (leC (leC (leC (leC (leC (leC (leC (leC leZ))))))))) (⟨hi, fun h => by
          by_cases e : i0 = i
          · subst e; exact likeB_t ⟨rfl, hLi⟩
          · exact absurd (hm (by dsimp only at h; omega)) (by decide)⟩) (by dsimp only; omega)
      · refine WP.seq (WP.block ?_)
        refine WP.region ?_
        refine rU 2 ?_
        iterate 6 refine WPL.skipU (by rfl) (by rfl) ?_
        refine rF ?_
        refine rE ?_
        refine Again.next ((i + 1, true)) (gC [0, 1, 2, 3, 4, 5, 6, 7] (leC (leC (leC (leC (leC (leC (leC (leC leZ))))))))) (⟨hi, fun _ => rfl⟩) (by dsimp only; omega)
    have hi : ¬ i < LL.length := by have := of_decide_eq_false hc; omega
    have hm2 : m = true := hm (by omega)
    subst hm2
    clear hc hm
    refine WP.rw ?_
    refine rU 12 ?_
    rw [hrem]
    refine rF ?_
    refine WP.cond (by rfl) (fun h => ?_) (fun h => WP.skip ?_)
    · cases h
    refine WP.ghost (gC [0, 1, 2, 3, 4, 5, 6] (leC (leC (leC (leC (leC (leC (leC leZ))))))) (l := [(0, .sl 0 0 len 1), (3, .p 1 [] 0), (4, .p 2 [] 0), (5, .sl 3 0 L.length 1), (6, .i .i64 0), (22, .i .i64 c2)]) (m' := [.ro len 1 (byF g), .var (ds_ N b w), .var (ds_ M b' w'), .ro L.length 1 (moF N L), .var (ds_ F bf wf), .var (ds_ K B W), .row 2 F 1 (nmF R)])) ?_
    refine WP.seq ?_
    refine rS ?_
    refine WP.cond (by rfl) (fun h => ?_) (fun h => WP.skip ?_)
    · exact absurd (of_decide_eq_true h) hc2
    refine WP.ghost (gC [0, 1, 2, 3] (leC (leC (leC (leC leZ)))) (l := [(0, .sl 0 0 len 1), (3, .p 1 [] 0), (4, .p 2 [] 0), (5, .sl 3 0 L.length 1), (6, .i .i64 0)]) (m' := [.ro len 1 (byF g), .var (ds_ N b w), .var (ds_ M b' w'), .ro L.length 1 (moF N L)])) ?_
    exact restB len g hg hl2 N M b w b' w' L hN16 hM16 hLl hcnt _ _ rfl rfl
  refine WP.rw ?_
  refine rU 1 ?_
  refine WPL.callE [0] (hdS) (leC leZ) (by rfl) (by rfl) (by exact byArgs) (by rfl) (by rfl) (by simp [Sc, sc_pl, sc_ds]) ?_
  rintro _ _ ⟨ng, bg, wg, nh, bh, wh, rfl, ⟨_, _, hbg, hwg⟩, ⟨_, _, hbh, hwh⟩, rfl⟩
  refine ⟨⟨fun d hd => by cases hd; exact fun _ _ => trivial, trivial⟩, t2 (ds_ ng bg wg) (ds_ nh bh wh), ren_t2 ⟨rfl, sc_ds _ _ _ _⟩ ⟨rfl, sc_ds _ _ _ _⟩, sc_t2 (sc_ds _ _ _ _) (sc_ds _ _ _ _), ?_⟩
  refine WPL.mem (by rfl) ?_
  refine rF ?_
  have hs1 := implProductSizes_fn ng bg wg nh bh wh hbg.lt hwg.lt hbh.lt hwh.lt
  have hs2 := specProductSizes_fn ng bg wg nh bh wh hbg.lt hwg.lt hbh.lt hwh.lt
  cases hbs : bothB ng bg wg nh bh wh
  · rw [szT_A hbs] at hs1 hs2
    refine WP.rw ?_
    refine rU 2 ?_
    refine cN [] (t2 .ns (.i .i64 1)) (hs1) leZ (ren_t2 ⟨rfl, trivial⟩ ⟨rfl, trivial⟩) ?_
    refine rF ?_
    refine WP.seq ?_
    refine WP.rw ?_
    refine rU 2 ?_
    refine cN [] (t2 .ns (.i .i64 1)) (hs2) leZ (ren_t2 ⟨rfl, trivial⟩ ⟨rfl, trivial⟩) ?_
    refine rF ?_
    refine WP.rw ?_
    refine rU 6 ?_
    refine cA (likeInts_nil) ?_
    refine rF ?_
    refine WP.cond (by rfl) (fun h => ?_) (fun h => WP.skip ?_)
    · cases h
    refine WP.seq ?_
    refine WP.seq ?_
    refine WP.da (by kernel_rfl) 12 (by kernel_rfl) ?_
    refine WA.takesD T false tok [0, 1, 2] (f' := 9) (by kernel_rfl) (by rfl) (by rfl) (by exact byObl) (by rfl) (by rfl) ?_
    refine WA.skipU 3 (by rfl) (by kernel_rfl) (by kernel_rfl) (by rfl) (by rfl) ?_
    refine WA.skipU 4 (by rfl) (by kernel_rfl) (by kernel_rfl) (by rfl) (by rfl) ?_
    refine WA.skipU 5 (by rfl) (by kernel_rfl) (by kernel_rfl) (by rfl) (by rfl) ?_
    refine WA.skipU 6 (by rfl) (by kernel_rfl) (by kernel_rfl) (by rfl) (by rfl) ?_
    refine WA.skipU 7 (by rfl) (by kernel_rfl) (by kernel_rfl) (by rfl) (by rfl) ?_
    refine WA.skipU 8 (by rfl) (by kernel_rfl) (by kernel_rfl) (by rfl) (by rfl) ?_
    refine WA.skipU 9 (by rfl) (by kernel_rfl) (by kernel_rfl) (by rfl) (by rfl) ?_
    refine WA.skipU 10 (by rfl) (by kernel_rfl) (by kernel_rfl) (by rfl) (by rfl) ?_
    refine WA.takesD T false tok [11] (f' := 0) (by kernel_rfl) (by rfl) (by rfl) (by exact byObl) (by rfl) (by rfl) ?_
    refine WA.end rfl (by kernel_rfl) (noPan ?_)
    refine WP.cond (by rfl) (fun h => ?_) (fun h => WP.skip ?_)
    · cases h
    refine WP.ghost (gC [0, 1, 2, 3, 4, 5, 6] (leC (leC (leC (leC (leC (leC (leC leZ))))))) (l := [(0, .sl 0 0 len 1), (3, .p 1 [] 0), (4, .p 2 [] 0), (5, .sl 3 0 L.length 1), (6, .i .i64 0), (9, .p 4 [] 0), (11, .p 5 [] 0), (12, .sl 6 0 F 1), (13, .i .i64 0), (22, .i .i64 c2)]) (m' := [.ro len 1 (byF g), .var (ds_ N b w), .var (ds_ M b' w'), .ro L.length 1 (moF N L), .var (ds_ F bf wf), .var (ds_ K B W), .row 2 F 1 (nmF R)])) ?_
    exact hs
  · obtain ⟨hg1, hg2⟩ : desB ng bg wg = true ∧ desB nh bh wh = true := by unfold bothB at hbs; simpa using hbs
    obtain ⟨G, rfl, hDg⟩ := des_of_B hg1
    obtain ⟨H, rfl, hDh⟩ := des_of_B hg2
    rw [szT_B hbs] at hs1 hs2
    have hGl := hDg.le
    have hHl := hDh.le
    have hsm : (szR G H bg wg bh wh).sum = G * H := sz_sum hDg hDh
    have hsl : (szR G H bg wg bh wh).length ≤ 256 := by
      unfold szR
      rw [srtN_len]
      exact sz_len _ hHl hGl
    have hGH : G * H ≤ 16 * 16 := Nat.mul_le_mul hGl hHl
    have hm1 : (G : Int) * (H : Int) ≤ 256 := by exact_mod_cast hGH
    have hm0 : 0 ≤ (G : Int) * (H : Int) := Int.mul_nonneg (Int.natCast_nonneg _) (Int.natCast_nonneg _)
    have hli := likeInts_fn (szR G H bg wg bh wh).length (szR G H bg wg bh wh).length (fun t => (((szR G H bg wg bh wh).getD t 0 : Nat) : Int)) (fun t => (((szR G H bg wg bh wh).getD t 0 : Nat) : Int)) (by omega) (by omega)
    rw [likeB_same] at hli
    have hsu := sum_fn (szR G H bg wg bh wh) (by omega) (by omega)
    rw [hsm, Int.natCast_mul] at hsu
    generalize szR G H bg wg bh wh = l at *
    refine WP.rw ?_
    refine rU 2 ?_
    refine cN [] (t2 (.sl 9 0 l.length 1) (.i .i64 0)) (hs1) leZ (ren_t2 rfl ⟨rfl, trivial⟩) ?_
    refine rF ?_
    refine WP.seq ?_
    refine WP.rw ?_
    refine rU 2 ?_
    refine cN [] (t2 (.sl 10 0 l.length 1) (.i .i64 0)) (hs2) leZ (ren_t2 rfl ⟨rfl, trivial⟩) ?_
    refine rF ?_
    refine WP.rw ?_
    refine rU 6 ?_
    refine cR [9, 10] (hli) (leC (leC leZ)) ?_
    refine rF ?_
    refine WP.cond (by rfl) (fun h => ?_) (fun h => WP.skip ?_)
    · cases h
    refine WP.seq ?_
    refine WP.seq ?_
    refine WP.drawsQ (by kernel_rfl) (by kernel_rfl) ?_
    refine WQ.run T false 4 tok (by rfl) (by rfl) (by exact byObl) ?_
    refine WQ.callR [9] (hsu) (by rfl) (leC leZ) (by exact byArgs) (by rfl) (by rfl) (by simp [Sc, sc_pl, sc_ds]) (⟨trivial, trivial, trivial⟩) ?_
    refine WQ.run T false 6 tok (by rfl) (by rfl) (by exact byObl) ?_
    rw [decide_eq_true (rfl : (G : Int) * (H : Int) = (G : Int) * (H : Int))]
    refine WQ.fin T false tok (by rfl) (by rfl) (by exact byObl) ?_
    refine WP.cond (by rfl) (fun h => ?_) (fun h => WP.skip ?_)
    · cases h
    refine WP.ghost (gC [0, 1, 2, 3, 4, 5, 6] (leC (leC (leC (leC (leC (leC (leC leZ))))))) (l := [(0, .sl 0 0 len 1), (3, .p 1 [] 0), (4, .p 2 [] 0), (5, .sl 3 0 L.length 1), (6, .i .i64 0), (9, .p 4 [] 0), (11, .p 5 [] 0), (12, .sl 6 0 F 1), (13, .i .i64 0), (22, .i .i64 c2)]) (m' := [.ro len 1 (byF g), .var (ds_ N b w), .var (ds_ M b' w'), .ro L.length 1 (moF N L), .var (ds_ F bf wf), .var (ds_ K B W), .row 2 F 1 (nmF R)])) ?_
    exact hs
theorem leafB01 (len : Nat) (g : Nat → Nat) (hg : ∀ j, g j < 256) (hl2 : len ≤ 4096) (N M : Nat) (b w b' w' : Nat → Nat) (L : List (Nat → Int)) (hN16 : N ≤ 16) (hM16 : M ≤ 16) (hLl : L.length ≤ 16) (hcnt : ∀ i, i < L.length → ∀ z, z < M → ((cntO (L.getD i fun _ => 0) (z : Int) N : Nat) : Int) * (M : Int) = (N : Int)) (c : Int) (hc0 : c ≠ 0) (Fa Gb Kp : Nat) (ba wa bb wb Bp Wp : Nat → Nat) (hba : Bt 256 ba) (hwa : Bt 256 wa) (hbb : Bt 256 bb) (hwb : Bt 256 wb) (ha1 : desB Fa ba wa = true) (ha2 : desB Gb bb wb = true) (hp3 : desB Kp Bp Wp = true) (hKp : Kp ≤ 16) (hFa : Fa ≤ 16) (hGb : Gb ≤ 16) (hBp : ∀ i, Bp i < 256) (hWp : ∀ i, Wp i < 256) (hla : 0 < (morL Bp Wp ba wa Fa).length) (hlb : 0 < (morL Bp Wp bb wb Gb).length) (hla2 : (morL Bp Wp ba wa Fa).length ≤ Fa) (hlb2 : (morL Bp Wp bb wb Gb).length ≤ Gb) : ∀ d b0, Try.f3.body = some b0 → dropO 11 b0 = some d → WP Try.prog Try.f3.ntmps 1 d (DM.Ends T Try.f3.results.toList fun r' _ => r' = .b true ∧ Sc 0 (.b true)) ⟨lst [(0, .sl 0 0 len 1), (3, .p 1 [] 0), (4, .p 2 [] 0), (5, .sl 3 0 L.length 1), (6, .i .i64 0), (13, .i .i64 c), (17, .p 4 [] 0), (18, .p 5 [] 0), (21, .p 6 [] 0), (22, .i .i64 0)], [.ro len 1 (byF g), .var (ds_ N b w), .var (ds_ M b' w'), .ro L.length 1 (moF N L), .var (ds_ Fa ba wa), .var (ds_ Gb bb wb), .var (ds_ Kp Bp Wp)]⟩ := by
  intro d b0 hb0 hd0
  injection hb0 with hb0
  subst hb0
  injection hd0 with hd0
  subst hd0
  have hdS := drawTwo_S len g hg (by omega)
  refine WP.share 4 ⟨lst [(0, .sl 0 0 len 1), (3, .p 1 [] 0), (4, .p 2 [] 0), (5, .sl 3 0 L.length 1), (6, .i .i64 0), (13, .i .i64 c), (17, .p 4 [] 0), (18, .p 5 [] 0), (21, .p 6 [] 0), (22, .i .i64 0)], [.ro len 1 (byF g), .var (ds_ N b w), .var (ds_ M b' w'), .ro L.length 1 (moF N L), .var (ds_ Fa ba wa), .var (ds_ Gb bb wb), .var (ds_ Kp Bp Wp)]⟩ (by rfl) ?_ (fun hs => ?_)
  · refine WP.seq ?_
    refine rS ?_
    refine WP.cond (by rfl) (fun h => ?_) (fun h => WP.skip ?_)
    · exact absurd (of_decide_eq_true h) hc0
    have hma := implMors_fn Kp Fa Bp Wp ba wa hBp hWp hba.lt hwa.lt
    have hmb := implMors_fn Kp Gb Bp Wp bb wb hBp hWp hbb.lt hwb.lt
    rw [mors_B (both_true hp3 ha1)] at hma
    rw [mors_B (both_true hp3 ha2)] at hmb
    generalize morL Bp Wp ba wa Fa = LA at *
    generalize morL Bp Wp bb wb Gb = LB at *
    refine WP.seq ?_
    refine rS ?_
    refine WP.cond (by rfl) (fun h => ?_) (fun h => ?_)
    case refine_2 => cases h
    refine WP.rw ?_
    refine rU 2 ?_
    refine cN [] (t2 (.sl 7 0 LA.length 1) (.i .i64 0)) (hma) leZ (ren_t2 rfl ⟨rfl, trivial⟩) ?_
    refine rF ?_
    refine WP.rw ?_
    refine rU 2 ?_
    refine cN [] (t2 (.sl 8 0 LB.length 1) (.i .i64 0)) (hmb) leZ (ren_t2 rfl ⟨rfl, trivial⟩) ?_
    refine rF ?_
    refine WP.rw ?_
    refine rU 10 ?_
    rw [decide_eq_false (by omega : ¬ ((LA.length : Nat) : Int) = 0)]
    refine rU 5 ?_
    rw [decide_eq_false (by omega : ¬ ((LB.length : Nat) : Int) = 0)]
    refine rF ?_
    refine WP.cond (by rfl) (fun h => ?_) (fun h => WP.skip ?_)
    · cases h
    refine WP.ghost (gC [0, 1, 2, 3] (leC (leC (leC (leC leZ)))) (l := [(0, .sl 0 0 len 1), (3, .p 1 [] 0), (4, .p 2 [] 0), (5, .sl 3 0 L.length 1), (6, .i .i64 0)]) (m' := [.ro len 1 (byF g), .var (ds_ N b w), .var (ds_ M b' w'), .ro L.length 1 (moF N L)])) ?_
    exact restB len g hg hl2 N M b w b' w' L hN16 hM16 hLl hcnt _ _ rfl rfl
  refine WP.rw ?_
  refine rU 1 ?_
  refine WPL.callE [0] (hdS) (leC leZ) (by rfl) (by rfl) (by exact byArgs) (by rfl) (by rfl) (by simp [Sc, sc_pl, sc_ds]) ?_
  rintro _ _ ⟨ng, bg, wg, nh, bh, wh, rfl, ⟨_, _, hbg, hwg⟩, ⟨_, _, hbh, hwh⟩, rfl⟩
  refine ⟨⟨fun d hd => by cases hd; exact fun _ _ => trivial, trivial⟩, t2 (ds_ ng bg wg) (ds_ nh bh wh), ren_t2 ⟨rfl, sc_ds _ _ _ _⟩ ⟨rfl, sc_ds _ _ _ _⟩, sc_t2 (sc_ds _ _ _ _) (sc_ds _ _ _ _), ?_⟩
  refine WPL.mem (by rfl) ?_
  refine rF ?_
  have hs1 := implProductSizes_fn ng bg wg nh bh wh hbg.lt hwg.lt hbh.lt hwh.lt
  have hs2 := specProductSizes_fn ng bg wg nh bh wh hbg.lt hwg.lt hbh.lt hwh.lt
  cases hbs : bothB ng bg wg nh bh wh
  · rw [szT_A hbs] at hs1 hs2
    refine WP.rw ?_
    refine rU 2 ?_
    refine cN [] (t2 .ns (.i .i64 1)) (hs1) leZ (ren_t2 ⟨rfl, trivial⟩ ⟨rfl, trivial⟩) ?_
    refine rF ?_
    refine WP.seq ?_
    refine WP.rw ?_
    refine rU 2 ?_
    refine cN [] (t2 .ns (.i .i64 1)) (hs2) leZ (ren_t2 ⟨rfl, trivial⟩ ⟨rfl, trivial⟩) ?_
    refine rF ?_
    refine WP.rw ?_
    refine rU 6 ?_
    refine cA (likeInts_nil) ?_
    refine rF ?_
    refine WP.cond (by rfl) (fun h => ?_) (fun h => WP.skip ?_)
    · cases h
    refine WP.seq ?_
    refine WP.seq ?_
    refine WP.da (by kernel_rfl) 12 (by kernel_rfl) ?_
    refine WA.takesD T false tok [0, 1, 2] (f' := 9) (by kernel_rfl) (by rfl) (by rfl) (by exact byObl) (by rfl) (by rfl) ?_
    refine WA.skipU 3 (by rfl) (by kernel_rfl) (by kernel_rfl) (by rfl) (by rfl) ?_
    refine WA.skipU 4 (by rfl) (by kernel_rfl) (by kernel_rfl) (by rfl) (by rfl) ?_
    refine WA.skipU 5 (by rfl) (by kernel_rfl) (by kernel_rfl) (by rfl) (by rfl) ?_
    refine WA.skipU 6 (by rfl) (by kernel_rfl) (by kernel_rfl) (by rfl) (by rfl) ?_
    refine WA.skipU 7 (by rfl) (by kernel_rfl) (by kernel_rfl) (by rfl) (by rfl) ?_
    refine WA.skipU 8 (by rfl) (by kernel_rfl) (by kernel_rfl) (by rfl) (by rfl) ?_
    refine WA.skipU 9 (by rfl) (by kernel_rfl) (by kernel_rfl) (by rfl) (by rfl) ?_
    refine WA.skipU 10 (by rfl) (by kernel_rfl) (by kernel_rfl) (by rfl) (by rfl) ?_
    refine WA.takesD T false tok [11] (f' := 0) (by kernel_rfl) (by rfl) (by rfl) (by exact byObl) (by rfl) (by rfl) ?_
    refine WA.end rfl (by kernel_rfl) (noPan ?_)
    refine WP.cond (by rfl) (fun h => ?_) (fun h => WP.skip ?_)
    · cases h
    refine WP.ghost (gC [0, 1, 2, 3, 4, 5, 6] (leC (leC (leC (leC (leC (leC (leC leZ))))))) (l := [(0, .sl 0 0 len 1), (3, .p 1 [] 0), (4, .p 2 [] 0), (5, .sl 3 0 L.length 1), (6, .i .i64 0), (13, .i .i64 c), (17, .p 4 [] 0), (18, .p 5 [] 0), (21, .p 6 [] 0), (22, .i .i64 0)]) (m' := [.ro len 1 (byF g), .var (ds_ N b w), .var (ds_ M b' w'), .ro L.length 1 (moF N L), .var (ds_ Fa ba wa), .var (ds_ Gb bb wb), .var (ds_ Kp Bp Wp)])) ?_
    exact hs
  · obtain ⟨hg1, hg2⟩ : desB ng bg wg = true ∧ desB nh bh wh = true := by unfold bothB at hbs; simpa using hbs
    obtain ⟨G, rfl, hDg⟩ := des_of_B hg1
    obtain ⟨H, rfl, hDh⟩ := des_of_B hg2
    rw [szT_B hbs] at hs1 hs2
    have hGl := hDg.le
    have hHl := hDh.le
    have hsm : (szR G H bg wg bh wh).sum = G * H := sz_sum hDg hDh
    have hsl : (szR G H bg wg bh wh).length ≤ 256 := by
      unfold szR
      rw [srtN_len]
      exact sz_len _ hHl hGl
    have hGH : G * H ≤ 16 * 16 := Nat.mul_le_mul hGl hHl
    have hm1 : (G : Int) * (H : Int) ≤ 256 := by exact_mod_cast hGH
    have hm0 : 0 ≤ (G : Int) * (H : Int) := Int.mul_nonneg (Int.natCast_nonneg _) (Int.natCast_nonneg _)
    have hli := likeInts_fn (szR G H bg wg bh wh).length (szR G H bg wg bh wh).length (fun t => (((szR G H bg wg bh wh).getD t 0 : Nat) : Int)) (fun t => (((szR G H bg wg bh wh).getD t 0 : Nat) : Int)) (by omega) (by omega)
    rw [likeB_same] at hli
    have hsu := sum_fn (szR G H bg wg bh wh) (by omega) (by omega)
    rw [hsm, Int.natCast_mul] at hsu
    generalize szR G H bg wg bh wh = l at *
    refine WP.rw ?_
    refine rU 2 ?_
    refine cN [] (t2 (.sl 9 0 l.length 1) (.i .i64 0)) (hs1) leZ (ren_t2 rfl ⟨rfl, trivial⟩) ?_
    refine rF ?_
    refine WP.seq ?_
    refine WP.rw ?_
    refine rU 2 ?_
    refine cN [] (t2 (.sl 10 0 l.length 1) (.i .i64 0)) (hs2) leZ (ren_t2 rfl ⟨rfl, trivial⟩) ?_
    refine rF ?_
    refine WP.rw ?_
    refine rU 6 ?_
    refine cR [9, 10] (hli) (leC (leC leZ)) ?_
    refine rF ?_
    refine WP.cond (by rfl) (fun h => ?_) (fun h => WP.skip ?_)
    · cases h
    refine WP.seq ?_
    refine WP.seq ?_
    refine WP.drawsQ (by kernel_rfl) (by kernel_rfl) ?_
    refine WQ.run T false 4 tok (by rfl) (by rfl) (by exact byObl) ?_
    refine WQ.callR [9] (hsu) (by rfl) (leC leZ) (by exact byArgs) (by rfl) (by rfl) (by simp [Sc, sc_pl, sc_ds]) (⟨trivial, trivial, trivial⟩) ?_
    refine WQ.run T false 6 tok (by rfl) (by rfl) (by exact byObl) ?_
    rw [decide_eq_true (rfl : (G : Int) * (H : Int) = (G : Int) * (H : Int))]
    refine WQ.fin T false tok (by rfl) (by rfl) (by exact byObl) ?_
    refine WP.cond (by rfl) (fun h => ?_) (fun h => WP.skip ?_)
    · cases h
    refine WP.ghost (gC [0, 1, 2, 3, 4, 5, 6] (leC (leC (leC (leC (leC (leC (leC leZ))))))) (l := [(0, .sl 0 0 len 1), (3, .p 1 [] 0), (4, .p 2 [] 0), (5, .sl 3 0 L.length 1), (6, .i .i64 0), (13, .i .i64 c), (17, .p 4 [] 0), (18, .p 5 [] 0), (21, .p 6 [] 0), (22, .i .i64 0)]) (m' := [.ro len 1 (byF g), .var (ds_ N b w), .var (ds_ M b' w'), .ro L.length 1 (moF N L), .var (ds_ Fa ba wa), .var (ds_ Gb bb wb), .var (ds_ Kp Bp Wp)])) ?_
    exact hs
theorem leafB00 (len : Nat) (g : Nat → Nat) (hg : ∀ j, g j < 256) (hl2 : len ≤ 4096) (N M : Nat) (b w b' w' : Nat → Nat) (L : List (Nat → Int)) (hN16 : N ≤ 16) (hM16 : M ≤ 16) (hLl : L.length ≤ 16) (hcnt : ∀ i, i < L.length → ∀ z, z < M → ((cntO (L.getD i fun _ => 0) (z : Int) N : Nat) : Int) * (M : Int) = (N : Int)) (c : Int) (hc0 : c ≠ 0) (c2 : Int) (hc2 : c2 ≠ 0) : ∀ d b0, Try.f3.body = some b0 → dropO 11 b0 = some d → WP Try.prog Try.f3.ntmps 1 d (DM.Ends T Try.f3.results.toList fun r' _ => r' = .b true ∧ Sc 0 (.b true)) ⟨lst [(0, .sl 0 0 len 1), (3, .p 1 [] 0), (4, .p 2 [] 0), (5, .sl 3 0 L.length 1), (6, .i .i64 0), (13, .i .i64 c), (22, .i .i64 c2)], [.ro len 1 (byF g), .var (ds_ N b w), .var (ds_ M b' w'), .ro L.length 1 (moF N L)]⟩ := by
  intro d b0 hb0 hd0
  injection hb0 with hb0
  subst hb0
  injection hd0 with hd0
  subst hd0
  have hdS := drawTwo_S len g hg (by omega)
  refine WP.share 4 ⟨lst [(0, .sl 0 0 len 1), (3, .p 1 [] 0), (4, .p 2 [] 0), (5, .sl 3 0 L.length 1), (6, .i .i64 0), (13, .i .i64 c), (22, .i .i64 c2)], [.ro len 1 (byF g), .var (ds_ N b w), .var (ds_ M b' w'), .ro L.length 1 (moF N L)]⟩ (by rfl) ?_ (fun hs => ?_)
  · refine WP.seq ?_
    refine rS ?_
    refine WP.cond (by rfl) (fun h => ?_) (fun h => WP.skip ?_)
    · exact absurd (of_decide_eq_true h) hc0
    refine WP.seq ?_
    refine rS ?_
    refine WP.cond (by rfl) (fun h => ?_) (fun h => WP.skip ?_)
    · exact absurd (of_decide_eq_true h) hc2
    refine WP.ghost (gC [0, 1, 2, 3] (leC (leC (leC (leC leZ)))) (l := [(0, .sl 0 0 len 1), (3, .p 1 [] 0), (4, .p 2 [] 0), (5, .sl 3 0 L.length 1), (6, .i .i64 0)]) (m' := [.ro len 1 (byF g), .var (ds_ N b w), .var (ds_ M b' w'), .ro L.length 1 (moF N L)])) ?_
    exact restB len g hg hl2 N M b w b' w' L hN16 hM16 hLl hcnt _ _ rfl rfl
  refine WP.rw ?_
  refine rU 1 ?_
  refine WPL.callE [0] (hdS) (leC leZ) (by rfl) (by rfl) (by exact byArgs) (by rfl) (by rfl) (by simp [Sc, sc_pl, sc_ds]) ?_
  rintro _ _ ⟨ng, bg, wg, nh, bh, wh, rfl, ⟨_, _, hbg, hwg⟩, ⟨_, _, hbh, hwh⟩, rfl⟩
  refine ⟨⟨fun d hd => by cases hd; exact fun _ _ => trivial, trivial⟩, t2 (ds_ ng bg wg) (ds_ nh bh wh), ren_t2 ⟨rfl, sc_ds _ _ _ _⟩ ⟨rfl, sc_ds _ _ _ _⟩, sc_t2 (sc_ds _ _ _ _) (sc_ds _ _ _ _), ?_⟩
  refine WPL.mem (by rfl) ?_
  refine rF ?_
  have hs1 := implProductSizes_fn ng bg wg nh bh wh hbg.lt hwg.lt hbh.lt hwh.lt
  have hs2 := specProductSizes_fn ng bg wg nh bh wh hbg.lt hwg.lt hbh.lt hwh.lt
  cases hbs : bothB ng bg wg nh bh wh
  · rw [szT_A hbs] at hs1 hs2
    refine WP.rw ?_
    refine rU 2 ?_
    refine cN [] (t2 .ns (.i .i64 1)) (hs1) leZ (ren_t2 ⟨rfl, trivial⟩ ⟨rfl, trivial⟩) ?_
    refine rF ?_
    refine WP.seq ?_
    refine WP.rw ?_
    refine rU 2 ?_
    refine cN [] (t2 .ns (.i .i64 1)) (hs2) leZ (ren_t2 ⟨rfl, trivial⟩ ⟨rfl, trivial⟩) ?_
    refine rF ?_
    refine WP.rw ?_
    refine rU 6 ?_
    refine cA (likeInts_nil) ?_
    refine rF ?_
    refine WP.cond (by rfl) (fun h => ?_) (fun h => WP.skip ?_)
    · cases h
    refine WP.seq ?_
    refine WP.seq ?_
    refine WP.da (by kernel_rfl) 12 (by kernel_rfl) ?_
    refine WA.takesD T false tok [0, 1, 2] (f' := 9) (by kernel_rfl) (by rfl) (by rfl) (by exact byObl) (by rfl) (by rfl) ?_
    refine WA.skipU 3 (by rfl) (by kernel_rfl) (by kernel_rfl) (by rfl) (by rfl) ?_
    refine WA.skipU 4 (by rfl) (by kernel_rfl) (by kernel_rfl) (by rfl) (by rfl) ?_
    refine WA.skipU 5 (by rfl) (by kernel_rfl) (by kernel_rfl) (by rfl) (by rfl) ?_
    refine WA.skipU 6 (by rfl) (by kernel_rfl) (by kernel_rfl) (by rfl) (by rfl) ?_
    refine WA.skipU 7 (by rfl) (by kernel_rfl) (by kernel_rfl) (by rfl) (by rfl) ?_
    refine WA.skipU 8 (by rfl) (by kernel_rfl) (by kernel_rfl) (by rfl) (by rfl) ?_
    refine WA.skipU 9 (by rfl) (by kernel_rfl) (by kernel_rfl) (by rfl) (by rfl) ?_
    refine WA.skipU 10 (by rfl) (by kernel_rfl) (by kernel_rfl) (by rfl) (by rfl) ?_
    refine WA.takesD T false tok [11] (f' := 0) (by kernel_rfl) (by rfl) (by rfl) (by exact byObl) (by rfl) (by rfl) ?_
    refine WA.end rfl (by kernel_rfl) (noPan ?_)
    refine WP.cond (by rfl) (fun h => ?_) (fun h => WP.skip ?_)
    · cases h
    refine WP.ghost (gC [0, 1, 2, 3] (leC (leC (leC (leC leZ)))) (l := [(0, .sl 0 0 len 1), (3, .p 1 [] 0), (4, .p 2 [] 0), (5, .sl 3 0 L.length 1), (6, .i .i64 0), (13, .i .i64 c), (22, .i .i64 c2)]) (m' := [.ro len 1 (byF g), .var (ds_ N b w), .var (ds_ M b' w'), .ro L.length 1 (moF N L)])) ?_
    exact hs
  · obtain ⟨hg1, hg2⟩ : desB ng bg wg = true ∧ desB nh bh wh = true := by unfold bothB at hbs; simpa using hbs
    obtain ⟨G, rfl, hDg⟩ := des_of_B hg1
    obtain ⟨H, rfl, hDh⟩ := des_of_B hg2
    rw [szT_B hbs] at hs1 hs2
    have hGl := hDg.le
    have hHl := hDh.le
    have hsm : (szR G H bg wg bh wh).sum = G * H := sz_sum hDg hDh
    have hsl : (szR G H bg wg bh wh).length ≤ 256 := by
      unfold szR
      rw [srtN_len]
      exact sz_len _ hHl hGl
    have hGH : G * H ≤ 16 * 16 := Nat.mul_le_mul hGl hHl
    have hm1 : (G : Int) * (H : Int) ≤ 256 := by exact_mod_cast hGH
    have hm0 : 0 ≤ (G : Int) * (H : Int) := Int.mul_nonneg (Int.natCast_nonneg _) (Int.natCast_nonneg _)
    have hli := likeInts_fn (szR G H bg wg bh wh).length (szR G H bg wg bh wh).length (fun t => (((szR G H bg wg bh wh).getD t 0 : Nat) : Int)) (fun t => (((szR G H bg wg bh wh).getD t 0 : Nat) : Int)) (by omega) (by omega)
    rw [likeB_same] at hli
    have hsu := sum_fn (szR G H bg wg bh wh) (by omega) (by omega)
    rw [hsm, Int.natCast_mul] at hsu
    generalize szR G H bg wg bh wh = l at *
    refine WP.rw ?_
    refine rU 2 ?_
    refine cN [] (t2 (.sl 6 0 l.length 1) (.i .i64 0)) (hs1) leZ (ren_t2 rfl ⟨rfl, trivial⟩) ?_
    refine rF ?_
    refine WP.seq ?_
    refine WP.rw ?_
    refine rU 2 ?_
    refine cN [] (t2 (.sl 7 0 l.length 1) (.i .i64 0)) (hs2) leZ (ren_t2 rfl ⟨rfl, trivial⟩) ?_
    refine rF ?_
    refine WP.rw ?_
    refine rU 6 ?_
    refine cR [6, 7] (hli) (leC (leC leZ)) ?_
    refine rF ?_
    refine WP.cond (by rfl) (fun h => ?_) (fun h => WP.skip ?_)
    · cases h
    refine WP.seq ?_
    refine WP.seq ?_
    refine WP.drawsQ (by kernel_rfl) (by kernel_rfl) ?_
    refine WQ.run T false 4 tok (by rfl) (by rfl) (by exact byObl) ?_
    refine WQ.callR [6] (hsu) (by rfl) (leC leZ) (by exact byArgs) (by rfl) (by rfl) (by simp [Sc, sc_pl, sc_ds]) (⟨trivial, trivial, trivial⟩) ?_
    refine WQ.run T false 6 tok (by rfl) (by rfl) (by exact byObl) ?_
    rw [decide_eq_true (rfl : (G : Int) * (H : Int) = (G : Int) * (H : Int))]
    refine WQ.fin T false tok (by rfl) (by rfl) (by exact byObl) ?_
    refine WP.cond (by rfl) (fun h => ?_) (fun h => WP.skip ?_)
    · cases h
    refine WP.ghost (gC [0, 1, 2, 3] (leC (leC (leC (leC leZ)))) (l := [(0, .sl 0 0 len 1), (3, .p 1 [] 0), (4, .p 2 [] 0), (5, .sl 3 0 L.length 1), (6, .i .i64 0), (13, .i .i64 c), (22, .i .i64 c2)]) (m' := [.ro len 1 (byF g), .var (ds_ N b w), .var (ds_ M b' w'), .ro L.length 1 (moF N L)])) ?_
    exact hs
theorem law_Morphisms (len : Nat) (g : Nat → Nat) (hg : ∀ j, g j < 256) (hl : len ≤ 9223372036854775807) : FnR Try.prog 3 [.sl 0 0 len 1] [.ro len 1 (byF g)] (.b true) := by
  have hbig := big_fn len (byF g) hl
  by_cases hb : 4096 < len
  · rw [decide_eq_true (by omega : (4096 : Int) < (len : Int))] at hbig
    refine FnS.into T tok Try.func3 (by rfl) rfl rfl rfl (by simp) ?_
    refine rS ?_
    refine WP.seq ?_
    refine WP.rw ?_
    refine rU 1 ?_
    refine cR [0] (hbig) (leC leZ) ?_
    refine rF ?_
    refine WP.cond (by rfl) (fun h => ?_) (fun h => WP.skip ?_)
    · refine rS ?_
      exact WP.ret (Ends.val (by rfl) (by exact byObl) (by rfl) (by trivial))
    · cases h
  rw [decide_eq_false (by omega : ¬ (4096 : Int) < (len : Int))] at hbig
  have hl2 : len ≤ 4096 := by omega
  have hdM := drawTwo_M len g hg (by omega)
  have hdQ := drawQ len g hg (by omega)
  have hdP := drawP len g hg (by omega)
  have hdS := drawTwo_S len g hg (by omega)
  refine FnS.into T tok Try.func3 (by rfl) rfl rfl rfl (by simp) ?_
  refine rS ?_
  refine WP.seq ?_
  refine WP.rw ?_
  refine rU 1 ?_
  refine cR [0] (hbig) (leC leZ) ?_
  refine rF ?_
  refine WP.cond (by rfl) (fun h => ?_) (fun h => WP.skip ?_)
  · cases h
  refine WP.rw ?_
  refine rU 1 ?_
  refine WPL.callE [0] (hdM) (leC leZ) (by rfl) (by rfl) (by exact byArgs) (by rfl) (by rfl) (by simp [Sc, sc_pl, sc_ds]) ?_
  rintro _ _ ⟨n, b, w, n', b', w', rfl, ⟨_, _, hb, hw⟩, ⟨_, _, hb', hw'⟩, rfl⟩
  refine ⟨⟨fun d hd => by cases hd; exact fun _ _ => trivial, trivial⟩, t2 (ds_ n b w) (ds_ n' b' w'), ren_t2 ⟨rfl, sc_ds _ _ _ _⟩ ⟨rfl, sc_ds _ _ _ _⟩, sc_t2 (sc_ds _ _ _ _) (sc_ds _ _ _ _), ?_⟩
  refine WPL.mem (by rfl) ?_
  refine rF ?_
  have hi1 := implMors_fn n n' b w b' w' hb.lt hw.lt hb'.lt hw'.lt
  have hi2 := specMors_fn n n' b w b' w' hb.lt hw.lt hb'.lt hw'.lt
  cases hbo : bothB n b w n' b' w'
  · rw [mors_A hbo] at hi1 hi2
    refine WP.rw ?_
    refine rU 2 ?_
    refine cN [] (t2 .ns (.i .i64 1)) (hi1) leZ (ren_t2 ⟨rfl, trivial⟩ ⟨rfl, trivial⟩) ?_
    refine rF ?_
    refine WP.seq ?_
    refine WP.rw ?_
    refine rU 2 ?_
    refine cN [] (t2 .ns (.i .i64 1)) (hi2) leZ (ren_t2 ⟨rfl, trivial⟩ ⟨rfl, trivial⟩) ?_
    refine rF ?_
    refine WP.rw ?_
    refine rU 6 ?_
    refine cA (lists9_nil) ?_
    refine rF ?_
    refine WP.cond (by rfl) (fun h => ?_) (fun h => WP.skip ?_)
    · cases h
    refine WP.ghost (gC [0] (leC leZ) (l := [(0, .sl 0 0 len 1), (5, .ns), (6, .i .i64 1)]) (m' := [.ro len 1 (byF g)])) ?_
    refine WP.rw ?_
    refine rU 1 ?_
    refine WPL.callE [0] (hdQ) (leC leZ) (by rfl) (by rfl) (by exact byArgs) (by rfl) (by rfl) (by simp [Sc, sc_pl, sc_ds]) ?_
    rintro _ _ ⟨nf, bf, wf, pf, rfl, ⟨_, _, hbf, hwf⟩, hpf, rfl⟩
    refine ⟨⟨fun d hd => by cases hd; exact fun _ _ => trivial, trivial⟩, t2 (ds_ nf bf wf) (pl pf), ren_t2 ⟨rfl, sc_ds _ _ _ _⟩ ⟨rfl, sc_pl _ _⟩, sc_t2 (sc_ds _ _ _ _) (sc_pl _ _), ?_⟩
    refine WPL.mem (by rfl) ?_
    refine rF ?_
    have hq1 := implQuotient_fn nf bf wf pf hbf.lt hwf.lt hpf.lt
    have hq2 := specQuotient_fn nf bf wf pf hbf.lt hwf.lt hpf.lt
    rcases qu_cases (n := nf) (p := pf) hbf hwf with ⟨F, K, B, W, R, i0, rfl, eq, hf1, hf2, hF1, hF16, hK1, hK16, hB, hW, hdv, hi0, hLK, hLi⟩ | ⟨c, hc0, eq⟩ <;> rw [eq] at hq1 hq2
    · refine WP.rw ?_
      refine rU 2 ?_
      refine cN [] (t3 (ds_ K B W) (.sl 3 0 F 1) (.i .i64 0)) (hq1) leZ (ren_t3 ⟨rfl, sc_ds _ _ _ _⟩ rfl ⟨rfl, trivial⟩) ?_
      refine rF ?_
      refine WP.seq ?_
      refine WP.rw ?_
      refine rU 2 ?_
      refine cN [] (t3 (ds_ K B W) (.sl 5 0 F 1) (.i .i64 0)) (hq2) leZ (ren_t3 ⟨rfl, sc_ds _ _ _ _⟩ rfl ⟨rfl, trivial⟩) ?_
      refine rF ?_
      have hli := likeInts_fn F F (fun t => ((R t : Nat) : Int)) (fun t => ((R t : Nat) : Int)) (by omega) (by omega)
      rw [likeB_same] at hli
      refine WP.rw ?_
      refine rU 6 ?_
      refine WPL.op (by rfl) (by rfl) (QOK.op (ok_eq tok rfl (eqd_same _ _ _))) ?_
      refine rU 4 ?_
      refine cR [3, 5] (hli) (leC (leC leZ)) ?_
      refine rF ?_
      refine WP.cond (by rfl) (fun h => ?_) (fun h => WP.skip ?_)
      · cases h
      refine WP.ghost (gC [0, 1, 4, 3] (leC (leC (leC (leC leZ)))) (l := [(0, .sl 0 0 len 1), (5, .ns), (6, .i .i64 1), (9, .p 1 [] 0), (11, .p 2 [] 0), (12, .sl 3 0 F 1), (13, .i .i64 0)]) (m' := [.ro len 1 (byF g), .var (ds_ F bf wf), .var (ds_ K B W), .row 2 F 1 (nmF R)])) ?_
      refine WP.rw ?_
      refine rU 1 ?_
      refine WPL.callE [0] (hdP) (leC leZ) (by rfl) (by rfl) (by exact byArgs) (by rfl) (by rfl) (by simp [Sc, sc_pl, sc_ds]) ?_
      rintro _ _ ⟨na, ba, wa, nb, bb, wb, x, y, rfl, ⟨_, _, hba, hwa⟩, ⟨_, _, hbb, hwb⟩, rfl⟩
      refine ⟨⟨fun d hd => by cases hd; exact fun _ _ => trivial, trivial⟩, t4 (ds_ na ba wa) (ds_ nb bb wb) (.i .i64 x) (.i .i64 y), ren_t4 ⟨rfl, sc_ds _ _ _ _⟩ ⟨rfl, sc_ds _ _ _ _⟩ ⟨rfl, trivial⟩ ⟨rfl, trivial⟩, sc_t4 (sc_ds _ _ _ _) (sc_ds _ _ _ _) trivial trivial, ?_⟩
      refine WPL.mem (by rfl) ?_
      refine rF ?_
      have hp1 := implProductAt_fn na ba wa nb bb wb x y hba.lt hwa.lt hbb.lt hwb.lt
      have hp2 := specProductAt_fn na ba wa nb bb wb x y hba.lt hwa.lt hbb.lt hwb.lt
      rcases pa_cases (n := na) (n' := nb) (x := x) (y := y) hba hwa hbb hwb with ⟨Fa, Gb, Kp, Bp, Wp, rfl, rfl, ep, ha1, ha2, hp3, hKp, hFa, hGb, hBp, hWp, hla, hlb, hla2, hlb2⟩ | ⟨c2, hc2, ep⟩ <;> rw [ep] at hp1 hp2
      · refine WP.rw ?_
        refine rU 4 ?_
        refine cA (hp1) ?_
        refine rF ?_
        refine WP.seq ?_
        refine WP.rw ?_
        refine rU 4 ?_
        refine cA (hp2) ?_
        refine rF ?_
        refine WP.rw ?_
        refine rU 6 ?_
        refine WPL.op (by rfl) (by rfl) (QOK.op (ok_eq tok rfl (eqd_same _ _ _))) ?_
        refine rF ?_
        refine WP.cond (by rfl) (fun h => ?_) (fun h => WP.skip ?_)
        · cases h
        refine WP.ghost (gC [0, 1, 2, 3, 4, 5, 6] (leC (leC (leC (leC (leC (leC (leC leZ))))))) (l := [(0, .sl 0 0 len 1), (5, .ns), (6, .i .i64 1), (9, .p 1 [] 0), (11, .p 2 [] 0), (12, .sl 3 0 F 1), (13, .i .i64 0), (17, .p 4 [] 0), (18, .p 5 [] 0), (21, .p 6 [] 0), (22, .i .i64 0)]) (m' := [.ro len 1 (byF g), .var (ds_ F bf wf), .var (ds_ K B W), .row 2 F 1 (nmF R), .var (ds_ Fa ba wa), .var (ds_ Gb bb wb), .var (ds_ Kp Bp Wp)])) ?_
        exact leafA11 len g hg hl2  F K bf wf B W R i0 hbf hwf hf1 hf2 hF1 hF16 hK1 hK16 hB hW hdv hi0 hLK hLi Fa Gb Kp ba wa bb wb Bp Wp hba hwa hbb hwb ha1 ha2 hp3 hKp hFa hGb hBp hWp hla hlb hla2 hlb2 _ _ rfl rfl
      · refine WP.rw ?_
        refine rU 4 ?_
        refine cA (hp1) ?_
        refine rF ?_
        refine WP.seq ?_
        refine WP.rw ?_
        refine rU 4 ?_
        refine cA (hp2) ?_
        refine rF ?_
        refine WP.rw ?_
        refine rU 3 ?_
        rw [decide_eq_true (rfl : c2 = c2)]
        refine rU 3 ?_
        refine WPL.op (by rfl) (by rfl) (QOK.op (ok_eq tok rfl (eqd_same _ _ _))) ?_
        refine rF ?_
        refine WP.cond (by rfl) (fun h => ?_) (fun h => WP.skip ?_)
        · cases h
        refine WP.ghost (gC [0, 1, 2, 3] (leC (leC (leC (leC leZ)))) (l := [(0, .sl 0 0 len 1), (5, .ns), (6, .i .i64 1), (9, .p 1 [] 0), (11, .p 2 [] 0), (12, .sl 3 0 F 1), (13, .i .i64 0), (22, .i .i64 c2)]) (m' := [.ro len 1 (byF g), .var (ds_ F bf wf), .var (ds_ K B W), .row 2 F 1 (nmF R)])) ?_
        exact leafA10 len g hg hl2  F K bf wf B W R i0 hbf hwf hf1 hf2 hF1 hF16 hK1 hK16 hB hW hdv hi0 hLK hLi c2 hc2 _ _ rfl rfl
    · refine WP.rw ?_
      refine rU 2 ?_
      refine cN [] (t3 (ds_ 0 (fun _ => 0) (fun _ => 0)) .ns (.i .i64 c)) (hq1) leZ (ren_t3 ⟨rfl, sc_ds _ _ _ _⟩ ⟨rfl, trivial⟩ ⟨rfl, trivial⟩) ?_
      refine rF ?_
      refine WP.seq ?_
      refine WP.rw ?_
      refine rU 2 ?_
      refine cN [] (t3 (ds_ 0 (fun _ => 0) (fun _ => 0)) .ns (.i .i64 c)) (hq2) leZ (ren_t3 ⟨rfl, sc_ds _ _ _ _⟩ ⟨rfl, trivial⟩ ⟨rfl, trivial⟩) ?_
      refine rF ?_
      refine WP.rw ?_
      refine rU 3 ?_
      rw [decide_eq_true (rfl : c = c)]
      refine rU 3 ?_
      refine WPL.op (by rfl) (by rfl) (QOK.op (ok_eq tok rfl (eqd_same _ _ _))) ?_
      refine rU 4 ?_
      refine cA (likeInts_nil) ?_
      refine rF ?_
      refine WP.cond (by rfl) (fun h => ?_) (fun h => WP.skip ?_)
      · cases h
      refine WP.ghost (gC [0] (leC leZ) (l := [(0, .sl 0 0 len 1), (5, .ns), (6, .i .i64 1), (13, .i .i64 c)]) (m' := [.ro len 1 (byF g)])) ?_
      refine WP.rw ?_
      refine rU 1 ?_
      refine WPL.callE [0] (hdP) (leC leZ) (by rfl) (by rfl) (by exact byArgs) (by rfl) (by rfl) (by simp [Sc, sc_pl, sc_ds]) ?_
      rintro _ _ ⟨na, ba, wa, nb, bb, wb, x, y, rfl, ⟨_, _, hba, hwa⟩, ⟨_, _, hbb, hwb⟩, rfl⟩
      refine ⟨⟨fun d hd => by cases hd; exact fun _ _ => trivial, trivial⟩, t4 (ds_ na ba wa) (ds_ nb bb wb) (.i .i64 x) (.i .i64 y), ren_t4 ⟨rfl, sc_ds _ _ _ _⟩ ⟨rfl, sc_ds _ _ _ _⟩ ⟨rfl, trivial⟩ ⟨rfl, trivial⟩, sc_t4 (sc_ds _ _ _ _) (sc_ds _ _ _ _) trivial trivial, ?_⟩
      refine WPL.mem (by rfl) ?_
      refine rF ?_
      have hp1 := implProductAt_fn na ba wa nb bb wb x y hba.lt hwa.lt hbb.lt hwb.lt
      have hp2 := specProductAt_fn na ba wa nb bb wb x y hba.lt hwa.lt hbb.lt hwb.lt
      rcases pa_cases (n := na) (n' := nb) (x := x) (y := y) hba hwa hbb hwb with ⟨Fa, Gb, Kp, Bp, Wp, rfl, rfl, ep, ha1, ha2, hp3, hKp, hFa, hGb, hBp, hWp, hla, hlb, hla2, hlb2⟩ | ⟨c2, hc2, ep⟩ <;> rw [ep] at hp1 hp2
      · refine WP.rw ?_
        refine rU 4 ?_
        refine cA (hp1) ?_
        refine rF ?_
        refine WP.seq ?_
        refine WP.rw ?_
        refine rU 4 ?_
        refine cA (hp2) ?_
        refine rF ?_
        refine WP.rw ?_
        refine rU 6 ?_
        refine WPL.op (by rfl) (by rfl) (QOK.op (ok_eq tok rfl (eqd_same _ _ _))) ?_
        refine rF ?_
        refine WP.cond (by rfl) (fun h => ?_) (fun h => WP.skip ?_)
        · cases h
        refine WP.ghost (gC [0, 1, 2, 3] (leC (leC (leC (leC leZ)))) (l := [(0, .sl 0 0 len 1), (5, .ns), (6, .i .i64 1), (13, .i .i64 c), (17, .p 1 [] 0), (18, .p 2 [] 0), (21, .p 3 [] 0), (22, .i .i64 0)]) (m' := [.ro len 1 (byF g), .var (ds_ Fa ba wa), .var (ds_ Gb bb wb), .var (ds_ Kp Bp Wp)])) ?_
        exact leafA01 len g hg hl2  c hc0 Fa Gb Kp ba wa bb wb Bp Wp hba hwa hbb hwb ha1 ha2 hp3 hKp hFa hGb hBp hWp hla hlb hla2 hlb2 _ _ rfl rfl
      · refine WP.rw ?_
        refine rU 4 ?_
        refine cA (hp1) ?_
        refine rF ?_
        refine WP.seq ?_
        refine WP.rw ?_
        refine rU 4 ?_
        refine cA (hp2) ?_
        refine rF ?_
        refine WP.rw ?_
        refine rU 3 ?_
        rw [decide_eq_true (rfl : c2 = c2)]
        refine rU 3 ?_
        refine WPL.op (by rfl) (by rfl) (QOK.op (ok_eq tok rfl (eqd_same _ _ _))) ?_
        refine rF ?_
        refine WP.cond (by rfl) (fun h => ?_) (fun h => WP.skip ?_)
        · cases h
        refine WP.ghost (gC [0] (leC leZ) (l := [(0, .sl 0 0 len 1), (5, .ns), (6, .i .i64 1), (13, .i .i64 c), (22, .i .i64 c2)]) (m' := [.ro len 1 (byF g)])) ?_
        exact leafA00 len g hg hl2  c hc0 c2 hc2 _ _ rfl rfl
  · obtain ⟨hd1, hd2⟩ : desB n b w = true ∧ desB n' b' w' = true := by unfold bothB at hbo; simpa using hbo
    obtain ⟨N, rfl, hD⟩ := des_of_B hd1
    obtain ⟨M, rfl, hD'⟩ := des_of_B hd2
    rw [mors_B hbo] at hi1 hi2
    have hN16 := hD.le
    have hM16 := hD'.le
    have hLl : (morL b w b' w' M).length ≤ 16 := Nat.le_trans (morL_len _ _ _ _ _) hM16
    have hp9 := lists9_fn N (morL b w b' w' M) hN16 (by omega)
    have hcnt : ∀ i, i < (morL b w b' w' M).length → ∀ z, z < M → ((cntO ((morL b w b' w' M).getD i fun _ => 0) (z : Int) N : Nat) : Int) * (M : Int) = (N : Int) := fun i hi z hz => by
      obtain ⟨f, h1, h2, h3⟩ := mor_is hD hD' hi
      rw [cntO_fib h3]
      have := fib_count hD hD' h2 h1 hz
      exact_mod_cast this
    generalize morL b w b' w' M = L at *
    refine WP.rw ?_
    refine rU 2 ?_
    refine cN [] (t2 (.sl 3 0 L.length 1) (.i .i64 0)) (hi1) leZ (ren_t2 rfl ⟨rfl, trivial⟩) ?_
    refine rF ?_
    refine WP.seq ?_
    refine WP.rw ?_
    refine rU 2 ?_
    refine cN [] (t2 (.sl 4 0 L.length 1) (.i .i64 0)) (hi2) leZ (ren_t2 rfl ⟨rfl, trivial⟩) ?_
    refine rF ?_
    refine WP.rw ?_
    refine rU 6 ?_
    refine cR [3, 4] (hp9) (leC (leC leZ)) ?_
    refine rF ?_
    refine WP.cond (by rfl) (fun h => ?_) (fun h => WP.skip ?_)
    · cases h
    refine WP.ghost (gC [0, 1, 2, 3] (leC (leC (leC (leC leZ)))) (l := [(0, .sl 0 0 len 1), (3, .p 1 [] 0), (4, .p 2 [] 0), (5, .sl 3 0 L.length 1), (6, .i .i64 0)]) (m' := [.ro len 1 (byF g), .var (ds_ N b w), .var (ds_ M b' w'), .ro L.length 1 (moF N L)])) ?_
    refine WP.rw ?_
    refine rU 1 ?_
    refine WPL.callE [0] (hdQ) (leC leZ) (by rfl) (by rfl) (by exact byArgs) (by rfl) (by rfl) (by simp [Sc, sc_pl, sc_ds]) ?_
    rintro _ _ ⟨nf, bf, wf, pf, rfl, ⟨_, _, hbf, hwf⟩, hpf, rfl⟩
    refine ⟨⟨fun d hd => by cases hd; exact fun _ _ => trivial, trivial⟩, t2 (ds_ nf bf wf) (pl pf), ren_t2 ⟨rfl, sc_ds _ _ _ _⟩ ⟨rfl, sc_pl _ _⟩, sc_t2 (sc_ds _ _ _ _) (sc_pl _ _), ?_⟩
    refine WPL.mem (by rfl) ?_
    refine rF ?_
    have hq1 := implQuotient_fn nf bf wf pf hbf.lt hwf.lt hpf.lt
    have hq2 := specQuotient_fn nf bf wf pf hbf.lt hwf.lt hpf.lt
    rcases qu_cases (n := nf) (p := pf) hbf hwf with ⟨F, K, B, W, R, i0, rfl, eq, hf1, hf2, hF1, hF16, hK1, hK16, hB, hW, hdv, hi0, hLK, hLi⟩ | ⟨c, hc0, eq⟩ <;> rw [eq] at hq1 hq2
    · refine WP.rw ?_
      refine rU 2 ?_
      refine cN [] (t3 (ds_ K B W) (.sl 6 0 F 1) (.i .i64 0)) (hq1) leZ (ren_t3 ⟨rfl, sc_ds _ _ _ _⟩ rfl ⟨rfl, trivial⟩) ?_
      refine rF ?_
      refine WP.seq ?_
      refine WP.rw ?_
      refine rU 2 ?_
      refine cN [] (t3 (ds_ K B W) (.sl 8 0 F 1) (.i .i64 0)) (hq2) leZ (ren_t3 ⟨rfl, sc_ds _ _ _ _⟩ rfl ⟨rfl, trivial⟩) ?_
      refine rF ?_
      have hli := likeInts_fn F F (fun t => ((R t : Nat) : Int)) (fun t => ((R t : Nat) : Int)) (by omega) (by omega)
      rw [likeB_same] at hli
      refine WP.rw ?_
      refine rU 6 ?_
      refine WPL.op (by rfl) (by rfl) (QOK.op (ok_eq tok rfl (eqd_same _ _ _))) ?_
      refine rU 4 ?_
      refine cR [6, 8] (hli) (leC (leC leZ)) ?_
      refine rF ?_
      refine WP.cond (by rfl) (fun h => ?_) (fun h => WP.skip ?_)
      · cases h
      refine WP.ghost (gC [0, 1, 2, 3, 4, 7, 6] (leC (leC (leC (leC (leC (leC (leC leZ))))))) (l := [(0, .sl 0 0 len 1), (3, .p 1 [] 0), (4, .p 2 [] 0), (5, .sl 3 0 L.length 1), (6, .i .i64 0), (9, .p 4 [] 0), (11, .p 5 [] 0), (12, .sl 6 0 F 1), (13, .i .i64 0)]) (m' := [.ro len 1 (byF g), .var (ds_ N b w), .var (ds_ M b' w'), .ro L.length 1 (moF N L), .var (ds_ F bf wf), .var (ds_ K B W), .row 2 F 1 (nmF R)])) ?_
      refine WP.rw ?_
      refine rU 1 ?_
      refine WPL.callE [0] (hdP) (leC leZ) (by rfl) (by rfl) (by exact byArgs) (by rfl) (by rfl) (by simp [Sc, sc_pl, sc_ds]) ?_
      rintro _ _ ⟨na, ba, wa, nb, bb, wb, x, y, rfl, ⟨_, _, hba, hwa⟩, ⟨_, _, hbb, hwb⟩, rfl⟩
      refine ⟨⟨fun d hd => by cases hd; exact fun _ _ => trivial, trivial⟩, t4 (ds_ na ba wa) (ds_ nb bb wb) (.i .i64 x) (.i .i64 y), ren_t4 ⟨rfl, sc_ds _ _ _ _⟩ ⟨rfl, sc_ds _ _ _ _⟩ ⟨rfl, trivial⟩ ⟨rfl, trivial⟩, sc_t4 (sc_ds _ _ _ _) (sc_ds _ _ _ _) trivial trivial, ?_⟩
      refine WPL.mem (by rfl) ?_
      refine rF ?_
      have hp1 := implProductAt_fn na ba wa nb bb wb x y hba.lt hwa.lt hbb.lt hwb.lt
      have hp2 := specProductAt_fn na ba wa nb bb wb x y hba.lt hwa.lt hbb.lt hwb.lt
      rcases pa_cases (n := na) (n' := nb) (x := x) (y := y) hba hwa hbb hwb with ⟨Fa, Gb, Kp, Bp, Wp, rfl, rfl, ep, ha1, ha2, hp3, hKp, hFa, hGb, hBp, hWp, hla, hlb, hla2, hlb2⟩ | ⟨c2, hc2, ep⟩ <;> rw [ep] at hp1 hp2
      · refine WP.rw ?_
        refine rU 4 ?_
        refine cA (hp1) ?_
        refine rF ?_
        refine WP.seq ?_
        refine WP.rw ?_
        refine rU 4 ?_
        refine cA (hp2) ?_
        refine rF ?_
        refine WP.rw ?_
        refine rU 6 ?_
        refine WPL.op (by rfl) (by rfl) (QOK.op (ok_eq tok rfl (eqd_same _ _ _))) ?_
        refine rF ?_
        refine WP.cond (by rfl) (fun h => ?_) (fun h => WP.skip ?_)
        · cases h
        refine WP.ghost (gC [0, 1, 2, 3, 4, 5, 6, 7, 8, 9] (leC (leC (leC (leC (leC (leC (leC (leC (leC (leC leZ)))))))))) (l := [(0, .sl 0 0 len 1), (3, .p 1 [] 0), (4, .p 2 [] 0), (5, .sl 3 0 L.length 1), (6, .i .i64 0), (9, .p 4 [] 0), (11, .p 5 [] 0), (12, .sl 6 0 F 1), (13, .i .i64 0), (17, .p 7 [] 0), (18, .p 8 [] 0), (21, .p 9 [] 0), (22, .i .i64 0)]) (m' := [.ro len 1 (byF g), .var (ds_ N b w), .var (ds_ M b' w'), .ro L.length 1 (moF N L), .var (ds_ F bf wf), .var (ds_ K B W), .row 2 F 1 (nmF R), .var (ds_ Fa ba wa), .var (ds_ Gb bb wb), .var (ds_ Kp Bp Wp)])) ?_
        exact leafB11 len g hg hl2 N M b w b' w' L hN16 hM16 hLl hcnt F K bf wf B W R i0 hbf hwf hf1 hf2 hF1 hF16 hK1 hK16 hB hW hdv hi0 hLK hLi Fa Gb Kp ba wa bb wb Bp Wp hba hwa hbb hwb ha1 ha2 hp3 hKp hFa hGb hBp hWp hla hlb hla2 hlb2 _ _ rfl rfl
      · refine WP.rw ?_
        refine rU 4 ?_
        refine cA (hp1) ?_
        refine rF ?_
        refine WP.seq ?_
        refine WP.rw ?_
        refine rU 4 ?_
        refine cA (hp2) ?_
        refine rF ?_
        refine WP.rw ?_
        refine rU 3 ?_
        rw [decide_eq_true (rfl : c2 = c2)]
        refine rU 3 ?_
        refine WPL.op (by rfl) (by rfl) (QOK.op (ok_eq tok rfl (eqd_same _ _ _))) ?_
        refine rF ?_
        refine WP.cond (by rfl) (fun h => ?_) (fun h => WP.skip ?_)
        · cases h
        refine WP.ghost (gC [0, 1, 2, 3, 4, 5, 6] (leC (leC (leC (leC (leC (leC (leC leZ))))))) (l := [(0, .sl 0 0 len 1), (3, .p 1 [] 0), (4, .p 2 [] 0), (5, .sl 3 0 L.length 1), (6, .i .i64 0), (9, .p 4 [] 0), (11, .p 5 [] 0), (12, .sl 6 0 F 1), (13, .i .i64 0), (22, .i .i64 c2)]) (m' := [.ro len 1 (byF g), .var (ds_ N b w), .var (ds_ M b' w'), .ro L.length 1 (moF N L), .var (ds_ F bf wf), .var (ds_ K B W), .row 2 F 1 (nmF R)])) ?_
        exact leafB10 len g hg hl2 N M b w b' w' L hN16 hM16 hLl hcnt F K bf wf B W R i0 hbf hwf hf1 hf2 hF1 hF16 hK1 hK16 hB hW hdv hi0 hLK hLi c2 hc2 _ _ rfl rfl
    · refine WP.rw ?_
      refine rU 2 ?_
      refine cN [] (t3 (ds_ 0 (fun _ => 0) (fun _ => 0)) .ns (.i .i64 c)) (hq1) leZ (ren_t3 ⟨rfl, sc_ds _ _ _ _⟩ ⟨rfl, trivial⟩ ⟨rfl, trivial⟩) ?_
      refine rF ?_
      refine WP.seq ?_
      refine WP.rw ?_
      refine rU 2 ?_
      refine cN [] (t3 (ds_ 0 (fun _ => 0) (fun _ => 0)) .ns (.i .i64 c)) (hq2) leZ (ren_t3 ⟨rfl, sc_ds _ _ _ _⟩ ⟨rfl, trivial⟩ ⟨rfl, trivial⟩) ?_
      refine rF ?_
      refine WP.rw ?_
      refine rU 3 ?_
      rw [decide_eq_true (rfl : c = c)]
      refine rU 3 ?_
      refine WPL.op (by rfl) (by rfl) (QOK.op (ok_eq tok rfl (eqd_same _ _ _))) ?_
      refine rU 4 ?_
      refine cA (likeInts_nil) ?_
      refine rF ?_
      refine WP.cond (by rfl) (fun h => ?_) (fun h => WP.skip ?_)
      · cases h
      refine WP.ghost (gC [0, 1, 2, 3] (leC (leC (leC (leC leZ)))) (l := [(0, .sl 0 0 len 1), (3, .p 1 [] 0), (4, .p 2 [] 0), (5, .sl 3 0 L.length 1), (6, .i .i64 0), (13, .i .i64 c)]) (m' := [.ro len 1 (byF g), .var (ds_ N b w), .var (ds_ M b' w'), .ro L.length 1 (moF N L)])) ?_
      refine WP.rw ?_
      refine rU 1 ?_
      refine WPL.callE [0] (hdP) (leC leZ) (by rfl) (by rfl) (by exact byArgs) (by rfl) (by rfl) (by simp [Sc, sc_pl, sc_ds]) ?_
      rintro _ _ ⟨na, ba, wa, nb, bb, wb, x, y, rfl, ⟨_, _, hba, hwa⟩, ⟨_, _, hbb, hwb⟩, rfl⟩
      refine ⟨⟨fun d hd => by cases hd; exact fun _ _ => trivial, trivial⟩, t4 (ds_ na ba wa) (ds_ nb bb wb) (.i .i64 x) (.i .i64 y), ren_t4 ⟨rfl, sc_ds _ _ _ _⟩ ⟨rfl, sc_ds _ _ _ _⟩ ⟨rfl, trivial⟩ ⟨rfl, trivial⟩, sc_t4 (sc_ds _ _ _ _) (sc_ds _ _ _ _) trivial trivial, ?_⟩
      refine WPL.mem (by rfl) ?_
      refine rF ?_
      have hp1 := implProductAt_fn na ba wa nb bb wb x y hba.lt hwa.lt hbb.lt hwb.lt
      have hp2 := specProductAt_fn na ba wa nb bb wb x y hba.lt hwa.lt hbb.lt hwb.lt
      rcases pa_cases (n := na) (n' := nb) (x := x) (y := y) hba hwa hbb hwb with ⟨Fa, Gb, Kp, Bp, Wp, rfl, rfl, ep, ha1, ha2, hp3, hKp, hFa, hGb, hBp, hWp, hla, hlb, hla2, hlb2⟩ | ⟨c2, hc2, ep⟩ <;> rw [ep] at hp1 hp2
      · refine WP.rw ?_
        refine rU 4 ?_
        refine cA (hp1) ?_
        refine rF ?_
        refine WP.seq ?_
        refine WP.rw ?_
        refine rU 4 ?_
        refine cA (hp2) ?_
        refine rF ?_
        refine WP.rw ?_
        refine rU 6 ?_
        refine WPL.op (by rfl) (by rfl) (QOK.op (ok_eq tok rfl (eqd_same _ _ _))) ?_
        refine rF ?_
        refine WP.cond (by rfl) (fun h => ?_) (fun h => WP.skip ?_)
        · cases h
        refine WP.ghost (gC [0, 1, 2, 3, 4, 5, 6] (leC (leC (leC (leC (leC (leC (leC leZ))))))) (l := [(0, .sl 0 0 len 1), (3, .p 1 [] 0), (4, .p 2 [] 0), (5, .sl 3 0 L.length 1), (6, .i .i64 0), (13, .i .i64 c), (17, .p 4 [] 0), (18, .p 5 [] 0), (21, .p 6 [] 0), (22, .i .i64 0)]) (m' := [.ro len 1 (byF g), .var (ds_ N b w), .var (ds_ M b' w'), .ro L.length 1 (moF N L), .var (ds_ Fa ba wa), .var (ds_ Gb bb wb), .var (ds_ Kp Bp Wp)])) ?_
        exact leafB01 len g hg hl2 N M b w b' w' L hN16 hM16 hLl hcnt c hc0 Fa Gb Kp ba wa bb wb Bp Wp hba hwa hbb hwb ha1 ha2 hp3 hKp hFa hGb hBp hWp hla hlb hla2 hlb2 _ _ rfl rfl
      · refine WP.rw ?_
        refine rU 4 ?_
        refine cA (hp1) ?_
        refine rF ?_
        refine WP.seq ?_
        refine WP.rw ?_
        refine rU 4 ?_
        refine cA (hp2) ?_
        refine rF ?_
        refine WP.rw ?_
        refine rU 3 ?_
        rw [decide_eq_true (rfl : c2 = c2)]
        refine rU 3 ?_
        refine WPL.op (by rfl) (by rfl) (QOK.op (ok_eq tok rfl (eqd_same _ _ _))) ?_
        refine rF ?_
        refine WP.cond (by rfl) (fun h => ?_) (fun h => WP.skip ?_)
        · cases h
        refine WP.ghost (gC [0, 1, 2, 3] (leC (leC (leC (leC leZ)))) (l := [(0, .sl 0 0 len 1), (3, .p 1 [] 0), (4, .p 2 [] 0), (5, .sl 3 0 L.length 1), (6, .i .i64 0), (13, .i .i64 c), (22, .i .i64 c2)]) (m' := [.ro len 1 (byF g), .var (ds_ N b w), .var (ds_ M b' w'), .ro L.length 1 (moF N L)])) ?_
        exact leafB00 len g hg hl2 N M b w b' w' L hN16 hM16 hLl hcnt c hc0 c2 hc2 _ _ rfl rfl
end Go.Proofs.Ythjnmlpibafbnaa
