import Derived.Test.YthjnmlpibafbnaaL21
import Derived.Test.YthjnmlpibafbnaaD30
import Derived.Test.YthjnmlpibafbnaaX52
import Derived.Test.YthjnmlpibafbnaaL3
import Derived.Test.YthjnmlpibafbnaaL38
import Derived.Test.YthjnmlpibafbnaaX14
import Derived.Test.YthjnmlpibafbnaaD18
namespace Go.Proofs.Ythjnmlpibafbnaa
open Go.RowKit DM
set_option linter.unusedSimpArgs false
set_option linter.unusedVariables false
set_option maxRecDepth 100000
set_option maxHeartbeats 1000000
def moF (N : Nat) (L : List (Nat → Int)) (i : Nat) : Dat := .ow 2 N 1 (intD (L.getD i fun _ => 0))
theorem ap_mo (N : Nat) (L : List (Nat → Int)) (o : Nat → Int) (g : Nat → Dat) (j : Nat) (hj : j < L.length + 1) : moF N (L ++ [o]) j = fup (apF L.length (moF N L) 0 g) L.length (.ow 2 N 1 (intD o)) j := by
  unfold apF moF
  by_cases h : j < L.length
  · rw [fup_ne _ _ (by omega), blt_true h, getD_snoc_lt L o _ h]; rfl
  · have e : j = L.length := by omega
    subst e
    rw [fup_same, getD_snoc]
theorem morphisms_fn (N M : Nat) (b w b' w' : Nat → Nat) (hN0 : 0 < N) (hN : N ≤ 16) (hM : M ≤ 16) (hb : ∀ i, i < N → b i < N) (hw : ∀ i, i < N → w i < N) (hb' : ∀ i, i < M → b' i < M) (hw' : ∀ i, i < M → w' i < M) :
    FnS Try.prog 22 [ds_ N b w, ds_ M b' w'] [] (fun r m' => r = .sl 0 0 (morL b w b' w' M).length 1 ∧ m' = [.row 36 (morL b w b' w' M).length 1 (moF N (morL b w b' w' M))]) := by
  refine FnS.intoN T tok Try.func22 (by rfl) rfl rfl rfl (by simp) ?_
  refine rS ?_
  refine rS ?_
  refine WP.seq ?_
  refine rS ?_
  refine WP.block ?_
  refine WP.loopH (⟨fun x : Nat × List (Nat → Int) => x.1 ≤ M ∧ x.2 = morL b w b' w' x.1, fun x => [(2, .p 0 [] 0), (3, .p 1 [] 0), (10, .i .i64 (M : Int)), (5, .sl 2 0 x.2.length 1), (11, .i .i64 (x.1 : Int))], fun x => [.var (ds_ N b w), .var (ds_ M b' w'), .row 36 x.2.length 1 (moF N x.2)], fun x => M - x.1⟩) ((0, [])) (⟨Nat.zero_le _, rfl⟩) (gC [0, 1, 2] (LeAll.cons (by rfl) (by first | with_reducible exact Root.Le.refl _ | with_reducible exact le_dead | (exact le_row (Nat.le_refl _) (fun j hj => absurd hj (Nat.not_lt_zero _))) | exact byLeq) (by exact byCon) (LeAll.cons (by rfl) (by first | with_reducible exact Root.Le.refl _ | with_reducible exact le_dead | (exact le_row (Nat.le_refl _) (fun j hj => absurd hj (Nat.not_lt_zero _))) | exact byLeq) (by exact byCon) (LeAll.cons (by rfl) (by first | with_reducible exact Root.Le.refl _ | with_reducible exact le_dead | (exact le_row (Nat.le_refl _) (fun j hj => absurd hj (Nat.not_lt_zero _))) | exact byLeq) (by exact byCon) (leZ))))) ?_
  rintro ⟨y, L⟩ ⟨hy, hT⟩
  have hlen := morL_len b w b' w' y
  dsimp only at hy hT
  rw [← hT] at hlen
  dsimp only [Hd.at]
  refine rS ?_
  refine WP.seq ?_
  refine WP.cond (by rfl) (fun hc => WP.skip ?_) (fun hc => WP.exit ?_)
  · have hy : y < M := by have := of_decide_eq_true hc; omega
    clear hc
    have hm := morphism_fn N M b w b' w' y hy hN0 hN hM hb hw hb' hw'
    refine WP.seq (WP.block ?_)
    refine rS ?_
    cases hR : morF b w b' w' y with
    | none =>
      rw [hR] at hm
      have hn := morL_none hR
      refine WP.rw ?_
      refine rU 3 ?_
      refine cN [] (.ns) (hm) leZ (⟨rfl, trivial⟩) ?_
      refine rF ?_
      refine WP.seq ?_
      refine WP.region ?_
      refine rU 1 ?_
      refine WPL.op (by rfl) (by rfl) (QOK.op (nsNe_ok tok rfl rfl rfl rfl)) ?_
      refine rF ?_
      refine WP.cond (by rfl) (fun h => ?_) (fun h => WP.skip ?_)
      · cases h
      clear h
      refine rE ?_
      refine Again.next ((y + 1, L)) (gC [0, 1, 2] (leC (leC (leC leZ)))) (⟨hy, hT.trans hn.symm⟩) (by dsimp only; omega)
    | some o =>
      rw [hR] at hm
      have hn := morL_some hR
      refine WP.rw ?_
      refine rU 3 ?_
      refine cN [] (.sl 3 0 N 1) (hm) leZ (rfl) ?_
      refine rF ?_
      refine WP.seq ?_
      refine WP.region ?_
      refine rU 1 ?_
      refine WPL.op (by rfl) (by rfl) (QOK.op (slNe_ok tok rfl rfl rfl rfl rfl)) ?_
      refine rF ?_
      refine WP.cond (by rfl) (fun h => ?_) (fun h => WP.skip ?_)
      · clear h
        refine rE ?_
        refine rE ?_
        refine Again.step (Ghost.giveLast 5 3 (by rfl) rfl rfl (by rfl) (by rfl) (Nat.le_refl _)) ?_
        refine Again.next ((y + 1, L ++ [o])) (gC [0, 1, 5] (LeAll.cons (by rfl) (by first | with_reducible exact Root.Le.refl _ | with_reducible exact le_dead | (exact le_row (by simp) (fun j hj => ap_mo N L o _ j (by simpa using hj))) | exact byLeq) (by exact byCon) (LeAll.cons (by rfl) (by first | with_reducible exact Root.Le.refl _ | with_reducible exact le_dead | (exact le_row (by simp) (fun j hj => ap_mo N L o _ j (by simpa using hj))) | exact byLeq) (by exact byCon) (LeAll.cons (by rfl) (by first | with_reducible exact Root.Le.refl _ | with_reducible exact le_dead | (exact le_row (by simp) (fun j hj => ap_mo N L o _ j (by simpa using hj))) | exact byLeq) (by exact byCon) (leZ))))) (⟨hy, by rw [hn, hT]⟩) (by dsimp only; omega)
      · cases h
  · have hy : y = M := by have := of_decide_eq_false hc; omega
    subst hy
    subst hT
    refine rS ?_
    exact WP.ret (Ends.new [2] (by rfl) (by exact byObl) (leC leZ) rfl rfl (rfl) (sc_sl rfl))
def plsF (L : List (Nat → Nat)) (i : Nat) : Dat := pl (L.getD i fun _ => 0)
theorem ap_pls {L : List (Nat → Nat)} {n : Nat} (hn : L.length = n) (f : Nat → Nat) (z : Nat → Dat) (j : Nat) (hj : j < n + 1) : plsF (L ++ [f]) j = apF n (plsF L) 0 (fup z 0 (pl f)) j := by
  subst hn
  unfold apF plsF
  by_cases h : j < L.length
  · rw [blt_true h, getD_snoc_lt L f _ h]; rfl
  · have e : j = L.length := by omega
    subst e
    rw [blt_false h, getD_snoc, Nat.sub_self, Nat.add_zero, cond_false, fup_same]
def isoR (N : Nat) (b w : Nat → Nat) (M : Nat) (b' w' : Nat → Nat) : List (Nat → Nat) := if N = M then isoL N b w b' w' N else []
theorem eq_ds_eql (n : Int) (b w : Nat → Nat) (n' : Int) (b' w' : Nat → Nat) : eqE T .eql 27 (ds_ n b w) (ds_ n' b' w') = some (eqDs n b w n' b' w') := by rfl
theorem l02All_fn (N M : Nat) (b w b' w' : Nat → Nat) (hD : Des N b w) (hD' : Des M b' w') :
    FnS Try.prog 29 [ds_ N b w, ds_ M b' w'] [] (fun r m' => r = .sl 0 0 (isoR N b w M b' w').length 16 ∧ m' = [.row 25 (isoR N b w M b' w').length 16 (plsF (isoR N b w M b' w'))]) := by
  by_cases hNM : N = M
  · subst hNM
    unfold isoR
    rw [if_pos rfl]
    have hN := hD.le
    have hb16 := hD.pb.lt16 hN
    have hw16 := hD.pw.lt16 hN
    have hb16' := hD'.pb.lt16 hN
    have hw16' := hD'.pw.lt16 hN
    have hna := l02Naming_fn N b w 0 hD.pos hN hD.pb.lt hD.pw.lt
    have hn16 := nameF_lt hN hD.pb.lt hD.pw.lt hD.pos
    have hre := l02Rename_fn N b w (nameF b w 0) hN hb16 hw16 (fun i _ => hn16 i)
    refine FnS.intoN T tok Try.func29 (by rfl) rfl rfl rfl (by simp) ?_
    refine rS ?_
    refine rS ?_
    refine WP.seq ?_
    refine rS ?_
    refine WP.cond (by rfl) (fun h => ?_) (fun h => WP.skip ?_)
    · simp at h
    clear h
    refine WP.rw ?_
    refine rU 1 ?_
    refine cA (hna) ?_
    refine rF ?_
    refine WP.rw ?_
    refine rU 2 ?_
    refine cA (hre) ?_
    refine rF ?_
    refine WP.seq ?_
    refine rS ?_
    refine WP.block ?_
    refine WP.loopH (⟨fun x : Nat × List (Nat → Nat) => x.1 ≤ N ∧ x.2 = isoL N b w b' w' x.1, fun x => [(2, .p 0 [] 0), (3, .p 1 [] 0), (5, .sl 2 0 x.2.length 16), (6, .p 3 [] 0), (7, .p 4 [] 0), (8, .i .i64 (x.1 : Int))], fun x => [.var (ds_ N b w), .var (ds_ N b' w'), .row 25 x.2.length 16 (plsF x.2), .var (pl (nameF b w 0)), .var (ds_ N (renTo (nameF b w 0) b N) (renTo (nameF b w 0) w N))], fun x => N - x.1⟩) ((0, [])) (⟨Nat.zero_le _, rfl⟩) (gC [0, 1, 2, 3, 4] (LeAll.cons (by rfl) (by first | with_reducible exact Root.Le.refl _ | with_reducible exact le_dead | (exact le_row (Nat.le_refl _) (fun j hj => absurd hj (Nat.not_lt_zero _))) | exact byLeq) (by exact byCon) (LeAll.cons (by rfl) (by first | with_reducible exact Root.Le.refl _ | with_reducible exact le_dead | (exact le_row (Nat.le_refl _) (fun j hj => absurd hj (Nat.not_lt_zero _))) | exact byLeq) (by exact byCon) (LeAll.cons (by rfl) (by first | with_reducible exact Root.Le.refl _ | with_reducible exact le_dead | (exact le_row (Nat.le_refl _) (fun j hj => absurd hj (Nat.not_lt_zero _))) | exact byLeq) (by exact byCon) (LeAll.cons (by rfl) (by first | with_reducible exact Root.Le.refl _ | with_reducible exact le_dead | (exact le_row (Nat.le_refl _) (fun j hj => absurd hj (Nat.not_lt_zero _))) | exact byLeq) (by exact byCon) (LeAll.cons (by rfl) (by first | with_reducible exact Root.Le.refl _ | with_reducible exact le_dead | (exact le_row (Nat.le_refl _) (fun j hj => absurd hj (Nat.not_lt_zero _))) | exact byLeq) (by exact byCon) (leZ))))))) ?_
    rintro ⟨y, L⟩ ⟨hy, hT⟩
    have hll := isoL_len N b w b' w' y
    dsimp only at hy hT
    rw [← hT] at hll
    dsimp only [Hd.at]
    refine WP.seq ?_
    refine rS ?_
    refine WP.cond (by rfl) (fun hc => WP.skip ?_) (fun hc => WP.exit ?_)
    · have hy : y < N := by have := of_decide_eq_true hc; omega
      clear hc
      have hnb := l02Naming_fn N b' w' y hy hN hD'.pb.lt hD'.pw.lt
      have hn16' := nameF_lt hN hD'.pb.lt hD'.pw.lt hy
      have hrb := l02Rename_fn N b' w' (nameF b' w' y) hN hb16' hw16' (fun i _ => hn16' i)
      have hbk := l01Back_fn (nameF b' w' y) N hN (name_perm hD' hy).lt
      have hth := l01Then_fn (nameF b w 0) (backTo (nameF b' w' y) N) N hN (name_perm hD hD.pos).lt
      have hne := eq_ds_eql N (renTo (nameF b' w' y) b' N) (renTo (nameF b' w' y) w' N) N (renTo (nameF b w 0) b N) (renTo (nameF b w 0) w N)
      have hstep : isoL N b w b' w' (y + 1) = bif isoB N b w b' w' y then L ++ [isoP N b w b' w' y] else L := by rw [hT]; rfl
      change eqE T .eql 27 _ _ = some (isoB N b w b' w' y) at hne
      change FnP Try.prog 53 _ (pl (isoP N b w b' w' y)) at hth
      refine WP.seq (WP.block ?_)
      refine WP.rw ?_
      refine rU 2 ?_
      refine cA (hnb) ?_
      refine rF ?_
      refine WP.seq ?_
      refine WP.da (by kernel_rfl) 5 (by kernel_rfl) ?_
      refine WA.takes T false tok [0, 1, 3] (f' := 2) (by kernel_rfl) (by rfl) (by rfl) (by rfl) (by exact byObl) (by rfl) (by rfl) ?_
      refine WA.all [2] (by kernel_rfl) (by simp) ?_; intro i' hi'; simp only [List.mem_cons, List.not_mem_nil, or_false] at hi'
      subst hi'
      refine ⟨_, _, _, rfl, by rfl, by rfl, MK.callP (hrb) (by rfl) (by simp [Sc, sc_pl, sc_ds, pl_ne, ds_ne]), ?_⟩
      refine WA.take (i := 4) (by rfl) (by decide) (by kernel_rfl) (by kernel_rfl) (by kernel_rfl) (by rfl) (by rfl) (ok_eq tok rfl hne) ?_
      refine WA.tail (by rfl) (by rfl) (by kernel_rfl) ?_
      refine WPL.nil (noPan ?_)
      cases hB : isoB N b w b' w' y with
      | false =>
        rw [hB, cond_false] at hstep
        refine WP.cond (by rfl) (fun h => ?_) (fun h => WP.skip ?_)
        · cases h
        clear h
        refine rE ?_
        refine Again.next ((y + 1, L)) (gC [0, 1, 2, 3, 4] (leC (leC (leC (leC (leC leZ)))))) (⟨hy, hstep.symm⟩) (by dsimp only; omega)
      | true =>
        rw [hB, cond_true] at hstep
        refine WP.cond (by rfl) (fun h => ?_) (fun h => WP.skip ?_)
        · clear h
          refine WP.da (by kernel_rfl) 9 (by kernel_rfl) ?_
          refine WA.move 0 (by rfl) (by first | exact .inl rfl | exact .inr rfl) (by kernel_rfl) (by kernel_rfl) (by rfl) (by rfl) ?_
          refine WA.takes T false tok [1, 2, 3, 4, 6, 7] (f' := 5) (by kernel_rfl) (by rfl) (by rfl) (by rfl) (by exact byObl) (by rfl) (by rfl) ?_
          refine WA.all [5] (by kernel_rfl) (by simp) ?_; intro i' hi'; simp only [List.mem_cons, List.not_mem_nil, or_false] at hi'
          subst hi'
          refine ⟨_, _, _, rfl, by rfl, by rfl, MK.callP (hbk) (by rfl) (by simp [Sc, sc_pl, sc_ds, pl_ne, ds_ne]), ?_⟩
          refine WA.all [8] (by kernel_rfl) (by simp) ?_; intro i' hi'; simp only [List.mem_cons, List.not_mem_nil, or_false] at hi'
          subst hi'
          refine ⟨_, _, _, rfl, by rfl, by rfl, MK.callP (hth) (by rfl) (by simp [Sc, sc_pl, sc_ds, pl_ne, ds_ne]), ?_⟩
          refine WA.tail (by rfl) (by rfl) (by kernel_rfl) ?_
          refine rF ?_
          refine noPan ?_
          refine rE ?_
          refine Again.next ((y + 1, L ++ [isoP N b w b' w' y])) (gC [0, 1, 7, 3, 4] (LeAll.cons (by rfl) (by first | with_reducible exact Root.Le.refl _ | with_reducible exact le_dead | (exact le_row (by simp) (fun j hj => ap_pls rfl _ _ j (by simpa using hj))) | exact byLeq) (by exact byCon) (LeAll.cons (by rfl) (by first | with_reducible exact Root.Le.refl _ | with_reducible exact le_dead | (exact le_row (by simp) (fun j hj => ap_pls rfl _ _ j (by simpa using hj))) | exact byLeq) (by exact byCon) (LeAll.cons (by rfl) (by first | with_reducible exact Root.Le.refl _ | with_reducible exact le_dead | (exact le_row (by simp) (fun j hj => ap_pls rfl _ _ j (by simpa using hj))) | exact byLeq) (by exact byCon) (LeAll.cons (by rfl) (by first | with_reducible exact Root.Le.refl _ | with_reducible exact le_dead | (exact le_row (by simp) (fun j hj => ap_pls rfl _ _ j (by simpa using hj))) | exact byLeq) (by exact byCon) (LeAll.cons (by rfl) (by first | with_reducible exact Root.Le.refl _ | with_reducible exact le_dead | (exact le_row (by simp) (fun j hj => ap_pls rfl _ _ j (by simpa using hj))) | exact byLeq) (by exact byCon) (leZ))))))) (⟨hy, hstep.symm⟩) (by dsimp only; omega)
        · cases h
    · have hy : y = N := by have := of_decide_eq_false hc; omega
      subst hy
      subst hT
      refine rS ?_
      exact WP.ret (Ends.new [2] (by rfl) (by exact byObl) (leC leZ) rfl rfl (rfl) (sc_sl rfl))
  · have hne : ¬ ((N : Int) = (M : Int)) := by omega
    unfold isoR
    rw [if_neg hNM]
    refine FnS.intoN T tok Try.func29 (by rfl) rfl rfl rfl (by simp) ?_
    refine rS ?_
    refine rS ?_
    refine WP.seq ?_
    refine rS ?_
    refine WP.cond (by rfl) (fun h => ?_) (fun h => WP.skip ?_)
    · refine rS ?_
      exact WP.ret (Ends.new [2] (by rfl) (by exact byObl) (LeAll.cons (by rfl) (by first | with_reducible exact Root.Le.refl _ | with_reducible exact le_dead | (exact le_row (Nat.le_refl _) (fun j hj => absurd hj (Nat.not_lt_zero _))) | exact byLeq) (by exact byCon) (leZ)) rfl rfl (rfl) (sc_sl rfl))
    · simp at h; omega
end Go.Proofs.Ythjnmlpibafbnaa

namespace Go.Proofs.Ythjnmlpibafbnaa
open Go.RowKit DM
set_option linter.unusedVariables false
section
variable {N M : Nat} {b w b' w' : Nat → Nat}
theorem des_all (hD : Des N b w) {x : Nat} (hx : x < N) {S : Nat → Prop} (h0 : S x) (hS : Cl N b w S) {z : Nat} (hz : z < N) : S z :=
  (bfs_q hD.le hD.pb.lt hD.pw.lt hx).1.min S h0 hS z ((bfs_all hD hx).2.2.2.1 z hz)
theorem eqv_onto (hD : Des N b w) (hD' : Des M b' w') {f : Nat → Nat} (hf : Eqv N b w b' w' f) (hl : ∀ x, x < N → f x < M) {z : Nat} (hz : z < M) : ∃ x, x < N ∧ f x = z :=
  des_all hD' (hl 0 hD.pos) (S := fun z => ∃ x, x < N ∧ f x = z) ⟨0, hD.pos, rfl⟩ (fun z hz ⟨x, hx, e⟩ => ⟨⟨b x, hD.pb.lt x hx, by rw [(hf x hx).1, e]⟩, ⟨w x, hD.pw.lt x hx, by rw [(hf x hx).2, e]⟩⟩) hz
theorem iso_of (hD : Des N b w) (hD' : Des N b' w') {y : Nat} (hy : y < N) (h : isoB N b w b' w' y = true) : Perm N (isoP N b w b' w' y) ∧ isoP N b w b' w' y 0 = y ∧ Eqv N b w b' w' (isoP N b w b' w' y) ∧ ∀ i, N ≤ i → isoP N b w b' w' y i = 0 := by
  rcases iso_step hD hD' hy with ⟨_, e⟩ | ⟨o, r, _, h1, h2⟩
  · rw [h] at e; cases e
  rcases mor_spec hD hD'.pb.lt hD'.pw.lt hy with ⟨r', _⟩ | ⟨o', r', h0, h3, _⟩
  · rw [r] at r'; cases r'
  obtain rfl : o = o' := Option.some.inj (r.symm.trans r')
  have hin : ∀ x, x < N → isoP N b w b' w' y x = (o x).toNat := fun x hx => by
    rw [h2]; show (if x < N then (o x).toNat else 0) = _; rw [if_pos hx]
  have hlt : ∀ x, x < N → isoP N b w b' w' y x < N := fun x hx => by rw [hin x hx]; have := h1 x hx; omega
  have heq : Eqv N b w b' w' (isoP N b w b' w' y) := fun x hx => by
    have h4 := (h3 x hx).2.2
    rw [hin _ (hD.pb.lt x hx), hin _ (hD.pw.lt x hx), hin x hx, h4.1, h4.2]
    exact ⟨Int.toNat_natCast _, Int.toNat_natCast _⟩
  refine ⟨⟨hlt, inj_of_onto fun z hz => eqv_onto hD hD' heq hlt hz⟩, ?_, heq, fun i hi => ?_⟩
  · rw [hin 0 hD.pos, h0]; exact Int.toNat_natCast _
  · rw [h2]; show (if i < N then (o i).toNat else 0) = 0; rw [if_neg (by omega)]
theorem iso_true (hD : Des N b w) (hD' : Des N b' w') {y : Nat} (hy : y < N) {f : Nat → Nat} (h0 : f 0 = y) (hf : Eqv N b w b' w' f) : isoB N b w b' w' y = true := by
  rcases iso_step hD hD' hy with ⟨r, _⟩ | ⟨o, _, e, _⟩
  · rcases mor_spec hD hD'.pb.lt hD'.pw.lt hy with ⟨_, hno⟩ | ⟨o', r', _⟩
    · exact absurd (hno f h0 hf) id
    · rw [r] at r'; cases r'
  · exact e
theorem isoL_map (N : Nat) (b w b' w' : Nat → Nat) : ∀ k, isoL N b w b' w' k = ((List.range k).filter (isoB N b w b' w')).map (isoP N b w b' w')
  | 0 => rfl
  | k + 1 => by
    rw [List.range_succ, List.filter_append, List.map_append, ← isoL_map N b w b' w' k]
    simp only [isoL, List.filter_cons, List.filter_nil]
    cases isoB N b w b' w' k <;> simp
theorem isoL_get (hD : Des N b w) (hD' : Des N b' w') {i : Nat} (hi : i < (isoL N b w b' w' N).length) : ∃ y, y < N ∧ isoB N b w b' w' y = true ∧ (isoL N b w b' w' N).getD i (fun _ => 0) = isoP N b w b' w' y := by
  have hm : (isoL N b w b' w' N).getD i (fun _ => 0) ∈ isoL N b w b' w' N := by
    rw [List.getD_eq_getElem?_getD, List.getElem?_eq_getElem hi]; exact List.getElem_mem hi
  rw [isoL_map] at hm
  obtain ⟨y, hy, e⟩ := List.mem_map.1 hm
  rw [List.mem_filter, List.mem_range] at hy
  refine ⟨y, hy.1, hy.2, ?_⟩
  rw [isoL_map N b w b' w' N] at *
  exact e.symm
theorem isoL_count (N : Nat) (b w b' w' : Nat → Nat) : (isoL N b w b' w' N).length = ((List.range N).filter (isoB N b w b' w')).length := by rw [isoL_map, List.length_map]
theorem eqv_id : Eqv N b w b w fun x => x := fun x _ => ⟨rfl, rfl⟩
theorem auts_pos (hD : Des N b w) : 0 < (isoL N b w b w N).length := by
  rw [isoL_count]
  exact List.length_pos_of_mem (List.mem_filter.2 ⟨List.mem_range.2 hD.pos, iso_true hD hD hD.pos (f := fun x => x) rfl eqv_id⟩)
theorem iso_ren (hD : Des N b w) (hD' : Des N b' w') (hz : ∀ i, N ≤ i → b' i = 0) (hz2 : ∀ i, N ≤ i → w' i = 0) {p : Nat → Nat} (hp : Perm N p) (he : Eqv N b w b' w' p) : renTo p b N = b' ∧ renTo p w N = w' := by
  have key : ∀ {v v' : Nat → Nat}, (∀ x, x < N → p (v x) = v' (p x)) → (∀ i, N ≤ i → v' i = 0) → renTo p v N = v' := fun {v v'} h hz => by
    funext i
    by_cases hi : i < N
    · obtain ⟨x, hx, rfl⟩ := perm_surj hD.le hp hi
      rw [renTo_at hp v N (Nat.le_refl _) x hx, h x hx]
    · rw [renTo_out hp.lt N (Nat.le_refl _) i (by omega), hz i (by omega)]
  exact ⟨key (fun x hx => (he x hx).1) hz, key (fun x hx => (he x hx).2) hz2⟩
end
theorem len_filter_split (f : Nat → Bool) : ∀ l : List Nat, l.length = (l.filter f).length + (l.filter fun x => !f x).length
  | [] => rfl
  | x :: l => by
    have := len_filter_split f l
    simp only [List.filter_cons, List.length_cons]
    cases f x <;> simp <;> omega
section
variable {N : Nat} {b w : Nat → Nat}
def AutR (N : Nat) (b w : Nat → Nat) (x z : Nat) : Prop := ∃ f, Perm N f ∧ Eqv N b w b w f ∧ f x = z
theorem AutR.refl (x : Nat) : AutR N b w x x := ⟨fun x => x, ⟨fun i h => h, fun _ _ _ _ e => e⟩, eqv_id, rfl⟩
theorem AutR.trans {x y z : Nat} (h : AutR N b w x y) (h' : AutR N b w y z) : AutR N b w x z := by
  obtain ⟨f, hf, he, rfl⟩ := h
  obtain ⟨g, hg, hk, rfl⟩ := h'
  refine ⟨fun x => g (f x), ⟨fun i hi => hg.lt _ (hf.lt i hi), fun i j hi hj e => hf.inj i j hi hj (hg.inj _ _ (hf.lt i hi) (hf.lt j hj) e)⟩, fun x hx => ?_, rfl⟩
  have h1 := he x hx
  have h2 := hk (f x) (hf.lt x hx)
  show g (f (b x)) = b (g (f x)) ∧ g (f (w x)) = w (g (f x))
  rw [h1.1, h1.2]
  exact h2
theorem AutR.symm (hD : Des N b w) {x y : Nat} (hx : x < N) (h : AutR N b w x y) : AutR N b w y x := by
  obtain ⟨f, hf, he, rfl⟩ := h
  have hb : ∀ i, i < N → backTo f N (f i) = i := fun i hi => backTo_at hf N (Nat.le_refl _) i hi
  refine ⟨backTo f N, perm_back hD.le hf, fun z hz => ?_, hb x hx⟩
  obtain ⟨u, hu, rfl⟩ := perm_surj hD.le hf hz
  rw [← (he u hu).1, ← (he u hu).2, hb u hu, hb _ (hD.pb.lt u hu), hb _ (hD.pw.lt u hu)]
  exact ⟨rfl, rfl⟩
end
end Go.Proofs.Ythjnmlpibafbnaa
