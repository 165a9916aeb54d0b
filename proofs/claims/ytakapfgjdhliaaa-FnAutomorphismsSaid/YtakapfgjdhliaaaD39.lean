import Derived.Test.YtakapfgjdhliaaaX56
import Derived.Test.YtakapfgjdhliaaaX14
import Derived.Test.YtakapfgjdhliaaaD18
import Derived.Test.YtakapfgjdhliaaaL38
import Derived.Test.YtakapfgjdhliaaaD17
/- The isomorphisms: the reference's side. -/
namespace Go.Proofs.Ytakapfgjdhliaaa
open Go.RowKit DM
set_option linter.unusedSimpArgs false
set_option linter.unusedVariables false
set_option maxRecDepth 100000
set_option maxHeartbeats 1000000

theorem eq_ds_eql (n : Int) (b w : Nat → Nat) (n' : Int) (b' w' : Nat → Nat) : eqE T .eql 48 (ds_ n b w) (ds_ n' b' w') = some (eqDs n b w n' b' w') := by rfl

theorem l02All_fn (N M : Nat) (b w b' w' : Nat → Nat) (hD : Des N b w) (hD' : Des M b' w') :
    FnS Try.prog 68 [ds_ N b w, ds_ M b' w'] [] (fun r m' => r = .sl 0 0 (isoR N b w M b' w').length 16 ∧ m' = [.row 25 (isoR N b w M b' w').length 16 (plsF (isoR N b w M b' w'))]) := by
  by_cases hNM : N = M
  · subst hNM
    unfold isoR
    rw [if_pos rfl]
    have hN := hD.le
    have hb16 := hD.pb.lt16 hN
    have hw16 := hD.pw.lt16 hN
    have hb16' := hD'.pb.lt16 hN
    have hw16' := hD'.pw.lt16 hN
    have hna := l02Naming_fn N b w 0 hD.pos hN hD.pb.lt hD.pw.lt
    have hn16 := nameF_lt hN hD.pb.lt hD.pw.lt hD.pos
    have hre := l02Rename_fn N b w (nameF b w 0) hN hb16 hw16 (fun i _ => hn16 i)
    refine FnS.intoN T tok Try.func68 (by rfl) rfl rfl rfl (by simp) ?_
    refine WP.rs T false tok (by rfl) (by exact byObl) ?_
    refine WP.rs T false tok (by rfl) (by exact byObl) ?_
    refine WP.seq ?_
    refine WP.rs T false tok (by rfl) (by exact byObl) ?_
    refine WP.cond (by rfl) (fun h => ?_) (fun h => WP.skip ?_)
    · simp at h
    clear h
    refine WP.rw ?_
    refine WPL.run T false 1 tok (by rfl) (by exact byObl) ?_
    refine WPL.call (hna) (by rfl) (by rfl) (by rfl) (by simp [Sc, sc_pl, sc_ds, pl_ne, ds_ne]) ?_
    refine WPL.fin T false tok (by rfl) (by exact byObl) ?_
    refine WP.rw ?_
    refine WPL.run T false 2 tok (by rfl) (by exact byObl) ?_
    refine WPL.call (hre) (by rfl) (by rfl) (by rfl) (by simp [Sc, sc_pl, sc_ds, pl_ne, ds_ne]) ?_
    refine WPL.fin T false tok (by rfl) (by exact byObl) ?_
    refine WP.seq ?_
    refine WP.rs T false tok (by rfl) (by exact byObl) ?_
    refine WP.block ?_
    refine WP.loopH (⟨fun x : Nat × List (Nat → Nat) => x.1 ≤ N ∧ x.2 = isoL N b w b' w' x.1, fun x => [(2, .p 0 [] 0), (3, .p 1 [] 0), (5, .sl 2 0 x.2.length 16), (6, .p 3 [] 0), (7, .p 4 [] 0), (8, .i .i64 (x.1 : Int))], fun x => [.var (ds_ N b w), .var (ds_ N b' w'), .row 25 x.2.length 16 (plsF x.2), .var (pl (nameF b w 0)), .var (ds_ N (renTo (nameF b w 0) b N) (renTo (nameF b w 0) w N))], fun x => N - x.1⟩) ((0, [])) (⟨Nat.zero_le _, rfl⟩) (Ghost.cut (Nat.le_refl _) (tauOf [0, 1, 2, 3, 4]) _ _ (Taken.of [0, 1, 2, 3, 4] (LeAll.cons (by rfl) (by first | with_reducible exact Root.Le.refl _ | with_reducible exact le_dead | (exact le_row (Nat.le_refl _) (fun j hj => absurd hj (Nat.not_lt_zero _))) | exact byLeq) (by exact byCon) (LeAll.cons (by rfl) (by first | with_reducible exact Root.Le.refl _ | with_reducible exact le_dead | (exact le_row (Nat.le_refl _) (fun j hj => absurd hj (Nat.not_lt_zero _))) | exact byLeq) (by exact byCon) (LeAll.cons (by rfl) (by first | with_reducible exact Root.Le.refl _ | with_reducible exact le_dead | (exact le_row (Nat.le_refl _) (fun j hj => absurd hj (Nat.not_lt_zero _))) | exact byLeq) (by exact byCon) (LeAll.cons (by rfl) (by first | with_reducible exact Root.Le.refl _ | with_reducible exact le_dead | (exact le_row (Nat.le_refl _) (fun j hj => absurd hj (Nat.not_lt_zero _))) | exact byLeq) (by exact byCon) (LeAll.cons (by rfl) (by first | with_reducible exact Root.Le.refl _ | with_reducible exact le_dead | (exact le_row (Nat.le_refl _) (fun j hj => absurd hj (Nat.not_lt_zero _))) | exact byLeq) (by exact byCon) (trivial)))))) rfl rfl) (by exact bySlots)) ?_
    rintro ⟨y, L⟩ ⟨hy, hT⟩
    have hll := isoL_len N b w b' w' y
    dsimp only at hy hT
    rw [← hT] at hll
    dsimp only [Hd.at]
    refine WP.seq ?_
    refine WP.rs T false tok (by rfl) (by exact byObl) ?_
    refine WP.cond (by rfl) (fun hc => WP.skip ?_) (fun hc => WP.exit ?_)
    · have hy : y < N := by have := of_decide_eq_true hc; omega
      clear hc
      have hnb := l02Naming_fn N b' w' y hy hN hD'.pb.lt hD'.pw.lt
      have hn16' := nameF_lt hN hD'.pb.lt hD'.pw.lt hy
      have hrb := l02Rename_fn N b' w' (nameF b' w' y) hN hb16' hw16' (fun i _ => hn16' i)
      have hbk := l01Back_fn (nameF b' w' y) N hN (name_perm hD' hy).lt
      have hth := l01Then_fn (nameF b w 0) (backTo (nameF b' w' y) N) N hN (name_perm hD hD.pos).lt
      have hne := eq_ds_eql N (renTo (nameF b' w' y) b' N) (renTo (nameF b' w' y) w' N) N (renTo (nameF b w 0) b N) (renTo (nameF b w 0) w N)
      have hstep : isoL N b w b' w' (y + 1) = bif isoB N b w b' w' y then L ++ [isoP N b w b' w' y] else L := by rw [hT]; rfl
      change eqE T .eql 48 _ _ = some (isoB N b w b' w' y) at hne
      change FnP Try.prog 47 _ (pl (isoP N b w b' w' y)) at hth
      refine WP.seq (WP.block ?_)
      refine WP.rw ?_
      refine WPL.run T false 2 tok (by rfl) (by exact byObl) ?_
      refine WPL.call (hnb) (by rfl) (by rfl) (by rfl) (by simp [Sc, sc_pl, sc_ds, pl_ne, ds_ne]) ?_
      refine WPL.fin T false tok (by rfl) (by exact byObl) ?_
      refine WP.seq ?_
      refine WP.da (by kernel_rfl) 5 (by kernel_rfl) ?_
      refine WA.takes T false tok [0, 1, 3] (f' := 2) (by kernel_rfl) (by rfl) (by rfl) (by rfl) (by exact byObl) (by rfl) (by rfl) ?_
      refine WA.all [2] (by kernel_rfl) (by simp) ?_; intro i' hi'; simp only [List.mem_cons, List.not_mem_nil, or_false] at hi'
      subst hi'
      refine ⟨_, _, _, rfl, by rfl, by rfl, MK.callP (hrb) (by rfl) (by simp [Sc, sc_pl, sc_ds, pl_ne, ds_ne]), ?_⟩
      refine WA.take (i := 4) (by rfl) (by decide) (by kernel_rfl) (by kernel_rfl) (by kernel_rfl) (by rfl) (by rfl) (ok_eq tok rfl hne) ?_
      refine WA.tail (by rfl) (by rfl) (by kernel_rfl) ?_
      refine WPL.nil (noPan ?_)
      cases hB : isoB N b w b' w' y with
      | false =>
        rw [hB, cond_false] at hstep
        refine WP.cond (by rfl) (fun h => ?_) (fun h => WP.skip ?_)
        · cases h
        clear h
        refine WP.run T false tok (by rfl) (by exact byObl) ?_
        refine Again.next ((y + 1, L)) (Ghost.cut (Nat.le_refl _) (tauOf [0, 1, 2, 3, 4]) _ _ (Taken.of [0, 1, 2, 3, 4] (LeAll.cons (by rfl) (by first | with_reducible exact Root.Le.refl _ | with_reducible exact le_dead | (skip; done) | exact byLeq) (by exact byCon) (LeAll.cons (by rfl) (by first | with_reducible exact Root.Le.refl _ | with_reducible exact le_dead | (skip; done) | exact byLeq) (by exact byCon) (LeAll.cons (by rfl) (by first | with_reducible exact Root.Le.refl _ | with_reducible exact le_dead | (skip; done) | exact byLeq) (by exact byCon) (LeAll.cons (by rfl) (by first | with_reducible exact Root.Le.refl _ | with_reducible exact le_dead | (skip; done) | exact byLeq) (by exact byCon) (LeAll.cons (by rfl) (by first | with_reducible exact Root.Le.refl _ | with_reducible exact le_dead | (skip; done) | exact byLeq) (by exact byCon) (trivial)))))) rfl rfl) (by exact bySlots)) (⟨hy, hstep.symm⟩) (by dsimp only; omega)
      | true =>
        rw [hB, cond_true] at hstep
        refine WP.cond (by rfl) (fun h => ?_) (fun h => WP.skip ?_)
        · clear h
          refine WP.da (by kernel_rfl) 9 (by kernel_rfl) ?_
          refine WA.move 0 (by rfl) (by first | exact .inl rfl | exact .inr rfl) (by kernel_rfl) (by kernel_rfl) (by rfl) (by rfl) ?_
          refine WA.takes T false tok [1, 2, 3, 4, 6, 7] (f' := 5) (by kernel_rfl) (by rfl) (by rfl) (by rfl) (by exact byObl) (by rfl) (by rfl) ?_
          refine WA.all [5] (by kernel_rfl) (by simp) ?_; intro i' hi'; simp only [List.mem_cons, List.not_mem_nil, or_false] at hi'
          subst hi'
          refine ⟨_, _, _, rfl, by rfl, by rfl, MK.callP (hbk) (by rfl) (by simp [Sc, sc_pl, sc_ds, pl_ne, ds_ne]), ?_⟩
          refine WA.all [8] (by kernel_rfl) (by simp) ?_; intro i' hi'; simp only [List.mem_cons, List.not_mem_nil, or_false] at hi'
          subst hi'
          refine ⟨_, _, _, rfl, by rfl, by rfl, MK.callP (hth) (by rfl) (by simp [Sc, sc_pl, sc_ds, pl_ne, ds_ne]), ?_⟩
          refine WA.tail (by rfl) (by rfl) (by kernel_rfl) ?_
          refine WPL.fin T false tok (by rfl) (by exact byObl) ?_
          refine noPan ?_
          refine WP.run T false tok (by rfl) (by exact byObl) ?_
          refine Again.next ((y + 1, L ++ [isoP N b w b' w' y])) (Ghost.cut (Nat.le_refl _) (tauOf [0, 1, 7, 3, 4]) _ _ (Taken.of [0, 1, 7, 3, 4] (LeAll.cons (by rfl) (by first | with_reducible exact Root.Le.refl _ | with_reducible exact le_dead | (exact le_row (by simp) (fun j hj => ap_pls rfl _ _ j (by simpa using hj))) | exact byLeq) (by exact byCon) (LeAll.cons (by rfl) (by first | with_reducible exact Root.Le.refl _ | with_reducible exact le_dead | (exact le_row (by simp) (fun j hj => ap_pls rfl _ _ j (by simpa using hj))) | exact byLeq) (by exact byCon) (LeAll.cons (by rfl) (by first | with_reducible exact Root.Le.refl _ | with_reducible exact le_dead | (exact le_row (by simp) (fun j hj => ap_pls rfl _ _ j (by simpa using hj))) | exact byLeq) (by exact byCon) (LeAll.cons (by rfl) (by first | with_reducible exact Root.Le.refl _ | with_reducible exact le_dead | (exact le_row (by simp) (fun j hj => ap_pls rfl _ _ j (by simpa using hj))) | exact byLeq) (by exact byCon) (LeAll.cons (by rfl) (by first | with_reducible exact Root.Le.refl _ | with_reducible exact le_dead | (exact le_row (by simp) (fun j hj => ap_pls rfl _ _ j (by simpa using hj))) | exact byLeq) (by exact byCon) (trivial)))))) rfl rfl) (by exact bySlots)) (⟨hy, hstep.symm⟩) (by dsimp only; omega)
        · cases h
    · have hy : y = N := by have := of_decide_eq_false hc; omega
      subst hy
      subst hT
      refine WP.rs T false tok (by rfl) (by exact byObl) ?_
      exact WP.ret (Ends.new [2] (by rfl) (by exact byObl) (LeAll.cons (by rfl) (by first | with_reducible exact Root.Le.refl _ | with_reducible exact le_dead | (skip; done) | exact byLeq) (by exact byCon) (trivial)) rfl rfl (rfl) (sc_sl rfl))
  · have hne : ¬ ((N : Int) = (M : Int)) := by omega
    unfold isoR
    rw [if_neg hNM]
    refine FnS.intoN T tok Try.func68 (by rfl) rfl rfl rfl (by simp) ?_
    refine WP.rs T false tok (by rfl) (by exact byObl) ?_
    refine WP.rs T false tok (by rfl) (by exact byObl) ?_
    refine WP.seq ?_
    refine WP.rs T false tok (by rfl) (by exact byObl) ?_
    refine WP.cond (by rfl) (fun h => ?_) (fun h => WP.skip ?_)
    · refine WP.rs T false tok (by rfl) (by exact byObl) ?_
      exact WP.ret (Ends.new [2] (by rfl) (by exact byObl) (LeAll.cons (by rfl) (by first | with_reducible exact Root.Le.refl _ | with_reducible exact le_dead | (exact le_row (Nat.le_refl _) (fun j hj => absurd hj (Nat.not_lt_zero _))) | exact byLeq) (by exact byCon) (trivial)) rfl rfl (rfl) (sc_sl rfl))
    · simp at h; omega

end Go.Proofs.Ytakapfgjdhliaaa

/- Isomorphisms: each is told by where it leads a number; those of a dessin to itself part the darts evenly. -/
namespace Go.Proofs.Ytakapfgjdhliaaa
open Go.RowKit DM
set_option linter.unusedVariables false

section
variable {N M : Nat} {b w b' w' : Nat → Nat}

theorem des_all (hD : Des N b w) {x : Nat} (hx : x < N) {S : Nat → Prop} (h0 : S x) (hS : Cl N b w S) {z : Nat} (hz : z < N) : S z :=
  (bfs_q hD.le hD.pb.lt hD.pw.lt hx).1.min S h0 hS z ((bfs_all hD hx).2.2.2.1 z hz)

/-- Maps that go with the permutations and agree once agree always. -/
theorem eqv_same (hD : Des N b w) {f g : Nat → Nat} (hf : Eqv N b w b' w' f) (hg : Eqv N b w b' w' g) {x : Nat} (hx : x < N) (h : f x = g x) {z : Nat} (hz : z < N) : f z = g z :=
  des_all hD hx (S := fun z => f z = g z) h (fun z hz e => ⟨by show f (b z) = g (b z); rw [(hf z hz).1, (hg z hz).1]; exact congrArg b' e, by show f (w z) = g (w z); rw [(hf z hz).2, (hg z hz).2]; exact congrArg w' e⟩) hz

/-- A map into a dessin reaches all its darts. -/
theorem eqv_onto (hD : Des N b w) (hD' : Des M b' w') {f : Nat → Nat} (hf : Eqv N b w b' w' f) (hl : ∀ x, x < N → f x < M) {z : Nat} (hz : z < M) : ∃ x, x < N ∧ f x = z :=
  des_all hD' (hl 0 hD.pos) (S := fun z => ∃ x, x < N ∧ f x = z) ⟨0, hD.pos, rfl⟩ (fun z hz ⟨x, hx, e⟩ => ⟨⟨b x, hD.pb.lt x hx, by rw [(hf x hx).1, e]⟩, ⟨w x, hD.pw.lt x hx, by rw [(hf x hx).2, e]⟩⟩) hz

theorem iso_of (hD : Des N b w) (hD' : Des N b' w') {y : Nat} (hy : y < N) (h : isoB N b w b' w' y = true) : Perm N (isoP N b w b' w' y) ∧ isoP N b w b' w' y 0 = y ∧ Eqv N b w b' w' (isoP N b w b' w' y) ∧ ∀ i, N ≤ i → isoP N b w b' w' y i = 0 := by
  rcases iso_step hD hD' hy with ⟨_, e⟩ | ⟨o, r, _, h1, h2⟩
  · rw [h] at e; cases e
  rcases mor_spec hD hD'.pb.lt hD'.pw.lt hy with ⟨r', _⟩ | ⟨o', r', h0, h3, _⟩
  · rw [r] at r'; cases r'
  obtain rfl : o = o' := Option.some.inj (r.symm.trans r')
  have hin : ∀ x, x < N → isoP N b w b' w' y x = (o x).toNat := fun x hx => by
    rw [h2]; show (if x < N then (o x).toNat else 0) = _; rw [if_pos hx]
  have hlt : ∀ x, x < N → isoP N b w b' w' y x < N := fun x hx => by rw [hin x hx]; have := h1 x hx; omega
  have heq : Eqv N b w b' w' (isoP N b w b' w' y) := fun x hx => by
    have h4 := (h3 x hx).2.2
    rw [hin _ (hD.pb.lt x hx), hin _ (hD.pw.lt x hx), hin x hx, h4.1, h4.2]
    exact ⟨Int.toNat_natCast _, Int.toNat_natCast _⟩
  refine ⟨⟨hlt, inj_of_onto fun z hz => eqv_onto hD hD' heq hlt hz⟩, ?_, heq, fun i hi => ?_⟩
  · rw [hin 0 hD.pos, h0]; exact Int.toNat_natCast _
  · rw [h2]; show (if i < N then (o i).toNat else 0) = 0; rw [if_neg (by omega)]

theorem iso_true (hD : Des N b w) (hD' : Des N b' w') {y : Nat} (hy : y < N) {f : Nat → Nat} (h0 : f 0 = y) (hf : Eqv N b w b' w' f) : isoB N b w b' w' y = true := by
  rcases iso_step hD hD' hy with ⟨r, _⟩ | ⟨o, _, e, _⟩
  · rcases mor_spec hD hD'.pb.lt hD'.pw.lt hy with ⟨_, hno⟩ | ⟨o', r', _⟩
    · exact absurd (hno f h0 hf) id
    · rw [r] at r'; cases r'
  · exact e

theorem isoL_map (N : Nat) (b w b' w' : Nat → Nat) : ∀ k, isoL N b w b' w' k = ((List.range k).filter (isoB N b w b' w')).map (isoP N b w b' w')
  | 0 => rfl
  | k + 1 => by
    rw [List.range_succ, List.filter_append, List.map_append, ← isoL_map N b w b' w' k]
    simp only [isoL, List.filter_cons, List.filter_nil]
    cases isoB N b w b' w' k <;> simp

/-- Each isomorphism in the list is one. -/
theorem isoL_get (hD : Des N b w) (hD' : Des N b' w') {i : Nat} (hi : i < (isoL N b w b' w' N).length) : ∃ y, y < N ∧ isoB N b w b' w' y = true ∧ (isoL N b w b' w' N).getD i (fun _ => 0) = isoP N b w b' w' y := by
  have hm : (isoL N b w b' w' N).getD i (fun _ => 0) ∈ isoL N b w b' w' N := by
    rw [List.getD_eq_getElem?_getD, List.getElem?_eq_getElem hi]; exact List.getElem_mem hi
  rw [isoL_map] at hm
  obtain ⟨y, hy, e⟩ := List.mem_map.1 hm
  rw [List.mem_filter, List.mem_range] at hy
  refine ⟨y, hy.1, hy.2, ?_⟩
  rw [isoL_map N b w b' w' N] at *
  exact e.symm
theorem isoL_count (N : Nat) (b w b' w' : Nat → Nat) : (isoL N b w b' w' N).length = ((List.range N).filter (isoB N b w b' w')).length := by rw [isoL_map, List.length_map]

theorem eqv_id : Eqv N b w b w fun x => x := fun x _ => ⟨rfl, rfl⟩
theorem auts_pos (hD : Des N b w) : 0 < (isoL N b w b w N).length := by
  rw [isoL_count]
  exact List.length_pos_of_mem (List.mem_filter.2 ⟨List.mem_range.2 hD.pos, iso_true hD hD hD.pos (f := fun x => x) rfl eqv_id⟩)

/-- Renaming by an isomorphism gives the other dessin. -/
theorem iso_ren (hD : Des N b w) (hD' : Des N b' w') (hz : ∀ i, N ≤ i → b' i = 0) (hz2 : ∀ i, N ≤ i → w' i = 0) {p : Nat → Nat} (hp : Perm N p) (he : Eqv N b w b' w' p) : renTo p b N = b' ∧ renTo p w N = w' := by
  have key : ∀ {v v' : Nat → Nat}, (∀ x, x < N → p (v x) = v' (p x)) → (∀ i, N ≤ i → v' i = 0) → renTo p v N = v' := fun {v v'} h hz => by
    funext i
    by_cases hi : i < N
    · obtain ⟨x, hx, rfl⟩ := perm_surj hD.le hp hi
      rw [renTo_at hp v N (Nat.le_refl _) x hx, h x hx]
    · rw [renTo_out hp.lt N (Nat.le_refl _) i (by omega), hz i (by omega)]
  exact ⟨key (fun x hx => (he x hx).1) hz, key (fun x hx => (he x hx).2) hz2⟩
end

/-! ### Parting evenly -/
theorem len_filter_split (f : Nat → Bool) : ∀ l : List Nat, l.length = (l.filter f).length + (l.filter fun x => !f x).length
  | [] => rfl
  | x :: l => by
    have := len_filter_split f l
    simp only [List.filter_cons, List.length_cons]
    cases f x <;> simp <;> omega

theorem dvd_of_fibers {k : Nat} (f : Nat → Nat) : ∀ (m : Nat) (l : List Nat), (∀ x ∈ l, f x < m) → (∀ r, r < m → k ∣ (l.filter fun x => decide (f x = r)).length) → k ∣ l.length
  | 0, l, hf, _ => by
    cases l with
    | nil => exact Nat.dvd_zero _
    | cons a l => exact absurd (hf a (List.mem_cons_self ..)) (Nat.not_lt_zero _)
  | m + 1, l, hf, h => by
    rw [len_filter_split (fun x => decide (f x = m)) l]
    refine Nat.dvd_add (h m (Nat.lt_succ_self _)) (dvd_of_fibers f m _ (fun x hx => ?_) fun r hr => ?_)
    · rw [List.mem_filter] at hx
      have h1 := hf x hx.1
      have h2 : f x ≠ m := by simpa using hx.2
      omega
    · rw [List.filter_filter]
      have e : (l.filter fun x => decide (f x = r) && !decide (f x = m)) = l.filter fun x => decide (f x = r) := List.filter_congr fun x _ => by
        by_cases c : f x = r
        · rw [decide_eq_true c, decide_eq_false (by omega : ¬ f x = m)]; rfl
        · rw [decide_eq_false c]; rfl
      rw [e]; exact h r (by omega)

section
variable {N : Nat} {b w : Nat → Nat}

/-- An automorphism leads x to z. -/
def AutR (N : Nat) (b w : Nat → Nat) (x z : Nat) : Prop := ∃ f, Perm N f ∧ Eqv N b w b w f ∧ f x = z

theorem AutR.refl (x : Nat) : AutR N b w x x := ⟨fun x => x, ⟨fun i h => h, fun _ _ _ _ e => e⟩, eqv_id, rfl⟩
theorem AutR.trans {x y z : Nat} (h : AutR N b w x y) (h' : AutR N b w y z) : AutR N b w x z := by
  obtain ⟨f, hf, he, rfl⟩ := h
  obtain ⟨g, hg, hk, rfl⟩ := h'
  refine ⟨fun x => g (f x), ⟨fun i hi => hg.lt _ (hf.lt i hi), fun i j hi hj e => hf.inj i j hi hj (hg.inj _ _ (hf.lt i hi) (hf.lt j hj) e)⟩, fun x hx => ?_, rfl⟩
  have h1 := he x hx
  have h2 := hk (f x) (hf.lt x hx)
  show g (f (b x)) = b (g (f x)) ∧ g (f (w x)) = w (g (f x))
  rw [h1.1, h1.2]
  exact h2
theorem AutR.symm (hD : Des N b w) {x y : Nat} (hx : x < N) (h : AutR N b w x y) : AutR N b w y x := by
  obtain ⟨f, hf, he, rfl⟩ := h
  have hb : ∀ i, i < N → backTo f N (f i) = i := fun i hi => backTo_at hf N (Nat.le_refl _) i hi
  refine ⟨backTo f N, perm_back hD.le hf, fun z hz => ?_, hb x hx⟩
  obtain ⟨u, hu, rfl⟩ := perm_surj hD.le hf hz
  rw [← (he u hu).1, ← (he u hu).2, hb u hu, hb _ (hD.pb.lt u hu), hb _ (hD.pw.lt u hu)]
  exact ⟨rfl, rfl⟩

/-- Where the automorphisms lead x. -/
theorem orb_len (hD : Des N b w) {x : Nat} (hx : x < N) (P : Nat → Bool) (hP : ∀ z, z < N → (P z = true ↔ AutR N b w x z)) : ((List.range N).filter P).length = (isoL N b w b w N).length := by
  rw [isoL_count]
  have hperm : ((List.range N).filter P).Perm (((List.range N).filter (isoB N b w b w)).map fun y => isoP N b w b w y x) := by
    rw [List.perm_ext_iff_of_nodup (List.nodup_range.filter _)]
    · intro z
      rw [List.mem_filter, List.mem_range, List.mem_map]
      constructor
      · rintro ⟨hz, h⟩
        obtain ⟨f, hf, he, rfl⟩ := (hP z hz).1 h
        have h0 := iso_true hD hD (hf.lt 0 hD.pos) (f := f) rfl he
        obtain ⟨_, a2, a3, _⟩ := iso_of hD hD (hf.lt 0 hD.pos) h0
        exact ⟨f 0, List.mem_filter.2 ⟨List.mem_range.2 (hf.lt 0 hD.pos), h0⟩, eqv_same hD a3 he hD.pos a2 hx⟩
      · rintro ⟨y, hy, rfl⟩
        rw [List.mem_filter, List.mem_range] at hy
        obtain ⟨a1, a2, a3, _⟩ := iso_of hD hD hy.1 hy.2
        exact ⟨a1.lt x hx, (hP _ (a1.lt x hx)).2 ⟨_, a1, a3, rfl⟩⟩
    · unfold List.Nodup
      rw [List.pairwise_map]
      refine List.Pairwise.imp_of_mem (fun {y y'} hy hy' hne e => hne ?_) (List.nodup_range.filter _)
      rw [List.mem_filter, List.mem_range] at hy hy'
      obtain ⟨a1, a2, a3, _⟩ := iso_of hD hD hy.1 hy.2
      obtain ⟨c1, c2, c3, _⟩ := iso_of hD hD hy'.1 hy'.2
      have := eqv_same hD a3 c3 hx e hD.pos
      rw [a2, c2] at this; exact this
  rw [hperm.length_eq, List.length_map]

/-- The number of automorphisms divides that of darts. -/
theorem auts_dvd (hD : Des N b w) : (isoL N b w b w N).length ∣ N := by
  let R : Nat → Nat → Bool := fun r x => @decide (AutR N b w r x) (Classical.propDecidable _)
  have hR : ∀ r x, R r x = true ↔ AutR N b w r x := fun r x => @decide_eq_true_iff _ (Classical.propDecidable _)
  let rep : Nat → Nat := fun x => ((List.range N).find? fun r => R r x).getD 0
  have hrep : ∀ x, x < N → rep x < N ∧ AutR N b w (rep x) x := fun x hx => by
    show ((List.range N).find? fun r => R r x).getD 0 < N ∧ _
    cases e : (List.range N).find? fun r => R r x with
    | none =>
      have := List.find?_eq_none.1 e x (List.mem_range.2 hx)
      exact absurd ((hR x x).2 (.refl x)) this
    | some r =>
      have h1 := List.find?_some e
      have h2 := List.mem_of_find?_eq_some e
      refine ⟨List.mem_range.1 h2, ?_⟩
      show AutR N b w (((List.range N).find? fun r => R r x).getD 0) x
      rw [e]; exact (hR r x).1 h1
  have hsame : ∀ x z, x < N → z < N → AutR N b w x z → rep x = rep z := fun x z hx hz h => by
    show ((List.range N).find? fun r => R r x).getD 0 = ((List.range N).find? fun r => R r z).getD 0
    congr 1
    refine congrArg (fun p => (List.range N).find? p) ?_
    funext r
    rw [Bool.eq_iff_iff, hR, hR]
    exact ⟨fun h1 => h1.trans h, fun h1 => h1.trans (h.symm hD hx)⟩
  have := dvd_of_fibers (k := (isoL N b w b w N).length) rep N (List.range N) (fun x hx => (hrep x (List.mem_range.1 hx)).1) fun r hr => by
    by_cases e : ∃ x, x < N ∧ rep x = r
    · obtain ⟨x, hx, rfl⟩ := e
      have h1 := hrep x hx
      rw [orb_len hD h1.1 (fun z => decide (rep z = rep x)) fun z hz => ?_]
      · exact Nat.dvd_refl _
      · rw [decide_eq_true_eq]
        constructor
        · intro e
          have := (hrep z hz).2
          rw [e] at this; exact this
        · intro h
          exact (hsame x z hx hz ((h1.2.symm hD h1.1).trans h)).symm
    · have : (List.range N).filter (fun x => decide (rep x = r)) = [] := List.filter_eq_nil_iff.2 fun x hx => by
        simp only [decide_eq_true_eq]
        exact fun h => e ⟨x, List.mem_range.1 hx, h⟩
      rw [this]; exact Nat.dvd_zero _
  rwa [List.length_range] at this
end

end Go.Proofs.Ytakapfgjdhliaaa

/- What comes behind: a piece of code that is reached by several ways is walked once. -/
namespace Go.Proofs.Ytakapfgjdhliaaa.DM
open Go.RowKit

/-- The code behind the first k parts. -/
def dropO : Nat → Code → Option Code
  | 0, c => some c
  | k + 1, .seq _ b => dropO k b
  | _ + 1, _ => none

theorem WP.share {P : Program} {N K : Nat} {Q : Exit → St → Prop} {s : St} (k : Nat) (s1 : St) {c d : Code} (_hd : dropO k c = some d) (hr : WP P N K d Q s1) (h : WP P N K d Q s1 → WP P N K c Q s) : WP P N K c Q s := h hr
/-- A part that leads, however it goes, to one of some states told alike. -/
theorem WP.seqX {P : Program} {N K : Nat} {Q : Exit → St → Prop} {x y : Code} {s : St} {α : Type} (C : α → Prop) (I : α → St) (h : WP P N K x (Then (fun s' => ∃ z, C z ∧ Ghost K s' (I z)) Q) s) (k : ∀ z, C z → WP P N K y Q (I z)) : WP P N K (.seq x y) Q s := by
  refine WP.seq (h.mono ?_)
  intro e s' h
  cases e with
  | normal =>
    obtain ⟨z, hz, hg⟩ := h
    exact WP.ghost hg (k z hz)
  | _ => exact h
end Go.Proofs.Ytakapfgjdhliaaa.DM
