/- Loads and stores on plain data are those of the model. -/
import Derived.Test.YtakpeibmaejmeaaD3
namespace Go.Proofs.Ytakpeibmaejmeaa.DM
open Go.RowKit

theorem isAgg_run {P : Program} {t : TypeId} {i : TI} (h : i.ok P t) (w : World) : (isAgg t).run P w = .ok i.ty.agg w := by
  have hf := h.fits
  unfold isAgg
  rw [Sem.run_bind]
  cases ht : i.ty <;> rw [ht] at hf <;> simp only [Ty.fits] at hf
  case st fs => obtain ⟨fields, hf, _⟩ := hf; rw [run_underlying hf w]; rfl
  case other =>
    obtain ⟨d, hf, hd⟩ := hf
    rw [run_underlying hf w]
    cases d <;> first | rfl | (simp at hd)
  all_goals (rw [run_underlying hf w]; rfl)

theorem sizeOf_run {P : Program} {t : TypeId} {i : TI} (h : i.ok P t) (w : World) : (sizeOf t).run P w = .ok i.sz w := by
  have hi := h.info
  cases hq : P.info? t with
  | none => rw [hq] at hi; cases hi
  | some x =>
    rw [hq] at hi
    simp only [Option.map_some, Option.some.injEq, Prod.mk.injEq] at hi
    simp [sizeOf, typeInfo, hq, hi.2.1]

theorem info_size {P : Program} {t : TypeId} {i : TI} (h : i.ok P t) : (P.info? t).map (·.size) = some i.sz := by
  have hi := h.info
  cases hq : P.info? t with
  | none => rw [hq] at hi; cases hi
  | some x =>
    rw [hq] at hi
    simp only [Option.map_some, Option.some.injEq, Prod.mk.injEq] at hi
    simp [hi.2.1]

theorem zeroValue_run {P : Program} {t : TypeId} {i : TI} (h : i.ok P t) (w : World) : (zeroValue t).run P w = .ok (enc noR i.z) w := by
  have hi := h.info
  cases hq : P.info? t with
  | none => rw [hq] at hi; cases hi
  | some x =>
    rw [hq] at hi
    simp only [Option.map_some, Option.some.injEq, Prod.mk.injEq] at hi
    simp [zeroValue, typeInfo, hq, hi.1]

theorem enc_cells {ρ : Rho} : ∀ (d : Dat), WF d → (enc ρ d).cells = (cells ρ noA d).toArray := by
  intro d h
  cases d <;> first | rfl | exact h.elim | skip
  case sl r a b c => simp only [enc, cells, leaf, RV.slice]; (repeat' split) <;> rfl

theorem addr_add (b o j : Nat) : (⟨b, o, none⟩ : Addr).add j = ⟨b, o + j, none⟩ := by
  unfold Addr.add; split <;> simp_all

theorem Root.navE_ok {R : Root} {q : List Nat} {ps : List Prop} {x : Dat} (h : R.navE q = some (ps, x)) (hp : AllP ps) : R.navL q = some x ∧ R.offA q = R.offs q := by
  cases R with
  | dead => simp [Root.navE] at h
  | var d =>
    have h1 := DM.navE_ok (q := q) h hp
    refine ⟨h1, ?_⟩
    simp only [Root.offA, Root.offs]
    rw [offA_eq q d x 0 h1]; omega
  | row e n s f =>
    cases q with
    | nil => simp [Root.navE] at h
    | cons i q =>
      simp only [Root.navE] at h
      split at h
      · rename_i hq
        simp only [Option.some.injEq, Prod.mk.injEq] at h
        obtain ⟨rfl, rfl⟩ := h
        obtain ⟨h1, h2⟩ := hp.cons
        have h3 := DM.navE_ok hq h2
        refine ⟨by simp only [Root.navL, if_pos h1]; exact h3, ?_⟩
        simp only [Root.offA, Root.offs]
        rw [offA_eq q _ _ _ h3]; omega
      · cases h
  | ro n s f =>
    cases q with
    | nil => simp [Root.navE] at h
    | cons i q =>
      simp only [Root.navE] at h
      split at h
      · rename_i hq
        simp only [Option.some.injEq, Prod.mk.injEq] at h
        obtain ⟨rfl, rfl⟩ := h
        obtain ⟨h1, h2⟩ := hp.cons
        have h3 := DM.navE_ok hq h2
        refine ⟨by simp only [Root.navL, if_pos h1]; exact h3, ?_⟩
        simp only [Root.offA, Root.offs]
        rw [offA_eq q _ _ _ h3]; omega
      · cases h

/-- The content of the root's own block. -/
theorem Root.flat_nav {R : Root} {q : List Nat} {x : Dat} (h : R.navL q = some x) : ∃ d, R.flat = some d ∧ DM.navL d q = some x ∧ R.offs q = DM.offs d q ∧ (R.mine = true → ∀ y, (R.upd q y).flat = some (DM.upd d q y)) := by
  cases R with
  | dead => simp [Root.navL] at h
  | var d => exact ⟨d, rfl, h, rfl, fun _ _ => rfl⟩
  | row e n s f =>
    cases q with
    | nil => simp [Root.navL] at h
    | cons i q => exact ⟨.ar n s f, rfl, by simpa only [Root.navL, DM.navL] using h, rfl, fun _ _ => rfl⟩
  | ro n s f =>
    cases q with
    | nil => simp [Root.navL] at h
    | cons i q => exact ⟨.ar n s f, rfl, by simpa only [Root.navL, DM.navL] using h, rfl, fun h => by cases h⟩

theorem wf_flat {R : Root} {c d : Dat} (hc : R.con = some c) (hf : R.flat = some d) (h : WF c) : WF d := by
  cases R <;> simp only [Root.con, Root.flat, Option.some.injEq] at hc hf <;> first | (cases hc; done) | (subst hc; subst hf; exact h)

theorem con_of_flat {R : Root} {d : Dat} (hf : R.flat = some d) : ∃ c, R.con = some c := by
  cases R <;> first | exact ⟨_, rfl⟩ | cases hf

theorem append_get {pre xs post : List Value} {j : Nat} {u : Value} (h : xs[j]? = some u) : (pre ++ xs ++ post)[pre.length + j]? = some u := by
  have hj : j < xs.length := (List.getElem?_eq_some_iff.1 h).1
  rw [List.append_assoc, List.getElem?_append_right (by omega), show pre.length + j - pre.length = j by omega, List.getElem?_append_left hj]
  exact h

/-- THE CELLS OF A PART LIE AT ITS OFFSET. -/
theorem Rep.part {ρ : Rho} {m : List Root} {w : World} (h : Rep ρ m w) {r : Nat} {R : Root} {q : List Nat} {x : Dat} (hr : m[r]? = some R) (hq : R.navL q = some x) :
    WF x ∧ (ρ r []).nil = false ∧ ∀ j u, (cells ρ (fun z => ρ r (q ++ z)) x)[j]? = some u → w.cell? ⟨(ρ r []).b, (ρ r []).o + R.offs q + j, none⟩ = some u := by
  obtain ⟨d, hf, hn, ho, _⟩ := Root.flat_nav hq
  obtain ⟨c, hc⟩ := con_of_flat hf
  have hw : WF d := wf_flat hc hf (h.wf r R c hr hc).1
  obtain ⟨hx, pre, post, hl, hcs, _⟩ := focus_cells ρ (A := ρ r) hw hn
  have hget : ∀ j u, (cells ρ (fun z => ρ r (q ++ z)) x)[j]? = some u → (cells ρ (ρ r) d)[R.offs q + j]? = some u := by
    intro j u hu
    rw [hcs, ho, ← hl]
    exact append_get hu
  cases R with
  | dead => cases hf
  | var d' =>
    cases hf
    obtain ⟨blk, t, h1, h2, h3, h4⟩ := h.var r d hr
    refine ⟨hx, h3, fun j u hu => ?_⟩
    have := hget j u hu
    rw [← h4] at this
    rw [h2, Nat.zero_add, cell_of_row w _ _ blk t (0, 0) h1]
    simpa using this
  | row e n s f =>
    cases hf
    obtain ⟨blk, h1, h2, h3, _, _, _, h4⟩ := h.row r _ _ [] e n s f hr rfl hc (by cases hc; rfl) (.inl rfl)
    refine ⟨hx, h3, fun j u hu => ?_⟩
    have := hget j u hu
    have h4' : blk.toList.take (n * s) = cells ρ (ρ r) (.ar n s f) := h4
    rw [← h4', List.getElem?_take] at this
    rw [h2, Nat.zero_add, cell_of_row w _ _ blk e (0, 0) h1]
    split at this
    · simpa using this
    · cases this
  | ro n s f =>
    cases hf
    cases hc
    rcases h.ro r _ _ [] 0 n s f hr (.inl rfl) rfl rfl with ⟨_, hz⟩ | ⟨h1, _, _, _, h5⟩
    · subst hz
      cases q with
      | nil => simp [Root.navL] at hq
      | cons i q => simp [Root.navL] at hq
    · refine ⟨hx, h1, fun j u hu => ?_⟩
      have := h5 _ u (hget j u hu)
      rwa [← Nat.add_assoc] at this

theorem fit_sz {i : TI} {v : Dat} (h : fit i v = true) : DM.sz v = i.sz ∧ (i.ty.agg = false → isScalar v = true) ∧ (i.ty.agg = true → (∃ n s f, v = .ar n s f) ∨ (∃ n f, v = .st n f)) := by
  unfold fit at h
  split at h
  · rename_i n s f hag
    exact ⟨Nat.eq_of_beq_eq_true h, (fun e => by rw [hag] at e; cases e), fun _ => .inl ⟨_, _, _, rfl⟩⟩
  · rename_i n f hag
    exact ⟨Nat.eq_of_beq_eq_true h, (fun e => by rw [hag] at e; cases e), fun _ => .inr ⟨_, _, rfl⟩⟩
  · rename_i v0 _ v1 hag
    simp only [Bool.and_eq_true] at h
    refine ⟨?_, fun _ => h.1, (fun e => by rw [hag] at e; cases e)⟩
    rw [Nat.eq_of_beq_eq_true h.2]
    have hs := h.1
    cases v0 <;> first | rfl | cases hs
  · cases h

theorem navL_nav : ∀ {q : List Nat} {d x : Dat}, DM.navL d q = some x → nav d q = some x := by
  intro q
  induction q with
  | nil => intro d x h; simpa [DM.navL, nav] using h
  | cons i q ih =>
    intro d x h
    cases d <;> simp only [DM.navL] at h <;> first | (cases h; done) | skip
    all_goals
      split at h
      · rename_i hi; simp only [nav, if_pos hi]; exact ih h
      · cases h

theorem Rep.part_sc {ρ : Rho} {m : List Root} {w : World} (hrep : Rep ρ m w) {r : Nat} {R : Root} {q : List Nat} {x : Dat} (hR : m[r]? = some R) (hnl : R.navL q = some x) : Sc m.length x := by
  obtain ⟨d, hf, hn, _, _⟩ := Root.flat_nav hnl
  obtain ⟨c, hc⟩ := con_of_flat hf
  have hs := (hrep.wf r R c hR hc).2
  have hsd : Sc m.length d := by cases R <;> simp only [Root.con, Root.flat, Option.some.injEq] at hc hf <;> first | (cases hc; done) | (subst hc; subst hf; exact hs)
  exact sc_nav (navL_nav hn) hsd

theorem plE_ok {v : Dat} (hs : isScalar v = true ∨ (∃ n s f, v = .ar n s f) ∨ (∃ n f, v = .st n f)) (h : AllP (plE v)) : Pl v := by
  rcases hs with hs | ⟨n, s, f, rfl⟩ | ⟨n, f, rfl⟩
  · cases v <;> first | trivial | cases hs
  · exact h
  · exact h

theorem ok_of {v : Dat} (h1 : WF v) (h2 : Pl v) : Ok v := by
  cases v <;> first | exact ⟨h1, h2⟩ | exact h1.elim

theorem loadE_ok {P : Program} {T : TyEnv} (hT : TOK P T) {t : TypeId} {x v : Dat} {m : List Root} {ps : List Prop} (h : loadE T t x m = some (ps, v)) (hp : AllP ps)
    {ρ : Rho} {w : World} (hrep : Rep ρ m w) : (Instr.loadAt t (enc ρ x)).run P w = .ok (enc ρ v) w ∧ Sc m.length v ∧ Ok v := by
  unfold loadE at h
  split at h
  case h_2 => cases h
  rename_i r q o i hti
  split at h
  case h_2 => cases h
  rename_i R hR
  split at h
  case h_2 => cases h
  rename_i ps0 v0 hnav
  cases hfit : fit i v0 with
  | false => rw [hfit] at h; cases h
  | true =>
  rw [hfit] at h
  simp only [cond_true, Option.some.injEq, Prod.mk.injEq] at h
  obtain ⟨rfl, rfl⟩ := h
  obtain ⟨hp1, hp2⟩ := hp.app
  obtain ⟨hoff, hp3⟩ := hp2.cons
  obtain ⟨hnl, hoo⟩ := Root.navE_ok hnav hp1
  obtain ⟨hwx, hnil, hcell⟩ := hrep.part hR hnl
  have hti' := hT t i hti
  obtain ⟨hsz, hf1, hf2⟩ := fit_sz hfit
  have hpl : Pl v0 := plE_ok (by cases hag : i.ty.agg with | false => exact .inl (hf1 hag) | true => exact .inr (hf2 hag)) hp3
  refine ⟨?_, hrep.part_sc hR hnl, ok_of hwx hpl⟩
  have hadr : enc ρ (.p r q o) = .pointer (some ⟨(ρ r []).b, (ρ r []).o + R.offs q, none⟩) := by
    rw [← hoo, hoff]; rfl
  rw [hadr]
  unfold Instr.loadAt
  simp only [Instr.sureAddr, Sem.run_bind, Sem.run_pure, Result.andThen_ok]
  unfold loadVar
  rw [Sem.run_bind, isAgg_run hti' w]
  cases hag : i.ty.agg with
  | true =>
    have hlen : (cells ρ noA v0).length = i.sz := by rw [cells_length ρ _ _ hwx]; exact hsz
    have hl := run_loadCells_list (P := P) w ⟨(ρ r []).b, (ρ r []).o + R.offs q, none⟩ (cells ρ noA v0) (fun j u hu => by
      rw [addr_add]
      exact hcell j u (by rw [cells_plain _ _ noA hpl]; exact hu))
    rw [hlen] at hl
    simp only [Result.andThen_ok, if_true, Sem.run_bind, sizeOf_run hti' w, hl, Sem.run_pure]
    rcases hf2 hag with ⟨n, s, f, rfl⟩ | ⟨n, f, rfl⟩ <;> rfl
  | false =>
    have hsca := hf1 hag
    have h1 : cells ρ (fun z => ρ r (q ++ z)) v0 = [enc ρ v0] := by cases v0 <;> first | rfl | cases hsca
    have h2 := hcell 0 (enc ρ v0) (by rw [h1]; rfl)
    rw [Nat.add_zero] at h2
    simp only [Result.andThen_ok, Bool.false_eq_true, if_false]
    show (load _ _).run P w = _
    simp [load, Sem.run, h2]

end Go.Proofs.Ytakpeibmaejmeaa.DM
