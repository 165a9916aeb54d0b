import Derived.Test.YtakpeibmaejmeaaD4
import Derived.Laws.CopyRow
/- Stores. -/
namespace Go.Proofs.Ytakpeibmaejmeaa.DM
open Go.RowKit

theorem splice {L pre xs post rest ys : List Value} (h : L = pre ++ xs ++ post ++ rest) (hl : ys.length = xs.length) :
    L.take pre.length ++ ys ++ L.drop (pre.length + ys.length) = pre ++ ys ++ post ++ rest := by
  subst h
  rw [hl]
  simp [List.drop_append, List.append_assoc]

theorem storeCells_run {P : Program} {ρ : Rho} {t : TypeId} {i : TI} (hi : i.ok P t) {v : Dat} (hw : WF v) (hs : DM.sz v = i.sz) {w : World} {b o : Nat} {blk : Array Value} {e : TypeId}
    (hb : w.heap[b]? = some (.cells blk e (0, 0))) (ho : o + i.sz ≤ blk.size) :
    (storeVar t ⟨b, o, none⟩ (enc ρ v)).run P w = .ok () (w.setRow b (blk.toList.take o ++ cells ρ noA v ++ blk.toList.drop (o + i.sz)).toArray) := by
  have hl : (cells ρ noA v).length = i.sz := by rw [cells_length ρ _ _ hw, hs]
  have h1 := run_storeCells_at (P := P) b o e (cells ρ noA v) 0 blk w hb (by omega) (cells_one v _ hw)
  unfold storeVar
  rw [Sem.run_bind, sizeOf_run hi w, enc_cells v hw]
  simp only [Result.andThen_ok, List.size_toArray, hl, ne_eq, not_true_eq_false, if_false]
  rw [h1]
  simp [hl]

theorem storeE_ok {P : Program} {T : TyEnv} (hT : TOK P T) {t : TypeId} {x v : Dat} {m m' : List Root} {ps : List Prop} (h : storeE T t x v m = some (ps, m')) (hp : AllP ps)
    {ρ : Rho} {w : World} (hrep : Rep ρ m w) (hsv : Sc m.length v) (hok : Ok v) : ∃ w', (Instr.storeAt t (enc ρ x) (enc ρ v)).run P w = .ok () w' ∧ Rep ρ m' w' ∧ Tr ρ m w ρ m' w' := by
  unfold storeE at h
  split at h
  case h_2 => cases h
  rename_i r q o i hti
  split at h
  case h_2 => cases h
  rename_i R hR
  cases hm : R.mine with
  | false => rw [hm] at h; cases h
  | true =>
  rw [hm] at h
  simp only [cond_true] at h
  split at h
  case h_2 => cases h
  rename_i ps0 old hnav
  cases hfit0 : fit i v && (R.rowS q i.sz || fit i old) with
  | false => rw [hfit0] at h; cases h
  | true =>
  rw [hfit0] at h
  simp only [Bool.and_eq_true, Bool.or_eq_true] at hfit0
  obtain ⟨hfit, hfit'⟩ := hfit0
  simp only [cond_true, Option.some.injEq, Prod.mk.injEq] at h
  obtain ⟨rfl, rfl⟩ := h
  obtain ⟨hp1, hoff⟩ := hp.app
  have hoff : R.offA q = o := hoff
  obtain ⟨hnl, hoo⟩ := Root.navE_ok hnav hp1
  have hsv1 := (fit_sz hfit).1
  have hso : DM.sz old = i.sz := by
    rcases hfit' with hfit' | hfit'
    · cases R with
      | dead => cases hm
      | ro => cases hm
      | var d => cases hfit'
      | row e n s f =>
        cases q with
        | nil => cases hfit'
        | cons j q =>
          cases q with
          | cons _ _ => cases hfit'
          | nil =>
            have e1 : s = i.sz := Nat.eq_of_beq_eq_true hfit'
            obtain ⟨d, hf, hn, _, _⟩ := Root.flat_nav hnl
            cases hf
            simp only [navL] at hn
            split at hn
            · rename_i hj
              cases hn
              have := ((hrep.wf r _ _ hR rfl).1 j hj).1
              omega
            · cases hn
    · exact (fit_sz hfit').1
  have hwo := (hrep.part hR hnl).1
  have hvv : WF v ∧ Pl v := by
    have : ∀ n f, v ≠ .tup n f := by
      rintro n f rfl
      cases hag : i.ty.agg with
      | true => rcases (fit_sz hfit).2.2 hag with ⟨_, _, _, e⟩ | ⟨_, _, e⟩ <;> cases e
      | false => have := (fit_sz hfit).2.1 hag; cases this
    cases v <;> first | exact hok | exact absurd rfl (this _ _)
  obtain ⟨hwv, hpv⟩ := hvv
  have hti' := hT t i hti
  obtain ⟨d, hf, hn, ho, hu⟩ := Root.flat_nav hnl
  obtain ⟨c, hc⟩ := con_of_flat hf
  have hwc := hrep.wf r R c hR hc
  have hwd : WF d := wf_flat hc hf hwc.1
  obtain ⟨_, pre, post, hl, hcs, hcu, hwu⟩ := focus_cells ρ (A := ρ r) hwd hn
  have hwu' := hwu v hwv (by rw [hsv1, hso])
  have hflat := hu hm v
  -- the block
  have hblk : ∃ blk e rest, w.heap[(ρ r []).b]? = some (.cells blk e (0, 0)) ∧ (ρ r []).o = 0 ∧ (ρ r []).nil = false ∧ blk.toList = cells ρ (ρ r) d ++ rest ∧
      (∀ d', R = .var d' → rest = []) ∧ (∀ e' n s f, R = .row e' n s f → e' = e ∧ n ≤ (ρ r []).cap ∧ (ρ r []).cap ≤ maxLen ∧ blk.size = (ρ r []).cap * s) := by
    cases R with
    | dead => cases hm
    | ro => cases hm
    | var d' =>
      cases hf
      obtain ⟨blk, e, h1, h2, h3, h4⟩ := hrep.var r d hR
      exact ⟨blk, e, [], h1, h2, h3, by rw [h4, List.append_nil], fun _ _ => rfl, fun _ _ _ _ h => by cases h⟩
    | row e n s f =>
      cases hf
      obtain ⟨blk, h1, h2, h3, h4, h5, h6, h7⟩ := hrep.row r _ _ [] e n s f hR rfl hc (by cases hc; rfl) (.inl rfl)
      have h7' : blk.toList.take (n * s) = cells ρ (ρ r) (.ar n s f) := h7
      exact ⟨blk, e, blk.toList.drop (n * s), h1, h2, h3, by rw [← h7', List.take_append_drop], fun _ h => (by cases h), fun _ _ _ _ h => (by cases h; exact ⟨rfl, h4, h5, h6⟩)⟩
  obtain ⟨blk, e, rest, hb, hb0, hbn, hbl, hbv, hbr⟩ := hblk
  have hA : ∀ (y : Dat), Pl y → cells ρ (fun z => ρ r (q ++ z)) y = cells ρ noA y := fun y hy => cells_plain y _ _ hy
  have hlen : pre.length + i.sz ≤ blk.size := by
    have : blk.size = (cells ρ (ρ r) d).length + rest.length := by rw [← Array.length_toList, hbl, List.length_append]
    rw [this, hcs]
    have h0 : (cells ρ (fun z => ρ r (q ++ z)) old).length = i.sz := by rw [cells_length ρ _ _ hwo, hso]
    simp only [List.length_append, h0]; omega
  have hrun := storeCells_run (P := P) (ρ := ρ) hti' hwv hsv1 hb hlen
  have hsp : blk.toList.take pre.length ++ cells ρ noA v ++ blk.toList.drop (pre.length + i.sz) = cells ρ (ρ r) (DM.upd d q v) ++ rest := by
    have h0 : (cells ρ noA v).length = i.sz := by rw [cells_length ρ _ _ hwv, hsv1]
    have h1 : (cells ρ (fun z => ρ r (q ++ z)) old).length = i.sz := by rw [cells_length ρ _ _ hwo, hso]
    have := splice (L := blk.toList) (pre := pre) (xs := cells ρ (fun z => ρ r (q ++ z)) old) (post := post) (rest := rest) (ys := cells ρ noA v) (by rw [hbl, hcs]) (by rw [h0, h1])
    rw [h0] at this
    rw [this, hcu v, hA v hpv]
  rw [hsp] at hrun
  have hadr : enc ρ (.p r q o) = .pointer (some ⟨(ρ r []).b, pre.length, none⟩) := by
    show Value.pointer (some ⟨(ρ r []).b, (ρ r []).o + o, none⟩) = _
    rw [← hoff, hoo, ho, ← hl, hb0, Nat.zero_add]
  have hblt : (ρ r []).b < w.heap.size := (Array.getElem?_eq_some_iff.1 hb).1
  refine ⟨_, by rw [hadr]; unfold Instr.storeAt; simp only [Instr.sureAddr, Sem.run_bind, Sem.run_pure, Result.andThen_ok]; exact hrun, ?_, ?_⟩
  · have hm' : (R.upd q v).mine = true := by
      cases R <;> first | (cases hm; done) | skip
      · rfl
      · cases q <;> rfl
    refine hrep.replace hR hm hm' (size_setRow _ _ _) (fun k hk => setRow_other w _ _ _ hk) ?_ ?_ ?_ ?_ ?_
    · intro d' hd'
      refine ⟨_, e, setRow_heap w _ _ _ _ _ hb, hb0, hbn, ?_⟩
      cases R with
      | var d0 =>
        cases hf
        cases hd'
        rw [hbv _ rfl]; simp
      | row => cases q <;> cases hd'
      | dead => cases hm
      | ro => cases hm
    · intro e' n s f hd'
      cases R with
      | var d0 => cases hd'
      | dead => cases hm
      | ro => cases hm
      | row e0 n0 s0 f0 =>
        obtain ⟨g1, g2, g3, g4⟩ := hbr _ _ _ _ rfl
        cases q with
        | nil => simp [Root.navL] at hnl
        | cons j q =>
          simp only [Root.upd, Root.row.injEq] at hd'
          obtain ⟨rfl, rfl, rfl, rfl⟩ := hd'
          cases hf
          subst g1
          have e1 : (DM.upd (.ar n0 s0 f0) (j :: q) v) = .ar n0 s0 (fup f0 j (DM.upd (f0 j) q v)) := rfl
          have hl2 : (cells ρ (ρ r) (DM.upd (.ar n0 s0 f0) (j :: q) v)).length = n0 * s0 := by
            rw [cells_length ρ _ _ hwu'.1, hwu'.2]; rfl
          refine ⟨_, setRow_heap w _ _ _ _ _ hb, hb0, hbn, g2, g3, ?_, ?_⟩
          · rw [← g4, List.size_toArray, List.length_append, hl2, ← Array.length_toList, hbl, List.length_append, cells_length ρ _ _ hwd]
            rfl
          · rw [← hl2, List.toList_toArray]
            rw [show List.take (cells ρ (ρ r) (DM.upd (.ar n0 s0 f0) (j :: q) v)).length (cells ρ (ρ r) (DM.upd (.ar n0 s0 f0) (j :: q) v) ++ rest) = cells ρ (ρ r) (DM.upd (.ar n0 s0 f0) (j :: q) v) from by simp]
            rfl
    · intro c0 c' z e' n s f h1 h2 hz h3
      have : c0 = c := by rw [hc] at h1; exact (Option.some.inj h1).symm
      subst this
      cases R with
      | dead => cases hm
      | ro => cases hm
      | var d0 =>
        cases hf; cases hc; cases h2
        exact nav_upd hpv hn h3
      | row e0 n0 s0 f0 =>
        cases hf; cases hc
        cases q with
        | nil => simp [Root.navL] at hnl
        | cons j q =>
          cases h2
          cases z with
          | nil => exact absurd rfl hz
          | cons k z =>
            have h4 : nav (DM.upd (.ar n0 s0 f0) (j :: q) v) (k :: z) = some (.ow e' n s f) := by simpa only [nav, DM.upd] using h3
            have h5 := nav_upd hpv hn h4
            simpa only [nav] using h5
    · intro d' e' n s f hd'
      cases R with
      | dead => cases hm
      | ro => cases hm
      | row => cases q <;> cases hd'
      | var d0 =>
        cases hf; cases hd'
        intro h3
        have h5 := nav_upd hpv hn h3
        cases q with
        | nil => simp only [DM.upd, nav, Option.some.injEq] at h3; subst h3; exact hpv
        | cons j q =>
          cases d <;> simp only [DM.navL] at hn <;> first | (cases hn; done) | skip
          · simp [nav] at h5
          · simp [nav] at h5
    · intro c' h2
      cases R with
      | dead => cases hm
      | ro => cases hm
      | var d0 => cases hf; cases hc; cases h2; exact ⟨hwu'.1, sc_upd hsv hwc.2⟩
      | row e0 n0 s0 f0 =>
        cases hf; cases hc
        cases q with
        | nil => simp [Root.navL] at hnl
        | cons j q => cases h2; exact ⟨hwu'.1, sc_upd (q := j :: q) (d := .ar n0 s0 f0) hsv hwc.2⟩
  · refine ⟨rfl, rfl, rfl, by rw [size_setRow]; exact Nat.le_refl _, fun _ _ => rfl, by simp, fun k hk hne => setRow_other w _ _ _ (fun e1 => ?_), fun r' X z hx hxm hxa => .inr ?_, fun r' X z hx hxa hxn => .inr ?_⟩
    · exact hne r R [] hR hm (.inl ⟨rfl, by rw [hc]; rfl⟩) e1.symm
    · rcases set_get hx with ⟨rfl, rfl, _⟩ | ⟨_, h1⟩
      · refine ⟨r', R, z, hR, hm, ?_, rfl⟩
        rcases hxa with ⟨rfl, _⟩ | ⟨c', e', n, s, f, h2, h3, h9⟩
        · exact .inl ⟨rfl, by rw [hc]; rfl⟩
        · cases R with
          | dead => cases hm
          | ro => cases hm
          | var d0 =>
            cases hf; cases hc; cases h2
            exact .inr ⟨_, _, _, _, _, rfl, nav_upd hpv hn h3, h9⟩
          | row e0 n0 s0 f0 =>
            cases hf; cases hc
            cases q with
            | nil => simp [Root.navL] at hnl
            | cons j q =>
              cases h2
              cases z with
              | nil => exact .inl ⟨rfl, rfl⟩
              | cons k z =>
                have h4 : nav (DM.upd (.ar n0 s0 f0) (j :: q) v) (k :: z) = some (.ow e' n s f) := by simpa only [nav, DM.upd] using h3
                have h5 := nav_upd hpv hn h4
                exact .inr ⟨_, _, _, _, _, rfl, by simpa only [nav] using h5, h9⟩
      · exact ⟨r', X, z, h1, hxm, hxa, rfl⟩
    · rcases set_get hx with ⟨rfl, rfl, _⟩ | ⟨_, h1⟩
      · refine ⟨r', R, z, hR, ?_, hxn, rfl⟩
        rcases hxa with ⟨rfl, _⟩ | ⟨c', e', n, s, f, h2, h3⟩
        · exact .inl ⟨rfl, by rw [hc]; rfl⟩
        · cases R with
          | dead => cases hm
          | ro => cases hm
          | var d0 =>
            cases hf; cases hc; cases h2
            exact .inr ⟨_, _, _, _, _, rfl, nav_upd hpv hn h3⟩
          | row e0 n0 s0 f0 =>
            cases hf; cases hc
            cases q with
            | nil => simp [Root.navL] at hnl
            | cons j q =>
              cases h2
              cases z with
              | nil => exact .inl ⟨rfl, rfl⟩
              | cons k z =>
                have h4 : nav (DM.upd (.ar n0 s0 f0) (j :: q) v) (k :: z) = some (.ow e' n s f) := by simpa only [nav, DM.upd] using h3
                have h5 := nav_upd hpv hn h4
                exact .inr ⟨_, _, _, _, _, rfl, by simpa only [nav] using h5⟩
      · exact ⟨r', X, z, h1, hxa, hxn, rfl⟩

end Go.Proofs.Ytakpeibmaejmeaa.DM
