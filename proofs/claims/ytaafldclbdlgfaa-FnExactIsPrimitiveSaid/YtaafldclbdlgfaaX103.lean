import Derived.Test.YtaafldclbdlgfaaX101
import Derived.Test.YtaafldclbdlgfaaX102
/- slices.CompactFunc at [][]int64, the rows inside being one's own. -/
namespace Go.Proofs.Ytaafldclbdlgfaa
open Go.RowKit DM
set_option linter.unusedSimpArgs false
set_option linter.unusedVariables false
set_option maxRecDepth 100000
set_option maxHeartbeats 1000000

def unR (ρ : Rho) : Rho := fun r => match r with
  | 0 => ρ 0
  | r + 1 => fun _ => ρ 0 [r]

theorem unM_cases {L : List (List Nat)} {n : Nat} {f : Nat → Dat} {r : Nat} {R : Root} (h : (unM L n f)[r]? = some R) : (r = 0 ∧ R = .row 34 n 1 f) ∨ ∃ j, j < L.length ∧ r = j + 1 ∧ R = roN (L.getD j []) := by
  cases r with
  | zero => simp [unM] at h; exact .inl ⟨rfl, h.symm⟩
  | succ j =>
    have hj : j < L.length := by
      have := (List.getElem?_eq_some_iff.1 h).1
      simp [unM] at this; exact this
    rw [unM_get L n f hj] at h
    exact .inr ⟨j, hj, rfl, (Option.some.inj h).symm⟩

theorem nav_nums {e : TypeId} {l : List Nat} {q : List Nat} {e' n s : Nat} {f : Nat → Dat} (h : nav (.ow e l.length 1 (numsF l)) q = some (.ow e' n s f)) : q = [] ∧ e' = e ∧ n = l.length ∧ s = 1 ∧ f = numsF l := by
  cases q with
  | nil => simp only [nav, Option.some.injEq, Dat.ow.injEq] at h; exact ⟨rfl, h.1.symm, h.2.1.symm, h.2.2.1.symm, h.2.2.2.symm⟩
  | cons i q =>
    simp only [nav] at h
    split at h
    · exact absurd h (Pl_nav (d := numsF l i) trivial)
    · cases h

theorem ro_nums {ρ ρ' : Rho} {w : World} {v : RV} {A B : List Nat → RV} {l : List Nat} (h : RoOK ρ w v A l.length 1 (numsF l)) : RoOK ρ' w v B l.length 1 (numsF l) := by
  rcases h with h | ⟨g1, g2, g3, g4, g5⟩
  · exact .inl h
  · refine .inr ⟨g1, g2, g3, g4, fun j u hu => g5 j u ?_⟩
    rw [owN_int, cells_ints] at hu ⊢; exact hu

theorem cells_rows (ρ : Rho) (A : List Nat → RV) (L : List (List Nat)) : cells ρ A (.ar L.length 1 (rowsF L)) = (List.range L.length).map fun j => (A [j]).slice 0 (L.getD j []).length 1 :=
  cells_inn ρ _ L.length (rowsF_inn L) _ fun j hj k g e1 => by
    simp only [rowsF, owN, Dat.ow.injEq, true_and] at e1
    rw [e1.1]

theorem rep_un {ρ : Rho} {w : World} {L : List (List Nat)} (h : Rep ρ [.row 34 L.length 1 (rowsF L)] w) : Rep (unR ρ) (unM L L.length (refS L fun j => j)) w := by
  have hin : ∀ j, j < L.length → RowOK ρ w (ρ 0 [j]) (fun z => ρ 0 ([j] ++ z)) 2 (L.getD j []).length 1 (numsF (L.getD j [])) := fun j hj =>
    h.row 0 _ _ [j] 2 (L.getD j []).length 1 (numsF (L.getD j [])) rfl rfl rfl (by simp only [nav, if_pos hj]; rfl) (.inr (by decide))
  have hsc : ∀ j, isScalar (refS L (fun j => j) j) = true := fun _ => rfl
  have hnv : ∀ {q : List Nat} {e n s : Nat} {f : Nat → Dat}, nav (.ow 34 L.length 1 (refS L fun j => j)) q = some (.ow e n s f) → q = [] ∧ e = 34 ∧ n = L.length ∧ s = 1 ∧ f = refS L fun j => j := fun {q e n s f} hx => by
    cases q with
    | nil => simp only [nav, Option.some.injEq, Dat.ow.injEq] at hx; exact ⟨rfl, hx.1.symm, hx.2.1.symm, hx.2.2.1.symm, hx.2.2.2.symm⟩
    | cons i q =>
      simp only [nav] at hx
      split at hx
      · exact absurd hx (scal_nav (hsc i))
      · cases hx
  refine ⟨fun r d hr => ?_, fun r R d q e n s f hR hm hc hn _ => ?_, fun r R d q e n s f hR hm hc hn => ?_, fun r R q r' R' q' hR hR' hm hq hq' hnl hd => ?_, fun r R d hR hc => ?_, fun r b l hr => ?_⟩
  · rcases unM_cases hr with ⟨_, e⟩ | ⟨_, _, _, e⟩ <;> cases e
  · rcases unM_cases hR with ⟨rfl, rfl⟩ | ⟨_, _, _, rfl⟩
    · cases hc
      obtain ⟨rfl, rfl, rfl, rfl, rfl⟩ := hnv hn
      obtain ⟨blk, g1, g2, g3, g4, g5, g6, g7⟩ := h.row 0 _ _ [] _ L.length 1 (rowsF L) rfl rfl rfl rfl (.inl rfl)
      refine ⟨blk, g1, g2, g3, g4, g5, g6, ?_⟩
      rw [g7, cells_rows, cells_scal (B := noA) fun j _ => hsc j]
      rfl
    · cases hm
  · rcases unM_cases hR with ⟨rfl, rfl⟩ | ⟨j, hj, rfl, rfl⟩
    · cases hc
      obtain ⟨rfl, rfl, _⟩ := hnv hn
      rcases hm with hm | ⟨hm, _⟩
      · cases hm
      · exact absurd rfl hm
    · cases hc
      obtain ⟨rfl, rfl, rfl, rfl, rfl⟩ := nav_nums hn
      exact ro_nums (hin j hj).ro
  · rcases unM_cases hR with ⟨rfl, rfl⟩ | ⟨_, _, _, rfl⟩
    · have hq0 : q = [] := by
        rcases hq with ⟨h1, _⟩ | ⟨d, e, n, s, f, h1, h2, _⟩
        · exact h1
        · cases h1; exact (hnv h2).1
      subst hq0
      rcases unM_cases hR' with ⟨rfl, rfl⟩ | ⟨j, hj, rfl, rfl⟩
      · have hq1 : q' = [] := by
          rcases hq' with ⟨h1, _⟩ | ⟨d, e, n, s, f, h1, h2⟩
          · exact h1
          · cases h1; exact (hnv h2).1
        exact absurd hq1.symm (hd rfl)
      · exact h.sep 0 _ [] 0 _ [j] rfl rfl rfl (.inl ⟨rfl, rfl⟩) (.inr ⟨_, _, _, _, _, rfl, by simp only [nav, if_pos hj]; rfl⟩) hnl (fun _ => by simp)
    · cases hm
  · rcases unM_cases hR with ⟨rfl, rfl⟩ | ⟨j, hj, rfl, rfl⟩
    · cases hc
      refine ⟨fun i hi => ⟨rfl, trivial⟩, fun i hi => ?_⟩
      show i + 1 < (unM L L.length _).length
      simp [unM]; exact hi
    · cases hc
      exact ⟨fun _ _ => ⟨rfl, trivial⟩, fun _ _ => trivial⟩
  · rcases unM_cases hr with ⟨_, e⟩ | ⟨_, _, _, e⟩ <;> cases e

theorem compact_fn (L : List (List Nat)) (hL : ∀ l ∈ L, l.length ≤ 65536) (hn : L.length ≤ 65536) :
    FnS Try.prog 53 [.sl 0 0 L.length 1, .fn 49 0 (fun _ => .un)] [.row 34 L.length 1 (rowsF L)] fun r m' => r = .sl 0 0 (cmpL L).length 1 ∧ m' = [.row 34 (cmpL L).length 1 (rowsF (cmpL L))] := by
  have hun := compact_un L hL hn
  refine FnS.norm ⟨hun.enter, fun ρ w hr hx => ?_⟩
  have hcall := hun.calls (unR ρ) w (rep_un hr) (fun x hx => by
    simp only [List.mem_cons, List.not_mem_nil, or_false] at hx
    rcases hx with rfl | rfl
    · exact ⟨by show 0 < _; simp [unM], trivial, trivial⟩
    · exact ⟨fun i hi => absurd hi (Nat.not_lt_zero _), trivial, trivial⟩)
  have e0 : ([Dat.sl 0 0 L.length 1, Dat.fn 49 0 (fun _ => .un)].map (DM.enc (unR ρ))).toArray = ([Dat.sl 0 0 L.length 1, Dat.fn 49 0 (fun _ => .un)].map (DM.enc ρ)).toArray := rfl
  rw [e0] at hcall
  refine hcall.mono ?_
  rintro e w' ⟨r, ρ2, m', rfl, _, _, hrep, htr, I, f', hI, rfl, rfl, hf'⟩
  obtain ⟨cur, hb, ho, hnil, hcap, hmax, hsz, htk⟩ := hr.row 0 _ _ [] 34 L.length 1 (rowsF L) rfl rfl rfl rfl (.inl rfl)
  obtain ⟨cur2, hb2, ho2, hnil2, hcap2, hmax2, hsz2, htk2⟩ := hrep.row 0 _ _ [] 34 L.length 1 f' rfl rfl rfl rfl (.inl rfl)
  have hag : ∀ r, r < L.length + 1 → ρ2 r [] = unR ρ r [] := fun r hr => htr.agree r (by simp [unM]; omega)
  have hag0 : ρ2 0 [] = ρ 0 [] := hag 0 (by omega)
  rw [hag0] at hb2 hsz2
  have hIl := hI.len
  have hIn : ∀ j, j < I.length → I.getD j 0 < L.length := fun j hj => by
    rw [List.getD_eq_getElem?_getD, List.getElem?_eq_getElem hj]; exact hI.lt _ (List.getElem_mem hj)
  have hinj : ∀ i j, i < I.length → j < I.length → I.getD i 0 = I.getD j 0 → i = j := fun i j hi hj he => by
    simp only [List.getD_eq_getElem?_getD, List.getElem?_eq_getElem hi, List.getElem?_eq_getElem hj, Option.getD_some] at he
    have := List.pairwise_iff_getElem.1 hI.asc
    rcases Nat.lt_trichotomy i j with h1 | h1 | h1
    · have := this i j hi hj h1; omega
    · exact h1
    · have := this j i hj hi h1; omega
  have hg : w.grownBy w' (some (ρ 0 []).b) := by
    refine ⟨htr.os, htr.tape, htr.output, htr.size, fun k hk hne => htr.keep k hk fun r R q hR hm hq e => ?_⟩
    rcases unM_cases hR with ⟨rfl, rfl⟩ | ⟨_, _, _, rfl⟩
    · have hq0 : q = [] := by
        rcases hq with ⟨h1, _⟩ | ⟨d, e, n, s, f, h1, h2, _⟩
        · exact h1
        · cases h1
          cases q with
          | nil => rfl
          | cons i q =>
            simp only [nav] at h2
            split at h2
            · exact absurd h2 (scal_nav (d := refS L (fun j => j) i) rfl)
            · cases h2
      subst hq0
      exact hne (by rw [← e]; rfl)
    · cases hm
  have hcur : ∀ j, j < L.length → cur[j]? = some ((ρ 0 [j]).slice 0 (L.getD j []).length 1) := fun j hj => by
    rw [Nat.mul_one, cells_rows] at htk
    have h3 := congrArg (fun l => l[j]?) htk
    simp only [List.getElem?_take, if_pos hj, List.getElem?_map, List.getElem?_range hj, Option.map_some, Array.getElem?_toList] at h3
    exact h3
  obtain ⟨g1, g2⟩ := rep_pick (σ := fun j => I.getD j 0) (n' := I.length) hr (e2 := 2) (by decide) (rowsF_inn L) hIl hIn hinj hg htr.drawn (fun c hc' => by
    rw [hb] at hc'
    cases hc'
    refine ⟨cur2, hb2, by rw [hsz, hsz2], fun j hj => ?_⟩
    rw [hcur _ (hIn j hj)]
    have hpre : RowOK ρ2 w' (ρ2 0 []) (ρ2 0) 34 I.length 1 f' := (hrep.row 0 _ _ [] 34 L.length 1 f' rfl rfl rfl rfl (.inl rfl)).pre (hrep.wf 0 _ _ rfl rfl).1 hIl (fun _ _ => rfl)
    obtain ⟨c3, k1, _, _, _, _, _, k7⟩ := hpre
    rw [hag0, hb2] at k1
    cases k1
    rw [Nat.mul_one, cells_scal (B := noA) (fun j hj => by rw [hf' j hj]; rfl)] at k7
    have h3 := congrArg (fun l => l[j]?) k7
    simp only [List.getElem?_take, if_pos hj, List.getElem?_map, List.getElem?_range hj, Option.map_some, Array.getElem?_toList] at h3
    rw [h3, hf' j hj]
    show some ((ρ2 (I.getD j 0 + 1) []).slice 0 _ 1) = _
    rw [hag _ (by have := hIn j hj; omega)]
    rfl)
  have hIm := hI.map
  rw [List.take_length] at hIm
  have hlen : (cmpL L).length = I.length := by rw [← hIm, List.length_map]
  have hrow : ∀ j, j < (cmpL L).length → rowsF (cmpL L) j = rowsF L (I.getD j 0) := fun j hj => by
    rw [hlen] at hj
    unfold rowsF
    rw [← hIm]
    simp only [List.getD_eq_getElem?_getD, List.getElem?_map, List.getElem?_eq_getElem hj]
    rfl
  refine ⟨.sl 0 0 I.length 1, pickR ρ fun j => I.getD j 0, _, ?_, (by exact (by decide : 0 < 1)), ⟨trivial, trivial⟩, g1, g2, _, Taken.of [0] (LeAll.cons rfl (le_row (Nat.le_of_eq hlen) hrow) (fun d hd => by cases hd; exact fun _ _ _ _ => trivial) trivial) rfl rfl, ?_, (by decide : 0 < 1)⟩
  · show Ending.returned ((ρ2 0 []).slice 0 I.length 1) = .returned ((pickR ρ _ 0 []).slice 0 I.length 1)
    rw [hag0]; rfl
  · rw [hlen]; rfl

end Go.Proofs.Ytaafldclbdlgfaa
