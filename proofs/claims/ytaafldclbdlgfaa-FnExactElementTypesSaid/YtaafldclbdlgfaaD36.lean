import Derived.Test.YtaafldclbdlgfaaShelf
import Derived.Test.YtaafldclbdlgfaaX100
import Derived.Test.YtaafldclbdlgfaaD34
import Derived.Test.YtaafldclbdlgfaaD31
import Derived.Shelf.SlSortCmp.NoneTotal
/- slices.SortFunc at [][]int64, on plain data: the rows inside are picked anew, sorted by the function that is handed on. -/
namespace Go.Proofs.Ytaafldclbdlgfaa
open Go.RowKit DM
open Go.Sort (SWO PermIn SortedIn putRow putCells mapBlock onCells grow heap_grow_old)
set_option linter.unusedSimpArgs false
set_option linter.unusedVariables false
set_option maxRecDepth 100000
set_option maxHeartbeats 1000000

theorem owN_int (l : List Nat) : numsF l = intD fun j => ((l.getD j 0 : Nat) : Int) := rfl
theorem rowsF_inn (L : List (List Nat)) : Inn 2 (rowsF L) L.length := fun j _ => ⟨_, _, rfl⟩

theorem rep_ros {ρ : Rho} {w : World} {l k : List Nat} {A B : List Nat → RV} (h0 : RoOK ρ w (ρ 0 []) A l.length 1 (numsF l)) (h1 : RoOK ρ w (ρ 1 []) B k.length 1 (numsF k)) : Rep ρ [.ro l.length 1 (numsF l), .ro k.length 1 (numsF k)] w := by
  have two : ∀ {r : Nat} {R : Root}, [Root.ro l.length 1 (numsF l), .ro k.length 1 (numsF k)][r]? = some R → (r = 0 ∧ R = .ro l.length 1 (numsF l)) ∨ (r = 1 ∧ R = .ro k.length 1 (numsF k)) := fun {r R} h => by
    rcases r with _ | _ | r
    · simp at h; exact .inl ⟨rfl, h.symm⟩
    · simp at h; exact .inr ⟨rfl, h.symm⟩
    · simp at h
  have nv : ∀ {l : List Nat} {q : List Nat} {e n s : Nat} {f : Nat → Dat}, nav (.ow 0 l.length 1 (numsF l)) q = some (.ow e n s f) → q = [] ∧ n = l.length ∧ s = 1 ∧ f = numsF l := fun {l q e n s f} h => by
    cases q with
    | nil => simp only [nav, Option.some.injEq, Dat.ow.injEq] at h; exact ⟨rfl, h.2.1.symm, h.2.2.1.symm, h.2.2.2.symm⟩
    | cons i q =>
      simp only [nav] at h
      split at h
      · exact absurd h (Pl_nav (d := numsF l i) trivial)
      · cases h
  have ch : ∀ {v : RV} {A B : List Nat → RV} {l : List Nat}, RoOK ρ w v A l.length 1 (numsF l) → RoOK ρ w v B l.length 1 (numsF l) := fun {v A B l} h => by
    rcases h with h | ⟨g1, g2, g3, g4, g5⟩
    · exact .inl h
    · refine .inr ⟨g1, g2, g3, g4, fun j u hu => g5 j u ?_⟩
      rw [owN_int, cells_ints] at hu ⊢; exact hu
  refine ⟨fun r d hr => ?_, fun r R d q e n s f hR hm => ?_, fun r R d q e n s f hR _ hc hn => ?_, fun r R q r' R' q' hR _ hm => ?_, fun r R d hR hc => ?_, fun r b l hr => ?_⟩
  · rcases two hr with ⟨_, h⟩ | ⟨_, h⟩ <;> cases h
  · rcases two hR with ⟨_, rfl⟩ | ⟨_, rfl⟩ <;> cases hm
  · rcases two hR with ⟨rfl, rfl⟩ | ⟨rfl, rfl⟩
    · cases hc; obtain ⟨rfl, rfl, rfl, rfl⟩ := nv hn; exact ch h0
    · cases hc; obtain ⟨rfl, rfl, rfl, rfl⟩ := nv hn; exact ch h1
  · rcases two hR with ⟨_, rfl⟩ | ⟨_, rfl⟩ <;> cases hm
  · rcases two hR with ⟨rfl, rfl⟩ | ⟨rfl, rfl⟩ <;> (cases hc; exact ⟨fun _ _ => ⟨rfl, trivial⟩, fun _ _ => trivial⟩)
  · rcases two hr with ⟨_, h⟩ | ⟨_, h⟩ <;> cases h

/-- A world that is as another one below, and drew more. -/
theorem grow_of {w w' : World} (h : BelowD w.heap.size w w') : ∃ q os, w' = grow (w.drewN q) os := by
  refine ⟨w'.drawn - w.drawn, w'.heap.extract w.heap.size w'.heap.size, ?_⟩
  have hh : w'.heap = w.heap ++ w'.heap.extract w.heap.size w'.heap.size := by
    apply Array.ext_getElem?
    intro i
    rw [Array.getElem?_append]
    split
    · rename_i hi; exact h.block i hi
    · rename_i hi
      rw [Array.getElem?_extract]
      have h2 := h.size
      split
      · congr 1; omega
      · rw [Array.getElem?_eq_none]; omega
  obtain ⟨hp, tp, dr, os, out⟩ := w'
  have h1 := h.os; have h2 := h.tape; have h3 := h.output; have h4 := h.drawn
  simp only at h1 h2 h3 h4 hh ⊢
  unfold grow World.drewN
  subst h1 h2 h3
  simp only [World.mk.injEq, and_true, true_and]
  exact ⟨hh, by omega⟩

section
variable {α : Type} [Inhabited α] (enc : α → Value) (w : World) (b m : Nat) (d : Array α) (os : Array Obj)
theorem sortW_grownBy : w.grownBy (sortWorld enc w b 0 m d os) (some b) := by
  refine ⟨rfl, rfl, rfl, by simp [sortWorld, grow, putRow, mapBlock, Sort.ahead], fun k hk hne => ?_⟩
  unfold sortWorld
  rw [heap_grow_old _ _ (by simpa [putRow, mapBlock, Sort.ahead] using hk)]
  have : b ≠ k := fun e => hne (by rw [e])
  simp [putRow, mapBlock, Sort.ahead, Array.getElem?_modify, this]
theorem sortW_heap {cur : Array Value} {e : TypeId} {fr : Nat × Nat} (hb : w.heap[b]? = some (.cells cur e fr)) : (sortWorld enc w b 0 m d os).heap[b]? = some (.cells (putCells enc 0 d cur) e fr) := by
  have hg : b < w.heap.size := (Array.getElem?_eq_some_iff.1 hb).1
  unfold sortWorld
  rw [heap_grow_old _ _ (by simpa [putRow, mapBlock, Sort.ahead] using hg)]
  simp [putRow, mapBlock, Sort.ahead, Array.getElem?_modify, hb, onCells]
end

theorem slice_one (v : RV) (a b c : Nat) : (v.slice a b c).oneCell' = true := by
  unfold RV.slice
  split
  · split <;> rfl
  · rfl

/-- The list at place j; place 0 for what is no place. -/
def atP (L : List (List Nat)) (j : Nat) : List Nat := L.getD (if j < L.length then j else 0) []

theorem sortFunc_fn {c : FuncId} {cf : List Nat → List Nat → Int} (hce : ∀ args w, (callFunc c args).run Try.prog w = .ok (.enter c args) w) (hO : SWO fun l k : List Nat => decide (cf l k < 0))
    (hcf : ∀ l k : List Nat, l.length ≤ 65536 → k.length ≤ 65536 → FnR Try.prog c [.sl 0 0 l.length 1, .sl 1 0 k.length 1] [.ro l.length 1 (numsF l), .ro k.length 1 (numsF k)] (.i .i64 (cf l k)))
    (L : List (List Nat)) (hL : ∀ l ∈ L, l.length ≤ 65536) (hn : L.length ≤ 65536) :
    FnS Try.prog 47 [.sl 0 0 L.length 1, .fn c 0 (fun _ => .un)] [.row 34 L.length 1 (rowsF L)] fun r m' => ∃ L', L'.Perm L ∧ (L'.Pairwise fun l k => ¬ cf k l < 0) ∧ r = .tup 0 (fun _ => .un) ∧ m' = [.row 34 L.length 1 (rowsF L')] := by
  refine FnS.normE ⟨callFunc_run Try.func47 rfl rfl, fun ρ w hr hx => ?_⟩
  obtain ⟨cur, hb, ho, hnil, hcap, hmax, hsz, htk⟩ := hr.row 0 _ _ [] 34 L.length 1 (rowsF L) rfl rfl rfl rfl (.inl rfl)
  have henc : ([Dat.sl 0 0 L.length 1, Dat.fn c 0 (fun _ => .un)].map (DM.enc ρ)).toArray = #[.slice (some ⟨(ρ 0 []).b, 0, none⟩) L.length (ρ 0 []).cap, .func (.func c) #[] #[]] := by
    simp [DM.enc, leaf, RV.slice, hnil, ho]
  rw [henc]
  by_cases h0 : L.length = 0
  · have e0 : L = [] := List.eq_nil_of_length_eq_zero h0
    subst e0
    have hcall := AnyF.slices_SortFunc_none { Try.laysF6 with } (some ⟨(ρ 0 []).b, 0, none⟩) (ρ 0 []).cap (.func (.func c) #[] #[]) w
    change Calls Try.prog 47 _ _ _ at hcall
    refine hcall.mono ?_
    rintro e w' ⟨rfl, rfl⟩
    exact ⟨.tup 0 (fun _ => .un), ρ, _, by simp [DM.enc], fun i hi => absurd hi (Nat.not_lt_zero _), fun i hi => absurd hi (Nat.not_lt_zero _), hr, Tr.refl _ _ _, .tup 0 (fun _ => .un), _, ⟨[], .refl _, .nil, rfl, rfl⟩, _, Taken.of [0] (LeAll.cons rfl (Root.Le.refl _) (fun d hd => by cases hd; exact fun _ _ _ _ => trivial) trivial) rfl rfl, ⟨_, rfl, fun i hi => absurd hi (Nat.not_lt_zero _)⟩, fun i hi => absurd hi (Nat.not_lt_zero _)⟩
  have hpos : 0 < L.length := by omega
  have hidx : ∀ j, (if j < L.length then j else 0) < L.length := fun j => by split <;> omega
  have hlen : ∀ j, (atP L j).length ≤ 65536 := fun j => by
    unfold atP
    rw [List.getD_eq_getElem?_getD, List.getElem?_eq_getElem (hidx j)]
    exact hL _ (List.getElem_mem _)
  -- the elements: places
  let enc : Nat → Value := fun j => (ρ 0 [if j < L.length then j else 0]).slice 0 (atP L j).length 1
  let cf' : Nat → Nat → Int := fun x y => cf (atP L x) (atP L y)
  have hO' : SWO (ltOf cf') := ⟨fun x => hO.irrefl _, fun x y z => hO.trans _ _ _, fun x y z => hO.ntrans _ _ _⟩
  have hone : OneCell enc := fun x => slice_one _ _ _ _
  have hcell : ∀ j, j < L.length → cur[j]? = some (enc j) := fun j hj => by
    have h2 : cells ρ (fun z => ρ 0 ([] ++ z)) (.ar L.length 1 (rowsF L)) = (List.range L.length).map enc := cells_inn ρ _ L.length (rowsF_inn L) _ fun j hj k g e1 => by
      simp only [rowsF, owN, Dat.ow.injEq, true_and] at e1
      simp only [enc, atP, if_pos hj, e1.1]
      rfl
    rw [Nat.mul_one, h2] at htk
    have h3 := congrArg (fun l => l[j]?) htk
    simp only [List.getElem?_take, if_pos hj, List.getElem?_map, List.getElem?_range hj, Option.map_some, Array.getElem?_toList] at h3
    exact h3
  let d : Array Nat := Array.range L.length
  have hds : d.size = L.length := by simp [d]
  have hH : Sort.Holds enc w (ρ 0 []).b 0 d := fun j hj => by
    have hj : j < L.length := by simpa [d] using hj
    have e1 : d[j]! = j := by simp [d, getElem!_pos, hj]
    refine ⟨?_, by simp [World.frozen?, hb]⟩
    rw [e1]
    simp only [World.cell?, hb, Nat.zero_add, Option.isSome_none, Bool.false_eq_true, if_false]
    exact hcell j hj
  have hblk : (ρ 0 []).b < w.heap.size := (Array.getElem?_eq_some_iff.1 hb).1
  have hcmp : CmpLays1 Try.prog c #[] enc cf' (ρ 0 []).b 0 d.size w := by
    intro m os dk hdk x y
    have hro : ∀ j, RoOK (fun r _ => ρ 0 [if (if r = 0 then x else y) < L.length then (if r = 0 then x else y) else 0]) (sortWorld enc w (ρ 0 []).b 0 m dk os) (ρ 0 [if j < L.length then j else 0]) noA (atP L j).length 1 (numsF (atP L j)) := fun j => by
      have h1 := hr.row 0 _ _ [if j < L.length then j else 0] 2 (atP L j).length 1 (numsF (atP L j)) rfl rfl rfl (by simp only [nav, if_pos (hidx j)]; rfl) (.inr (by decide))
      have hne : (ρ 0 []).b ≠ (ρ 0 [if j < L.length then j else 0]).b := hr.sep 0 _ [] 0 _ [if j < L.length then j else 0] rfl rfl rfl (.inl ⟨rfl, rfl⟩) (.inr ⟨_, _, _, _, _, rfl, by simp only [nav, if_pos (hidx j)]; rfl⟩) (by obtain ⟨_, _, _, hn, _⟩ := h1; exact hn) (fun _ => by simp)
      have hg := sortW_grownBy enc w (ρ 0 []).b m dk os
      have h2 := (h1.keep (w' := sortWorld enc w (ρ 0 []).b 0 m dk os) (hg.block _ h1.lt (fun e => hne (Option.some.inj e).symm))).ro
      rcases h2 with h2 | ⟨g1, g2, g3, g4, g5⟩
      · exact .inl h2
      · refine .inr ⟨g1, g2, g3, g4, fun j u hu => g5 j u ?_⟩
        rw [owN_int, cells_ints] at hu ⊢; exact hu
    have hrep := rep_ros (hro x) (hro y)
    have hc := (hcf (atP L x) (atP L y) (hlen x) (hlen y)).calls rfl hrep (fun z hz => by
      simp only [List.mem_cons, List.not_mem_nil, or_false] at hz
      rcases hz with rfl | rfl
      · exact ⟨(by decide : 0 < 2), trivial, trivial⟩
      · exact ⟨(by decide : 1 < 2), trivial, trivial⟩) noR
    have e2 : (#[enc x, enc y] ++ (#[] : Array Value)) = ([Dat.sl 0 0 (atP L x).length 1, Dat.sl 1 0 (atP L y).length 1].map (DM.enc fun r _ => ρ 0 [if (if r = 0 then x else y) < L.length then (if r = 0 then x else y) else 0])).toArray := by
      simp [DM.enc, leaf, enc]
    rw [e2]
    refine hc.mono ?_
    rintro e w' ⟨rfl, _, _, h4⟩
    exact ⟨rfl, grow_of h4⟩
  have hcall := Any.slices_SortFunc Try.laysF6 enc hone cf' hO' c #[] (ρ 0 []).b 0 (ρ 0 []).cap d w hce hcmp hH hblk (by omega)
  change Calls Try.prog 47 _ _ _ at hcall
  rw [hds] at hcall
  refine hcall.mono ?_
  rintro e w' ⟨rfl, d', n', os, hp, hs, rfl⟩
  obtain ⟨p1, _, p3⟩ := hp
  have p1 : d'.size = L.length := by rw [p1, hds]
  have ex1 : ∀ a : Array Nat, a.size = L.length → a.extract 0 L.length = a := fun a ha => by rw [← ha]; simp
  rw [ex1 d' p1, ex1 d hds] at p3
  have hdl : d.toList = List.range L.length := by simp [d]
  rw [hdl] at p3
  have hσ : ∀ j, j < L.length → d'[j]! < L.length := fun j hj => by
    have : d'[j]! ∈ d'.toList := by
      rw [getElem!_pos d' j (by omega)]
      exact Array.getElem_mem_toList _
    exact List.mem_range.1 (p3.mem_iff.1 this)
  have hnd : d'.toList.Nodup := (p3.nodup_iff).2 List.nodup_range
  have hinj : ∀ i j, i < L.length → j < L.length → d'[i]! = d'[j]! → i = j := fun i j hi hj h => by
    rw [getElem!_pos d' i (by omega), getElem!_pos d' j (by omega)] at h
    have := (List.pairwise_iff_getElem.1 hnd)
    rcases Nat.lt_trichotomy i j with h1 | h1 | h1
    · exact absurd (by rw [Array.getElem_toList, Array.getElem_toList]; exact h) (this i j _ _ h1)
    · exact h1
    · exact absurd (by rw [Array.getElem_toList, Array.getElem_toList]; exact h.symm) (this j i _ _ h1)
  have hget : ∀ j, j < L.length → (putCells enc 0 d' cur)[j]? = cur[d'[j]!]? := fun j hj => by
    rw [hcell _ (hσ j hj)]
    have : j < cur.size := (Array.getElem?_eq_some_iff.1 (hcell j hj)).1
    simp [putCells, Array.getElem?_mapIdx, Array.getElem?_eq_getElem this, p1, hj]
  obtain ⟨g1, g2⟩ := rep_pick (σ := fun j => d'[j]!) (n' := L.length) hr (e2 := 2) (by decide) (rowsF_inn L) (Nat.le_refl _) hσ hinj (sortW_grownBy enc w (ρ 0 []).b n' d' os) (Nat.le_add_right _ _) (fun c hc' => by
    rw [hb] at hc'
    cases hc'
    exact ⟨_, sortW_heap enc w (ρ 0 []).b n' d' os hb, by simp [putCells], hget⟩)
  have hrow : ∀ j, j < L.length → rowsF (d'.toList.map fun j => L.getD j []) j = rowsF L d'[j]! := fun j hj => by
    unfold rowsF
    rw [List.getD_eq_getElem?_getD, List.getElem?_map, Array.getElem?_toList, Array.getElem?_eq_getElem (by omega), getElem!_pos d' j (by omega)]
    rfl
  refine ⟨.tup 0 (fun _ => .un), _, _, by simp [DM.enc], fun i hi => absurd hi (Nat.not_lt_zero _), fun i hi => absurd hi (Nat.not_lt_zero _), g1, g2, .tup 0 (fun _ => .un), _, ⟨d'.toList.map fun j => L.getD j [], ?_, ?_, rfl, rfl⟩, _, Taken.of [0] (LeAll.cons rfl (le_row (Nat.le_refl _) hrow) (fun d hd => by cases hd; exact fun _ _ _ _ => trivial) trivial) rfl rfl, ⟨_, rfl, fun i hi => absurd hi (Nat.not_lt_zero _)⟩, fun i hi => absurd hi (Nat.not_lt_zero _)⟩
  · have h1 := p3.map fun j => L.getD j []
    have h2 : (List.range L.length).map (fun j => L.getD j []) = L := by
      apply List.ext_getElem (by simp)
      intro i g1 g2
      simp at g1
      simp [List.getD_eq_getElem?_getD, List.getElem?_eq_getElem g1]
    rwa [h2] at h1
  · rw [List.pairwise_map, List.pairwise_iff_getElem]
    intro i j hi hj hij
    have hi' : i < L.length := by simpa [p1] using hi
    have hj' : j < L.length := by simpa [p1] using hj
    have h3 := hs i j (Nat.zero_le _) hij hj'
    have e : ∀ k, (hk : k < L.length) → d'[k]! = d'[k]'(by omega) := fun k hk => getElem!_pos d' k (by omega)
    simp only [ltOf, cf', decide_eq_false_iff_not] at h3
    unfold atP at h3
    rw [if_pos (hσ j hj'), if_pos (hσ i hi'), e i hi', e j hj'] at h3
    simpa using h3

end Go.Proofs.Ytaafldclbdlgfaa

/- A cell's slice told as it lies, not by a root: the root is free to go elsewhere. -/
namespace Go.Proofs.Ytaafldclbdlgfaa.DM
open Go.RowKit
set_option linter.unusedVariables false
set_option linter.unusedSimpArgs false

section
variable {P : Program} {T : TyEnv} {N K : Nat} {Q : Exit → St → Prop} {fr : Nat → Dat} {m : List Root}

theorem nav_up {f : Nat → Dat} {i n t : Nat} {e0 : TypeId} {v : RV} {a b c : Nat} {q : List Nat} {e : TypeId} {k s : Nat} {g : Nat → Dat} (hq : q ≠ []) (h : nav (.ow e0 n t (fup f i (.sa v a b c))) q = some (.ow e k s g)) : nav (.ow e0 n t f) q = some (.ow e k s g) := by
  cases q with
  | nil => exact absurd rfl hq
  | cons j q =>
    simp only [nav] at h ⊢
    split at h
    · rename_i hj
      rw [if_pos hj]
      by_cases e1 : j = i
      · subst e1
        rw [fup_same] at h
        cases q with
        | nil => simp [nav] at h
        | cons x q => simp [nav] at h
      · rw [fup_ne _ _ e1] at h; exact h
    · cases h

theorem cells_up {ρ : Rho} {A : List Nat → RV} {f : Nat → Dat} {i n t r a b c : Nat} (hf : f i = .sl r a b c) : cells ρ A (.ar n t (fup f i (.sa (ρ r []) a b c))) = cells ρ A (.ar n t f) := by
  simp only [cells]
  refine flatMap_congr fun j _ => ?_
  by_cases e1 : j = i
  · subst e1; rw [fup_same, hf]; simp [cells, leaf]
  · rw [fup_ne _ _ e1]

theorem Rep.giveUp {ρ : Rho} {w : World} (h : Rep ρ m w) {k i : Nat} {e0 : TypeId} {n t r a b c : Nat} {f : Nat → Dat} (hk : m[k]? = some (.row e0 n t f)) (hf : f i = .sl r a b c) :
    Rep ρ (m.set k (.row e0 n t (fup f i (.sa (ρ r []) a b c)))) w ∧ TrK K ρ m w ρ (m.set k (.row e0 n t (fup f i (.sa (ρ r []) a b c)))) w := by
  have hkl : k < m.length := (List.getElem?_eq_some_iff.1 hk).1
  have get : ∀ {j : Nat} {R : Root}, (m.set k (.row e0 n t (fup f i (.sa (ρ r []) a b c))))[j]? = some R → (j = k ∧ R = .row e0 n t (fup f i (.sa (ρ r []) a b c))) ∨ (j ≠ k ∧ m[j]? = some R) := fun {j R} hj => by
    by_cases e : k = j
    · subst e; rw [List.getElem?_set_self hkl] at hj; exact .inl ⟨rfl, (Option.some.inj hj).symm⟩
    · rw [List.getElem?_set_ne e] at hj; exact .inr ⟨fun h => e h.symm, hj⟩
  have place : ∀ {j : Nat} {R : Root} {q : List Nat}, (m.set k (.row e0 n t (fup f i (.sa (ρ r []) a b c))))[j]? = some R → At R q → ∃ R0, m[j]? = some R0 ∧ At R0 q := fun {j R q} hj hq => by
    rcases get hj with ⟨rfl, rfl⟩ | ⟨_, h1⟩
    · refine ⟨_, hk, ?_⟩
      by_cases e : q = []
      · subst e; exact .inl ⟨rfl, rfl⟩
      · rcases hq with ⟨h1, _⟩ | ⟨d, e', n', s', g', h1, h2⟩
        · exact absurd h1 e
        · cases h1; exact .inr ⟨_, e', n', s', g', rfl, nav_up e h2⟩
    · exact ⟨R, h1, hq⟩
  have placeO : ∀ {j : Nat} {R : Root} {q : List Nat}, (m.set k (.row e0 n t (fup f i (.sa (ρ r []) a b c))))[j]? = some R → R.mine = true → AtO R q → ∃ R0, m[j]? = some R0 ∧ R0.mine = true ∧ AtO R0 q := fun {j R q} hj hm hq => by
    rcases get hj with ⟨rfl, rfl⟩ | ⟨_, h1⟩
    · refine ⟨_, hk, rfl, ?_⟩
      by_cases e : q = []
      · subst e; exact .inl ⟨rfl, rfl⟩
      · rcases hq with ⟨h1, _⟩ | ⟨d, e', n', s', g', h1, h2, h3⟩
        · exact absurd h1 e
        · cases h1; exact .inr ⟨_, e', n', s', g', rfl, nav_up e h2, h3⟩
    · exact ⟨R, h1, hm, hq⟩
  refine ⟨⟨fun j d hj => ?_, fun j R d q e n' s g hj hm hc hn hq => ?_, fun j R d q e n' s g hj hm hc hn => ?_, fun j R q j' R' q' hj hj' hm hq hq' hnl hd => ?_, fun j R d hj hc => ?_, fun j b' l hj => ?_⟩, ⟨rfl, rfl, Nat.le_refl _, rfl, Nat.le_refl _, fun _ _ => rfl, fun _ _ _ => rfl, fun j R q hj hm hq => .inr ?_, fun j R q hj hq hnl => .inr ?_⟩⟩
  · rcases get hj with ⟨_, h1⟩ | ⟨_, h1⟩
    · cases h1
    · exact h.var j d h1
  · rcases get hj with ⟨rfl, rfl⟩ | ⟨_, h1⟩
    · cases hc
      by_cases e1 : q = []
      · subst e1
        simp only [nav, Option.some.injEq, Dat.ow.injEq] at hn
        obtain ⟨rfl, rfl, rfl, rfl⟩ := hn
        exact (h.row j _ _ [] e0 n t f hk rfl rfl rfl (.inl rfl)).cells (cells_up hf)
      · exact h.row j _ _ q e n' s g hk rfl rfl (nav_up e1 hn) hq
    · exact h.row j R d q e n' s g h1 hm hc hn hq
  · rcases get hj with ⟨rfl, rfl⟩ | ⟨_, h1⟩
    · cases hc
      rcases hm with hm | ⟨h2, h3⟩
      · cases hm
      · exact h.ro j _ _ q e n' s g hk (.inr ⟨h2, h3⟩) rfl (nav_up h2 hn)
    · exact h.ro j R d q e n' s g h1 hm hc hn
  · obtain ⟨R0, g1, g2, g3⟩ := placeO hj hm hq
    obtain ⟨R0', g1', g2'⟩ := place hj' hq'
    exact h.sep j R0 q j' R0' q' g1 g1' g2 g3 g2' hnl hd
  · rw [List.length_set]
    rcases get hj with ⟨rfl, rfl⟩ | ⟨_, h1⟩
    · cases hc
      obtain ⟨h2, h3⟩ := h.wf j _ _ hk rfl
      refine ⟨fun x hx => ?_, fun x hx => ?_⟩
      · by_cases e1 : x = i
        · subst e1
          rw [fup_same]
          have := h2 x hx
          rw [hf] at this
          exact this
        · rw [fup_ne _ _ e1]; exact h2 x hx
      · by_cases e1 : x = i
        · subst e1; rw [fup_same]; trivial
        · rw [fup_ne _ _ e1]; exact h3 x hx
    · exact h.wf j R d h1 hc
  · rcases get hj with ⟨_, h1⟩ | ⟨_, h1⟩
    · cases h1
    · exact h.mp j b' l h1
  · obtain ⟨R0, g1, g2, g3⟩ := placeO hj hm hq
    exact ⟨j, R0, q, g1, g2, g3, rfl⟩
  · obtain ⟨R0, g1, g2⟩ := place hj hq
    exact ⟨j, R0, q, g1, g2, hnl, rfl⟩

/-- A cell's slice is given up: the cell is told as it lies. -/
theorem WP.giveUp {x : Code} {k i : Nat} {e0 : TypeId} {n t r a b c : Nat} {f : Nat → Dat} (hk : m[k]? = some (.row e0 n t f)) (hf : f i = .sl r a b c) (h : ∀ v : RV, WP P N K x Q ⟨fr, m.set k (.row e0 n t (fup f i (.sa v a b c)))⟩) : WP P N K x Q ⟨fr, m⟩ := by
  intro ρ a' w ⟨h1, h2, h3, h4⟩
  obtain ⟨g1, g2⟩ := h3.giveUp (K := K) hk hf
  refine wp_mono (h (ρ r []) ρ a' w ⟨?_, h2, g1, ?_⟩) fun _ _ _ q => Real.tr g2 q
  · simpa using h1
  · simpa using h4

/-- A row of one's own inside a row is looked up: it becomes a root. -/
theorem load_row (hT : TOK P T) {o : Oper} {t : TypeId} {x : Operand} {r j off : Nat} {e0 by0 e1 e n k s s' : Nat} {z0 : Dat} {f g : Nat → Dat} (ho : o.op = .load t x) (hx : ev fr x = .p r [j] off) (ht : T t = some ⟨.slice e0, 1, by0, z0⟩) (hR : m[r]? = some (.row e1 n s f)) (hf : f j = .ow e k s' g) (he : Nat.beq e 0 = false) (hj : j < n) (hoff : 0 + j * s = off) :
    QOK P o fr m (.sl m.length 0 k s') (m.set r (.row e1 n s (fup f j (.sl m.length 0 k s'))) ++ [.row e k s' g]) := by
  refine load_own hT (R := .row e1 n s f) (ps := [j < n]) ho hx ht hR rfl ?_ he hj ?_
  · show (match DM.navE (f j) [] with | some (ps, x) => some ((j < n) :: ps, x) | none => none) = _
    rw [hf]; rfl
  · exact hoff

end
end Go.Proofs.Ytaafldclbdlgfaa.DM
