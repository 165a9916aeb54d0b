import Derived.Test.YthjnmlpibafbnaaL3
import Derived.Test.YthjnmlpibafbnaaL9
import Derived.Test.YthjnmlpibafbnaaD30
import Derived.Test.YthjnmlpibafbnaaD37
namespace Go.Proofs.Ythjnmlpibafbnaa
open Go.RowKit DM
set_option linter.unusedVariables false
structure WInv (n : Nat) (p : Nat → Nat) (i : Nat) (M : Nat → Bool) (k : Nat) (l : List Nat) (met : Nat → Bool) : Prop where
  met : ∀ x, met x = true ↔ (M x = true ∨ x ∈ l)
  out : ∀ x ∈ l, M x = false ∧ x < n
  nodup : l.Nodup
  chain : ∀ t, t + 1 < l.length → l.getD (t + 1) 0 = p (l.getD t 0)
  here : (l.length = 0 ∧ k = i) ∨ (0 < l.length ∧ k = p (l.getD (l.length - 1) 0))
  head : 0 < l.length → l.getD 0 0 = i
  lt : k < n
theorem getD_mem {l : List Nat} {t : Nat} (h : t < l.length) : l.getD t 0 ∈ l := by
  rw [List.getD_eq_getElem?_getD, List.getElem?_eq_getElem h]; exact List.getElem_mem h
theorem mem_getD {l : List Nat} {x : Nat} (h : x ∈ l) : ∃ t, t < l.length ∧ l.getD t 0 = x := by
  obtain ⟨t, ht, e⟩ := List.mem_iff_getElem.1 h
  exact ⟨t, ht, by rw [List.getD_eq_getElem?_getD, List.getElem?_eq_getElem ht]; exact e⟩
theorem nodup_getD {l : List Nat} (h : l.Nodup) {s t : Nat} (hs : s < l.length) (ht : t < l.length) (e : l.getD s 0 = l.getD t 0) : s = t := by
  rw [List.getD_eq_getElem?_getD, List.getD_eq_getElem?_getD, List.getElem?_eq_getElem hs, List.getElem?_eq_getElem ht] at e
  have hp := List.pairwise_iff_getElem.1 h
  rcases Nat.lt_trichotomy s t with c | c | c
  · exact absurd e (hp s t hs ht c)
  · exact c
  · exact absurd e.symm (hp t s ht hs c)
theorem WInv.step {n : Nat} {p : Nat → Nat} (hp : ∀ i, i < n → p i < n) {i : Nat} {M : Nat → Bool} {k : Nat} {l : List Nat} {met : Nat → Bool} (h : WInv n p i M k l met) (hm : met k = false) : WInv n p i M (p k) (l ++ [k]) (up met k true) := by
  have hk : M k ≠ true ∧ k ∉ l := by
    have := (h.met k).2
    constructor
    · intro e; rw [this (.inl e)] at hm; cases hm
    · intro e; rw [this (.inr e)] at hm; cases hm
  refine ⟨fun x => ?_, fun x hx => ?_, ?_, fun t ht => ?_, .inr ⟨by simp, by simp⟩, fun _ => ?_, hp _ h.lt⟩
  · unfold up
    by_cases e : x = k
    · subst e; simp
    · rw [if_neg e, h.met x]; simp [e]
  · simp only [List.mem_append, List.mem_singleton] at hx
    rcases hx with hx | rfl
    · exact h.out x hx
    · exact ⟨by simpa using hk.1, h.lt⟩
  · rw [List.nodup_append]
    refine ⟨h.nodup, by simp, fun a ha b hb => ?_⟩
    simp only [List.mem_singleton] at hb
    subst hb
    intro e; subst e; exact hk.2 ha
  · simp only [List.length_append, List.length_singleton] at ht
    by_cases e : t + 1 < l.length
    · rw [getD_snoc_lt _ _ _ e, getD_snoc_lt _ _ _ (by omega)]; exact h.chain t e
    · have e : l.length = t + 1 := by omega
      rw [← e, getD_snoc, getD_snoc_lt _ _ _ (by omega)]
      rcases h.here with ⟨h1, _⟩ | ⟨_, h2⟩
      · omega
      · rw [h2, e]; rfl
  · by_cases e : 0 < l.length
    · rw [getD_snoc_lt _ _ _ e]; exact h.head e
    · rcases h.here with ⟨h1, h2⟩ | ⟨h1, _⟩
      · have : l = [] := List.eq_nil_of_length_eq_zero h1
        subst this; rw [h2]; rfl
      · omega
theorem cyc_end {n : Nat} (hn : n ≤ 16) {p : Nat → Nat} (hp : ∀ i, i < n → p i < n) {i : Nat} {M : Nat → Bool} : ∀ (c k : Nat) (l : List Nat) (met : Nat → Bool), cntU 16 met = c → WInv n p i M k l met → ∃ k', WInv n p i M k' (cyc p k l met).1 (cyc p k l met).2 ∧ (cyc p k l met).2 k' = true
  | c, k, l, met, hc, h => by
    have hk := h.lt
    cases hm : met k
    · rw [cyc_new (by omega) hm]
      have hcu := cntU_up (met := met) (y := k) (by omega) hm
      exact cyc_end hn hp (c - 1) (p k) (l ++ [k]) (up met k true) (by omega) (h.step hp hm)
    · rw [cyc_old hm]; exact ⟨k, h, hm⟩
termination_by c => c
decreasing_by omega
structure OInv (n : Nat) (p : Nat → Nat) (i : Nat) (L : List (List Nat)) (M : Nat → Bool) : Prop where
  met : ∀ x, M x = true ↔ ∃ j, j < L.length ∧ x ∈ L.getD j []
  lt : ∀ j x, x ∈ L.getD j [] → x < n
  uniq : ∀ j j' x, x ∈ L.getD j [] → x ∈ L.getD j' [] → j = j'
  nodup : ∀ j, (L.getD j []).Nodup
  fwd : ∀ j x, x ∈ L.getD j [] → p x ∈ L.getD j []
  bwd : ∀ j x, x ∈ L.getD j [] → ∃ y, y ∈ L.getD j [] ∧ p y = x
  chain : ∀ j t, t + 1 < (L.getD j []).length → (L.getD j []).getD (t + 1) 0 = p ((L.getD j []).getD t 0)
  pos : ∀ j, j < L.length → 0 < (L.getD j []).length
  all : ∀ x, x < i → M x = true
theorem getD_mem_lt {L : List (List Nat)} {j x : Nat} (h : x ∈ L.getD j []) : j < L.length := by
  refine Classical.byContradiction fun hj => ?_
  rw [List.getD_eq_getElem?_getD, List.getElem?_eq_none (by omega)] at h
  simp at h
theorem OInv.step {n : Nat} (hn : n ≤ 16) {p : Nat → Nat} (hp : Perm n p) {i : Nat} (hi : i < n) {L : List (List Nat)} {M : Nat → Bool} (h : OInv n p i L M) (hm : M i = false) : OInv n p (i + 1) (L ++ [(cyc p i [] M).1]) (cyc p i [] M).2 := by
  have h0 : WInv n p i M i [] M := ⟨fun x => by simp, fun x hx => by simp at hx, List.nodup_nil, fun t ht => by simp at ht, .inl ⟨rfl, rfl⟩, fun h => by simp at h, hi⟩
  have hpos := cyc_pos (p := p) (k := i) (by omega) hm
  obtain ⟨k, hw, hk⟩ := cyc_end hn hp.lt _ i [] M rfl h0
  generalize (cyc p i [] M).1 = l at *
  generalize (cyc p i [] M).2 = met at *
  have hhead := hw.head (by omega)
  have hlast := getD_mem (l := l) (t := l.length - 1) (by omega)
  -- it ends where it began
  have hki : k = i := by
    rcases hw.here with ⟨h1, _⟩ | ⟨_, h2⟩
    · omega
    · rcases (hw.met k).1 hk with h3 | h3
      · exfalso
        obtain ⟨j, hj, hx⟩ := (h.met k).1 h3
        obtain ⟨y, hy, e⟩ := h.bwd j k hx
        have := hp.inj y (l.getD (l.length - 1) 0) (h.lt j y hy) (hw.out _ hlast).2 (e.trans h2)
        rw [← this] at hlast
        have h4 := (hw.out _ hlast).1
        rw [(h.met y).2 ⟨j, hj, hy⟩] at h4
        cases h4
      · obtain ⟨t, ht, e⟩ := mem_getD h3
        rcases t with _ | t
        · rw [← e, hhead]
        · have h4 := hw.chain t ht
          rw [e, h2] at h4
          have := hp.inj _ _ (hw.out _ hlast).2 (hw.out _ (getD_mem (by omega))).2 h4
          have := nodup_getD hw.nodup (by omega) (by omega) this
          omega
  have old : ∀ {j : Nat}, j < L.length → (L ++ [l]).getD j [] = L.getD j [] := fun hj => getD_snoc_lt L l [] hj
  have new : (L ++ [l]).getD L.length [] = l := getD_snoc L l []
  have cas : ∀ {j x : Nat}, x ∈ (L ++ [l]).getD j [] → (j < L.length ∧ x ∈ L.getD j []) ∨ (j = L.length ∧ x ∈ l) := by
    intro j x hx
    have hj := getD_mem_lt hx
    simp only [List.length_append, List.length_singleton] at hj
    by_cases e : j < L.length
    · rw [old e] at hx; exact .inl ⟨e, hx⟩
    · have e : j = L.length := by omega
      subst e; rw [new] at hx; exact .inr ⟨rfl, hx⟩
  refine ⟨fun x => ?_, fun j x hx => ?_, fun j j' x hx hx' => ?_, fun j => ?_, fun j x hx => ?_, fun j x hx => ?_, fun j t ht => ?_, fun j hj => ?_, fun x hx => ?_⟩
  · rw [hw.met x, h.met x]
    constructor
    · rintro (⟨j, hj, h1⟩ | h1)
      · exact ⟨j, by simp; omega, by rw [old hj]; exact h1⟩
      · exact ⟨L.length, by simp, by rw [new]; exact h1⟩
    · rintro ⟨j, hj, h1⟩
      rcases cas h1 with ⟨h2, h3⟩ | ⟨h2, h3⟩
      · exact .inl ⟨j, h2, h3⟩
      · exact .inr h3
  · rcases cas hx with ⟨_, h3⟩ | ⟨_, h3⟩
    · exact h.lt j x h3
    · exact (hw.out x h3).2
  · have no : ∀ {j : Nat}, x ∈ L.getD j [] → x ∈ l → False := fun h1 h2 => by
      have h4 := (hw.out x h2).1
      rw [(h.met x).2 ⟨_, getD_mem_lt h1, h1⟩] at h4
      cases h4
    rcases cas hx with ⟨_, h3⟩ | ⟨rfl, h3⟩ <;> rcases cas hx' with ⟨_, h4⟩ | ⟨rfl, h4⟩
    · exact h.uniq j j' x h3 h4
    · exact (no h3 h4).elim
    · exact (no h4 h3).elim
    · rfl
  · by_cases e : j < L.length
    · rw [old e]; exact h.nodup j
    · by_cases e2 : j = L.length
      · subst e2; rw [new]; exact hw.nodup
      · rw [List.getD_eq_getElem?_getD, List.getElem?_eq_none (by simp; omega)]; simp
  · rcases cas hx with ⟨h2, h3⟩ | ⟨rfl, h3⟩
    · rw [old h2]; exact h.fwd j x h3
    · rw [new]
      obtain ⟨t, ht, rfl⟩ := mem_getD h3
      by_cases e : t + 1 < l.length
      · rw [← hw.chain t e]; exact getD_mem e
      · have e : t = l.length - 1 := by omega
        rcases hw.here with ⟨h1, _⟩ | ⟨_, h2⟩
        · omega
        · rw [e, ← h2, hki, ← hhead]; exact getD_mem (by omega)
  · rcases cas hx with ⟨h2, h3⟩ | ⟨rfl, h3⟩
    · rw [old h2]; exact h.bwd j x h3
    · rw [new]
      obtain ⟨t, ht, rfl⟩ := mem_getD h3
      rcases t with _ | t
      · refine ⟨_, hlast, ?_⟩
        rcases hw.here with ⟨h1, _⟩ | ⟨_, h2⟩
        · omega
        · rw [← h2, hki, hhead]
      · exact ⟨l.getD t 0, getD_mem (by omega), (hw.chain t ht).symm⟩
  · by_cases e : j < L.length
    · rw [old e] at ht ⊢; exact h.chain j t ht
    · by_cases e2 : j = L.length
      · subst e2; rw [new] at ht ⊢; exact hw.chain t ht
      · rw [List.getD_eq_getElem?_getD, List.getElem?_eq_none (by simp; omega)] at ht; simp at ht
  · by_cases e : j < L.length
    · rw [old e]; exact h.pos j e
    · have e2 : j = L.length := by simp at hj; omega
      subst e2; rw [new]; omega
  · rw [hw.met x]
    by_cases e : x < i
    · exact .inl (h.all x e)
    · have : x = i := by omega
      subst this
      exact .inr (by rw [← hhead]; exact getD_mem (by omega))
theorem cyTo_inv {n : Nat} (hn : n ≤ 16) {p : Nat → Nat} (hp : Perm n p) : ∀ i, i ≤ n → OInv n p i (cyTo p i).1 (cyTo p i).2
  | 0, _ => ⟨fun x => by simp [cyTo], fun j x hx => by simp [cyTo] at hx, fun j j' x hx => by simp [cyTo] at hx, fun j => by simp [cyTo], fun j x hx => by simp [cyTo] at hx, fun j x hx => by simp [cyTo] at hx, fun j t ht => by simp [cyTo] at ht, fun j hj => by simp [cyTo] at hj, fun x hx => by omega⟩
  | i + 1, hi => by
    have ih := cyTo_inv hn hp i (by omega)
    cases hm : (cyTo p i).2 i
    · rw [cyTo_new hm]; exact ih.step hn hp (by omega) hm
    · rw [cyTo_old hm]
      exact ⟨ih.met, ih.lt, ih.uniq, ih.nodup, ih.fwd, ih.bwd, ih.chain, ih.pos, fun x hx => by
        by_cases e : x < i
        · exact ih.all x e
        · have : x = i := by omega
          subst this; exact hm⟩
def clsF (L : List (List Nat)) (x : Nat) : Nat := L.findIdx fun l => decide (x ∈ l)
theorem cls_of {L : List (List Nat)} (hu : ∀ j j' x, x ∈ L.getD j [] → x ∈ L.getD j' [] → j = j') {j x : Nat} (h : x ∈ L.getD j []) : clsF L x = j := by
  have hj := getD_mem_lt h
  have hlt : clsF L x < L.length := by
    unfold clsF
    rw [List.findIdx_lt_length]
    refine ⟨L.getD j [], ?_, by simpa using h⟩
    rw [List.getD_eq_getElem?_getD, List.getElem?_eq_getElem hj]; exact List.getElem_mem hj
  refine hu _ _ x ?_ h
  have := List.findIdx_getElem (xs := L) (p := fun l => decide (x ∈ l)) (w := hlt)
  rw [List.getD_eq_getElem?_getD, List.getElem?_eq_getElem hlt]
  exact of_decide_eq_true this
def ptF (L : List (List Nat)) (k t : Nat) : Nat → Nat := fun x => if clsF L x < k ∨ (clsF L x = k ∧ x ∈ (L.getD k []).take t) then clsF L x else 0
theorem pt_zero (L : List (List Nat)) : ptF L 0 0 = fun _ => 0 := by funext x; simp [ptF]
theorem mem_take_succ {l : List Nat} {t x : Nat} (h : t < l.length) : x ∈ l.take (t + 1) ↔ (x ∈ l.take t ∨ x = l.getD t 0) := by
  rw [List.take_add_one, List.getElem?_eq_getElem h, List.getD_eq_getElem?_getD, List.getElem?_eq_getElem h]
  simp only [List.mem_append, Option.toList_some, List.mem_singleton, Option.getD_some]
theorem pt_step {L : List (List Nat)} (hu : ∀ j j' x, x ∈ L.getD j [] → x ∈ L.getD j' [] → j = j') {k t : Nat} (ht : t < (L.getD k []).length) : up (ptF L k t) ((L.getD k []).getD t 0) k = ptF L k (t + 1) := by
  funext x
  unfold up ptF
  by_cases e : x = (L.getD k []).getD t 0
  · have hc := cls_of hu (getD_mem ht)
    rw [← e] at hc
    rw [if_pos e, if_pos (.inr ⟨hc, (mem_take_succ ht).2 (.inr e)⟩), hc]
  · rw [if_neg e]
    congr 1
    have h1 : x ∈ (L.getD k []).take (t + 1) ↔ x ∈ (L.getD k []).take t := by
      rw [mem_take_succ ht]; exact ⟨fun h => h.resolve_right e, .inl⟩
    rw [h1]
theorem pt_next {L : List (List Nat)} {k : Nat} (hk : k < L.length) : ptF L k (L.getD k []).length = ptF L (k + 1) 0 := by
  funext x
  unfold ptF
  rw [List.take_length]
  by_cases h : clsF L x = k
  · have hx : x ∈ L.getD k [] := by
      have hlt : clsF L x < L.length := by omega
      have := List.findIdx_getElem (xs := L) (p := fun l => decide (x ∈ l)) (w := hlt)
      rw [← h, List.getD_eq_getElem?_getD, List.getElem?_eq_getElem hlt]
      exact of_decide_eq_true this
    rw [if_pos (.inr ⟨h, hx⟩), if_pos (.inl (by omega))]
  · have : clsF L x < k ↔ clsF L x < k + 1 := by omega
    simp [h, this]
theorem pt_end {n : Nat} (hn : n ≤ 16) {p : Nat → Nat} (hp : Perm n p) {x : Nat} (hx : x < n) : ptF (cycs p n) (cycs p n).length 0 x = clsF (cycs p n) x ∧ clsF (cycs p n) x < (cycs p n).length ∧ x ∈ (cycs p n).getD (clsF (cycs p n) x) [] := by
  have h := cyTo_inv hn hp n (Nat.le_refl _)
  obtain ⟨j, hj, hm⟩ := (h.met x).1 (h.all x hx)
  have hc := cls_of h.uniq hm
  change clsF (cycs p n) x = j at hc
  refine ⟨?_, by rw [hc]; exact hj, by rw [hc]; exact hm⟩
  unfold ptF
  rw [if_pos (.inl (by rw [hc]; exact hj))]
theorem cls_comm {n : Nat} (hn : n ≤ 16) {p b : Nat → Nat} (hp : Perm n p) (hb : ∀ i, i < n → b i < n) (hc : ∀ x, x < n → p (b x) = b (p x)) {x : Nat} (hx : x < n) : clsF (cycs p n) (b x) = clsF (cycs p n) (b (((cycs p n).getD (clsF (cycs p n) x) []).getD 0 0)) := by
  have h := cyTo_inv hn hp n (Nat.le_refl _)
  obtain ⟨-, h1, h2⟩ := pt_end hn hp hx
  generalize clsF (cycs p n) x = j at *
  have hstep : ∀ y, y < n → clsF (cycs p n) (p y) = clsF (cycs p n) y := by
    intro y hy
    obtain ⟨_, _, h3⟩ := pt_end hn hp hy
    exact cls_of h.uniq (h.fwd _ _ h3)
  obtain ⟨t, ht, rfl⟩ := mem_getD h2
  clear hx h2
  induction t with
  | zero => rfl
  | succ t ih =>
    have hlt := h.lt j _ (getD_mem (l := (cycs p n).getD j []) (t := t) (by omega))
    have e : ((cycs p n).getD j []).getD (t + 1) 0 = p (((cycs p n).getD j []).getD t 0) := h.chain j t ht
    rw [e, ← hc _ hlt, hstep _ (hb _ hlt)]
    exact ih (by omega)
theorem perm_surj {n : Nat} (hn : n ≤ 16) {p : Nat → Nat} (hp : Perm n p) {x : Nat} (hx : x < n) : ∃ y, y < n ∧ p y = x := by
  have h := cyTo_inv hn hp n (Nat.le_refl _)
  obtain ⟨j, _, hm⟩ := (h.met x).1 (h.all x hx)
  obtain ⟨y, hy, e⟩ := h.bwd j x hm
  exact ⟨y, h.lt j y hy, e⟩
theorem backTo_at {n : Nat} {p : Nat → Nat} (hp : Perm n p) : ∀ k, k ≤ n → ∀ x, x < k → backTo p k (p x) = x
  | 0, _, x, h => absurd h (Nat.not_lt_zero _)
  | k + 1, hk, x, h => by
    simp only [backTo, up]
    by_cases e : x = k
    · subst e; rw [if_pos rfl]
    · rw [if_neg fun e2 => e (hp.inj x k (by omega) (by omega) e2)]
      exact backTo_at hp k (by omega) x (by omega)
theorem perm_back {n : Nat} (hn : n ≤ 16) {p : Nat → Nat} (hp : Perm n p) : Perm n (backTo p n) := by
  have at_ := fun x (hx : x < n) => backTo_at hp n (Nat.le_refl _) x hx
  refine ⟨fun i hi => ?_, fun i j hi hj e => ?_⟩
  · obtain ⟨x, hx, rfl⟩ := perm_surj hn hp hi
    rw [at_ x hx]; exact hx
  · obtain ⟨x, hx, rfl⟩ := perm_surj hn hp hi
    obtain ⟨y, hy, rfl⟩ := perm_surj hn hp hj
    rw [at_ x hx, at_ y hy] at e
    rw [e]
end Go.Proofs.Ythjnmlpibafbnaa

namespace Go.Proofs.Ythjnmlpibafbnaa
open Go.RowKit DM
set_option linter.unusedSimpArgs false
set_option linter.unusedVariables false
set_option maxRecDepth 100000
set_option maxHeartbeats 1000000
def qTo (F b : Nat → Nat) : Nat → Nat → Nat
  | 0 => fun _ => 0
  | k + 1 => up (qTo F b k) (F k) (F (b k))
theorem parted_fn (N M : Nat) (b w F : Nat → Nat) (hN : N ≤ 16) (hb : ∀ i, i < N → b i < N) (hw : ∀ i, i < N → w i < N) (hF : ∀ i, i < N → F i < 16) : FnR Try.prog 34 [ds_ N b w, .sl 0 0 N 1, .i .i64 (M : Int)] [.ro N 1 (nmF F)] (ds_ M (qTo F b N) (qTo F w N)) := by
  refine FnS.into T tok Try.func34 (by rfl) rfl rfl rfl (by simp) ?_
  refine rS ?_
  refine rS ?_
  refine WP.seq ?_
  refine rS ?_
  refine WP.block ?_
  refine WP.loopH (⟨fun k : Nat => k ≤ N, fun k => [(1, .sl 0 0 N 1), (3, .p 1 [] 0), (6, .p 2 [] 0), (7, .p 3 [] 0), (12, .i .i64 N), (13, .i .i64 k)], fun k => [.ro N 1 (nmF F), .var (ds_ N b w), .var (ds_ 0 (fun _ => 0) (fun _ => 0)), .var (ds_ M (qTo F b k) (qTo F w k))], fun k => N - k⟩) (0) (Nat.zero_le _) (gC [0, 1, 2, 3] (leC (leC (leC (leC leZ))))) ?_
  intro k hk
  dsimp only at hk
  dsimp only [Hd.at]
  refine rS ?_
  refine WP.seq ?_
  refine WP.cond (by rfl) (fun hc => WP.skip ?_) (fun hc => WP.exit ?_)
  · have hk : k < N := by have := of_decide_eq_true hc; omega
    clear hc
    have hbk := hb k hk
    have hwk := hw k hk
    have hFk := hF k hk
    have hFb := hF _ hbk
    have hFw := hF _ hwk
    refine WP.seq (WP.block ?_)
    refine rS ?_
    refine WP.seq ?_
    refine WP.dt (T := T) 13 0 ?_
    refine HW.run false 13 tok (by rfl) (by exact byObl) ?_
    refine HW.fin tok (by kernel_rfl) 13 0 (by rfl) (by kernel_rfl) (by kernel_rfl) (by kernel_rfl) (by rfl) (by rfl) rfl rfl ?_
    refine rF ?_
    refine WP.mem (by simp only [upd, pl, dsf, cast1, Int.toNat_natCast, fup_u8, fup_b, fup_i64, dsf_up0, dsf_up1, dsf_up2]; rfl) ?_
    refine WP.dt (T := T) 13 0 ?_
    refine HW.run false 13 tok (by rfl) (by exact byObl) ?_
    refine HW.fin tok (by kernel_rfl) 13 0 (by rfl) (by kernel_rfl) (by kernel_rfl) (by kernel_rfl) (by rfl) (by rfl) rfl rfl ?_
    refine rF ?_
    refine rE ?_
    refine Again.next (k + 1) (gC [0, 1, 2, 3] (leC (leC (leC (leC leZ))))) (hk) (by dsimp only; omega)
  · have hk : k = N := by have := of_decide_eq_false hc; omega
    subst hk
    refine rS ?_
    exact WP.ret (Ends.val (by rfl) (by exact byObl) (by rfl) (by exact sc_ds _ _ _ _))
def eq16 (f g : Nat → Nat) : Nat → Nat → Bool
  | _, 0 => true
  | i, n + 1 => decide ((f i : Int) = (g i : Int)) && eq16 f g (i + 1) n
def eqDs (n : Int) (b w : Nat → Nat) (n' : Int) (b' w' : Nat → Nat) : Bool := decide (n = n') && (eq16 b b' 0 16 && (eq16 w w' 0 16 && true))
theorem eq_ds_neq (n : Int) (b w : Nat → Nat) (n' : Int) (b' w' : Nat → Nat) : eqE T .neq 27 (ds_ n b w) (ds_ n' b' w') = some (!eqDs n b w n' b' w') := by rfl
theorem eq16_get {f g : Nat → Nat} : ∀ {n i : Nat}, eq16 f g i n = true → ∀ j, j < n → f (i + j) = g (i + j)
  | 0, i, _, j, hj => absurd hj (Nat.not_lt_zero _)
  | n + 1, i, h, 0, _ => by
    simp only [eq16, Bool.and_eq_true, decide_eq_true_eq] at h
    exact_mod_cast h.1
  | n + 1, i, h, j + 1, hj => by
    simp only [eq16, Bool.and_eq_true, decide_eq_true_eq] at h
    have := eq16_get h.2 j (by omega)
    rwa [show i + 1 + j = i + (j + 1) by omega] at this
theorem renTo_at {N : Nat} {p : Nat → Nat} (hp : Perm N p) (b : Nat → Nat) : ∀ k, k ≤ N → ∀ x, x < k → renTo p b k (p x) = p (b x)
  | 0, _, x, h => absurd h (Nat.not_lt_zero _)
  | k + 1, hk, x, h => by
    simp only [renTo, up]
    by_cases e : x = k
    · subst e; rw [if_pos rfl]
    · rw [if_neg fun e2 => e (hp.inj x k (by omega) (by omega) e2)]
      exact renTo_at hp b k (by omega) x (by omega)
theorem comm_of {N : Nat} {b w p : Nat → Nat} (hN : N ≤ 16) (hp : Perm N p) (h : eqDs N (renTo p b N) (renTo p w N) N b w = true) : (∀ x, x < N → p (b x) = b (p x)) ∧ ∀ x, x < N → p (w x) = w (p x) := by
  simp only [eqDs, Bool.and_eq_true] at h
  obtain ⟨_, h1, h2, _⟩ := h
  constructor
  · intro x hx
    have := hp.lt x hx
    have h3 := eq16_get h1 (p x) (by omega)
    rw [Nat.zero_add, renTo_at hp b N (Nat.le_refl _) x hx] at h3
    exact h3
  · intro x hx
    have := hp.lt x hx
    have h3 := eq16_get h2 (p x) (by omega)
    rw [Nat.zero_add, renTo_at hp w N (Nat.le_refl _) x hx] at h3
    exact h3
theorem qTo_val {F b tB : Nat → Nat} : ∀ k, (∀ x, x < k → F (b x) = tB (F x)) → ∀ j, ((∀ x, x < k → F x ≠ j) ∧ qTo F b k j = 0) ∨ ((∃ x, x < k ∧ F x = j) ∧ qTo F b k j = tB j)
  | 0, _, j => .inl ⟨fun x h => absurd h (Nat.not_lt_zero _), rfl⟩
  | k + 1, h, j => by
    simp only [qTo, up]
    by_cases e : j = F k
    · rw [if_pos e]
      exact .inr ⟨⟨k, by omega, e.symm⟩, by rw [h k (by omega), e]⟩
    · rw [if_neg e]
      rcases qTo_val k (fun x hx => h x (by omega)) j with ⟨h1, h2⟩ | ⟨⟨x, hx, h1⟩, h2⟩
      · refine .inl ⟨fun x hx => ?_, h2⟩
        by_cases e2 : x = k
        · subst e2; exact fun h => e h.symm
        · exact h1 x (by omega)
      · exact .inr ⟨⟨x, by omega, h1⟩, h2⟩
def prtF (L : List (List Nat)) : Nat → Nat := ptF L L.length 0
def hdQ (L : List (List Nat)) (b : Nat → Nat) (k : Nat) : Nat := prtF L (b ((L.getD k []).getD 0 0))
theorem prt_lt {N : Nat} (hN : N ≤ 16) {p : Nat → Nat} (hp : Perm N p) {x : Nat} (hx : x < N) : prtF (cycs p N) x < (cycs p N).length := by
  obtain ⟨h1, h2, _⟩ := pt_end hN hp hx
  unfold prtF; rw [h1]; exact h2
theorem head_lt {N : Nat} (hN : N ≤ 16) {p : Nat → Nat} (hp : Perm N p) {k : Nat} (hk : k < (cycs p N).length) : ((cycs p N).getD k []).getD 0 0 < N ∧ 0 < ((cycs p N).getD k []).length := by
  have h := cyTo_inv hN hp N (Nat.le_refl _)
  exact ⟨h.lt k _ (getD_mem (h.pos k hk)), h.pos k hk⟩
theorem qTo_end {N : Nat} (hN : N ≤ 16) {p b : Nat → Nat} (hp : Perm N p) (hb : ∀ i, i < N → b i < N) (hc : ∀ x, x < N → p (b x) = b (p x)) : qTo (prtF (cycs p N)) b N = fillF (hdQ (cycs p N) b) (cycs p N).length := by
  have h := cyTo_inv hN hp N (Nat.le_refl _)
  have key := qTo_val (F := prtF (cycs p N)) (b := b) (tB := hdQ (cycs p N) b) N fun x hx => by
    have h1 := cls_comm hN hp hb hc hx
    have e : ∀ y, y < N → prtF (cycs p N) y = clsF (cycs p N) y := fun y hy => (pt_end hN hp hy).1
    unfold hdQ
    rw [e _ (hb x hx), e x hx, h1, e _ (hb _ ?_)]
    exact (head_lt hN hp (pt_end hN hp hx).2.1).1
  funext j
  unfold fillF
  rcases key j with ⟨h1, h2⟩ | ⟨⟨x, hx, h1⟩, h2⟩
  · rw [h2]
    by_cases e : j < (cycs p N).length
    · exfalso
      have hh := head_lt hN hp e
      refine h1 _ hh.1 ?_
      unfold prtF
      rw [(pt_end hN hp hh.1).1]
      exact cls_of h.uniq (getD_mem hh.2)
    · rw [if_neg e]
  · rw [h2, if_pos (h1 ▸ prt_lt hN hp hx)]
noncomputable def quR (n : Int) (b w p : Nat → Nat) : Dat × List Root := bif desB n b w && permB p n then (bif eqDs n (renTo p b n.toNat) (renTo p w n.toNat) n b w then
  (t3 (ds_ (cycs p n.toNat).length (fillF (hdQ (cycs p n.toNat) b) (cycs p n.toNat).length) (fillF (hdQ (cycs p n.toNat) w) (cycs p n.toNat).length)) (.sl 0 0 n.toNat 1) (.i .i64 0), [.row 2 n.toNat 1 (nmF (prtF (cycs p n.toNat)))])
  else (t3 (ds_ 0 (fun _ => 0) (fun _ => 0)) .ns (.i .i64 5), [])) else (t3 (ds_ 0 (fun _ => 0) (fun _ => 0)) .ns (.i .i64 1), [])
theorem ren_t3 {τ : Nat → Nat} {a b c a' b' c' : Dat} (h1 : renD τ a a') (h2 : renD τ b b') (h3 : renD τ c c') : renD τ (t3 a b c) (t3 a' b' c') :=
  ⟨_, rfl, fun i _ => by
    rcases i with _ | _ | i
    · exact h1
    · exact h2
    · exact h3⟩
end Go.Proofs.Ythjnmlpibafbnaa
