import Derived.Test.YthjnmlpibafbnaaD15
namespace Go.Proofs.Ythjnmlpibafbnaa.DM
open Go.RowKit
section
variable {P : Program} {N K : Nat} {Q : Exit → St → Prop} {fr : Nat → Dat} {m : List Root} {R : Root} {n' s len : Nat} {g : Nat → Dat}
theorem Frm.same {n n' : Nat} {ρ ρ' : Rho} {N : Nat} {fr : Nat → Dat} {tmps : Array Value} (hn : n ≤ n') (hρ : ∀ r, r < n → ρ' r [] = ρ r []) (h : Frm n ρ N fr tmps) : Frm n' ρ' N fr tmps :=
  ⟨h.size, fun t => by
    rcases h.slot t with h1 | ⟨h1, h2, h3⟩
    · exact .inl h1
    · exact .inr ⟨by rw [h1, enc_congr hρ _ h2], h2.mono hn, h3⟩⟩
theorem Rel.fold (k : Nat) (q : List Nat) (r e : Nat) {ρ : Rho} {a : Act} {w : World} (hk : m[k]? = some R) (hm : R.mine = true) (hq : q ≠ []) (hn : R.navL q = some (.sl r 0 len s)) (hok : FoldOK m k r e len n' s g) (h : Rel N K ρ ⟨fr, m⟩ a w) :
    Rel N K (foldR ρ k q r) ⟨fr, foldM m k r e len s R q g⟩ a w ∧ TrK K ρ m w (foldR ρ k q r) (foldM m k r e len s R q g) w := by
  obtain ⟨hf, hdf, hr, hK⟩ := h
  obtain ⟨h1, h2⟩ := hr.fold hk hm hq hn hok
  have h0 : ∀ a, foldR ρ k q r a [] = ρ a [] := fun a => by unfold foldR; rw [strip_nil hq]; split <;> rfl
  refine ⟨⟨?_, hdf, h1, ?_⟩, h2 K⟩
  · exact Frm.same (by rw [foldM_len]; exact Nat.le_refl _) (fun r _ => h0 r) hf
  · show K ≤ List.length (foldM m k r e len s R q g)
    rw [foldM_len]; exact hK
theorem WP.fold (k : Nat) (q : List Nat) (r e : Nat) {m' : List Root} {c : Code} (hk : m[k]? = some R) (hm : R.mine = true) (hq : q ≠ []) (hn : R.navL q = some (.sl r 0 len s)) (hok : FoldOK m k r e len n' s g) (hm' : foldM m k r e len s R q g = m') (h : WP P N K c Q ⟨fr, m'⟩) : WP P N K c Q ⟨fr, m⟩ := by
  subst hm'
  intro ρ a w hrel
  obtain ⟨h1, h2⟩ := Rel.fold k q r e hk hm hq hn hok hrel
  exact wp_mono (h _ a w h1) fun _ _ _ q => Real.tr (s := ⟨fr, m⟩) (s1 := ⟨fr, _⟩) h2 q
theorem WPL.fold (k : Nat) (q : List Nat) (r e : Nat) {m' : List Root} {ops : Array Oper} {c : List Oper} (hk : m[k]? = some R) (hm : R.mine = true) (hq : q ≠ []) (hn : R.navL q = some (.sl r 0 len s)) (hok : FoldOK m k r e len n' s g) (hm' : foldM m k r e len s R q g = m') (h : WPL P N K ops Q c ⟨fr, m'⟩) : WPL P N K ops Q c ⟨fr, m⟩ := by
  subst hm'
  intro ρ a w hrel
  obtain ⟨h1, h2⟩ := Rel.fold k q r e hk hm hq hn hok hrel
  exact wpList_mono (fun _ _ _ q => Real.tr (s := ⟨fr, m⟩) (s1 := ⟨fr, _⟩) h2 q) _ _ _ (h _ a w h1)
def Ghost (K : Nat) (s s' : St) : Prop := ∀ (N : Nat) (ρ : Rho) (a : Act) (w : World), Rel N K ρ s a w → ∃ ρ', Rel N K ρ' s' a w ∧ TrK K ρ s.m w ρ' s'.m w
theorem Ghost.fold (k : Nat) (q : List Nat) (r e : Nat) {m' : List Root} (hk : m[k]? = some R) (hm : R.mine = true) (hq : q ≠ []) (hn : R.navL q = some (.sl r 0 len s)) (hok : FoldOK m k r e len n' s g) (hm' : foldM m k r e len s R q g = m') : Ghost K ⟨fr, m⟩ ⟨fr, m'⟩ := by
  subst hm'
  intro N ρ a w h
  obtain ⟨h1, h2⟩ := Rel.fold k q r e hk hm hq hn hok h
  exact ⟨_, h1, h2⟩
theorem Ghost.cut {k : Nat} (hk : K ≤ k) (τ : Nat → Nat) (l : List (Nat × Dat)) (m' : List Root) (ht : Taken τ k m m') (hl : SlotsR τ m'.length fr l) : Ghost K ⟨fr, m⟩ ⟨lst l, m'⟩ := by
  intro N ρ a w h
  obtain ⟨h1, h2⟩ := Rel.cut hk ht hl h
  exact ⟨_, h1, h2⟩
theorem Taken.at {ρ : Rho} {w : World} (h : Rep ρ m w) {r : Nat} {R0 R' : Root} (hr : m[r]? = some R0) (hl : R0.Le R') : Taken (fun j => j) m.length m (m.set r R') where
  get := fun j X hj => by
    rcases set_get hj with ⟨rfl, rfl, _⟩ | ⟨_, h2⟩
    · exact .inr ⟨R0, hr, hl, fun d hd => (hl.wf hd (k := m.length) (fun d0 hd0 => (h.wf _ R0 d0 hr hd0).1)).2 (fun d0 hd0 => (h.wf _ R0 d0 hr hd0).2)⟩
    · exact .inr ⟨X, h2, Root.Le.refl X, fun d hd => (h.wf j X d h2 hd).2⟩
  inj := fun i j _ _ _ _ _ _ e => e
  fix := fun _ _ => rfl
  len := by simp
theorem Rel.at {ρ : Rho} {a : Act} {w : World} (h : Rel N K ρ ⟨fr, m⟩ a w) {r : Nat} {R0 R' : Root} (hr : m[r]? = some R0) (hl : R0.Le R') : Rel N K ρ ⟨fr, m.set r R'⟩ a w ∧ TrK K ρ m w ρ (m.set r R') w := by
  obtain ⟨hf, hdf, hrep, hK⟩ := h
  have ht := Taken.at hrep hr hl
  have h1 := hrep.taken ht
  refine ⟨⟨Frm.same (by simp) (fun _ _ => rfl) hf, hdf, h1, by simpa using hK⟩, rfl, rfl, Nat.le_refl _, rfl, Nat.le_refl _, fun _ _ => rfl, fun _ _ _ => rfl, fun j X q g1 g2 g3 => .inr ?_, fun j X q g1 g2 g3 => .inr ?_⟩
  · rcases ht.get j X g1 with rfl | ⟨X0, h4, h5, _⟩
    · cases g2
    · exact ⟨_, X0, q, h4, h5.mine g2, h5.atO g3, rfl⟩
  · rcases ht.get j X g1 with rfl | ⟨X0, h4, h5, _⟩
    · exact absurd rfl g2.ne
    · exact ⟨_, X0, q, h4, h5.at g2, g3, rfl⟩
theorem Ghost.at {r : Nat} {R0 R' : Root} (hr : m[r]? = some R0) (hl : R0.Le R') : Ghost K ⟨fr, m⟩ ⟨fr, m.set r R'⟩ := by
  intro N ρ a w h
  obtain ⟨h1, h2⟩ := h.at hr hl
  exact ⟨_, h1, h2⟩
theorem Ghost.trans {s1 s2 s3 : St} (h : Ghost K s1 s2) (h' : Ghost K s2 s3) : Ghost K s1 s3 := by
  intro N ρ a w hr
  obtain ⟨ρ1, h1, h2⟩ := h N ρ a w hr
  obtain ⟨ρ2, h3, h4⟩ := h' N ρ1 a w h1
  exact ⟨ρ2, h3, h2.trans h4⟩
theorem Ghost.unfold (k : Nat) (q : List Nat) {e : Nat} (hk : m[k]? = some R) (hm : R.mine = true) (hq : q ≠ []) (hn : R.navL q = some (.ow e len s g)) (he : Nat.beq e 0 = false) : Ghost K ⟨fr, m⟩ ⟨fr, m.set k (R.upd q (.sl m.length 0 len s)) ++ [.row e len s g]⟩ := by
  intro N ρ a w ⟨hf, hdf, hr, hK⟩
  have he' : e ≠ 0 := fun h => by subst h; cases he
  obtain ⟨h1, h2⟩ := hr.unfold hk hm hq hn he'
  refine ⟨_, ⟨?_, hdf, h1, ?_⟩, h2 K hK⟩
  · exact Frm.same (by simp) (fun r hr => by rw [ext_ne ρ _ (by have : r < m.length := hr; omega)]) hf
  · have : K ≤ m.length := hK
    simp; omega
theorem Ghost.take (k i : Nat) {e e0 n t : Nat} {f : Nat → Dat} (hk : m[k]? = some (.row e0 n t f)) (hi : i < n) (hf : f i = .ow e len s g) (he : Nat.beq e 0 = false) : Ghost K ⟨fr, m⟩ ⟨fr, m.set k (.row e0 n t (fup f i (.sl m.length 0 len s))) ++ [.row e len s g]⟩ := by
  have := Ghost.unfold (K := K) (fr := fr) k [i] (R := .row e0 n t f) (e := e) (len := len) (s := s) (g := g) hk rfl (by simp) (by simp only [Root.navL, if_pos hi, DM.navL, hf]) he
  exact this
theorem Ghost.give (k i r : Nat) {e e0 n t : Nat} {f : Nat → Dat} (hk : m[k]? = some (.row e0 n t f)) (hi : i < n) (hf : f i = .sl r 0 len s) (hrk : Nat.beq r k = false) (he : Nat.beq e 0 = false) (hr : m[r]? = some (.row e n' s g)) (hlen : len ≤ n') : Ghost K ⟨fr, m⟩ ⟨fr, (m.set r .dead).set k (.row e0 n t (fup f i (.ow e len s g)))⟩ := by
  have hne : r ≠ k := fun e => by subst e; rw [show Nat.beq r r = true from Nat.beq_refl r] at hrk; cases hrk
  have he' : e ≠ 0 := fun h => by subst h; cases he
  refine Ghost.fold k [i] r e hk rfl (by simp) (by simp only [Root.navL, if_pos hi, DM.navL, hf]) ⟨hlen, .inr ⟨he', hne, hr⟩⟩ ?_
  unfold foldM
  cases e with
  | zero => exact absurd rfl he'
  | succ e => rfl
theorem apF_end (n : Nat) (f g : Nat → Dat) : apF n f 0 g n = g 0 := by
  unfold apF
  rw [show Nat.blt n n = false from by cases hh : Nat.blt n n with | false => rfl | true => rw [Nat.blt_eq] at hh; omega]
  simp
theorem Ghost.giveLast (k r : Nat) {e e0 : TypeId} {n t : Nat} {f g0 : Nat → Dat} (hk : m[k]? = some (.row e (n + 1) t (apF n f 0 g0))) (hrk : Nat.beq r k = false) (he : Nat.beq e0 0 = false) (hg : g0 0 = .sl r 0 len s) (hr : m[r]? = some (.row e0 n' s g)) (hlen : len ≤ n') : Ghost K ⟨fr, m⟩ ⟨fr, (m.set r .dead).set k (.row e (n + 1) t (fup (apF n f 0 g0) n (.ow e0 len s g)))⟩ :=
  Ghost.give k n r hk (by omega) (by rw [apF_end]; exact hg) hrk he hr hlen
theorem WP.ghost {c : Code} {s s' : St} (h : Ghost K s s') (k : WP P N K c Q s') : WP P N K c Q s := by
  intro ρ a w hrel
  obtain ⟨ρ', h1, h2⟩ := h N ρ a w hrel
  exact wp_mono (k _ a w h1) fun _ _ _ q => Real.tr h2 q
theorem WPL.ghost {ops : Array Oper} {c : List Oper} {s s' : St} (h : Ghost K s s') (k : WPL P N K ops Q c s') : WPL P N K ops Q c s := by
  intro ρ a w hrel
  obtain ⟨ρ', h1, h2⟩ := h N ρ a w hrel
  exact wpList_mono (fun _ _ _ q => Real.tr h2 q) _ _ _ (k _ a w h1)
theorem renD_len {τ : Nat → Nat} {r a b b' c : Nat} {d : Dat} (h : b' = b) (k : renD τ (.sl r a b c) d) : renD τ (.sl r a b' c) d := h ▸ k
theorem renD_int {τ : Nat → Nat} {κ : IntKind} {x x' : Int} {d : Dat} (h : x' = x) (k : renD τ (.i κ x) d) : renD τ (.i κ x') d := h ▸ k
def Gh (K : Nat) (I : St → Prop) (s : St) : Prop := ∃ s', Ghost K s s' ∧ I s'
theorem Gh.step {I : St → Prop} {s s' : St} (h : Ghost K s s') (k : Gh K I s') : Gh K I s := by
  obtain ⟨s2, h1, h2⟩ := k
  exact ⟨s2, h.trans h1, h2⟩
theorem WP.ghEnd {c : Code} {I : St → Prop} {s : St} (h : WP P N K c (Then (Gh K I) Q) s) : WP P N K c (Then I Q) s := by
  intro ρ a w hrel
  refine wp_mono (h ρ a w hrel) ?_
  rintro e a' w' ⟨ρ', s', h1, h2, h3⟩
  cases e with
  | normal =>
    obtain ⟨s2, g1, g2⟩ := h3
    obtain ⟨ρ2, k1, k2⟩ := g1 N ρ' a' w' h1
    exact ⟨ρ2, s2, k1, h2.trans k2, g2⟩
  | _ => exact ⟨ρ', s', h1, h2, h3⟩
structure Hd (X : Type) where
  C : X → Prop
  l : X → List (Nat × Dat)
  m : X → List Root
  μ : X → Nat
def Hd.at {X : Type} (H : Hd X) (x : X) : St := ⟨lst (H.l x), H.m x⟩
def Again {X : Type} (K : Nat) (H : Hd X) (x : X) : St → Prop := Gh K fun s' => ∃ x', H.C x' ∧ H.μ x' < H.μ x ∧ s' = H.at x'
theorem Again.step {X : Type} {H : Hd X} {x : X} {s s' : St} (h : Ghost K s s') (k : Again K H x s') : Again K H x s := Gh.step h k
theorem WP.loopH {c : Code} {X : Type} (H : Hd X) (x0 : X) {s0 : St} (h0 : H.C x0) (hs : Ghost K s0 (H.at x0)) (round : ∀ x, H.C x → WP P N K c (Then (Again K H x) Q) (H.at x)) : WP P N K (.loop c) Q s0 := by
  refine WP.ghost hs ?_
  refine WP.loop (fun n s' => ∃ x, n = H.μ x ∧ H.C x ∧ s' = H.at x) (H.μ x0) ⟨x0, rfl, h0, rfl⟩ ?_
  rintro n s1 ⟨x, rfl, hC, rfl⟩
  refine (WP.ghEnd (round x hC)).mono ?_
  intro e s' h
  cases e with
  | normal =>
    obtain ⟨x', hC', h1, h2⟩ := h
    exact ⟨H.μ x', h1, x', rfl, hC', h2⟩
  | _ => exact h
theorem Again.next {X : Type} {H : Hd X} {x : X} (x' : X) {s : St} (hg : Ghost K s (H.at x')) (hC : H.C x') (hμ : H.μ x' < H.μ x) : Again K H x s := ⟨_, hg, x', hC, hμ, rfl⟩
end
end Go.Proofs.Ythjnmlpibafbnaa.DM
namespace Go.Proofs.Ythjnmlpibafbnaa.DM
open Go.RowKit
set_option linter.unusedVariables false
def NoPan (Q : Exit → St → Prop) : Exit → St → Prop := fun e s => (∀ c, e ≠ .panic c) ∧ Q e s
theorem noPan {Q : Exit → St → Prop} {s : St} (h : Q .normal s) : NoPan Q .normal s := ⟨fun c hc => (by cases hc), h⟩
def floatOK (l : List Oper) (c : Oper) : Bool :=
  ((List.range l.length).all fun j => match l[j]? with
    | some o => c.apart (l ++ [c]).toArray o && (o.after.toList.all fun e => !Region.binds .any e || Nat.blt e.on l.length) && (match o.guard with
      | some (g, _) => Nat.blt g l.length
      | none => true) && (match o.op with
      | .select _ _ => false
      | _ => true)
    | none => false)
theorem floatOK_get {l : List Oper} {c : Oper} (h : floatOK l c = true) {j : Nat} {o : Oper} (ho : l[j]? = some o) : c.apart (l ++ [c]).toArray o = true ∧ (∀ e ∈ o.after.toList, Region.binds .any e = true → e.on < l.length) ∧ (∀ g b, o.guard = some (g, b) → g < l.length) ∧ ∀ cs b, o.op ≠ .select cs b := by
  unfold floatOK at h
  rw [List.all_eq_true] at h
  have hj : j < l.length := (List.getElem?_eq_some_iff.1 ho).1
  have := h j (List.mem_range.2 hj)
  rw [ho] at this
  simp only [Bool.and_eq_true] at this
  obtain ⟨⟨⟨h1, h2⟩, h3⟩, h4⟩ := this
  refine ⟨h1, fun e he hb => ?_, fun g b hg => ?_, fun cs b hs => ?_⟩
  · rw [List.all_eq_true] at h2
    have := h2 e he
    rw [hb] at this
    simpa using this
  · rw [hg] at h3; simpa using h3
  · rw [hs] at h4; cases h4
section
variable {P : Program} {N K : Nat} {Q : Exit → St → Prop}
theorem wpOp_mono2 {ops : Array Oper} {Q Q' : Exit → Act → World → Prop} (hq : ∀ e a w, Q e a w → Q' e a w) {i : Nat} {K K' : Act → World → Prop} (hk : ∀ a w, K a w → K' a w) {a : Act} {w : World} (h : wpOp P ops Q i K a w) : wpOp P ops Q' i K' a w := by
  unfold wpOp at *
  split
  · rename_i ho; rw [ho] at h; exact hk _ _ h
  · rename_i o ho
    rw [ho] at h
    simp only at h
    split
    · rename_i hw
      rw [if_pos hw] at h
      rcases h with h | ⟨h, a', w', h'⟩
      · exact .inl (upon_mono hk hq h)
      · exact .inr ⟨h, a', w', hq _ _ _ h'⟩
    · rename_i hw
      rw [if_neg hw] at h
      exact hk _ _ h
theorem wpAny_mono' {ops : Array Oper} {md : Region.Mode} {Q Q' : Exit → Act → World → Prop} (hq : ∀ e a w, Q e a w → Q' e a w) : ∀ (fuel : Nat) (listed : Array Bool) (a : Act) (w : World), wpAny P md ops Q fuel listed a w → wpAny P md ops Q' fuel listed a w
  | 0, _, _, _, h => ⟨h.1, hq _ _ _ h.2⟩
  | fuel + 1, listed, a, w, h => ⟨fun h0 => hq _ _ _ (h.1 h0), fun i hi => wpOp_mono2 hq (fun a' w' h' => wpAny_mono' hq fuel _ a' w' h') (h.2 i hi)⟩
theorem pad_ready {l : List Oper} {c : Oper} (hf : floatOK l c = true) {listed : Array Bool} (hl : listed.size = l.length) {i : Nat} : i ∈ Region.ready .any (l ++ [c]).toArray (listed.push true) ↔ i ∈ Region.ready .any l.toArray listed := by
  rw [mem_ready, mem_ready]
  have get : ∀ {j : Nat} {b : Bool}, j < l.length → (listed.push true).getD j b = listed.getD j b := fun {j b} hj => by
    simp only [Array.getD_eq_getD_getElem?]
    rw [Array.getElem?_push_lt (by omega), Array.getElem?_eq_getElem (by omega)]
  constructor
  · rintro ⟨h1, o, h2, h3⟩
    have hi : i < l.length := by
      refine Classical.byContradiction fun hge => ?_
      simp only [Array.getD_eq_getD_getElem?] at h1
      by_cases e : i = l.length
      · subst e; rw [← hl] at h1; simp at h1
      · rw [Array.getElem?_eq_none (by simp; omega)] at h1; cases h1
    have ho : l[i]? = some o := by
      have : (l ++ [c])[i]? = some o := by simpa using h2
      rwa [List.getElem?_append_left hi] at this
    refine ⟨by rw [← get hi]; exact h1, o, by simpa using ho, fun e he hb => ?_⟩
    rw [← get ((floatOK_get hf ho).2.1 e (by simpa using he) hb)]
    exact h3 e he hb
  · rintro ⟨h1, o, h2, h3⟩
    have ho : l[i]? = some o := by simpa using h2
    have hi : i < l.length := (List.getElem?_eq_some_iff.1 ho).1
    refine ⟨by rw [get hi]; exact h1, o, by simpa [List.getElem?_append_left hi] using ho, fun e he hb => ?_⟩
    rw [get ((floatOK_get hf ho).2.1 e (by simpa using he) hb)]
    exact h3 e he hb
theorem pad_wpOp {l : List Oper} {c : Oper} (hf : floatOK l c = true) {Q' : Exit → Act → World → Prop} {i : Nat} (hi : i < l.length) {K : Act → World → Prop} {a : Act} {w : World} (h : wpOp P l.toArray Q' i K a w) : wpOp P (l ++ [c]).toArray Q' i K a w := by
  obtain ⟨o, ho⟩ : ∃ o, l[i]? = some o := ⟨l[i], List.getElem?_eq_getElem hi⟩
  have h1 : l.toArray[i]? = some o := by simpa using ho
  have h2 : (l ++ [c]).toArray[i]? = some o := by simpa [List.getElem?_append_left hi] using ho
  have hw : Region.wanted o (yielded (l ++ [c]).toArray a.tmps) = Region.wanted o (yielded l.toArray a.tmps) := by
    unfold Region.wanted
    cases hg : o.guard with
    | none => rfl
    | some gb =>
      obtain ⟨g, b⟩ := gb
      have hgl := (floatOK_get hf ho).2.2.1 g b hg
      have : yielded (l ++ [c]).toArray a.tmps g = yielded l.toArray a.tmps g := by
        unfold yielded
        simp [List.getElem?_append_left hgl]
      simp only [this]
  unfold wpOp at *
  simp only [h1, h2, hw] at *
  exact h
theorem pad_wpAny {l : List Oper} {c : Oper} (hf : floatOK l c = true) {Q' : Exit → Act → World → Prop} : ∀ (fuel : Nat) (listed : Array Bool) (a : Act) (w : World), listed.size = l.length → wpAny P .any l.toArray Q' fuel listed a w → wpAny P .any (l ++ [c]).toArray Q' fuel (listed.push true) a w
  | 0, listed, a, w, hl, h => by
    refine ⟨?_, h.2⟩
    refine List.eq_nil_iff_forall_not_mem.2 fun i hi => ?_
    have := (pad_ready hf hl).1 hi
    rw [h.1] at this; cases this
  | fuel + 1, listed, a, w, hl, h => by
    refine ⟨fun h0 => h.1 (List.eq_nil_iff_forall_not_mem.2 fun i hi => ?_), fun i hi => ?_⟩
    · have := (pad_ready hf hl).2 hi
      rw [h0] at this; cases this
    · have hi' := (pad_ready hf hl).1 hi
      have hil : i < l.length := by
        obtain ⟨_, o, ho, _⟩ := mem_ready.1 hi'
        have := (Array.getElem?_eq_some_iff.1 ho).1
        simpa using this
      refine pad_wpOp hf hil (wpOp_mono (fun a' w' h' => ?_) (h.2 i hi'))
      have := pad_wpAny hf fuel (listed.setIfInBounds i true) a' w' (by simpa using hl) h'
      rwa [show (listed.setIfInBounds i true).push true = (listed.push true).setIfInBounds i true from by
        apply Array.ext'
        simp only [Array.toList_push, Array.toList_setIfInBounds]
        rw [List.set_append_left _ _ (by simp; omega)]] at this
theorem WP.float (hm : P.follows .mixedOrders = true) {id : Nat} {l : List Oper} {d : Nat} {v : Value} {t : TypeId} {pos : String} (hf : floatOK l { dst := some d, op := .move (.const v), type := t, pos := pos, after := #[], guard := none } = true) (hd : Nat.blt d N = true) {fr : Nat → Dat} {m : List Root}
    (h : WR P N K l (NoPan Q) ⟨fup fr d (ofV v), m⟩) : WP P N K (.region id (l ++ [({ dst := some d, op := .move (.const v), type := t, pos := pos, after := #[], guard := none } : Oper)]).toArray true) Q ⟨fr, m⟩ := by
  generalize hc : ({ dst := some d, op := .move (.const v), type := t, pos := pos, after := #[], guard := none } : Oper) = c at hf ⊢
  have hcd : c.dst = some d := by rw [← hc]
  have hco : c.op = .move (.const v) := by rw [← hc]
  have hca : c.after = #[] := by rw [← hc]
  have hcg : c.guard = none := by rw [← hc]
  intro ρ a w hrel
  have hrel' : Rel N K ρ ⟨fup fr d (ofV v), m⟩ (a.put (some d) v) w := by
    obtain ⟨g1, g2, g3, g4⟩ := hrel
    rw [Nat.blt_eq] at hd
    exact ⟨g1.put hd (ofV_ok v), by rw [put_defers]; exact g2, g3, g4⟩
  refine wp_region_any hm ?_
  have h1 := h ρ (a.put (some d) v) w hrel'
  have h2 := pad_wpAny hf _ _ _ _ (by simp) h1
  -- the post: no panic, and what the state is told by
  have h3 : wpAny P .any (l ++ [c]).toArray (fun e a' w' => (∀ x, e ≠ .panic x) ∧ Real N K ρ (⟨fr, m⟩ : St) w Q e a' w') l.length ((Array.replicate l.length false).push true) (a.put (some d) v) ({ w with drawn := w.drawn + 1 } : World) := by
    refine wpAny_mono' ?_ _ _ _ _ h2
    rintro e a' w' ⟨ρ', s', k1, k2, k3, k4⟩
    exact ⟨k3, ρ', s', k1, k2, k4⟩
  have hsz : (l ++ [c]).toArray.size = l.length + 1 := by simp
  have hrep : (Array.replicate (l.length + 1) false).setIfInBounds l.length true = (Array.replicate l.length false).push true := by
    apply Array.ext'
    simp only [Array.toList_setIfInBounds, Array.toList_replicate, Array.toList_push, List.replicate_succ']
    rw [List.set_append_right _ _ (by simp)]
    simp
  rw [hsz]
  have h4 : wpAny P .any (l ++ [c]).toArray (fun e a' w' => (∀ x, e ≠ .panic x) ∧ Real N K ρ (⟨fr, m⟩ : St) w Q e a' w') (l.length + 1) (Array.replicate (l.length + 1) false) a ({ w with drawn := w.drawn + 1 } : World) := by
    refine wpAny_first (i := l.length) (oi := c) (v := v) (by simp) ?_ (fun x a w q => absurd rfl (q.1 x)) l.length _ a _ ?_ ?_ ?_ ?_
    · intro j o cs b ho
      have ho' : (l ++ [c])[j]? = some o := by simpa using ho
      rw [List.getElem?_append] at ho'
      split at ho'
      · exact (floatOK_get hf ho').2.2.2 cs b
      · have : o = c := by
          have h5 := List.mem_of_getElem? ho'
          simpa using h5
        rw [this, hco]; simp
    · intro j oj hj hne _ _
      have ho' : (l ++ [c])[j]? = some oj := by simpa using hj
      rw [List.getElem?_append] at ho'
      split at ho'
      · exact (floatOK_get hf ho').1
      · rename_i hge
        exfalso
        have := (List.getElem?_eq_some_iff.1 ho').1
        simp at this
        omega
    · rw [mem_ready]
      refine ⟨by simp, c, by simp, fun e he => ?_⟩
      rw [hca] at he; simp at he
    · refine .inl ⟨by unfold Region.wanted; rw [hcg], fun w => ?_⟩
      simp [execOp, hco, Act.eval]
    · rw [hrep, hcd]
      exact h3
  refine wpAny_mono' ?_ _ _ _ _ h4
  intro e a' w' q
  exact q.2
theorem WP.floatT (hm : P.follows .mixedOrders = true) (n : Nat) {id : Nat} {l : List Oper} {d : Nat} {v : Value} {t : TypeId} {pos : String} (hl : l.drop n = [{ dst := some d, op := .move (.const v), type := t, pos := pos, after := #[], guard := none }]) (hf : floatOK (l.take n) { dst := some d, op := .move (.const v), type := t, pos := pos, after := #[], guard := none } = true) (hd : Nat.blt d N = true) {fr : Nat → Dat} {m : List Root}
    (h : WR P N K (l.take n) (NoPan Q) ⟨fup fr d (ofV v), m⟩) : WP P N K (.region id l.toArray true) Q ⟨fr, m⟩ := by
  have e : l = l.take n ++ [({ dst := some d, op := .move (.const v), type := t, pos := pos, after := #[], guard := none } : Oper)] := by rw [← hl, List.take_append_drop]
  rw [e]
  exact WP.float hm hf hd h
end
end Go.Proofs.Ythjnmlpibafbnaa.DM
