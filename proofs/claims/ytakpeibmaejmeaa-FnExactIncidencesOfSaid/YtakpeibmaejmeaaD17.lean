/- Regions that draw their order, with constants behind: a constant may be taken first. -/
import Derived.Test.YtakpeibmaejmeaaD16
namespace Go.Proofs.Ytakpeibmaejmeaa.DM
open Go.RowKit
set_option linter.unusedVariables false

/-- No panic. -/
def NoPan (Q : Exit → St → Prop) : Exit → St → Prop := fun e s => (∀ c, e ≠ .panic c) ∧ Q e s

theorem noPan {Q : Exit → St → Prop} {s : St} (h : Q .normal s) : NoPan Q .normal s := ⟨fun c hc => (by cases hc), h⟩

/-- Nothing of the region looks at slot d, writes it, or waits for what is not in it. -/
def floatOK (l : List Oper) (c : Oper) : Bool :=
  ((List.range l.length).all fun j => match l[j]? with
    | some o => c.apart (l ++ [c]).toArray o && (o.after.toList.all fun e => !Region.binds .any e || Nat.blt e.on l.length) && (match o.guard with
      | some (g, _) => Nat.blt g l.length
      | none => true) && (match o.op with
      | .select _ _ => false
      | _ => true)
    | none => false)

theorem floatOK_get {l : List Oper} {c : Oper} (h : floatOK l c = true) {j : Nat} {o : Oper} (ho : l[j]? = some o) : c.apart (l ++ [c]).toArray o = true ∧ (∀ e ∈ o.after.toList, Region.binds .any e = true → e.on < l.length) ∧ (∀ g b, o.guard = some (g, b) → g < l.length) ∧ ∀ cs b, o.op ≠ .select cs b := by
  unfold floatOK at h
  rw [List.all_eq_true] at h
  have hj : j < l.length := (List.getElem?_eq_some_iff.1 ho).1
  have := h j (List.mem_range.2 hj)
  rw [ho] at this
  simp only [Bool.and_eq_true] at this
  obtain ⟨⟨⟨h1, h2⟩, h3⟩, h4⟩ := this
  refine ⟨h1, fun e he hb => ?_, fun g b hg => ?_, fun cs b hs => ?_⟩
  · rw [List.all_eq_true] at h2
    have := h2 e he
    rw [hb] at this
    simpa using this
  · rw [hg] at h3; simpa using h3
  · rw [hs] at h4; cases h4

section
variable {P : Program} {N K : Nat} {Q : Exit → St → Prop}

theorem wpOp_mono2 {ops : Array Oper} {Q Q' : Exit → Act → World → Prop} (hq : ∀ e a w, Q e a w → Q' e a w) {i : Nat} {K K' : Act → World → Prop} (hk : ∀ a w, K a w → K' a w) {a : Act} {w : World} (h : wpOp P ops Q i K a w) : wpOp P ops Q' i K' a w := by
  unfold wpOp at *
  split
  · rename_i ho; rw [ho] at h; exact hk _ _ h
  · rename_i o ho
    rw [ho] at h
    simp only at h
    split
    · rename_i hw
      rw [if_pos hw] at h
      rcases h with h | ⟨h, a', w', h'⟩
      · exact .inl (upon_mono hk hq h)
      · exact .inr ⟨h, a', w', hq _ _ _ h'⟩
    · rename_i hw
      rw [if_neg hw] at h
      exact hk _ _ h

theorem wpAny_mono' {ops : Array Oper} {md : Region.Mode} {Q Q' : Exit → Act → World → Prop} (hq : ∀ e a w, Q e a w → Q' e a w) : ∀ (fuel : Nat) (listed : Array Bool) (a : Act) (w : World), wpAny P md ops Q fuel listed a w → wpAny P md ops Q' fuel listed a w
  | 0, _, _, _, h => ⟨h.1, hq _ _ _ h.2⟩
  | fuel + 1, listed, a, w, h => ⟨fun h0 => hq _ _ _ (h.1 h0), fun i hi => wpOp_mono2 hq (fun a' w' h' => wpAny_mono' hq fuel _ a' w' h') (h.2 i hi)⟩

theorem pad_ready {l : List Oper} {c : Oper} (hf : floatOK l c = true) {listed : Array Bool} (hl : listed.size = l.length) {i : Nat} : i ∈ Region.ready .any (l ++ [c]).toArray (listed.push true) ↔ i ∈ Region.ready .any l.toArray listed := by
  rw [mem_ready, mem_ready]
  have get : ∀ {j : Nat} {b : Bool}, j < l.length → (listed.push true).getD j b = listed.getD j b := fun {j b} hj => by
    simp only [Array.getD_eq_getD_getElem?]
    rw [Array.getElem?_push_lt (by omega), Array.getElem?_eq_getElem (by omega)]
  constructor
  · rintro ⟨h1, o, h2, h3⟩
    have hi : i < l.length := by
      refine Classical.byContradiction fun hge => ?_
      simp only [Array.getD_eq_getD_getElem?] at h1
      by_cases e : i = l.length
      · subst e; rw [← hl] at h1; simp at h1
      · rw [Array.getElem?_eq_none (by simp; omega)] at h1; cases h1
    have ho : l[i]? = some o := by
      have : (l ++ [c])[i]? = some o := by simpa using h2
      rwa [List.getElem?_append_left hi] at this
    refine ⟨by rw [← get hi]; exact h1, o, by simpa using ho, fun e he hb => ?_⟩
    rw [← get ((floatOK_get hf ho).2.1 e (by simpa using he) hb)]
    exact h3 e he hb
  · rintro ⟨h1, o, h2, h3⟩
    have ho : l[i]? = some o := by simpa using h2
    have hi : i < l.length := (List.getElem?_eq_some_iff.1 ho).1
    refine ⟨by rw [get hi]; exact h1, o, by simpa [List.getElem?_append_left hi] using ho, fun e he hb => ?_⟩
    rw [get ((floatOK_get hf ho).2.1 e (by simpa using he) hb)]
    exact h3 e he hb

theorem pad_wpOp {l : List Oper} {c : Oper} (hf : floatOK l c = true) {Q' : Exit → Act → World → Prop} {i : Nat} (hi : i < l.length) {K : Act → World → Prop} {a : Act} {w : World} (h : wpOp P l.toArray Q' i K a w) : wpOp P (l ++ [c]).toArray Q' i K a w := by
  obtain ⟨o, ho⟩ : ∃ o, l[i]? = some o := ⟨l[i], List.getElem?_eq_getElem hi⟩
  have h1 : l.toArray[i]? = some o := by simpa using ho
  have h2 : (l ++ [c]).toArray[i]? = some o := by simpa [List.getElem?_append_left hi] using ho
  have hw : Region.wanted o (yielded (l ++ [c]).toArray a.tmps) = Region.wanted o (yielded l.toArray a.tmps) := by
    unfold Region.wanted
    cases hg : o.guard with
    | none => rfl
    | some gb =>
      obtain ⟨g, b⟩ := gb
      have hgl := (floatOK_get hf ho).2.2.1 g b hg
      have : yielded (l ++ [c]).toArray a.tmps g = yielded l.toArray a.tmps g := by
        unfold yielded
        simp [List.getElem?_append_left hgl]
      simp only [this]
  unfold wpOp at *
  simp only [h1, h2, hw] at *
  exact h

theorem pad_wpAny {l : List Oper} {c : Oper} (hf : floatOK l c = true) {Q' : Exit → Act → World → Prop} : ∀ (fuel : Nat) (listed : Array Bool) (a : Act) (w : World), listed.size = l.length → wpAny P .any l.toArray Q' fuel listed a w → wpAny P .any (l ++ [c]).toArray Q' fuel (listed.push true) a w
  | 0, listed, a, w, hl, h => by
    refine ⟨?_, h.2⟩
    refine List.eq_nil_iff_forall_not_mem.2 fun i hi => ?_
    have := (pad_ready hf hl).1 hi
    rw [h.1] at this; cases this
  | fuel + 1, listed, a, w, hl, h => by
    refine ⟨fun h0 => h.1 (List.eq_nil_iff_forall_not_mem.2 fun i hi => ?_), fun i hi => ?_⟩
    · have := (pad_ready hf hl).2 hi
      rw [h0] at this; cases this
    · have hi' := (pad_ready hf hl).1 hi
      have hil : i < l.length := by
        obtain ⟨_, o, ho, _⟩ := mem_ready.1 hi'
        have := (Array.getElem?_eq_some_iff.1 ho).1
        simpa using this
      refine pad_wpOp hf hil (wpOp_mono (fun a' w' h' => ?_) (h.2 i hi'))
      have := pad_wpAny hf fuel (listed.setIfInBounds i true) a' w' (by simpa using hl) h'
      rwa [show (listed.setIfInBounds i true).push true = (listed.push true).setIfInBounds i true from by
        apply Array.ext'
        simp only [Array.toList_push, Array.toList_setIfInBounds]
        rw [List.set_append_left _ _ (by simp; omega)]] at this

/-- A constant at the end of a region that draws its order is taken first. -/
theorem WP.float (hm : P.follows .mixedOrders = true) {id : Nat} {l : List Oper} {d : Nat} {v : Value} {t : TypeId} {pos : String} (hf : floatOK l { dst := some d, op := .move (.const v), type := t, pos := pos, after := #[], guard := none } = true) (hd : Nat.blt d N = true) {fr : Nat → Dat} {m : List Root}
    (h : WR P N K l (NoPan Q) ⟨fup fr d (ofV v), m⟩) : WP P N K (.region id (l ++ [({ dst := some d, op := .move (.const v), type := t, pos := pos, after := #[], guard := none } : Oper)]).toArray true) Q ⟨fr, m⟩ := by
  generalize hc : ({ dst := some d, op := .move (.const v), type := t, pos := pos, after := #[], guard := none } : Oper) = c at hf ⊢
  have hcd : c.dst = some d := by rw [← hc]
  have hco : c.op = .move (.const v) := by rw [← hc]
  have hca : c.after = #[] := by rw [← hc]
  have hcg : c.guard = none := by rw [← hc]
  intro ρ a w hrel
  have hrel' : Rel N K ρ ⟨fup fr d (ofV v), m⟩ (a.put (some d) v) w := by
    obtain ⟨g1, g2, g3, g4⟩ := hrel
    rw [Nat.blt_eq] at hd
    exact ⟨g1.put hd (ofV_ok v), by rw [put_defers]; exact g2, g3, g4⟩
  refine wp_region_any hm ?_
  have h1 := h ρ (a.put (some d) v) w hrel'
  have h2 := pad_wpAny hf _ _ _ _ (by simp) h1
  -- the post: no panic, and what the state is told by
  have h3 : wpAny P .any (l ++ [c]).toArray (fun e a' w' => (∀ x, e ≠ .panic x) ∧ Real N K ρ (⟨fr, m⟩ : St) w Q e a' w') l.length ((Array.replicate l.length false).push true) (a.put (some d) v) ({ w with drawn := w.drawn + 1 } : World) := by
    refine wpAny_mono' ?_ _ _ _ _ h2
    rintro e a' w' ⟨ρ', s', k1, k2, k3, k4⟩
    exact ⟨k3, ρ', s', k1, k2, k4⟩
  have hsz : (l ++ [c]).toArray.size = l.length + 1 := by simp
  have hrep : (Array.replicate (l.length + 1) false).setIfInBounds l.length true = (Array.replicate l.length false).push true := by
    apply Array.ext'
    simp only [Array.toList_setIfInBounds, Array.toList_replicate, Array.toList_push, List.replicate_succ']
    rw [List.set_append_right _ _ (by simp)]
    simp
  rw [hsz]
  have h4 : wpAny P .any (l ++ [c]).toArray (fun e a' w' => (∀ x, e ≠ .panic x) ∧ Real N K ρ (⟨fr, m⟩ : St) w Q e a' w') (l.length + 1) (Array.replicate (l.length + 1) false) a ({ w with drawn := w.drawn + 1 } : World) := by
    refine wpAny_first (i := l.length) (oi := c) (v := v) (by simp) ?_ (fun x a w q => absurd rfl (q.1 x)) l.length _ a _ ?_ ?_ ?_ ?_
    · intro j o cs b ho
      have ho' : (l ++ [c])[j]? = some o := by simpa using ho
      rw [List.getElem?_append] at ho'
      split at ho'
      · exact (floatOK_get hf ho').2.2.2 cs b
      · have : o = c := by
          have h5 := List.mem_of_getElem? ho'
          simpa using h5
        rw [this, hco]; simp
    · intro j oj hj hne _ _
      have ho' : (l ++ [c])[j]? = some oj := by simpa using hj
      rw [List.getElem?_append] at ho'
      split at ho'
      · exact (floatOK_get hf ho').1
      · rename_i hge
        exfalso
        have := (List.getElem?_eq_some_iff.1 ho').1
        simp at this
        omega
    · rw [mem_ready]
      refine ⟨by simp, c, by simp, fun e he => ?_⟩
      rw [hca] at he; simp at he
    · refine .inl ⟨by unfold Region.wanted; rw [hcg], fun w => ?_⟩
      simp [execOp, hco, Act.eval]
    · rw [hrep, hcd]
      exact h3
  refine wpAny_mono' ?_ _ _ _ _ h4
  intro e a' w' q
  exact q.2

theorem WP.floatT (hm : P.follows .mixedOrders = true) (n : Nat) {id : Nat} {l : List Oper} {d : Nat} {v : Value} {t : TypeId} {pos : String} (hl : l.drop n = [{ dst := some d, op := .move (.const v), type := t, pos := pos, after := #[], guard := none }]) (hf : floatOK (l.take n) { dst := some d, op := .move (.const v), type := t, pos := pos, after := #[], guard := none } = true) (hd : Nat.blt d N = true) {fr : Nat → Dat} {m : List Root}
    (h : WR P N K (l.take n) (NoPan Q) ⟨fup fr d (ofV v), m⟩) : WP P N K (.region id l.toArray true) Q ⟨fr, m⟩ := by
  have e : l = l.take n ++ [({ dst := some d, op := .move (.const v), type := t, pos := pos, after := #[], guard := none } : Oper)] := by rw [← hl, List.take_append_drop]
  rw [e]
  exact WP.float hm hf hd h

end
end Go.Proofs.Ytakpeibmaejmeaa.DM
