import Derived.Test.YthjnmlpibafbnaaD34
namespace Go.Proofs.Ythjnmlpibafbnaa.DM
open Go.RowKit
set_option linter.unusedVariables false
set_option linter.unusedSimpArgs false
section
variable {P : Program} {T : TyEnv} {N K : Nat} {Q : Exit → St → Prop} {fr : Nat → Dat} {m : List Root}
theorem WPL.opE {ops : Array Oper} {o : Oper} {rest : List Oper} (G : Dat → List Root → Prop) (hg : gd ops o fr = some true) (hd : dstOK N o.dst = true)
    (ho : ∀ (N : Nat) (ρ : Rho) (a : Act) (w : World), Frm m.length ρ N fr a.tmps → Rep ρ m w → ∃ v m' ρ' w' u, G v m' ∧ (execOp a.eval o).run P w = .ok (.value u) w' ∧ Holds m'.length ρ' v u ∧ Rep ρ' m' w' ∧ Tr ρ m w ρ' m' w')
    (h : ∀ v m', G v m' → WPL P N K ops Q rest ⟨putO fr o.dst v, m'⟩) : WPL P N K ops Q (o :: rest) ⟨fr, m⟩ := by
  intro ρ a w ⟨hf, hdf, hr, hK⟩
  refine wpList_step fun Kc hKc => ?_
  rw [if_pos (gd_wanted hg hf)]
  obtain ⟨v, m', ρ', w', u, hG, h1, h2, h3, h4⟩ := ho N ρ a w hf hr
  unfold Oper.wp
  rw [h1]
  refine hKc _ _ ?_
  have hrel : Rel N K ρ' ⟨putO fr o.dst v, m'⟩ (a.put o.dst u) w' := ⟨(hf.tr h4).putO hd h2, by rw [put_defers]; exact hdf, h3, Nat.le_trans hK h4.len⟩
  exact wpList_mono (fun e a w q => Real.tr (s := ⟨fr, m⟩) (s1 := ⟨putO fr o.dst v, m'⟩) (h4.toK hK) q) _ _ _ (h v m' hG ρ' (a.put o.dst u) w' hrel)
theorem WPL.mkMap {ops : Array Oper} {o : Oper} {rest : List Oper} {t : TypeId} (ho : o.op = .makeMap t none) (hg : gd ops o fr = some true) (hd : dstOK N o.dst = true)
    (h : ∀ b, WPL P N K ops Q rest ⟨putO fr o.dst (.mv b), m ++ [.mp b []]⟩) : WPL P N K ops Q (o :: rest) ⟨fr, m⟩ := by
  refine WPL.opE (fun v m' => ∃ b, v = .mv b ∧ m' = m ++ [.mp b []]) hg hd ?_ ?_
  · intro N ρ a w hf hr
    let ρ' := ext ρ m.length (fun _ => ⟨false, w.heap.size, 0, 0, none, 0⟩)
    let w' := w.alloc (.map #[] 0)
    have hρ : ∀ r, r < m.length → ρ' r = ρ r := fun r hr => ext_ne ρ _ (by omega)
    have hn : ρ' m.length = fun _ => ⟨false, w.heap.size, 0, 0, none, 0⟩ := ext_same ρ _ _
    have hb : ∀ k, k < w.heap.size → w'.heap[k]? = w.heap[k]? := fun k hk => heap_alloc_old w _ k hk
    have h1 : Rep ρ' m w' := (hr.move (by simp [w']) hb).rho hρ
    have at0 : ∀ {q : List Nat}, At (Root.mp w.heap.size []) q → q = [] := fun {q} ha => by
      rcases ha with ⟨h, _⟩ | ⟨d, e, n, s, f, h2, h3⟩
      · exact h
      · cases h2; cases q <;> simp [nav] at h3
    have hlt : ∀ {r : Nat} {R : Root} {q : List Nat}, m[r]? = some R → At R q → (ρ' r q).nil = false → (ρ' r q).b < w.heap.size := by
      intro r R q hr' ha hz
      have hr2 : r < m.length := (List.getElem?_eq_some_iff.1 hr').1
      rw [hρ r hr2] at hz ⊢
      exact hr.at_lt hr' ha hz
    refine ⟨.mv w.heap.size, m ++ [.mp w.heap.size []], ρ', w', .map (some w.heap.size), ⟨_, rfl, rfl⟩, ?_, .inr ⟨rfl, trivial, trivial, trivial⟩, ?_, ?_⟩
    · simp only [execOp, ho, Option.map_none]
      rfl
    · refine h1.push (fun d h => by cases h) (fun d q e n s f _ h2 h3 => ?_) (fun d q e n s f _ h2 h3 => ?_) (fun q r' R' q' ha hr' ha' _ _ hz => ?_) (fun q q' _ ha ha' hne _ => ?_) (fun q _ _ => by rw [hn]) (fun d h2 => ?_) (fun b l hh => ?_)
      · cases h2; cases q <;> simp [nav] at h3
      · cases h2; cases q <;> simp [nav] at h3
      · have := hlt hr' ha' hz
        rw [hn]; show w.heap.size ≠ _
        omega
      · exact absurd ((at0 ha.at).trans (at0 ha').symm) hne
      · cases h2; exact ⟨trivial, trivial⟩
      · cases hh
        rw [hn]
        exact ⟨rfl, rfl, #[], 0, heap_alloc_new w _, rfl⟩
    · refine ⟨rfl, rfl, Nat.le_refl _, rfl, by simp [w'], fun r hr => by rw [hρ r hr], by simp, fun k hk _ => hb k hk, fun r R q hr' hm ha => ?_, fun r R q hr' ha hz => ?_⟩
      · rcases snoc_get hr' with ⟨hr2, h2⟩ | ⟨rfl, rfl⟩
        · rw [hρ r hr2]; exact .inr ⟨r, R, q, h2, hm, ha, rfl⟩
        · rw [hn]; exact .inl (Nat.le_refl _)
      · rcases snoc_get hr' with ⟨hr2, h2⟩ | ⟨rfl, rfl⟩
        · rw [hρ r hr2] at hz ⊢; exact .inr ⟨r, R, q, h2, ha, hz, rfl⟩
        · rw [hn]; exact .inl (Nat.le_refl _)
  · rintro v m' ⟨b, rfl, rfl⟩
    exact h b
theorem le_mp {b : Nat} {l l' : List (Dat × Dat)} (h : l' = l) : (Root.mp b l).Le (.mp b l') := ⟨rfl, h⟩
variable {α : Type} [DecidableEq α]
structure KeyOK (P : Program) (T : TyEnv) (kt : TypeId) (κ : α → Dat) : Prop where
  ok : ∀ a, WF (κ a) ∧ Pl (κ a)
  sc : ∀ a, Sc 0 (κ a)
  eq : ∀ a b, eqD T 6 kt (κ a) (κ b) = some (decide (a = b))
  arr : ∃ n e, P.underlying kt = some (.array n e)
  chk : ∀ em a w, (Instr.checkKey em 10000 kt (enc noR (κ a))).run P w = .ok () w
  bits : ∀ a, Instr.sameBits 10000 (enc noR (κ a)) (enc noR (κ a)) = true
def fnd (a : α) (i : Nat) : List α → Option Nat
  | [] => none
  | x :: L => if a = x then some i else fnd a (i + 1) L
theorem fnd_none {a : α} : ∀ {i : Nat} {L : List α}, a ∉ L → fnd a i L = none
  | _, [], _ => rfl
  | i, x :: L, h => by
    simp only [fnd]
    have hn : ¬ a = x := fun e => h (by rw [e]; exact .head _)
    rw [if_neg hn]
    exact fnd_none fun h2 => h (.tail _ h2)
theorem fnd_some {a : α} : ∀ {i : Nat} {L : List α}, a ∈ L → ∃ j, fnd a i L = some (i + j) ∧ L[j]? = some a
  | i, x :: L, h => by
    simp only [fnd]
    by_cases e : a = x
    · subst e; exact ⟨0, by rw [if_pos rfl]; rfl, rfl⟩
    · rw [if_neg e]
      rcases List.mem_cons.1 h with h | h
      · exact absurd h e
      · obtain ⟨j, h1, h2⟩ := fnd_some (i := i + 1) h
        exact ⟨j + 1, by rw [h1]; congr 1; omega, h2⟩
def entS (κ : α → Dat) (L : List α) : List (Dat × Dat) := L.map fun a => (κ a, .b true)
theorem ask_run (hT : TOK P T) {kt : TypeId} {κ : α → Dat} (hk : KeyOK P T kt κ) (a : α) (w : World) : ∀ (L : List α) (es : List MapEntry) (i : Nat), es.map (fun e => (e.key, e.val)) = (entS κ L).map (fun p => (enc noR p.1, enc noR p.2)) →
    (Instr.findAsking kt (enc noR (κ a)) es i).run P w = .ok ((fnd a i L).map fun j => (j, .bool true)) w
  | [], es, i, h => by
    cases es with
    | nil => rfl
    | cons e es => simp [entS] at h
  | x :: L, es, i, h => by
    cases es with
    | nil => simp [entS] at h
    | cons e es =>
      simp only [entS, List.map_cons, List.cons.injEq, Prod.mk.injEq] at h
      obtain ⟨⟨h1, h2⟩, h3⟩ := h
      have he : (Op.equal kt (enc noR (κ a)) e.key).run P w = .ok (decide (a = x)) w := by
        rw [h1]; unfold Op.equal
        exact eqD_ok hT 6 10000 kt (κ a) (κ x) _ (by decide) (hk.eq a x) (hk.ok a) (hk.ok x) noR w
      unfold Instr.findAsking
      rw [Sem.run_bind, he]
      simp only [Result.andThen_ok, fnd]
      by_cases e1 : a = x
      · rw [if_pos (decide_eq_true e1), if_pos e1, h2]; rfl
      · rw [if_neg (by simp [e1]), if_neg e1]
        exact ask_run hT hk a w L es (i + 1) h3
theorem findKey_run (hT : TOK P T) {kt : TypeId} {κ : α → Dat} (hk : KeyOK P T kt κ) (a : α) (w : World) (L : List α) (es : List MapEntry) (h : es.map (fun e => (e.key, e.val)) = (entS κ L).map (fun p => (enc noR p.1, enc noR p.2))) :
    (Instr.findKey kt (enc noR (κ a)) es).run P w = .ok ((fnd a 0 L).map fun j => (j, .bool true)) w := by
  obtain ⟨n, e, hu⟩ := hk.arr
  unfold Instr.findKey
  rw [Sem.run_bind, run_underlying hu w]
  simp only [Result.andThen_ok]
  cases es with
  | nil =>
    cases L with
    | nil => rfl
    | cons x L => simp [entS] at h
  | cons x es =>
    have : Instr.findNow (.array n e) (enc noR (κ a)) (x :: es) 0 = none := by
      unfold Instr.findNow
      have : Instr.sameNow (.array n e) (enc noR (κ a)) x.key = none := by unfold Instr.sameNow; rfl
      rw [this]
    rw [this]
    exact ask_run hT hk a w L (x :: es) 0 h
theorem enc_key {ρ : Rho} {kt : TypeId} {κ : α → Dat} (hk : KeyOK P T kt κ) (a : α) : enc ρ (κ a) = enc noR (κ a) := enc_congr (n := 0) (fun _ h => absurd h (Nat.not_lt_zero _)) _ (hk.sc a)
theorem map_look (hT : TOK P T) {o : Oper} {t kt et : TypeId} {x y : Operand} {b r : Nat} {κ : α → Dat} {a : α} {L : List α} {i : TI} (ho : o.op = .lookup t x y false) (hu : P.underlying t = some (.map kt et)) (hk : KeyOK P T kt κ) (he : T et = some i) (hz : i.z = .b false)
    (hx : ev fr x = .mv b) (hy : ev fr y = κ a) (hne : κ a ≠ .un) (hR : m[r]? = some (.mp b (entS κ L))) : QOK P o fr m (.b (decide (a ∈ L))) m :=
  .of_run fun N ρ ac w hf hr => by
    obtain ⟨h0, _, _⟩ := ev_eq hf (x := x) hx (by simp)
    obtain ⟨h1, _, _⟩ := ev_eq hf (x := y) hy hne
    obtain ⟨_, _, es, clock, hb, hes⟩ := hr.mp r b _ hR
    rw [enc_key hk] at h1
    have hf := findKey_run hT hk a w L es.toList hes
    have hz' := zeroValue_run (hT et i he) w
    rw [hz] at hz'
    refine ⟨?_, trivial, trivial, trivial⟩
    have hobj : (getObj b).run P w = .ok (.map es clock) w := by simp [getObj, Sem.run, hb]
    have : (Instr.lookup t (.map (some b)) (enc noR (κ a)) false).run P w = .ok (.bool (decide (a ∈ L))) w := by
      unfold Instr.lookup
      simp only [Sem.run_bind, run_underlying hu, Result.andThen_ok, hobj, Sem.run_pure, hk.chk, hf]
      by_cases hm : a ∈ L
      · obtain ⟨j, h2, _⟩ := fnd_some (i := 0) hm
        rw [h2, decide_eq_true hm]; rfl
      · rw [fnd_none hm, decide_eq_false hm]
        simp only [Option.map_none, Sem.run_bind, hz', Result.andThen_ok]
        rfl
    simp only [execOp, ho, h0, h1, enc, leaf]
    simp [this]
def putS (L : List α) (a : α) : List α := if a ∈ L then L else L ++ [a]
theorem map_put (hT : TOK P T) {o : Oper} {t kt et : TypeId} {x y z : Operand} {b r : Nat} {κ : α → Dat} {a : α} {L : List α} (ho : o.op = .mapUpdate t x y z ∨ o.op = .insert t x y z) (hu : P.underlying t = some (.map kt et)) (hk : KeyOK P T kt κ)
    (hx : ev fr x = .mv b) (hy : ev fr y = κ a) (hne : κ a ≠ .un) (hz : ev fr z = .b true) (hR : m[r]? = some (.mp b (entS κ L))) : OpOK P o fr m .un (m.set r (.mp b (entS κ (putS L a)))) := by
  intro N ρ ac w hf hr
  obtain ⟨h0, _, _⟩ := ev_eq hf (x := x) hx (by simp)
  obtain ⟨h1, _, _⟩ := ev_eq hf (x := y) hy hne
  obtain ⟨h2, _, _⟩ := ev_eq hf (x := z) hz (by simp)
  obtain ⟨hvb, hvn, es, clock, hb, hes⟩ := hr.mp r b _ hR
  rw [enc_key hk] at h1
  have hes : es.toList.map (fun e => (e.key, e.val)) = (entS κ L).map (fun p => (enc noR p.1, enc noR p.2)) := hes
  have hfk := findKey_run hT hk a w L es.toList hes
  have hobj : (getObj b).run P w = .ok (.map es clock) w := by simp [getObj, Sem.run, hb]
  have hset : ∀ o', (∃ es' c', o' = Obj.map es' c') → (setObj b o').run P w = .ok () { w with heap := w.heap.setIfInBounds b o' } := fun o' ⟨es', c', e⟩ => by subst e; simp only [setObj, Sem.run, hb]
  have hblt : b < w.heap.size := (Array.getElem?_eq_some_iff.1 hb).1
  -- what the map is then
  have hrun : ∃ es' c', (Instr.mapUpdate t (.map (some b)) (enc noR (κ a)) (.bool true)).run P w = .ok () { w with heap := w.heap.setIfInBounds b (.map es' c') } ∧ es'.toList.map (fun e => (e.key, e.val)) = (entS κ (putS L a)).map (fun p => (enc noR p.1, enc noR p.2)) := by
    unfold Instr.mapUpdate putS
    simp only [Sem.run_bind, run_underlying hu, Result.andThen_ok, hobj, hk.chk, hfk]
    by_cases hm : a ∈ L
    · obtain ⟨j, g1, g2⟩ := fnd_some (i := 0) hm
      rw [Nat.zero_add] at g1
      have hj : es.toList[j]?.map (fun e => (e.key, e.val)) = some (enc noR (κ a), .bool true) := by
        rw [← List.getElem?_map, hes]
        simp [entS, g2, enc, leaf]
      rw [g1, if_pos hm]
      simp only [Option.map_some]
      have hjk : ∃ e0, es[j]? = some e0 ∧ e0.key = enc noR (κ a) ∧ e0.val = .bool true := by
        rw [Array.getElem?_toList] at hj
        cases he : es[j]? with
        | none => rw [he] at hj; cases hj
        | some e0 => rw [he] at hj; simp at hj; exact ⟨e0, rfl, hj.1, hj.2⟩
      obtain ⟨e0, k1, k2, k3⟩ := hjk
      have hstay : (Instr.keyThatStays (((es[j]?).map (·.key)).getD (enc noR (κ a))) (enc noR (κ a))).run P w = .ok (enc noR (κ a)) w := by
        unfold Instr.keyThatStays
        rw [k1]
        simp only [Option.map_some, Option.getD_some, k2, hk.bits a, if_true]
        rfl
      simp only [Sem.run_bind, hstay, Result.andThen_ok]
      refine ⟨es.modify j fun e => { e with key := enc noR (κ a), val := .bool true }, clock, hset _ ⟨_, _, rfl⟩, ?_⟩
      rw [← hes]
      apply List.ext_getElem?
      intro i
      simp only [List.getElem?_map, Array.getElem?_toList, Array.getElem?_modify]
      by_cases e : j = i
      · subst e; rw [if_pos rfl, k1]; simp [k2, k3]
      · rw [if_neg e]
    · rw [fnd_none hm, if_neg hm]
      simp only [Option.map_none]
      refine ⟨es.push { key := enc noR (κ a), val := .bool true, born := clock }, clock + 1, hset _ ⟨_, _, rfl⟩, ?_⟩
      rw [Array.toList_push, List.map_append, hes]
      simp [entS, enc, leaf]
  obtain ⟨es', c', hrun, hes'⟩ := hrun
  let w' : World := { w with heap := w.heap.setIfInBounds b (.map es' c') }
  have hk' : ∀ k, k ≠ (ρ r []).b → w'.heap[k]? = w.heap[k]? := fun k hk => by
    simp only [w']; rw [Array.getElem?_setIfInBounds_ne (by rw [← hvb]; exact Ne.symm hk)]
  have nv : ∀ {q : List Nat} {e n s : Nat} {f : Nat → Dat}, nav (.b false) q ≠ some (.ow e n s f) := fun {q e n s f} h => by cases q <;> simp [nav] at h
  have g1 : Rep ρ (m.set r (.mp b (entS κ (putS L a)))) w' := by
    refine hr.replace hR rfl rfl (by simp [w']) hk' (fun d h => by cases h) (fun e n s f h => by cases h) (fun d d' q e n s f _ h _ hx => ?_) (fun d e n s f h => by cases h) (fun d h => ?_) (fun b' l hh => ?_)
    · cases h; exact absurd hx nv
    · cases h; exact ⟨trivial, trivial⟩
    · cases hh
      exact ⟨hvb, hvn, es', c', by simp only [w']; rw [Array.getElem?_setIfInBounds_self]; simp [hblt], hes'⟩
  refine ⟨ρ, w', .skip, ?_, .inr ⟨rfl, rfl⟩, g1, rfl, rfl, Nat.le_refl _, rfl, by simp [w'], fun _ _ => rfl, by simp, fun k hk hno => hk' k fun e => hno r _ [] hR rfl (.inl ⟨rfl, rfl⟩) e.symm, fun r' X z h3 h4 h5 => .inr ?_, fun r' X z h3 h4 h5 => .inr ?_⟩
  · rcases ho with ho | ho <;> simp only [execOp, ho, h0, h1, h2, enc, leaf] <;> simp [hrun, w']
  · rcases set_get h3 with ⟨rfl, rfl, _⟩ | ⟨_, h6⟩
    · have hz : z = [] := by
        rcases h5 with h5 | ⟨d, e, n, s, f, h6, h7, _⟩
        · exact h5.1
        · cases h6; exact absurd h7 nv
      subst hz
      exact ⟨_, _, [], hR, rfl, .inl ⟨rfl, rfl⟩, rfl⟩
    · exact ⟨r', X, z, h6, h4, h5, rfl⟩
  · rcases set_get h3 with ⟨rfl, rfl, _⟩ | ⟨_, h6⟩
    · have hz : z = [] := by
        rcases h4 with h4 | ⟨d, e, n, s, f, h6, h7⟩
        · exact h4.1
        · cases h6; exact absurd h7 nv
      subst hz
      exact ⟨_, _, [], hR, .inl ⟨rfl, rfl⟩, h5, rfl⟩
    · exact ⟨r', X, z, h6, h4, h5, rfl⟩
end
end Go.Proofs.Ythjnmlpibafbnaa.DM
