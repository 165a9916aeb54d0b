/- Roots, the relation between a memory of roots and the model's world, and steps from one to the next. -/
import Derived.Test.YtakpeibmaejmeaaD0
namespace Go.Proofs.Ytakpeibmaejmeaa.DM
open Go.RowKit

inductive Root where
  | dead
  | var (d : Dat)
  | row (e : TypeId) (n s : Nat) (f : Nat → Dat)
  | ro (n s : Nat) (f : Nat → Dat)

def Root.con : Root → Option Dat
  | .dead => none
  | .var d => some d
  | .row e n s f => some (.ow e n s f)
  | .ro n s f => some (.ow 0 n s f)

/-- What lies in the root's own block. -/
def Root.flat : Root → Option Dat
  | .dead => none
  | .var d => some d
  | .row _ n s f => some (.ar n s f)
  | .ro n s f => some (.ar n s f)

def Root.mine : Root → Bool
  | .var _ => true
  | .row _ _ _ _ => true
  | _ => false

/-- A place of a root that has a block of its own. -/
def At (R : Root) (q : List Nat) : Prop := (q = [] ∧ R.con.isSome = true) ∨ ∃ d e n s f, R.con = some d ∧ nav d q = some (.ow e n s f)

/-- .. with a block that is the call's own. -/
def AtO (R : Root) (q : List Nat) : Prop := (q = [] ∧ R.con.isSome = true) ∨ ∃ d e n s f, R.con = some d ∧ nav d q = some (.ow e n s f) ∧ e ≠ 0

theorem AtO.at {R : Root} {q : List Nat} (h : AtO R q) : At R q := by
  rcases h with h | ⟨d, e, n, s, f, h1, h2, _⟩
  · exact .inl h
  · exact .inr ⟨d, e, n, s, f, h1, h2⟩

def VarOK (ρ : Rho) (w : World) (v : RV) (A : List Nat → RV) (d : Dat) : Prop :=
  ∃ blk t, w.heap[v.b]? = some (.cells blk t (0, 0)) ∧ v.o = 0 ∧ v.nil = false ∧ blk.toList = cells ρ A d

def RowOK (ρ : Rho) (w : World) (v : RV) (A : List Nat → RV) (e : TypeId) (n s : Nat) (f : Nat → Dat) : Prop :=
  ∃ blk, w.heap[v.b]? = some (.cells blk e (0, 0)) ∧ v.o = 0 ∧ v.nil = false ∧ n ≤ v.cap ∧ v.cap ≤ maxLen ∧ blk.size = v.cap * s ∧ blk.toList.take (n * s) = cells ρ A (.ar n s f)

def RoOK (ρ : Rho) (w : World) (v : RV) (A : List Nat → RV) (n s : Nat) (f : Nat → Dat) : Prop :=
  (v.nil = true ∧ n = 0) ∨ (v.nil = false ∧ n ≤ v.cap ∧ n ≤ maxLen ∧ v.b < w.heap.size ∧ ∀ j u, (cells ρ A (.ar n s f))[j]? = some u → w.cell? ⟨v.b, v.o + j, none⟩ = some u)

theorem VarOK.keep {ρ : Rho} {w w' : World} {v : RV} {A : List Nat → RV} {d : Dat} (h : VarOK ρ w v A d) (hb : w'.heap[v.b]? = w.heap[v.b]?) : VarOK ρ w' v A d := by
  obtain ⟨blk, t, h1, h2⟩ := h
  exact ⟨blk, t, hb.trans h1, h2⟩

theorem RowOK.keep {ρ : Rho} {w w' : World} {v : RV} {A : List Nat → RV} {e : TypeId} {n s : Nat} {f : Nat → Dat} (h : RowOK ρ w v A e n s f) (hb : w'.heap[v.b]? = w.heap[v.b]?) : RowOK ρ w' v A e n s f := by
  obtain ⟨blk, h1, h2⟩ := h
  exact ⟨blk, hb.trans h1, h2⟩

theorem RoOK.keep {ρ : Rho} {w w' : World} {v : RV} {A : List Nat → RV} {n s : Nat} {f : Nat → Dat} (h : RoOK ρ w v A n s f) (hz : w.heap.size ≤ w'.heap.size) (hb : v.nil = false → w'.heap[v.b]? = w.heap[v.b]?) : RoOK ρ w' v A n s f := by
  rcases h with h | ⟨h1, h2, h3, h4, h5⟩
  · exact .inl h
  · exact .inr ⟨h1, h2, h3, by omega, fun j u hu => (World.cell?_of_block (a := ⟨v.b, v.o + j, none⟩) (hb h1)).trans (h5 j u hu)⟩

structure Rep (ρ : Rho) (m : List Root) (w : World) : Prop where
  var : ∀ (r : Nat) d, m[r]? = some (.var d) → VarOK ρ w (ρ r []) (ρ r) d
  row : ∀ (r : Nat) (R : Root) d q e n s f, m[r]? = some R → R.mine = true → R.con = some d → nav d q = some (.ow e n s f) → (q = [] ∨ e ≠ 0) → RowOK ρ w (ρ r q) (fun z => ρ r (q ++ z)) e n s f
  ro : ∀ (r : Nat) (R : Root) d q e n s f, m[r]? = some R → (R.mine = false ∨ (q ≠ [] ∧ e = 0)) → R.con = some d → nav d q = some (.ow e n s f) → RoOK ρ w (ρ r q) (fun z => ρ r (q ++ z)) n s f
  sep : ∀ (r : Nat) (R : Root) q (r' : Nat) (R' : Root) q', m[r]? = some R → m[r']? = some R' → R.mine = true → AtO R q → At R' q' → (ρ r' q').nil = false → (r = r' → q ≠ q') → (ρ r q).b ≠ (ρ r' q').b
  wf : ∀ (r : Nat) (R : Root) d, m[r]? = some R → R.con = some d → WF d ∧ Sc m.length d

/-- From one state to a later one: what was there and is nobody's own has not turned. -/
structure Tr (ρ : Rho) (m : List Root) (w : World) (ρ' : Rho) (m' : List Root) (w' : World) : Prop where
  os : w'.os = w.os
  tape : w'.tape = w.tape
  output : w'.output = w.output
  size : w.heap.size ≤ w'.heap.size
  agree : ∀ r, r < m.length → ρ' r [] = ρ r []
  len : m.length ≤ m'.length
  keep : ∀ k, k < w.heap.size → (∀ (r : Nat) (R : Root) q, m[r]? = some R → R.mine = true → AtO R q → (ρ r q).b ≠ k) → w'.heap[k]? = w.heap[k]?
  foot : ∀ (r : Nat) (R : Root) q, m'[r]? = some R → R.mine = true → AtO R q → w.heap.size ≤ (ρ' r q).b ∨ ∃ (r0 : Nat) (R0 : Root) (q0 : List Nat), m[r0]? = some R0 ∧ R0.mine = true ∧ AtO R0 q0 ∧ (ρ r0 q0).b = (ρ' r q).b
  foot2 : ∀ (r : Nat) (R : Root) q, m'[r]? = some R → At R q → (ρ' r q).nil = false → w.heap.size ≤ (ρ' r q).b ∨ ∃ (r0 : Nat) (R0 : Root) (q0 : List Nat), m[r0]? = some R0 ∧ At R0 q0 ∧ (ρ r0 q0).nil = false ∧ (ρ r0 q0).b = (ρ' r q).b

theorem Tr.refl (ρ : Rho) (m : List Root) (w : World) : Tr ρ m w ρ m w :=
  ⟨rfl, rfl, rfl, Nat.le_refl _, fun _ _ => rfl, Nat.le_refl _, fun _ _ _ => rfl, fun r R q h1 h2 h3 => .inr ⟨r, R, q, h1, h2, h3, rfl⟩, fun r R q h1 h2 h3 => .inr ⟨r, R, q, h1, h2, h3, rfl⟩⟩

theorem Tr.trans {ρ ρ1 ρ2 : Rho} {m m1 m2 : List Root} {w w1 w2 : World} (h : Tr ρ m w ρ1 m1 w1) (k : Tr ρ1 m1 w1 ρ2 m2 w2) : Tr ρ m w ρ2 m2 w2 where
  os := k.os.trans h.os
  tape := k.tape.trans h.tape
  output := k.output.trans h.output
  size := Nat.le_trans h.size k.size
  agree := fun r hr => (k.agree r (Nat.lt_of_lt_of_le hr h.len)).trans (h.agree r hr)
  len := Nat.le_trans h.len k.len
  keep := fun b hb hn => by
    rw [k.keep b (Nat.lt_of_lt_of_le hb h.size), h.keep b hb hn]
    intro r R q h1 h2 h3 he
    rcases h.foot r R q h1 h2 h3 with hx | ⟨r0, R0, q0, g1, g2, g3, g4⟩
    · omega
    · exact hn r0 R0 q0 g1 g2 g3 (g4.trans he)
  foot := fun r R q h1 h2 h3 => by
    rcases k.foot r R q h1 h2 h3 with hx | ⟨r0, R0, q0, g1, g2, g3, g4⟩
    · exact .inl (Nat.le_trans h.size hx)
    · rcases h.foot r0 R0 q0 g1 g2 g3 with hx | ⟨r1, R1, q1, f1, f2, f3, f4⟩
      · exact .inl (by omega)
      · exact .inr ⟨r1, R1, q1, f1, f2, f3, f4.trans g4⟩
  foot2 := fun r R q h1 h2 h3 => by
    rcases k.foot2 r R q h1 h2 h3 with hx | ⟨r0, R0, q0, g1, g2, g3, g4⟩
    · exact .inl (Nat.le_trans h.size hx)
    · rcases h.foot2 r0 R0 q0 g1 g2 g3 with hx | ⟨r1, R1, q1, f1, f2, f3, f4⟩
      · exact .inl (by omega)
      · exact .inr ⟨r1, R1, q1, f1, f2, f3, f4.trans g4⟩

/-- The same from a function's beginning on: the first K roots keep their places, the others may have been named anew. -/
structure TrK (K : Nat) (ρ : Rho) (m : List Root) (w : World) (ρ' : Rho) (m' : List Root) (w' : World) : Prop where
  os : w'.os = w.os
  tape : w'.tape = w.tape
  output : w'.output = w.output
  size : w.heap.size ≤ w'.heap.size
  agree : ∀ r, r < K → ρ' r [] = ρ r []
  keep : ∀ k, k < w.heap.size → (∀ (r : Nat) (R : Root) q, m[r]? = some R → R.mine = true → AtO R q → (ρ r q).b ≠ k) → w'.heap[k]? = w.heap[k]?
  foot : ∀ (r : Nat) (R : Root) q, m'[r]? = some R → R.mine = true → AtO R q → w.heap.size ≤ (ρ' r q).b ∨ ∃ (r0 : Nat) (R0 : Root) (q0 : List Nat), m[r0]? = some R0 ∧ R0.mine = true ∧ AtO R0 q0 ∧ (ρ r0 q0).b = (ρ' r q).b
  foot2 : ∀ (r : Nat) (R : Root) q, m'[r]? = some R → At R q → (ρ' r q).nil = false → w.heap.size ≤ (ρ' r q).b ∨ ∃ (r0 : Nat) (R0 : Root) (q0 : List Nat), m[r0]? = some R0 ∧ At R0 q0 ∧ (ρ r0 q0).nil = false ∧ (ρ r0 q0).b = (ρ' r q).b

theorem TrK.refl (K : Nat) (ρ : Rho) (m : List Root) (w : World) : TrK K ρ m w ρ m w :=
  ⟨rfl, rfl, rfl, Nat.le_refl _, fun _ _ => rfl, fun _ _ _ => rfl, fun r R q h1 h2 h3 => .inr ⟨r, R, q, h1, h2, h3, rfl⟩, fun r R q h1 h2 h3 => .inr ⟨r, R, q, h1, h2, h3, rfl⟩⟩

theorem Tr.toK {K : Nat} {ρ ρ' : Rho} {m m' : List Root} {w w' : World} (h : Tr ρ m w ρ' m' w') (hK : K ≤ m.length) : TrK K ρ m w ρ' m' w' :=
  ⟨h.os, h.tape, h.output, h.size, fun r hr => h.agree r (Nat.lt_of_lt_of_le hr hK), h.keep, h.foot, h.foot2⟩

theorem TrK.full {ρ ρ' : Rho} {m m' : List Root} {w w' : World} (h : TrK m.length ρ m w ρ' m' w') (hK : m.length ≤ m'.length) : Tr ρ m w ρ' m' w' :=
  ⟨h.os, h.tape, h.output, h.size, h.agree, hK, h.keep, h.foot, h.foot2⟩

theorem TrK.trans {K : Nat} {ρ ρ1 ρ2 : Rho} {m m1 m2 : List Root} {w w1 w2 : World} (h : TrK K ρ m w ρ1 m1 w1) (k : TrK K ρ1 m1 w1 ρ2 m2 w2) : TrK K ρ m w ρ2 m2 w2 where
  os := k.os.trans h.os
  tape := k.tape.trans h.tape
  output := k.output.trans h.output
  size := Nat.le_trans h.size k.size
  agree := fun r hr => (k.agree r hr).trans (h.agree r hr)
  keep := fun b hb hn => by
    rw [k.keep b (Nat.lt_of_lt_of_le hb h.size), h.keep b hb hn]
    intro r R q h1 h2 h3 he
    rcases h.foot r R q h1 h2 h3 with hx | ⟨r0, R0, q0, g1, g2, g3, g4⟩
    · omega
    · exact hn r0 R0 q0 g1 g2 g3 (g4.trans he)
  foot := fun r R q h1 h2 h3 => by
    rcases k.foot r R q h1 h2 h3 with hx | ⟨r0, R0, q0, g1, g2, g3, g4⟩
    · exact .inl (Nat.le_trans h.size hx)
    · rcases h.foot r0 R0 q0 g1 g2 g3 with hx | ⟨r1, R1, q1, f1, f2, f3, f4⟩
      · exact .inl (by omega)
      · exact .inr ⟨r1, R1, q1, f1, f2, f3, f4.trans g4⟩
  foot2 := fun r R q h1 h2 h3 => by
    rcases k.foot2 r R q h1 h2 h3 with hx | ⟨r0, R0, q0, g1, g2, g3, g4⟩
    · exact .inl (Nat.le_trans h.size hx)
    · rcases h.foot2 r0 R0 q0 g1 g2 g3 with hx | ⟨r1, R1, q1, f1, f2, f3, f4⟩
      · exact .inl (by omega)
      · exact .inr ⟨r1, R1, q1, f1, f2, f3, f4.trans g4⟩

/-- Where no root is the call's own, all that was there is as it was. -/
theorem Tr.below {ρ ρ' : Rho} {m m' : List Root} {w w' : World} (h : Tr ρ m w ρ' m' w') (hm : ∀ (r : Nat) (R : Root), m[r]? = some R → R.mine = false) : Below w.heap.size w w' :=
  ⟨h.os, h.tape, h.output, h.size, fun k hk => h.keep k hk fun r R q h1 h2 _ => by rw [hm r R h1] at h2; cases h2⟩

/-- .. and back. -/
theorem Tr.of_below {ρ : Rho} {m : List Root} {w w' : World} (h : Below w.heap.size w w') : Tr ρ m w ρ m w' :=
  ⟨h.os, h.tape, h.output, h.size, fun _ _ => rfl, Nat.le_refl _, fun k hk _ => h.block k hk, fun r R q h1 h2 h3 => .inr ⟨r, R, q, h1, h2, h3, rfl⟩, fun r R q h1 h2 h3 => .inr ⟨r, R, q, h1, h2, h3, rfl⟩⟩

theorem VarOK.lt {ρ : Rho} {w : World} {v : RV} {A : List Nat → RV} {d : Dat} (h : VarOK ρ w v A d) : v.b < w.heap.size := by
  obtain ⟨blk, t, h1, _⟩ := h
  exact (Array.getElem?_eq_some_iff.1 h1).1
theorem RowOK.lt {ρ : Rho} {w : World} {v : RV} {A : List Nat → RV} {e : TypeId} {n s : Nat} {f : Nat → Dat} (h : RowOK ρ w v A e n s f) : v.b < w.heap.size := by
  obtain ⟨blk, h1, _⟩ := h
  exact (Array.getElem?_eq_some_iff.1 h1).1

/-- The block of a place is there. -/
theorem Rep.at_lt {ρ : Rho} {m : List Root} {w : World} (h : Rep ρ m w) {r : Nat} {R : Root} {q : List Nat} (hr : m[r]? = some R) (ha : At R q) (hn : (ρ r q).nil = false) : (ρ r q).b < w.heap.size := by
  have main : ∀ d e n s f, R.con = some d → nav d q = some (.ow e n s f) → (ρ r q).b < w.heap.size := by
    intro d e n s f hd hq
    have rd : (R.mine = false ∨ (q ≠ [] ∧ e = 0)) → (ρ r q).b < w.heap.size := by
      intro hc
      rcases h.ro r R d q e n s f hr hc hd hq with ⟨hx, _⟩ | ⟨_, _, _, hb, _⟩
      · rw [hn] at hx; cases hx
      · exact hb
    cases hm : R.mine with
    | true =>
      by_cases e1 : q = []
      · exact (h.row r R d q e n s f hr hm hd hq (.inl e1)).lt
      · by_cases e2 : e = 0
        · exact rd (.inr ⟨e1, e2⟩)
        · exact (h.row r R d q e n s f hr hm hd hq (.inr e2)).lt
    | false => exact rd (.inl hm)
  rcases ha with ⟨rfl, hs⟩ | ⟨d, e, n, s, f, hd, hq⟩
  · cases R with
    | dead => cases hs
    | var d => exact (h.var r d hr).lt
    | row e n s f => exact main _ e n s f rfl rfl
    | ro n s f => exact main _ 0 n s f rfl rfl
  · exact main d e n s f hd hq

theorem Rep.mine_nil {ρ : Rho} {m : List Root} {w : World} (h : Rep ρ m w) {r : Nat} {R : Root} {q : List Nat} (hr : m[r]? = some R) (hm : R.mine = true) (ha : AtO R q) : (ρ r q).nil = false := by
  have main : ∀ d e n s f, R.con = some d → nav d q = some (.ow e n s f) → (q = [] ∨ e ≠ 0) → (ρ r q).nil = false := by
    intro d e n s f hd hq hc
    obtain ⟨_, _, _, h3, _⟩ := h.row r R d q e n s f hr hm hd hq hc
    exact h3
  rcases ha with ⟨rfl, hs⟩ | ⟨d, e, n, s, f, hd, hq, he⟩
  · cases R with
    | dead => cases hs
    | var d => obtain ⟨_, _, _, _, h3, _⟩ := h.var r d hr; exact h3
    | row e n s f => exact main _ e n s f rfl rfl (.inl rfl)
    | ro n s f => cases hm
  · exact main d e n s f hd hq (.inr he)

/-- A world in which no place's block has turned. -/
theorem Rep.move {ρ : Rho} {m : List Root} {w w' : World} (h : Rep ρ m w) (hz : w.heap.size ≤ w'.heap.size) (hb : ∀ k, k < w.heap.size → w'.heap[k]? = w.heap[k]?) : Rep ρ m w' where
  var := fun r d hr => (h.var r d hr).keep (hb _ (h.var r d hr).lt)
  row := fun r R d q e n s f h1 h2 h3 h4 h5 => (h.row r R d q e n s f h1 h2 h3 h4 h5).keep (hb _ (h.row r R d q e n s f h1 h2 h3 h4 h5).lt)
  ro := fun r R d q e n s f h1 h2 h3 h4 => (h.ro r R d q e n s f h1 h2 h3 h4).keep hz fun hn => hb _ (h.at_lt h1 (.inr ⟨d, e, n, s, f, h3, h4⟩) hn)
  sep := h.sep
  wf := h.wf

theorem Rep.below {ρ : Rho} {m : List Root} {w w' : World} (h : Rep ρ m w) (hb : Below w.heap.size w w') : Rep ρ m w' := h.move hb.size hb.block

/-! ### Frames -/
def Holds (n : Nat) (ρ : Rho) (d : Dat) (v : Value) : Prop := d = .un ∨ (v = enc ρ d ∧ Sc n d ∧ Ok d)

structure Frm (n : Nat) (ρ : Rho) (N : Nat) (fr : Nat → Dat) (tmps : Array Value) : Prop where
  size : tmps.size = N
  slot : ∀ t, Holds n ρ (fr t) (tmps.getD t undef)

theorem Sc.mono {n n' : Nat} (hn : n ≤ n') : ∀ {d : Dat}, Sc n d → Sc n' d := by
  intro d
  induction d with
  | p r q o => intro h; exact Nat.lt_of_lt_of_le h hn
  | sl r a b c => intro h; exact Nat.lt_of_lt_of_le h hn
  | ar k s f ih => intro h i hi; exact ih i (h i hi)
  | st k f ih => intro h i hi; exact ih i (h i hi)
  | ow e k s f ih => intro h i hi; exact ih i (h i hi)
  | tup k f ih => intro h i hi; exact ih i (h i hi)
  | fn g k f ih => intro h i hi; exact ih i (h i hi)
  | _ => intro h; trivial

theorem Holds.tr {ρ ρ' : Rho} {m m' : List Root} {w w' : World} (h : Tr ρ m w ρ' m' w') {d : Dat} {v : Value} (hh : Holds m.length ρ d v) : Holds m'.length ρ' d v := by
  rcases hh with hh | ⟨h1, h2, h3⟩
  · exact .inl hh
  · exact .inr ⟨by rw [h1, enc_congr h.agree d h2], h2.mono h.len, h3⟩

theorem Frm.tr {ρ ρ' : Rho} {m m' : List Root} {w w' : World} (h : Tr ρ m w ρ' m' w') {N : Nat} {fr : Nat → Dat} {tmps : Array Value} (hf : Frm m.length ρ N fr tmps) : Frm m'.length ρ' N fr tmps :=
  ⟨hf.size, fun t => (hf.slot t).tr h⟩

theorem Frm.put {n : Nat} {ρ : Rho} {N : Nat} {fr : Nat → Dat} {a : Act} (hf : Frm n ρ N fr a.tmps) {t : Nat} (ht : t < N) {d : Dat} {v : Value} (hv : Holds n ρ d v) : Frm n ρ N (fup fr t d) (a.put (some t) v).tmps := by
  refine ⟨by simp [Act.put, hf.size], fun u => ?_⟩
  by_cases e : u = t
  · subst e
    rw [fup_same]
    have : (a.put (some u) v).tmps.getD u undef = v := by
      simp only [Act.put, Array.getD_eq_getD_getElem?]
      rw [Array.getElem?_setIfInBounds_self_of_lt (by rw [hf.size]; exact ht)]
      rfl
    rw [this]; exact hv
  · rw [fup_ne _ _ e]
    have : (a.put (some t) v).tmps.getD u undef = a.tmps.getD u undef := by
      simp only [Act.put, Array.getD_eq_getD_getElem?]
      rw [Array.getElem?_setIfInBounds_ne (Ne.symm e)]
    rw [this]; exact hf.slot u

theorem Frm.forget {n : Nat} {ρ : Rho} {N : Nat} {fr fr' : Nat → Dat} {tmps : Array Value} (hf : Frm n ρ N fr tmps) (h : ∀ t, fr' t = .un ∨ fr' t = fr t) : Frm n ρ N fr' tmps :=
  ⟨hf.size, fun t => by
    rcases h t with e | e
    · exact .inl e
    · rw [e]; exact hf.slot t⟩

end Go.Proofs.Ytakpeibmaejmeaa.DM
