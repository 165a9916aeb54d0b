/- The data machine: what memory and frames hold, as plain data; the relation between such data and the model's worlds. -/
import Derived.Below
import Derived.Tactics
import Derived.Deep.Quiet
import Derived.Laws.MakeOwn
import Derived.Deep.LoopGhost
namespace Go.Proofs.Ytakpeibmaejmeaa.DM
open Go.RowKit

/-- Where a row or a variable lies. -/
structure RV where
  nil : Bool
  b : Nat
  o : Nat
  cap : Nat
  na : Option Addr
  nc : Nat
  deriving Inhabited

/-- The slice value with elements of s cells, from element off on. -/
def RV.slice (v : RV) (off len s : Nat) : Value :=
  match v.nil with
  | true => match v.na with
    | none => .slice none 0 0
    | some a => .slice (some a) 0 v.nc
  | false => .slice (some ⟨v.b, v.o + off * s, none⟩) len (v.cap - off)

abbrev Rho := Nat → List Nat → RV

/-- Plain data: scalars, pointers into roots, slices over roots, arrays, structs, owned rows. -/
inductive Dat where
  | b (x : Bool)
  | i (k : IntKind) (x : Int)
  | s (x : ByteArray)
  | p (r : Nat) (path : List Nat) (o : Nat)
  | np
  | sl (r off len sz : Nat)
  | ns
  | ar (n s : Nat) (f : Nat → Dat)
  | st (n : Nat) (f : Nat → Dat)
  | ow (e : TypeId) (n s : Nat) (f : Nat → Dat)
  | tup (n : Nat) (f : Nat → Dat)
  | fn (g : FuncId) (n : Nat) (f : Nat → Dat)
  | un

def sumN : Nat → (Nat → Nat) → Nat
  | 0, _ => 0
  | n + 1, f => sumN n f + f n

def sz : Dat → Nat
  | .ar n s _ => n * s
  | .st n f => sumN n (fun i => sz (f i))
  | _ => 1

/-- The value of a cell or of a slot; A tells where the rows inside lie. -/
def leaf (ρ : Rho) (A : List Nat → RV) : Dat → Value
  | .b x => .bool x
  | .i k x => .int k x
  | .s x => .string x
  | .p r _ o => .pointer (some ⟨(ρ r []).b, (ρ r []).o + o, none⟩)
  | .np => .pointer none
  | .sl r off len s => (ρ r []).slice off len s
  | .ns => .slice none 0 0
  | .ow _ n s _ => (A []).slice 0 n s
  | .fn g n f => .func (.func g) #[] ((List.range n).map (fun i => leaf ρ (fun _ => default) (f i))).toArray
  | _ => undef

def cells (ρ : Rho) (A : List Nat → RV) : Dat → List Value
  | .ar n _ f => (List.range n).flatMap fun i => cells ρ (fun q => A (i :: q)) (f i)
  | .st n f => (List.range n).flatMap fun i => cells ρ (fun q => A (i :: q)) (f i)
  | d => [leaf ρ A d]

def noA : List Nat → RV := fun _ => default

/-- The value of a slot. -/
def enc (ρ : Rho) : Dat → Value
  | .ar n s f => .agg (cells ρ noA (.ar n s f)).toArray
  | .st n f => .agg (cells ρ noA (.st n f)).toArray
  | .tup n f => .tuple ((List.range n).map (fun i => enc ρ (f i))).toArray
  | d => leaf ρ noA d

/-- Sizes fit. -/
def WF : Dat → Prop
  | .ar n s f => ∀ i, i < n → sz (f i) = s ∧ WF (f i)
  | .st n f => ∀ i, i < n → WF (f i)
  | .ow _ n s f => ∀ i, i < n → sz (f i) = s ∧ WF (f i)
  | .tup _ _ => False
  | .un => False
  | _ => True

/-- References lead to roots below n. -/
def Sc (n : Nat) : Dat → Prop
  | .p r _ _ => r < n
  | .sl r _ _ _ => r < n
  | .ar k _ f => ∀ i, i < k → Sc n (f i)
  | .st k f => ∀ i, i < k → Sc n (f i)
  | .ow _ k _ f => ∀ i, i < k → Sc n (f i)
  | .tup k f => ∀ i, i < k → Sc n (f i)
  | .fn _ k f => ∀ i, i < k → Sc n (f i)
  | _ => True

/-- No row inside. -/
def Pl : Dat → Prop
  | .ar k _ f => ∀ i, i < k → Pl (f i)
  | .st k f => ∀ i, i < k → Pl (f i)
  | .ow _ _ _ _ => False
  | .tup _ _ => False
  | .un => False
  | _ => True

/-- A value of a slot. -/
def Ok : Dat → Prop
  | .tup n f => ∀ i, i < n → Ok (f i)
  | d => WF d ∧ Pl d

/-- What lies at a path; rows are entered. -/
def nav (d : Dat) (q : List Nat) : Option Dat := match q with
  | [] => some d
  | i :: q => match d with
    | .ar n _ f => if i < n then nav (f i) q else none
    | .st n f => if i < n then nav (f i) q else none
    | .ow _ n _ f => if i < n then nav (f i) q else none
    | _ => none
termination_by structural q

/-- The same, rows not entered. -/
def navL (d : Dat) (q : List Nat) : Option Dat := match q with
  | [] => some d
  | i :: q => match d with
    | .ar n _ f => if i < n then navL (f i) q else none
    | .st n f => if i < n then navL (f i) q else none
    | _ => none
termination_by structural q

def offs (d : Dat) (q : List Nat) : Nat := match q with
  | [] => 0
  | i :: q => match d with
    | .ar _ s f => i * s + offs (f i) q
    | .st _ f => sumN i (fun j => sz (f j)) + offs (f i) q
    | _ => 0
termination_by structural q

def fup (f : Nat → Dat) (i : Nat) (v : Dat) (j : Nat) : Dat := bif Nat.beq j i then v else f j

def upd (d : Dat) (q : List Nat) (v : Dat) : Dat := match q with
  | [] => v
  | i :: q => match d with
    | .ar n s f => .ar n s (fup f i (upd (f i) q v))
    | .st n f => .st n (fup f i (upd (f i) q v))
    | d => d
termination_by structural q

theorem fup_same (f : Nat → Dat) (i : Nat) (v : Dat) : fup f i v i = v := by simp [fup]
theorem fup_ne (f : Nat → Dat) {i j : Nat} (v : Dat) (h : j ≠ i) : fup f i v j = f j := by
  unfold fup; rw [show Nat.beq j i = false from by cases e : Nat.beq j i with | false => rfl | true => exact absurd (Nat.eq_of_beq_eq_true e) h]; rfl

theorem sumN_le {f : Nat → Nat} : ∀ {n i : Nat}, i < n → sumN i f + f i ≤ sumN n f
  | 0, i, h => by omega
  | n + 1, i, h => by
    by_cases e : i = n
    · subst e; exact Nat.le_refl _
    · have := sumN_le (f := f) (n := n) (i := i) (by omega)
      simp only [sumN]; omega

theorem sumN_congr {f g : Nat → Nat} : ∀ {n : Nat}, (∀ i, i < n → f i = g i) → sumN n f = sumN n g
  | 0, _ => rfl
  | n + 1, h => by
    simp only [sumN]
    rw [sumN_congr (fun i hi => h i (by omega)), h n (by omega)]

theorem sumN_const {f : Nat → Nat} {s : Nat} : ∀ {n : Nat}, (∀ i, i < n → f i = s) → sumN n f = n * s
  | 0, _ => by simp [sumN]
  | n + 1, h => by
    simp only [sumN]
    rw [sumN_const (fun i hi => h i (by omega)), h n (by omega), Nat.succ_mul]

section
variable (ρ : Rho)

theorem range_split {n i : Nat} (h : i < n) (g : Nat → List Value) :
    (List.range n).flatMap g = (List.range i).flatMap g ++ g i ++ ((List.range (n - i - 1)).flatMap fun j => g (i + 1 + j)) := by
  have e : List.range n = List.range i ++ [i] ++ (List.range (n - i - 1)).map (i + 1 + ·) := by
    apply List.ext_getElem
    · simp; omega
    · intro k h1 h2
      simp only [List.getElem_range, List.append_assoc, List.getElem_append, List.length_range, List.getElem_map, List.getElem_cons, List.length_cons, List.length_nil]
      simp at h1
      by_cases hk : k < i
      · simp [hk]
      · by_cases hk2 : k = i
        · simp [hk2]
        · simp [hk, show ¬ (k - i = 0) by omega]; omega
  rw [e]
  simp [List.flatMap_append, List.flatMap_map]

theorem flatMap_congr {l : List Nat} {f g : Nat → List Value} (h : ∀ i ∈ l, f i = g i) : l.flatMap f = l.flatMap g := by
  simp only [List.flatMap_def]
  rw [List.map_congr_left h]

theorem flat_length {g : Nat → List Value} : ∀ (n : Nat), ((List.range n).flatMap g).length = sumN n (fun i => (g i).length)
  | 0 => by simp [sumN]
  | n + 1 => by rw [List.range_succ, List.flatMap_append, List.length_append, flat_length n]; simp [sumN]

theorem cells_length : ∀ (d : Dat) (A : List Nat → RV), WF d → (cells ρ A d).length = sz d := by
  intro d
  induction d with
  | ar n s f ih =>
    intro A h
    simp only [cells, sz]
    rw [flat_length, sumN_const (s := s)]
    intro i hi
    rw [ih i _ (h i hi).2, (h i hi).1]
  | st n f ih =>
    intro A h
    simp only [cells, sz]
    rw [flat_length]
    exact sumN_congr fun i hi => ih i _ (h i hi)
  | tup n f ih => intro A h; exact h.elim
  | un => intro A h; exact h.elim
  | _ => intro A h; simp [cells, sz]

theorem upd_self : ∀ (q : List Nat) (d x : Dat), navL d q = some x → upd d q x = d
  | [], d, x, h => by simp only [navL, Option.some.injEq] at h; simp [upd, h]
  | i :: q, .ar n s f, x, h => by
    simp only [navL] at h
    split at h
    · simp only [upd, upd_self q _ _ h]
      congr 1; funext j
      by_cases e : j = i
      · subst e; rw [fup_same]
      · rw [fup_ne _ _ e]
    · cases h
  | i :: q, .st n f, x, h => by
    simp only [navL] at h
    split at h
    · simp only [upd, upd_self q _ _ h]
      congr 1; funext j
      by_cases e : j = i
      · subst e; rw [fup_same]
      · rw [fup_ne _ _ e]
    · cases h
  | _ :: _, .b _, _, h => by simp [navL] at h
  | _ :: _, .i _ _, _, h => by simp [navL] at h
  | _ :: _, .s _, _, h => by simp [navL] at h
  | _ :: _, .p _ _ _, _, h => by simp [navL] at h
  | _ :: _, .np, _, h => by simp [navL] at h
  | _ :: _, .sl _ _ _ _, _, h => by simp [navL] at h
  | _ :: _, .ns, _, h => by simp [navL] at h
  | _ :: _, .ow _ _ _ _, _, h => by simp [navL] at h
  | _ :: _, .tup _ _, _, h => by simp [navL] at h
  | _ :: _, .fn _ _ _, _, h => by simp [navL] at h
  | _ :: _, .un, _, h => by simp [navL] at h

/-- THE CELLS AT A PATH: before, there, behind; an update changes those there alone. -/
theorem focus : ∀ (q : List Nat) (d x : Dat) (A : List Nat → RV), WF d → navL d q = some x →
    WF x ∧ ∃ pre post, pre.length = offs d q ∧ (∀ y, cells ρ A (upd d q y) = pre ++ cells ρ (fun z => A (q ++ z)) y ++ post) ∧
      (∀ y, WF y → sz y = sz x → WF (upd d q y) ∧ sz (upd d q y) = sz d)
  | [], d, x, A, hw, h => by
    simp only [navL, Option.some.injEq] at h
    subst h
    exact ⟨hw, [], [], rfl, fun y => by simp [upd], fun y hy e => ⟨by simpa [upd] using hy, by simpa [upd] using e⟩⟩
  | i :: q, .ar n s f, x, A, hw, h => by
    simp only [navL] at h
    split at h
    · rename_i hi
      obtain ⟨hx, pre, post, hl, hc, hu⟩ := focus q (f i) x (fun z => A (i :: z)) (hw i hi).2 h
      refine ⟨hx, ((List.range i).flatMap fun j => cells ρ (fun z => A (j :: z)) (f j)) ++ pre, post ++ ((List.range (n - i - 1)).flatMap fun j => cells ρ (fun z => A ((i + 1 + j) :: z)) (f (i + 1 + j))), ?_, fun y => ?_, fun y hy e => ⟨fun j hj => ?_, rfl⟩⟩
      · rw [List.length_append, flat_length, hl, sumN_const (s := s)]
        · rfl
        · intro j hj; rw [cells_length ρ _ _ (hw j (by omega)).2, (hw j (by omega)).1]
      · simp only [upd, cells]
        rw [range_split hi, fup_same, hc]
        have e1 : ((List.range i).flatMap fun j => cells ρ (fun q => A (j :: q)) (fup f i (upd (f i) q y) j)) = (List.range i).flatMap fun j => cells ρ (fun z => A (j :: z)) (f j) := by
          apply flatMap_congr
          intro j hj
          rw [fup_ne _ _ (by have := List.mem_range.1 hj; omega)]
        have e2 : ((List.range (n - i - 1)).flatMap fun j => cells ρ (fun q => A ((i + 1 + j) :: q)) (fup f i (upd (f i) q y) (i + 1 + j))) = (List.range (n - i - 1)).flatMap fun j => cells ρ (fun z => A ((i + 1 + j) :: z)) (f (i + 1 + j)) := by
          apply flatMap_congr
          intro j hj
          rw [fup_ne _ _ (by omega)]
        rw [e1, e2]
        simp [List.append_assoc]
      · by_cases e1 : j = i
        · subst e1; rw [fup_same]; have := hu y hy e; exact ⟨this.2.trans (hw j hj).1, this.1⟩
        · rw [fup_ne _ _ e1]; exact hw j hj
    · cases h
  | i :: q, .st n f, x, A, hw, h => by
    simp only [navL] at h
    split at h
    · rename_i hi
      obtain ⟨hx, pre, post, hl, hc, hu⟩ := focus q (f i) x (fun z => A (i :: z)) (hw i hi) h
      refine ⟨hx, ((List.range i).flatMap fun j => cells ρ (fun z => A (j :: z)) (f j)) ++ pre, post ++ ((List.range (n - i - 1)).flatMap fun j => cells ρ (fun z => A ((i + 1 + j) :: z)) (f (i + 1 + j))), ?_, fun y => ?_, fun y hy e => ⟨fun j hj => ?_, ?_⟩⟩
      · rw [List.length_append, flat_length, hl]
        simp only [offs]
        congr 1
        exact sumN_congr fun j hj => cells_length ρ _ _ (hw j (by omega))
      · simp only [upd, cells]
        rw [range_split hi, fup_same, hc]
        have e1 : ((List.range i).flatMap fun j => cells ρ (fun q => A (j :: q)) (fup f i (upd (f i) q y) j)) = (List.range i).flatMap fun j => cells ρ (fun z => A (j :: z)) (f j) := by
          apply flatMap_congr
          intro j hj
          rw [fup_ne _ _ (by have := List.mem_range.1 hj; omega)]
        have e2 : ((List.range (n - i - 1)).flatMap fun j => cells ρ (fun q => A ((i + 1 + j) :: q)) (fup f i (upd (f i) q y) (i + 1 + j))) = (List.range (n - i - 1)).flatMap fun j => cells ρ (fun z => A ((i + 1 + j) :: z)) (f (i + 1 + j)) := by
          apply flatMap_congr
          intro j hj
          rw [fup_ne _ _ (by omega)]
        rw [e1, e2]
        simp [List.append_assoc]
      · by_cases e1 : j = i
        · subst e1; rw [fup_same]; exact (hu y hy e).1
        · rw [fup_ne _ _ e1]; exact hw j hj
      · simp only [upd, sz]
        refine sumN_congr fun j hj => ?_
        by_cases e1 : j = i
        · subst e1; rw [fup_same]; exact (hu y hy e).2
        · rw [fup_ne _ _ e1]
    · cases h
  | _ :: _, .b _, _, _, _, h => by simp [navL] at h
  | _ :: _, .i _ _, _, _, _, h => by simp [navL] at h
  | _ :: _, .s _, _, _, _, h => by simp [navL] at h
  | _ :: _, .p _ _ _, _, _, _, h => by simp [navL] at h
  | _ :: _, .np, _, _, _, h => by simp [navL] at h
  | _ :: _, .sl _ _ _ _, _, _, _, h => by simp [navL] at h
  | _ :: _, .ns, _, _, _, h => by simp [navL] at h
  | _ :: _, .ow _ _ _ _, _, _, _, h => by simp [navL] at h
  | _ :: _, .tup _ _, _, _, _, h => by simp [navL] at h
  | _ :: _, .fn _ _ _, _, _, _, h => by simp [navL] at h
  | _ :: _, .un, _, _, _, h => by simp [navL] at h

theorem focus_cells {q : List Nat} {d x : Dat} {A : List Nat → RV} (hw : WF d) (h : navL d q = some x) :
    WF x ∧ ∃ pre post, pre.length = offs d q ∧ cells ρ A d = pre ++ cells ρ (fun z => A (q ++ z)) x ++ post ∧ (∀ y, cells ρ A (upd d q y) = pre ++ cells ρ (fun z => A (q ++ z)) y ++ post) ∧
      (∀ y, WF y → sz y = sz x → WF (upd d q y) ∧ sz (upd d q y) = sz d) := by
  obtain ⟨h1, pre, post, h2, h3, h4⟩ := focus ρ q d x A hw h
  refine ⟨h1, pre, post, h2, ?_, h3, h4⟩
  rw [← h3, upd_self q d x h]
end

/-- Values inside depend on the roots that are named alone. -/
theorem leaf_congr {n : Nat} {ρ ρ' : Rho} (hρ : ∀ r, r < n → ρ' r [] = ρ r []) : ∀ (d : Dat) (A : List Nat → RV), Sc n d → leaf ρ' A d = leaf ρ A d := by
  intro d
  induction d with
  | p r q o => intro A h; simp only [leaf, hρ r h]
  | sl r a b c => intro A h; simp only [leaf, hρ r h]
  | fn g k f ih =>
    intro A h
    simp only [leaf]
    congr 2
    exact List.map_congr_left fun i hi => ih i _ (h i (List.mem_range.1 hi))
  | _ => intro A h; rfl

theorem cells_congr {n : Nat} {ρ ρ' : Rho} (hρ : ∀ r, r < n → ρ' r [] = ρ r []) : ∀ (d : Dat) (A : List Nat → RV), Sc n d → cells ρ' A d = cells ρ A d := by
  intro d
  induction d with
  | ar k s f ih =>
    intro A h
    exact flatMap_congr fun i hi => ih i _ (h i (List.mem_range.1 hi))
  | st k f ih =>
    intro A h
    exact flatMap_congr fun i hi => ih i _ (h i (List.mem_range.1 hi))
  | _ => intro A h; simp only [cells]; rw [leaf_congr hρ _ _ h]

theorem cells_plain {ρ : Rho} : ∀ (d : Dat) (A B : List Nat → RV), Pl d → cells ρ A d = cells ρ B d := by
  intro d
  induction d with
  | ar k s f ih =>
    intro A B h
    exact flatMap_congr fun i hi => ih i _ _ (h i (List.mem_range.1 hi))
  | st k f ih =>
    intro A B h
    exact flatMap_congr fun i hi => ih i _ _ (h i (List.mem_range.1 hi))
  | ow => intro A B h; exact h.elim
  | _ => intro A B h; rfl

theorem enc_congr {n : Nat} {ρ ρ' : Rho} (hρ : ∀ r, r < n → ρ' r [] = ρ r []) : ∀ (d : Dat), Sc n d → enc ρ' d = enc ρ d := by
  intro d
  induction d with
  | ar k s f ih => intro h; simp only [enc]; rw [cells_congr hρ (.ar k s f) _ h]
  | st k f ih => intro h; simp only [enc]; rw [cells_congr hρ (.st k f) _ h]
  | tup k f ih =>
    intro h
    simp only [enc]
    congr 2
    exact List.map_congr_left fun i hi => ih i (h i (List.mem_range.1 hi))
  | _ => intro h; exact leaf_congr hρ _ _ h

/-- Each cell holds a value of one cell. -/
theorem cells_one {ρ : Rho} : ∀ (d : Dat) (A : List Nat → RV), WF d → ∀ v ∈ cells ρ A d, v.oneCell' = true := by
  intro d
  induction d with
  | ar k s f ih =>
    intro A h v hv
    obtain ⟨i, hi, hv⟩ := List.mem_flatMap.1 hv
    exact ih i _ (h i (List.mem_range.1 hi)).2 v hv
  | st k f ih =>
    intro A h v hv
    obtain ⟨i, hi, hv⟩ := List.mem_flatMap.1 hv
    exact ih i _ (h i (List.mem_range.1 hi)) v hv
  | tup => intro A h; exact h.elim
  | un => intro A h; exact h.elim
  | sl r a b c => intro A h v hv; simp only [cells, List.mem_singleton] at hv; subst hv; simp only [leaf, RV.slice]; ((repeat' split) <;> rfl)
  | ow e n s f => intro A h v hv; simp only [cells, List.mem_singleton] at hv; subst hv; simp only [leaf, RV.slice]; ((repeat' split) <;> rfl)
  | _ => intro A h v hv; simp only [cells, List.mem_singleton] at hv; subst hv; rfl

end Go.Proofs.Ytakpeibmaejmeaa.DM
