import Derived.Test.YtlmphggfokoeiaaDoorX12
import Derived.Test.YtlmphggfokoeiaaDoorD23
import Derived.Test.YtlmphggfokoeiaaDoorL10
import Derived.Lib.SlTrimSet
import Derived.Lib.Strings
/- Words: their values, pure. -/
namespace Go.Proofs.YtlmphggfokoeiaaDoor
open Go.RowKit DM
set_option linter.unusedVariables false
set_option linter.unusedSimpArgs false

/-- A letter of a word. -/
def isL (c : Int) : Bool := decide (c = 98) || decide (c = 66) || decide (c = 119) || decide (c = 87) || decide (c = 102) || decide (c = 70)
/-- A word that may be spelled. -/
def okW (x : ByteArray) : Bool := decide (x.size ≤ 60) && (List.range x.size).all fun i => isL (byteAt x i)

def baseF (N : Nat) (b w : Nat → Nat) (c : Int) : Nat → Nat := if c = 119 ∨ c = 87 then w else if c = 102 ∨ c = 70 then faceF N b w else b
def ownF (N : Nat) (b w : Nat → Nat) (c : Int) : Nat → Nat := if c < 97 then backTo (baseF N b w c) N else baseF N b w c
/-- The value of the first k letters. -/
def valF (N : Nat) (b w : Nat → Nat) (x : ByteArray) : Nat → Nat → Nat
  | 0 => fillF (fun i => i) N
  | k + 1 => fillF (fun i => ownF N b w (byteAt x k) (valF N b w x k i)) N

theorem isL_cases {c : Int} (h : isL c = true) : c = 98 ∨ c = 66 ∨ c = 119 ∨ c = 87 ∨ c = 102 ∨ c = 70 := by
  simp only [isL, Bool.or_eq_true, decide_eq_true_eq] at h
  omega
theorem isL_no {c : Int} (h : isL c = false) : c ≠ 98 ∧ c ≠ 66 ∧ c ≠ 119 ∧ c ≠ 87 ∧ c ≠ 102 ∧ c ≠ 70 := by
  simp only [isL, Bool.or_eq_false_iff, decide_eq_false_iff_not] at h
  omega

theorem okW_all {x : ByteArray} (h : okW x = true) : x.size ≤ 60 ∧ ∀ i, i < x.size → isL (byteAt x i) = true := by
  simp only [okW, Bool.and_eq_true, decide_eq_true_eq, List.all_eq_true, List.mem_range] at h
  exact h
theorem okW_of {x : ByteArray} (h1 : x.size ≤ 60) (h2 : ∀ i, i < x.size → isL (byteAt x i) = true) : okW x = true := by
  simp only [okW, Bool.and_eq_true, decide_eq_true_eq, List.all_eq_true, List.mem_range]
  exact ⟨h1, h2⟩
theorem okW_no {x : ByteArray} {i : Nat} (hi : i < x.size) (h : isL (byteAt x i) = false) : okW x = false := by
  cases e : okW x with
  | false => rfl
  | true => rw [(okW_all e).2 i hi] at h; cases h

theorem face_perm {N : Nat} {b w : Nat → Nat} (hD : Des N b w) : Perm N (faceF N b w) := by
  refine perm_back hD.le ⟨fun i hi => ?_, fun i j hi hj e => ?_⟩
  · simp only [fillF, if_pos hi]; exact hD.pw.lt _ (hD.pb.lt _ hi)
  · simp only [fillF, if_pos hi, if_pos hj] at e
    exact hD.pb.inj i j hi hj (hD.pw.inj _ _ (hD.pb.lt _ hi) (hD.pb.lt _ hj) e)

theorem base_perm {N : Nat} {b w : Nat → Nat} (hD : Des N b w) (c : Int) : Perm N (baseF N b w c) := by
  unfold baseF
  split
  · exact hD.pw
  · split
    · exact face_perm hD
    · exact hD.pb
theorem own_perm {N : Nat} {b w : Nat → Nat} (hD : Des N b w) (c : Int) : Perm N (ownF N b w c) := by
  unfold ownF
  split
  · exact perm_back hD.le (base_perm hD c)
  · exact base_perm hD c
theorem val_lt {N : Nat} {b w : Nat → Nat} (hD : Des N b w) (x : ByteArray) : ∀ k i, i < N → valF N b w x k i < N
  | 0, i, hi => by simp only [valF, fillF, if_pos hi]; exact hi
  | k + 1, i, hi => by simp only [valF, fillF, if_pos hi]; exact (own_perm hD _).lt _ (val_lt hD x k i hi)

/-- The letters as bytes. -/
def cutL : List UInt8 := [98, 119, 102, 66, 87, 70]
theorem cut_all : ∀ n : Fin 256, cutL.contains (UInt8.ofNat n.val) = isL (n.val : Int) := by decide +kernel
theorem cut_isL (c : UInt8) : cutL.contains c = isL (c.toNat : Int) := by
  have h := cut_all ⟨c.toNat, c.toNat_lt⟩
  simpa using h

theorem drop_all {p : UInt8 → Bool} : ∀ l : List UInt8, (∀ x ∈ l.dropWhile p, p x = true) → ∀ x ∈ l, p x = true
  | [], _ => fun x hx => by cases hx
  | a :: l, h => by
    cases e : p a with
    | true =>
      rw [List.dropWhile_cons, e, if_pos rfl] at h
      intro x hx
      rcases List.mem_cons.1 hx with rfl | hx
      · exact e
      · exact drop_all l h x hx
    | false =>
      rw [List.dropWhile_cons, e, if_neg (by simp)] at h
      exact h

theorem drop_nil {p : UInt8 → Bool} : ∀ l : List UInt8, l.dropWhile p = [] ↔ ∀ x ∈ l, p x = true
  | [] => ⟨fun _ x hx => (by cases hx), fun _ => rfl⟩
  | a :: l => by
    constructor
    · intro h
      exact drop_all (a :: l) fun x hx => by rw [h] at hx; cases hx
    · intro h
      rw [List.dropWhile_cons, h a (by simp), if_pos rfl]
      exact (drop_nil l).2 fun x hx => h x (by simp [hx])

theorem trim_nil (l cs : List UInt8) : Lib.trimS l cs = [] ↔ ∀ x ∈ l, cs.contains x = true := by
  unfold Lib.trimS Lib.trimLeftS Lib.trimRightS
  constructor
  · intro h x hx
    have h1 : ∀ y ∈ (l.reverse.dropWhile (cs.contains ·)).reverse, cs.contains y = true := (drop_nil _).1 h
    exact drop_all (p := (cs.contains ·)) l.reverse (fun y hy => h1 y (by simpa using hy)) x (by simpa using hx)
  · intro h
    have h1 : l.reverse.dropWhile (cs.contains ·) = [] := (drop_nil _).2 fun y hy => h y (by simpa using hy)
    rw [h1]; rfl

theorem spell_eq (x : ByteArray) : ((⟨(Lib.trimS x.data.toList cutL).toArray⟩ : ByteArray).toList == (⟨#[]⟩ : ByteArray).toList) = (List.range x.size).all fun i => isL (byteAt x i) := by
  rw [Lib.toList_data, Lib.toList_data]
  show (Lib.trimS x.data.toList cutL == []) = _
  have key : (∀ c ∈ x.data.toList, cutL.contains c = true) ↔ ∀ i, i < x.size → isL (byteAt x i) = true := by
    have hs : x.size = x.data.toList.length := by rw [Array.length_toList]; rfl
    have hat : ∀ i, i < x.size → byteAt x i = ((x.data.toList.getD i 0).toNat : Int) := fun i hi => by
      unfold byteAt
      rw [Array.getD_eq_getD_getElem?, List.getD_eq_getElem?_getD, Array.getElem?_toList]
    constructor
    · intro h i hi
      rw [hat i hi, ← cut_isL]
      refine h _ ?_
      rw [List.getD_eq_getElem?_getD, List.getElem?_eq_getElem (by omega)]
      exact List.getElem_mem _
    · intro h c hc
      obtain ⟨i, hi, rfl⟩ := List.getElem_of_mem hc
      have := h i (by omega)
      rw [hat i (by omega), ← cut_isL, List.getD_eq_getElem?_getD, List.getElem?_eq_getElem hi] at this
      exact this
  cases e : (List.range x.size).all fun i => isL (byteAt x i) with
  | true =>
    rw [(trim_nil _ _).2 (key.2 fun i hi => by simp only [List.all_eq_true, List.mem_range] at e; exact e i hi)]; rfl
  | false =>
    cases e2 : (Lib.trimS x.data.toList cutL == []) with
    | false => rfl
    | true =>
      have h1 := key.1 ((trim_nil _ _).1 (by simpa using e2))
      have : ((List.range x.size).all fun i => isL (byteAt x i)) = true := by
        simp only [List.all_eq_true, List.mem_range]; exact h1
      rw [this] at e; cases e

end Go.Proofs.YtlmphggfokoeiaaDoor
