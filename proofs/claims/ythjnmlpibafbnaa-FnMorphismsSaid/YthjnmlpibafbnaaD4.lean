import Derived.Test.YthjnmlpibafbnaaD2
namespace Go.Proofs.Ythjnmlpibafbnaa.DM
open Go.RowKit
inductive Ty where
  | int (k : IntKind)
  | bool
  | str
  | arr (n : Nat) (e : TypeId)
  | st (fs : List (TypeId × Nat))
  | slice (e : TypeId)
  | ptr (e : TypeId)
  | other
structure TI where
  ty : Ty
  sz : Nat
  bytes : Nat
  z : Dat
abbrev TyEnv := TypeId → Option TI
def noR : Rho := fun _ _ => default
def Ty.fits (P : Program) (t : TypeId) : Ty → Prop
  | .int k => P.underlying t = some (.int k)
  | .bool => P.underlying t = some .bool
  | .str => P.underlying t = some .string
  | .arr n e => P.underlying t = some (.array n e)
  | .st fs => ∃ fields, P.underlying t = some (.struct fields) ∧ fields.toList.map (fun f => (f.type, f.offset)) = fs
  | .slice e => P.underlying t = some (.slice e)
  | .ptr e => P.underlying t = some (.pointer e)
  | .other => ∃ d, P.underlying t = some d ∧ (match d with | .struct _ | .array _ _ => true | _ => false) = false
def Ty.agg : Ty → Bool
  | .arr _ _ => true
  | .st _ => true
  | _ => false
def isScalar : Dat → Bool
  | .ar _ _ _ => false
  | .st _ _ => false
  | .ow _ _ _ _ => false
  | .tup _ _ => false
  | .un => false
  | _ => true
def fit (i : TI) (v : Dat) : Bool :=
  match i.ty.agg, v with
  | true, .ar n s _ => Nat.beq (n * s) i.sz
  | true, .st n f => Nat.beq (DM.sz (.st n f)) i.sz
  | false, v => isScalar v && Nat.beq i.sz 1
  | _, _ => false
def eqOK (P : Program) (t : TypeId) : Bool := (!P.eqGuardType P.depth t) && ((!P.stoodInHeld t) && (match P.underlying t with
  | some (.struct fs) => fs.toList.all (fun f => f.name != "_")
  | _ => true))
structure TI.ok (P : Program) (t : TypeId) (i : TI) : Prop where
  fits : i.ty.fits P t
  info : (P.info? t).map (fun x => (x.zero, x.size, x.bytes)) = some (some (enc noR i.z), i.sz, i.bytes)
  wf : WF i.z
  pl : Pl i.z
  sc : Sc 0 i.z
  szz : DM.sz i.z = i.sz
  pos : 0 < i.sz
  fitz : fit i i.z = true
  eqg : i.ty.agg = true → eqOK P t = true
def TOK (P : Program) (T : TyEnv) : Prop := ∀ t i, T t = some i → i.ok P t
def AllP : List Prop → Prop
  | [] => True
  | [p] => p
  | p :: q :: l => p ∧ AllP (q :: l)
theorem AllP.cons {p : Prop} {l : List Prop} (h : AllP (p :: l)) : p ∧ AllP l := by
  cases l with
  | nil => exact ⟨h, trivial⟩
  | cons q l => exact h
theorem AllP.app : ∀ {l k : List Prop}, AllP (l ++ k) → AllP l ∧ AllP k
  | [], k, h => ⟨trivial, h⟩
  | p :: l, k, h => by
    obtain ⟨h1, h2⟩ := AllP.cons (l := l ++ k) h
    obtain ⟨h3, h4⟩ := AllP.app h2
    refine ⟨?_, h4⟩
    cases l with
    | nil => exact h1
    | cons q l => exact ⟨h1, h3⟩
def InR : IntKind → Int → Prop
  | .i8, x => -128 ≤ x ∧ x ≤ 127
  | .i16, x => -32768 ≤ x ∧ x ≤ 32767
  | .i32, x => -2147483648 ≤ x ∧ x ≤ 2147483647
  | .i64, x => -9223372036854775808 ≤ x ∧ x ≤ 9223372036854775807
  | .u8, x => 0 ≤ x ∧ x ≤ 255
  | .u16, x => 0 ≤ x ∧ x ≤ 65535
  | .u32, x => 0 ≤ x ∧ x ≤ 4294967295
  | .u64, x => 0 ≤ x ∧ x ≤ 18446744073709551615
def ofV : Value → Dat
  | .int k x => .i k x
  | .bool b => .b b
  | .string s => .s s
  | .pointer none => .np
  | .slice none 0 0 => .ns
  | _ => .un
def ev (fr : Nat → Dat) : Operand → Dat
  | .tmp t => fr t
  | .const v => ofV v
  | .func f => .fn f 0 (fun _ => .un)
  | _ => .un
def num (wm : Bool) (k : IntKind) (x : Int) : List Prop × Dat :=
  match wm with
  | true => ([], .i k (k.wrap x))
  | false => ([InR k x], .i k x)
def binI (wm : Bool) (op : BinOp) (k : IntKind) (a b : Int) : Option (List Prop × Dat) :=
  match op with
  | .add => some (num wm k (a + b))
  | .sub => some (num wm k (a - b))
  | .mul => some (num wm k (a * b))
  | .quo => some ((b ≠ 0) :: (num wm k (a.tdiv b)).1, (num wm k (a.tdiv b)).2)
  | .rem => some ([b ≠ 0], .i k (a.tmod b))
  | .eql => some ([], .b (decide (a = b)))
  | .neq => some ([], .b (!decide (a = b)))
  | .lss => some ([], .b (decide (a < b)))
  | .leq => some ([], .b (decide (a ≤ b)))
  | .gtr => some ([], .b (decide (b < a)))
  | .geq => some ([], .b (decide (b ≤ a)))
  | .and => some ([], .i k (k.wrap (BitVec.ofInt k.bits a &&& BitVec.ofInt k.bits b).toNat))
  | .or => some ([], .i k (k.wrap (BitVec.ofInt k.bits a ||| BitVec.ofInt k.bits b).toNat))
  | .xor => some ([], .i k (k.wrap (BitVec.ofInt k.bits a ^^^ BitVec.ofInt k.bits b).toNat))
  | .shl => some ([0 ≤ b], .i k (k.wrap (a * 2 ^ (min b.toNat k.bits))))
  | .shr => some ([0 ≤ b], .i k (a.fdiv (2 ^ (min b.toNat k.bits))))
  | _ => none
def kEq : IntKind → IntKind → Bool
  | .i8, .i8 => true | .i16, .i16 => true | .i32, .i32 => true | .i64, .i64 => true
  | .u8, .u8 => true | .u16, .u16 => true | .u32, .u32 => true | .u64, .u64 => true
  | _, _ => false
def isSh : BinOp → Bool
  | .shl => true
  | .shr => true
  | _ => false
def bin (T : TyEnv) (wm : Bool) (op : BinOp) (t : TypeId) (x y : Dat) : Option (List Prop × Dat) :=
  match x, y with
  | .i k a, .i k' b => bif kEq k k' || isSh op then binI wm op k a b else none
  | .b a, .b b => match T t, op with
    | some ⟨.bool, _, _, _⟩, .eql => some ([], .b (a == b))
    | some ⟨.bool, _, _, _⟩, .neq => some ([], .b (!(a == b)))
    | _, _ => none
  | _, _ => none
def navE (d : Dat) (q : List Nat) : Option (List Prop × Dat) := match q with
  | [] => some ([], d)
  | i :: q => match d with
    | .ar n _ f => match navE (f i) q with
      | some (ps, x) => some ((i < n) :: ps, x)
      | none => none
    | .st n f => match navE (f i) q with
      | some (ps, x) => some ((i < n) :: ps, x)
      | none => none
    | _ => none
termination_by structural q
def offA (d : Dat) (q : List Nat) (acc : Nat) : Nat := match q with
  | [] => acc
  | i :: q => match d with
    | .ar _ s f => offA (f i) q (acc + i * s)
    | .st _ f => offA (f i) q (acc + sumN i (fun j => DM.sz (f j)))
    | _ => acc
termination_by structural q
theorem navE_ok : ∀ {q : List Nat} {d x : Dat} {ps : List Prop}, navE d q = some (ps, x) → AllP ps → navL d q = some x
  | [], d, x, ps, h, _ => by simp only [navE, Option.some.injEq, Prod.mk.injEq] at h; simp [navL, h.2]
  | i :: q, d, x, ps, h, hp => by
    cases d <;> simp only [navE] at h <;> first | (cases h; done) | skip
    all_goals
      split at h
      · rename_i hq
        simp only [Option.some.injEq, Prod.mk.injEq] at h
        obtain ⟨rfl, rfl⟩ := h
        obtain ⟨h1, h2⟩ := hp.cons
        simp only [navL, if_pos h1]
        exact navE_ok hq h2
      · cases h
theorem offA_eq : ∀ (q : List Nat) (d x : Dat) (acc : Nat), navL d q = some x → offA d q acc = acc + offs d q
  | [], d, x, acc, _ => by simp [offA, offs]
  | i :: q, d, x, acc, h => by
    cases d <;> simp only [navL] at h <;> first | (cases h; done) | skip
    all_goals
      split at h
      · simp only [offA, offs]
        rw [offA_eq q _ x _ h]; omega
      · cases h
def Root.navE (R : Root) (q : List Nat) : Option (List Prop × Dat) :=
  match R with
  | .var d => DM.navE d q
  | .row _ n _ f => match q with
    | [] => none
    | i :: q => match DM.navE (f i) q with
      | some (ps, x) => some ((i < n) :: ps, x)
      | none => none
  | .ro n _ f => match q with
    | [] => none
    | i :: q => match DM.navE (f i) q with
      | some (ps, x) => some ((i < n) :: ps, x)
      | none => none
  | .dead => none
  | .mp _ _ => none
def Root.offA (R : Root) (q : List Nat) : Nat :=
  match R with
  | .var d => DM.offA d q 0
  | .row _ _ s f => match q with
    | [] => 0
    | i :: q => DM.offA (f i) q (0 + i * s)
  | .ro _ s f => match q with
    | [] => 0
    | i :: q => DM.offA (f i) q (0 + i * s)
  | .dead => 0
  | .mp _ _ => 0
def plE : Dat → List Prop
  | .ar n s f => [Pl (.ar n s f)]
  | .st n f => [Pl (.st n f)]
  | _ => []
def loadE (T : TyEnv) (t : TypeId) (x : Dat) (m : List Root) : Option (List Prop × Dat) :=
  match x, T t with
  | .p r q o, some i => match m[r]? with
    | some R => match R.navE q with
      | some (ps, v) => bif fit i v then some (ps ++ (R.offA q = o) :: plE v, v) else none
      | none => none
    | none => none
  | _, _ => none
def Root.rowS (R : Root) (q : List Nat) (k : Nat) : Bool :=
  match R, q with
  | .row _ _ s _, [_] => Nat.beq s k
  | _, _ => false
def storeE (T : TyEnv) (t : TypeId) (x v : Dat) (m : List Root) : Option (List Prop × List Root) :=
  match x, T t with
  | .p r q o, some i => match m[r]? with
    | some R => bif R.mine then match R.navE q with
        | some (ps, old) => bif fit i v && (R.rowS q i.sz || fit i old) then some (ps ++ [R.offA q = o], m.set r (R.upd q v)) else none
        | none => none
      else none
    | none => none
  | _, _ => none
end Go.Proofs.Ythjnmlpibafbnaa.DM
namespace Go.Proofs.Ythjnmlpibafbnaa.DM
open Go.RowKit
theorem isAgg_run {P : Program} {t : TypeId} {i : TI} (h : i.ok P t) (w : World) : (isAgg t).run P w = .ok i.ty.agg w := by
  have hf := h.fits
  unfold isAgg
  rw [Sem.run_bind]
  cases ht : i.ty <;> rw [ht] at hf <;> simp only [Ty.fits] at hf
  case st fs => obtain ⟨fields, hf, _⟩ := hf; rw [run_underlying hf w]; rfl
  case other =>
    obtain ⟨d, hf, hd⟩ := hf
    rw [run_underlying hf w]
    cases d <;> first | rfl | (simp at hd)
  all_goals (rw [run_underlying hf w]; rfl)
theorem sizeOf_run {P : Program} {t : TypeId} {i : TI} (h : i.ok P t) (w : World) : (sizeOf t).run P w = .ok i.sz w := by
  have hi := h.info
  cases hq : P.info? t with
  | none => rw [hq] at hi; cases hi
  | some x =>
    rw [hq] at hi
    simp only [Option.map_some, Option.some.injEq, Prod.mk.injEq] at hi
    simp [sizeOf, typeInfo, hq, hi.2.1]
theorem info_size {P : Program} {t : TypeId} {i : TI} (h : i.ok P t) : (P.info? t).map (·.size) = some i.sz := by
  have hi := h.info
  cases hq : P.info? t with
  | none => rw [hq] at hi; cases hi
  | some x =>
    rw [hq] at hi
    simp only [Option.map_some, Option.some.injEq, Prod.mk.injEq] at hi
    simp [hi.2.1]
theorem zeroValue_run {P : Program} {t : TypeId} {i : TI} (h : i.ok P t) (w : World) : (zeroValue t).run P w = .ok (enc noR i.z) w := by
  have hi := h.info
  cases hq : P.info? t with
  | none => rw [hq] at hi; cases hi
  | some x =>
    rw [hq] at hi
    simp only [Option.map_some, Option.some.injEq, Prod.mk.injEq] at hi
    simp [zeroValue, typeInfo, hq, hi.1]
theorem enc_cells {ρ : Rho} : ∀ (d : Dat), WF d → (enc ρ d).cells = (cells ρ noA d).toArray := by
  intro d h
  cases d <;> first | rfl | exact h.elim | skip
  case sl r a b c => simp only [enc, cells, leaf, RV.slice]; (repeat' split) <;> rfl
  case sa x a b c => simp only [enc, cells, leaf, RV.slice]; (repeat' split) <;> rfl
theorem addr_add (b o j : Nat) : (⟨b, o, none⟩ : Addr).add j = ⟨b, o + j, none⟩ := by
  unfold Addr.add; split <;> simp_all
theorem Root.navE_ok {R : Root} {q : List Nat} {ps : List Prop} {x : Dat} (h : R.navE q = some (ps, x)) (hp : AllP ps) : R.navL q = some x ∧ R.offA q = R.offs q := by
  cases R with
  | dead => simp [Root.navE] at h
  | mp => simp [Root.navE] at h
  | var d =>
    have h1 := DM.navE_ok (q := q) h hp
    refine ⟨h1, ?_⟩
    simp only [Root.offA, Root.offs]
    rw [offA_eq q d x 0 h1]; omega
  | row e n s f =>
    cases q with
    | nil => simp [Root.navE] at h
    | cons i q =>
      simp only [Root.navE] at h
      split at h
      · rename_i hq
        simp only [Option.some.injEq, Prod.mk.injEq] at h
        obtain ⟨rfl, rfl⟩ := h
        obtain ⟨h1, h2⟩ := hp.cons
        have h3 := DM.navE_ok hq h2
        refine ⟨by simp only [Root.navL, if_pos h1]; exact h3, ?_⟩
        simp only [Root.offA, Root.offs]
        rw [offA_eq q _ _ _ h3]; omega
      · cases h
  | ro n s f =>
    cases q with
    | nil => simp [Root.navE] at h
    | cons i q =>
      simp only [Root.navE] at h
      split at h
      · rename_i hq
        simp only [Option.some.injEq, Prod.mk.injEq] at h
        obtain ⟨rfl, rfl⟩ := h
        obtain ⟨h1, h2⟩ := hp.cons
        have h3 := DM.navE_ok hq h2
        refine ⟨by simp only [Root.navL, if_pos h1]; exact h3, ?_⟩
        simp only [Root.offA, Root.offs]
        rw [offA_eq q _ _ _ h3]; omega
      · cases h
theorem Root.flat_nav {R : Root} {q : List Nat} {x : Dat} (h : R.navL q = some x) : ∃ d, R.flat = some d ∧ DM.navL d q = some x ∧ R.offs q = DM.offs d q ∧ (R.mine = true → ∀ y, (R.upd q y).flat = some (DM.upd d q y)) := by
  cases R with
  | dead => simp [Root.navL] at h
  | mp => simp [Root.navL] at h
  | var d => exact ⟨d, rfl, h, rfl, fun _ _ => rfl⟩
  | row e n s f =>
    cases q with
    | nil => simp [Root.navL] at h
    | cons i q => exact ⟨.ar n s f, rfl, by simpa only [Root.navL, DM.navL] using h, rfl, fun _ _ => rfl⟩
  | ro n s f =>
    cases q with
    | nil => simp [Root.navL] at h
    | cons i q => exact ⟨.ar n s f, rfl, by simpa only [Root.navL, DM.navL] using h, rfl, fun h => by cases h⟩
theorem wf_flat {R : Root} {c d : Dat} (hc : R.con = some c) (hf : R.flat = some d) (h : WF c) : WF d := by
  cases R <;> simp only [Root.con, Root.flat, Option.some.injEq] at hc hf <;> first | (cases hc; done) | (cases hf; done) | (subst hc; subst hf; exact h)
theorem con_of_flat {R : Root} {d : Dat} (hf : R.flat = some d) : ∃ c, R.con = some c := by
  cases R <;> first | exact ⟨_, rfl⟩ | cases hf
theorem append_get {pre xs post : List Value} {j : Nat} {u : Value} (h : xs[j]? = some u) : (pre ++ xs ++ post)[pre.length + j]? = some u := by
  have hj : j < xs.length := (List.getElem?_eq_some_iff.1 h).1
  rw [List.append_assoc, List.getElem?_append_right (by omega), show pre.length + j - pre.length = j by omega, List.getElem?_append_left hj]
  exact h
theorem Rep.part {ρ : Rho} {m : List Root} {w : World} (h : Rep ρ m w) {r : Nat} {R : Root} {q : List Nat} {x : Dat} (hr : m[r]? = some R) (hq : R.navL q = some x) :
    WF x ∧ (ρ r []).nil = false ∧ ∀ j u, (cells ρ (fun z => ρ r (q ++ z)) x)[j]? = some u → w.cell? ⟨(ρ r []).b, (ρ r []).o + R.offs q + j, none⟩ = some u := by
  obtain ⟨d, hf, hn, ho, _⟩ := Root.flat_nav hq
  obtain ⟨c, hc⟩ := con_of_flat hf
  have hw : WF d := wf_flat hc hf (h.wf r R c hr hc).1
  obtain ⟨hx, pre, post, hl, hcs, _⟩ := focus_cells ρ (A := ρ r) hw hn
  have hget : ∀ j u, (cells ρ (fun z => ρ r (q ++ z)) x)[j]? = some u → (cells ρ (ρ r) d)[R.offs q + j]? = some u := by
    intro j u hu
    rw [hcs, ho, ← hl]
    exact append_get hu
  cases R with
  | dead => cases hf
  | mp => cases hf
  | var d' =>
    cases hf
    obtain ⟨blk, t, h1, h2, h3, h4⟩ := h.var r d hr
    refine ⟨hx, h3, fun j u hu => ?_⟩
    have := hget j u hu
    rw [← h4] at this
    rw [h2, Nat.zero_add, cell_of_row w _ _ blk t (0, 0) h1]
    simpa using this
  | row e n s f =>
    cases hf
    obtain ⟨blk, h1, h2, h3, _, _, _, h4⟩ := h.row r _ _ [] e n s f hr rfl hc (by cases hc; rfl) (.inl rfl)
    refine ⟨hx, h3, fun j u hu => ?_⟩
    have := hget j u hu
    have h4' : blk.toList.take (n * s) = cells ρ (ρ r) (.ar n s f) := h4
    rw [← h4', List.getElem?_take] at this
    rw [h2, Nat.zero_add, cell_of_row w _ _ blk e (0, 0) h1]
    split at this
    · simpa using this
    · cases this
  | ro n s f =>
    cases hf
    cases hc
    rcases h.ro r _ _ [] 0 n s f hr (.inl rfl) rfl rfl with ⟨_, hz⟩ | ⟨h1, _, _, _, h5⟩
    · subst hz
      cases q with
      | nil => simp [Root.navL] at hq
      | cons i q => simp [Root.navL] at hq
    · refine ⟨hx, h1, fun j u hu => ?_⟩
      have := h5 _ u (hget j u hu)
      rwa [← Nat.add_assoc] at this
theorem fit_sz {i : TI} {v : Dat} (h : fit i v = true) : DM.sz v = i.sz ∧ (i.ty.agg = false → isScalar v = true) ∧ (i.ty.agg = true → (∃ n s f, v = .ar n s f) ∨ (∃ n f, v = .st n f)) := by
  unfold fit at h
  split at h
  · rename_i n s f hag
    exact ⟨Nat.eq_of_beq_eq_true h, (fun e => by rw [hag] at e; cases e), fun _ => .inl ⟨_, _, _, rfl⟩⟩
  · rename_i n f hag
    exact ⟨Nat.eq_of_beq_eq_true h, (fun e => by rw [hag] at e; cases e), fun _ => .inr ⟨_, _, rfl⟩⟩
  · rename_i v0 _ v1 hag
    simp only [Bool.and_eq_true] at h
    refine ⟨?_, fun _ => h.1, (fun e => by rw [hag] at e; cases e)⟩
    rw [Nat.eq_of_beq_eq_true h.2]
    have hs := h.1
    cases v0 <;> first | rfl | cases hs
  · cases h
theorem navL_nav : ∀ {q : List Nat} {d x : Dat}, DM.navL d q = some x → nav d q = some x := by
  intro q
  induction q with
  | nil => intro d x h; simpa [DM.navL, nav] using h
  | cons i q ih =>
    intro d x h
    cases d <;> simp only [DM.navL] at h <;> first | (cases h; done) | skip
    all_goals
      split at h
      · rename_i hi; simp only [nav, if_pos hi]; exact ih h
      · cases h
theorem Rep.part_sc {ρ : Rho} {m : List Root} {w : World} (hrep : Rep ρ m w) {r : Nat} {R : Root} {q : List Nat} {x : Dat} (hR : m[r]? = some R) (hnl : R.navL q = some x) : Sc m.length x := by
  obtain ⟨d, hf, hn, _, _⟩ := Root.flat_nav hnl
  obtain ⟨c, hc⟩ := con_of_flat hf
  have hs := (hrep.wf r R c hR hc).2
  have hsd : Sc m.length d := by cases R <;> simp only [Root.con, Root.flat, Option.some.injEq] at hc hf <;> first | (cases hc; done) | (cases hf; done) | (subst hc; subst hf; exact hs)
  exact sc_nav (navL_nav hn) hsd
theorem plE_ok {v : Dat} (hs : isScalar v = true ∨ (∃ n s f, v = .ar n s f) ∨ (∃ n f, v = .st n f)) (h : AllP (plE v)) : Pl v := by
  rcases hs with hs | ⟨n, s, f, rfl⟩ | ⟨n, f, rfl⟩
  · cases v <;> first | trivial | cases hs
  · exact h
  · exact h
theorem ok_of {v : Dat} (h1 : WF v) (h2 : Pl v) : Ok v := by
  cases v <;> first | exact ⟨h1, h2⟩ | exact h1.elim
theorem loadE_ok {P : Program} {T : TyEnv} (hT : TOK P T) {t : TypeId} {x v : Dat} {m : List Root} {ps : List Prop} (h : loadE T t x m = some (ps, v)) (hp : AllP ps)
    {ρ : Rho} {w : World} (hrep : Rep ρ m w) : (Instr.loadAt t (enc ρ x)).run P w = .ok (enc ρ v) w ∧ Sc m.length v ∧ Ok v := by
  unfold loadE at h
  split at h
  case h_2 => cases h
  rename_i r q o i hti
  split at h
  case h_2 => cases h
  rename_i R hR
  split at h
  case h_2 => cases h
  rename_i ps0 v0 hnav
  cases hfit : fit i v0 with
  | false => rw [hfit] at h; cases h
  | true =>
  rw [hfit] at h
  simp only [cond_true, Option.some.injEq, Prod.mk.injEq] at h
  obtain ⟨rfl, rfl⟩ := h
  obtain ⟨hp1, hp2⟩ := hp.app
  obtain ⟨hoff, hp3⟩ := hp2.cons
  obtain ⟨hnl, hoo⟩ := Root.navE_ok hnav hp1
  obtain ⟨hwx, hnil, hcell⟩ := hrep.part hR hnl
  have hti' := hT t i hti
  obtain ⟨hsz, hf1, hf2⟩ := fit_sz hfit
  have hpl : Pl v0 := plE_ok (by cases hag : i.ty.agg with | false => exact .inl (hf1 hag) | true => exact .inr (hf2 hag)) hp3
  refine ⟨?_, hrep.part_sc hR hnl, ok_of hwx hpl⟩
  have hadr : enc ρ (.p r q o) = .pointer (some ⟨(ρ r []).b, (ρ r []).o + R.offs q, none⟩) := by
    rw [← hoo, hoff]; rfl
  rw [hadr]
  unfold Instr.loadAt
  simp only [Instr.sureAddr, Sem.run_bind, Sem.run_pure, Result.andThen_ok]
  unfold loadVar
  rw [Sem.run_bind, isAgg_run hti' w]
  cases hag : i.ty.agg with
  | true =>
    have hlen : (cells ρ noA v0).length = i.sz := by rw [cells_length ρ _ _ hwx]; exact hsz
    have hl := run_loadCells_list (P := P) w ⟨(ρ r []).b, (ρ r []).o + R.offs q, none⟩ (cells ρ noA v0) (fun j u hu => by
      rw [addr_add]
      exact hcell j u (by rw [cells_plain _ _ noA hpl]; exact hu))
    rw [hlen] at hl
    simp only [Result.andThen_ok, if_true, Sem.run_bind, sizeOf_run hti' w, hl, Sem.run_pure]
    rcases hf2 hag with ⟨n, s, f, rfl⟩ | ⟨n, f, rfl⟩ <;> rfl
  | false =>
    have hsca := hf1 hag
    have h1 : cells ρ (fun z => ρ r (q ++ z)) v0 = [enc ρ v0] := by cases v0 <;> first | rfl | cases hsca
    have h2 := hcell 0 (enc ρ v0) (by rw [h1]; rfl)
    rw [Nat.add_zero] at h2
    simp only [Result.andThen_ok, Bool.false_eq_true, if_false]
    show (load _ _).run P w = _
    simp [load, Sem.run, h2]
end Go.Proofs.Ythjnmlpibafbnaa.DM
