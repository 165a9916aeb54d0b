import Derived.Test.YtokhjhkicledmaaD29
import Derived.Test.YtokhjhkicledmaaX4
import Derived.Test.YtokhjhkicledmaaX8
import Derived.Test.YtokhjhkicledmaaL3
import Derived.Test.YtokhjhkicledmaaL9
import Derived.Test.YtokhjhkicledmaaL33
/- Quotients by blocks, the reference's side: one image. -/
namespace Go.Proofs.Ytokhjhkicledmaa
open Go.RowKit DM
set_option linter.unusedSimpArgs false
set_option linter.unusedVariables false
set_option maxRecDepth 100000
set_option maxHeartbeats 1000000

/-- Sixteen permutations. -/
def rwD (f : Nat → Nat → Nat) : Dat := .ar 16 16 fun a => pl (f a)
theorem rw_up (f : Nat → Nat → Nat) (y : Nat) (g : Nat → Nat) : Dat.ar 16 16 (fup (fun a => pl (f a)) y (pl g)) = rwD (up f y g) := by
  unfold rwD
  congr 1
  funext a
  by_cases h : a = y
  · subst h; rw [fup_same]; simp [up]
  · rw [fup_ne _ _ h]; simp [up, h]

structure IM (N : Nat) (L : List (Nat → Nat)) (x0 : Nat) (s : List Nat × (Nat → Bool)) (f : Nat → Nat → Nat) : Prop where
  gr : ∀ a ∈ s.1, Grp N L (f a) ∧ f a x0 = a
  met : ∀ z, s.2 z = true ↔ z ∈ s.1
  base : x0 ∈ s.1
theorem IM.add {N : Nat} {L : List (Nat → Nat)} {x0 : Nat} (hx0 : x0 < N) {Q : List Nat} {met : Nat → Bool} {f : Nat → Nat → Nat} (h : IM N L x0 (Q, met) f) {a : Nat} (ha : a ∈ Q) {p : Nat → Nat} (hp : p ∈ L) (hm : met (p a) = false) : IM N L x0 (bst (p a) (Q, met)) (up f (p a) (mulF N (f a) p)) := by
  have hn : p a ∉ Q := fun hc => Bool.false_ne_true (hm.symm.trans ((h.met (p a)).2 hc))
  rw [bst_new hm]
  refine ⟨fun z hz => ?_, fun z => ?_, List.mem_append.2 (.inl h.base)⟩
  · rcases List.mem_append.1 hz with hz | hz
    · have : z ≠ p a := fun e => hn (e ▸ hz)
      simp only [up, if_neg this]
      exact h.gr z hz
    · rw [List.mem_singleton.1 hz]
      simp only [up, if_pos]
      exact ⟨.mul (h.gr a ha).1 hp, by rw [mul_at hx0, (h.gr a ha).2]⟩
  · simp only [up]
    by_cases e : z = p a
    · subst e; simp
    · rw [if_neg e]
      have := h.met z
      simp only at this
      rw [this]; simp [e]
theorem mem_bst (y : Nat) (s : List Nat × (Nat → Bool)) (h : s.2 y = true ↔ y ∈ s.1) : y ∈ (bst y s).1 := by
  unfold bst
  cases e : s.2 y
  · simp
  · exact h.1 e

theorem bits_up (q : Nat → Nat) (i : Nat) : (fun z => (mskTo q (i + 1)).testBit z) = up (fun z => (mskTo q i).testBit z) (q i) true := by
  funext z
  rw [mskTo, Nat.testBit_or, Nat.testBit_two_pow]
  unfold up
  by_cases h : z = q i
  · subst h; simp
  · rw [if_neg h, decide_eq_false fun e => h e.symm, Bool.or_false]

theorem l03Image_fn (N : Nat) (b w : Nat → Nat) (hD : Des N b w) (hL : ∀ p ∈ [b, w], Np N p) (m : Nat) (gn : Nat → Nat) (hm0 : 0 < m) (hm : m ≤ 1048576) (hgn : ∀ t, t < m → gn t < N) (x : Nat) (hx : x < N) : FnS Try.prog 78 [ds_ N b w, .sl 0 0 m 1, .i .i64 (x : Int)] [.ro m 1 (nmF gn)] fun r m' => ∃ S, r = .sl 1 0 (bitsL S N).length 1 ∧ m' = [.ro m 1 (nmF gn), .row 2 (bitsL S N).length 1 (numsF (bitsL S N))] ∧ Orb N [b, w] (mskTo gn m) S ∧ S.testBit x = true := by
  have hN := hD.le
  have hx0 := hgn 0 hm0
  have hb := hD.pb.lt
  have hw := hD.pw.lt
  refine FnS.intoE T tok Try.func78 (by rfl) rfl rfl rfl (by simp) ?_
  refine WP.rs T false tok (by rfl) (by exact byObl) ?_
  refine WP.seqG ⟨lst [(1, .sl 0 0 m 1), (2, .i .i64 (x : Int)), (3, .p 1 [] 0), (7, .p 2 [] 0), (8, .p 3 [] 0), (9, .sl 4 0 1 1)], [.ro m 1 (nmF gn), .var (ds_ N b w), .var (rwD fun _ _ => 0), .var (bl fun _ => false), .row 2 1 1 (numsF [gn 0])]⟩ ?_ ?_
  · refine WP.da (by kernel_rfl) 8 (by kernel_rfl) ?_
    refine WA.takesD T false tok [0, 1, 2] (f' := 8) (by kernel_rfl) (by rfl) (by rfl) (by exact byObl) (by rfl) (by rfl) ?_
    refine WA.allT [3, 6, 7] (by kernel_rfl) (by simp) ?_; intro i' hi'; simp only [List.mem_cons, List.not_mem_nil, or_false] at hi'
    rcases hi' with rfl | rfl | rfl
    · refine ⟨_, _, _, rfl, by rfl, by rfl, .inl (MK.q (evalOp_q tok (wm := false) (by rfl) (by rfl) (by exact byObl))), ?_⟩
      refine WA.allT [4, 6, 7] (by kernel_rfl) (by simp) ?_; intro i' hi'; simp only [List.mem_cons, List.not_mem_nil, or_false] at hi'
      rcases hi' with rfl | rfl | rfl
      · refine ⟨_, _, _, rfl, by rfl, by rfl, .inl (MK.q (evalOp_q tok (wm := false) (by rfl) (by rfl) (by exact byObl))), ?_⟩
        refine WA.allT [5, 6, 7] (by kernel_rfl) (by simp) ?_; intro i' hi'; simp only [List.mem_cons, List.not_mem_nil, or_false] at hi'
        rcases hi' with rfl | rfl | rfl
        · refine ⟨_, _, _, rfl, by rfl, by rfl, .inl (MK.of tok (wm := false) (by rfl) (by exact byObl) (by rfl) (by exact byObl)), ?_⟩
          refine WA.allT [6, 7] (by kernel_rfl) (by simp) ?_; intro i' hi'; simp only [List.mem_cons, List.not_mem_nil, or_false] at hi'
          rcases hi' with rfl | rfl
          · refine ⟨_, _, _, rfl, by rfl, by rfl, .inl (MK.of tok (wm := false) (by rfl) (by exact byObl) (by rfl) (by exact byObl)), ?_⟩
            refine WA.allT [7] (by kernel_rfl) (by simp) ?_; intro i' hi'; simp only [List.mem_cons, List.not_mem_nil, or_false] at hi'
            subst hi'
            refine ⟨_, _, _, rfl, by rfl, by rfl, .inl (MK.of tok (wm := false) (by rfl) (by exact byObl) (by rfl) (by exact byObl)), ?_⟩
            refine WA.allT [8] (by kernel_rfl) (by simp) ?_; intro i' hi'; simp only [List.mem_cons, List.not_mem_nil, or_false] at hi'
            subst hi'
            refine ⟨_, _, _, rfl, by rfl, by rfl, .inr ⟨by decide, TK.of tok (wm := false) (by rfl) (by exact byObl)⟩, ?_⟩
            refine WA.allT [9] (by kernel_rfl) (by simp) ?_; intro i' hi'; simp only [List.mem_cons, List.not_mem_nil, or_false] at hi'
            subst hi'
            refine ⟨_, _, _, rfl, by rfl, by rfl, .inr ⟨by decide, TK.of tok (wm := false) (by rfl) (by exact byObl)⟩, ?_⟩
            refine WA.allT [10] (by kernel_rfl) (by simp) ?_; intro i' hi'; simp only [List.mem_cons, List.not_mem_nil, or_false] at hi'
            subst hi'
            refine ⟨_, _, _, rfl, by rfl, by rfl, .inl (MK.q (evalOp_q tok (wm := false) (by rfl) (by rfl) (by exact byObl))), ?_⟩
            refine WA.end rfl (by kernel_rfl) (noPan ?_)
            exact Ghost.cut (Nat.le_refl _) (tauOf [0, 1, 3, 4, 2]) [(1, .sl 0 0 m 1), (2, .i .i64 (x : Int)), (3, .p 1 [] 0), (7, .p 2 [] 0), (8, .p 3 [] 0), (9, .sl 4 0 1 1)] [.ro m 1 (nmF gn), .var (ds_ N b w), .var (rwD fun _ _ => 0), .var (bl fun _ => false), .row 2 1 1 (numsF [gn 0])] (Taken.of [0, 1, 3, 4, 2] (LeAll.cons (by rfl) (by first | with_reducible exact Root.Le.refl _ | with_reducible exact le_dead | (first | exact le_row (Nat.le_refl _) (fun j hj => by obtain rfl : j = 0 := (by have : j < 1 := hj; omega); rfl) | exact le_var rfl) | exact byLeq) (by exact byCon) (LeAll.cons (by rfl) (by first | with_reducible exact Root.Le.refl _ | with_reducible exact le_dead | (first | exact le_row (Nat.le_refl _) (fun j hj => by obtain rfl : j = 0 := (by have : j < 1 := hj; omega); rfl) | exact le_var rfl) | exact byLeq) (by exact byCon) (LeAll.cons (by rfl) (by first | with_reducible exact Root.Le.refl _ | with_reducible exact le_dead | (first | exact le_row (Nat.le_refl _) (fun j hj => by obtain rfl : j = 0 := (by have : j < 1 := hj; omega); rfl) | exact le_var rfl) | exact byLeq) (by exact byCon) (LeAll.cons (by rfl) (by first | with_reducible exact Root.Le.refl _ | with_reducible exact le_dead | (first | exact le_row (Nat.le_refl _) (fun j hj => by obtain rfl : j = 0 := (by have : j < 1 := hj; omega); rfl) | exact le_var rfl) | exact byLeq) (by exact byCon) (LeAll.cons (by rfl) (by first | with_reducible exact Root.Le.refl _ | with_reducible exact le_dead | (first | exact le_row (Nat.le_refl _) (fun j hj => by obtain rfl : j = 0 := (by have : j < 1 := hj; omega); rfl) | exact le_var rfl) | exact byLeq) (by exact byCon) (trivial)))))) rfl rfl) (by exact bySlots)
          · refine ⟨_, _, _, rfl, by rfl, by rfl, .inl (MK.of tok (wm := false) (by rfl) (by exact byObl) (by rfl) (by exact byObl)), ?_⟩
            refine WA.allT [6] (by kernel_rfl) (by simp) ?_; intro i' hi'; simp only [List.mem_cons, List.not_mem_nil, or_false] at hi'
            subst hi'
            refine ⟨_, _, _, rfl, by rfl, by rfl, .inl (MK.of tok (wm := false) (by rfl) (by exact byObl) (by rfl) (by exact byObl)), ?_⟩
            refine WA.allT [8] (by kernel_rfl) (by simp) ?_; intro i' hi'; simp only [List.mem_cons, List.not_mem_nil, or_false] at hi'
            subst hi'
            refine ⟨_, _, _, rfl, by rfl, by rfl, .inr ⟨by decide, TK.of tok (wm := false) (by rfl) (by exact byObl)⟩, ?_⟩
            refine WA.allT [9] (by kernel_rfl) (by simp) ?_; intro i' hi'; simp only [List.mem_cons, List.not_mem_nil, or_false] at hi'
            subst hi'
            refine ⟨_, _, _, rfl, by rfl, by rfl, .inr ⟨by decide, TK.of tok (wm := false) (by rfl) (by exact byObl)⟩, ?_⟩
            refine WA.allT [10] (by kernel_rfl) (by simp) ?_; intro i' hi'; simp only [List.mem_cons, List.not_mem_nil, or_false] at hi'
            subst hi'
            refine ⟨_, _, _, rfl, by rfl, by rfl, .inl (MK.q (evalOp_q tok (wm := false) (by rfl) (by rfl) (by exact byObl))), ?_⟩
            refine WA.end rfl (by kernel_rfl) (noPan ?_)
            exact Ghost.cut (Nat.le_refl _) (tauOf [0, 1, 4, 3, 2]) [(1, .sl 0 0 m 1), (2, .i .i64 (x : Int)), (3, .p 1 [] 0), (7, .p 2 [] 0), (8, .p 3 [] 0), (9, .sl 4 0 1 1)] [.ro m 1 (nmF gn), .var (ds_ N b w), .var (rwD fun _ _ => 0), .var (bl fun _ => false), .row 2 1 1 (numsF [gn 0])] (Taken.of [0, 1, 4, 3, 2] (LeAll.cons (by rfl) (by first | with_reducible exact Root.Le.refl _ | with_reducible exact le_dead | (first | exact le_row (Nat.le_refl _) (fun j hj => by obtain rfl : j = 0 := (by have : j < 1 := hj; omega); rfl) | exact le_var rfl) | exact byLeq) (by exact byCon) (LeAll.cons (by rfl) (by first | with_reducible exact Root.Le.refl _ | with_reducible exact le_dead | (first | exact le_row (Nat.le_refl _) (fun j hj => by obtain rfl : j = 0 := (by have : j < 1 := hj; omega); rfl) | exact le_var rfl) | exact byLeq) (by exact byCon) (LeAll.cons (by rfl) (by first | with_reducible exact Root.Le.refl _ | with_reducible exact le_dead | (first | exact le_row (Nat.le_refl _) (fun j hj => by obtain rfl : j = 0 := (by have : j < 1 := hj; omega); rfl) | exact le_var rfl) | exact byLeq) (by exact byCon) (LeAll.cons (by rfl) (by first | with_reducible exact Root.Le.refl _ | with_reducible exact le_dead | (first | exact le_row (Nat.le_refl _) (fun j hj => by obtain rfl : j = 0 := (by have : j < 1 := hj; omega); rfl) | exact le_var rfl) | exact byLeq) (by exact byCon) (LeAll.cons (by rfl) (by first | with_reducible exact Root.Le.refl _ | with_reducible exact le_dead | (first | exact le_row (Nat.le_refl _) (fun j hj => by obtain rfl : j = 0 := (by have : j < 1 := hj; omega); rfl) | exact le_var rfl) | exact byLeq) (by exact byCon) (trivial)))))) rfl rfl) (by exact bySlots)
        · refine ⟨_, _, _, rfl, by rfl, by rfl, .inl (MK.of tok (wm := false) (by rfl) (by exact byObl) (by rfl) (by exact byObl)), ?_⟩
          refine WA.allT [5, 7] (by kernel_rfl) (by simp) ?_; intro i' hi'; simp only [List.mem_cons, List.not_mem_nil, or_false] at hi'
          rcases hi' with rfl | rfl
          · refine ⟨_, _, _, rfl, by rfl, by rfl, .inl (MK.of tok (wm := false) (by rfl) (by exact byObl) (by rfl) (by exact byObl)), ?_⟩
            refine WA.allT [7] (by kernel_rfl) (by simp) ?_; intro i' hi'; simp only [List.mem_cons, List.not_mem_nil, or_false] at hi'
            subst hi'
            refine ⟨_, _, _, rfl, by rfl, by rfl, .inl (MK.of tok (wm := false) (by rfl) (by exact byObl) (by rfl) (by exact byObl)), ?_⟩
            refine WA.allT [8] (by kernel_rfl) (by simp) ?_; intro i' hi'; simp only [List.mem_cons, List.not_mem_nil, or_false] at hi'
            subst hi'
            refine ⟨_, _, _, rfl, by rfl, by rfl, .inr ⟨by decide, TK.of tok (wm := false) (by rfl) (by exact byObl)⟩, ?_⟩
            refine WA.allT [9] (by kernel_rfl) (by simp) ?_; intro i' hi'; simp only [List.mem_cons, List.not_mem_nil, or_false] at hi'
            subst hi'
            refine ⟨_, _, _, rfl, by rfl, by rfl, .inr ⟨by decide, TK.of tok (wm := false) (by rfl) (by exact byObl)⟩, ?_⟩
            refine WA.allT [10] (by kernel_rfl) (by simp) ?_; intro i' hi'; simp only [List.mem_cons, List.not_mem_nil, or_false] at hi'
            subst hi'
            refine ⟨_, _, _, rfl, by rfl, by rfl, .inl (MK.q (evalOp_q tok (wm := false) (by rfl) (by rfl) (by exact byObl))), ?_⟩
            refine WA.end rfl (by kernel_rfl) (noPan ?_)
            exact Ghost.cut (Nat.le_refl _) (tauOf [0, 1, 2, 4, 3]) [(1, .sl 0 0 m 1), (2, .i .i64 (x : Int)), (3, .p 1 [] 0), (7, .p 2 [] 0), (8, .p 3 [] 0), (9, .sl 4 0 1 1)] [.ro m 1 (nmF gn), .var (ds_ N b w), .var (rwD fun _ _ => 0), .var (bl fun _ => false), .row 2 1 1 (numsF [gn 0])] (Taken.of [0, 1, 2, 4, 3] (LeAll.cons (by rfl) (by first | with_reducible exact Root.Le.refl _ | with_reducible exact le_dead | (first | exact le_row (Nat.le_refl _) (fun j hj => by obtain rfl : j = 0 := (by have : j < 1 := hj; omega); rfl) | exact le_var rfl) | exact byLeq) (by exact byCon) (LeAll.cons (by rfl) (by first | with_reducible exact Root.Le.refl _ | with_reducible exact le_dead | (first | exact le_row (Nat.le_refl _) (fun j hj => by obtain rfl : j = 0 := (by have : j < 1 := hj; omega); rfl) | exact le_var rfl) | exact byLeq) (by exact byCon) (LeAll.cons (by rfl) (by first | with_reducible exact Root.Le.refl _ | with_reducible exact le_dead | (first | exact le_row (Nat.le_refl _) (fun j hj => by obtain rfl : j = 0 := (by have : j < 1 := hj; omega); rfl) | exact le_var rfl) | exact byLeq) (by exact byCon) (LeAll.cons (by rfl) (by first | with_reducible exact Root.Le.refl _ | with_reducible exact le_dead | (first | exact le_row (Nat.le_refl _) (fun j hj => by obtain rfl : j = 0 := (by have : j < 1 := hj; omega); rfl) | exact le_var rfl) | exact byLeq) (by exact byCon) (LeAll.cons (by rfl) (by first | with_reducible exact Root.Le.refl _ | with_reducible exact le_dead | (first | exact le_row (Nat.le_refl _) (fun j hj => by obtain rfl : j = 0 := (by have : j < 1 := hj; omega); rfl) | exact le_var rfl) | exact byLeq) (by exact byCon) (trivial)))))) rfl rfl) (by exact bySlots)
          · refine ⟨_, _, _, rfl, by rfl, by rfl, .inl (MK.of tok (wm := false) (by rfl) (by exact byObl) (by rfl) (by exact byObl)), ?_⟩
            refine WA.allT [5, 8] (by kernel_rfl) (by simp) ?_; intro i' hi'; simp only [List.mem_cons, List.not_mem_nil, or_false] at hi'
            rcases hi' with rfl | rfl
            · refine ⟨_, _, _, rfl, by rfl, by rfl, .inl (MK.of tok (wm := false) (by rfl) (by exact byObl) (by rfl) (by exact byObl)), ?_⟩
              refine WA.allT [8] (by kernel_rfl) (by simp) ?_; intro i' hi'; simp only [List.mem_cons, List.not_mem_nil, or_false] at hi'
              subst hi'
              refine ⟨_, _, _, rfl, by rfl, by rfl, .inr ⟨by decide, TK.of tok (wm := false) (by rfl) (by exact byObl)⟩, ?_⟩
              refine WA.allT [9] (by kernel_rfl) (by simp) ?_; intro i' hi'; simp only [List.mem_cons, List.not_mem_nil, or_false] at hi'
              subst hi'
              refine ⟨_, _, _, rfl, by rfl, by rfl, .inr ⟨by decide, TK.of tok (wm := false) (by rfl) (by exact byObl)⟩, ?_⟩
              refine WA.allT [10] (by kernel_rfl) (by simp) ?_; intro i' hi'; simp only [List.mem_cons, List.not_mem_nil, or_false] at hi'
              subst hi'
              refine ⟨_, _, _, rfl, by rfl, by rfl, .inl (MK.q (evalOp_q tok (wm := false) (by rfl) (by rfl) (by exact byObl))), ?_⟩
              refine WA.end rfl (by kernel_rfl) (noPan ?_)
              exact Ghost.cut (Nat.le_refl _) (tauOf [0, 1, 2, 3, 4]) [(1, .sl 0 0 m 1), (2, .i .i64 (x : Int)), (3, .p 1 [] 0), (7, .p 2 [] 0), (8, .p 3 [] 0), (9, .sl 4 0 1 1)] [.ro m 1 (nmF gn), .var (ds_ N b w), .var (rwD fun _ _ => 0), .var (bl fun _ => false), .row 2 1 1 (numsF [gn 0])] (Taken.of [0, 1, 2, 3, 4] (LeAll.cons (by rfl) (by first | with_reducible exact Root.Le.refl _ | with_reducible exact le_dead | (first | exact le_row (Nat.le_refl _) (fun j hj => by obtain rfl : j = 0 := (by have : j < 1 := hj; omega); rfl) | exact le_var rfl) | exact byLeq) (by exact byCon) (LeAll.cons (by rfl) (by first | with_reducible exact Root.Le.refl _ | with_reducible exact le_dead | (first | exact le_row (Nat.le_refl _) (fun j hj => by obtain rfl : j = 0 := (by have : j < 1 := hj; omega); rfl) | exact le_var rfl) | exact byLeq) (by exact byCon) (LeAll.cons (by rfl) (by first | with_reducible exact Root.Le.refl _ | with_reducible exact le_dead | (first | exact le_row (Nat.le_refl _) (fun j hj => by obtain rfl : j = 0 := (by have : j < 1 := hj; omega); rfl) | exact le_var rfl) | exact byLeq) (by exact byCon) (LeAll.cons (by rfl) (by first | with_reducible exact Root.Le.refl _ | with_reducible exact le_dead | (first | exact le_row (Nat.le_refl _) (fun j hj => by obtain rfl : j = 0 := (by have : j < 1 := hj; omega); rfl) | exact le_var rfl) | exact byLeq) (by exact byCon) (LeAll.cons (by rfl) (by first | with_reducible exact Root.Le.refl _ | with_reducible exact le_dead | (first | exact le_row (Nat.le_refl _) (fun j hj => by obtain rfl : j = 0 := (by have : j < 1 := hj; omega); rfl) | exact le_var rfl) | exact byLeq) (by exact byCon) (trivial)))))) rfl rfl) (by exact bySlots)
            · refine ⟨_, _, _, rfl, by rfl, by rfl, .inr ⟨by decide, TK.of tok (wm := false) (by rfl) (by exact byObl)⟩, ?_⟩
              refine WA.allT [5, 9] (by kernel_rfl) (by simp) ?_; intro i' hi'; simp only [List.mem_cons, List.not_mem_nil, or_false] at hi'
              rcases hi' with rfl | rfl
              · refine ⟨_, _, _, rfl, by rfl, by rfl, .inl (MK.of tok (wm := false) (by rfl) (by exact byObl) (by rfl) (by exact byObl)), ?_⟩
                refine WA.allT [9] (by kernel_rfl) (by simp) ?_; intro i' hi'; simp only [List.mem_cons, List.not_mem_nil, or_false] at hi'
                subst hi'
                refine ⟨_, _, _, rfl, by rfl, by rfl, .inr ⟨by decide, TK.of tok (wm := false) (by rfl) (by exact byObl)⟩, ?_⟩
                refine WA.allT [10] (by kernel_rfl) (by simp) ?_; intro i' hi'; simp only [List.mem_cons, List.not_mem_nil, or_false] at hi'
                subst hi'
                refine ⟨_, _, _, rfl, by rfl, by rfl, .inl (MK.q (evalOp_q tok (wm := false) (by rfl) (by rfl) (by exact byObl))), ?_⟩
                refine WA.end rfl (by kernel_rfl) (noPan ?_)
                exact Ghost.cut (Nat.le_refl _) (tauOf [0, 1, 2, 3, 4]) [(1, .sl 0 0 m 1), (2, .i .i64 (x : Int)), (3, .p 1 [] 0), (7, .p 2 [] 0), (8, .p 3 [] 0), (9, .sl 4 0 1 1)] [.ro m 1 (nmF gn), .var (ds_ N b w), .var (rwD fun _ _ => 0), .var (bl fun _ => false), .row 2 1 1 (numsF [gn 0])] (Taken.of [0, 1, 2, 3, 4] (LeAll.cons (by rfl) (by first | with_reducible exact Root.Le.refl _ | with_reducible exact le_dead | (first | exact le_row (Nat.le_refl _) (fun j hj => by obtain rfl : j = 0 := (by have : j < 1 := hj; omega); rfl) | exact le_var rfl) | exact byLeq) (by exact byCon) (LeAll.cons (by rfl) (by first | with_reducible exact Root.Le.refl _ | with_reducible exact le_dead | (first | exact le_row (Nat.le_refl _) (fun j hj => by obtain rfl : j = 0 := (by have : j < 1 := hj; omega); rfl) | exact le_var rfl) | exact byLeq) (by exact byCon) (LeAll.cons (by rfl) (by first | with_reducible exact Root.Le.refl _ | with_reducible exact le_dead | (first | exact le_row (Nat.le_refl _) (fun j hj => by obtain rfl : j = 0 := (by have : j < 1 := hj; omega); rfl) | exact le_var rfl) | exact byLeq) (by exact byCon) (LeAll.cons (by rfl) (by first | with_reducible exact Root.Le.refl _ | with_reducible exact le_dead | (first | exact le_row (Nat.le_refl _) (fun j hj => by obtain rfl : j = 0 := (by have : j < 1 := hj; omega); rfl) | exact le_var rfl) | exact byLeq) (by exact byCon) (LeAll.cons (by rfl) (by first | with_reducible exact Root.Le.refl _ | with_reducible exact le_dead | (first | exact le_row (Nat.le_refl _) (fun j hj => by obtain rfl : j = 0 := (by have : j < 1 := hj; omega); rfl) | exact le_var rfl) | exact byLeq) (by exact byCon) (trivial)))))) rfl rfl) (by exact bySlots)
              · refine ⟨_, _, _, rfl, by rfl, by rfl, .inr ⟨by decide, TK.of tok (wm := false) (by rfl) (by exact byObl)⟩, ?_⟩
                refine WA.allT [5] (by kernel_rfl) (by simp) ?_; intro i' hi'; simp only [List.mem_cons, List.not_mem_nil, or_false] at hi'
                subst hi'
                refine ⟨_, _, _, rfl, by rfl, by rfl, .inl (MK.of tok (wm := false) (by rfl) (by exact byObl) (by rfl) (by exact byObl)), ?_⟩
                refine WA.allT [10] (by kernel_rfl) (by simp) ?_; intro i' hi'; simp only [List.mem_cons, List.not_mem_nil, or_false] at hi'
                subst hi'
                refine ⟨_, _, _, rfl, by rfl, by rfl, .inl (MK.q (evalOp_q tok (wm := false) (by rfl) (by rfl) (by exact byObl))), ?_⟩
                refine WA.end rfl (by kernel_rfl) (noPan ?_)
                exact Ghost.cut (Nat.le_refl _) (tauOf [0, 1, 2, 3, 4]) [(1, .sl 0 0 m 1), (2, .i .i64 (x : Int)), (3, .p 1 [] 0), (7, .p 2 [] 0), (8, .p 3 [] 0), (9, .sl 4 0 1 1)] [.ro m 1 (nmF gn), .var (ds_ N b w), .var (rwD fun _ _ => 0), .var (bl fun _ => false), .row 2 1 1 (numsF [gn 0])] (Taken.of [0, 1, 2, 3, 4] (LeAll.cons (by rfl) (by first | with_reducible exact Root.Le.refl _ | with_reducible exact le_dead | (first | exact le_row (Nat.le_refl _) (fun j hj => by obtain rfl : j = 0 := (by have : j < 1 := hj; omega); rfl) | exact le_var rfl) | exact byLeq) (by exact byCon) (LeAll.cons (by rfl) (by first | with_reducible exact Root.Le.refl _ | with_reducible exact le_dead | (first | exact le_row (Nat.le_refl _) (fun j hj => by obtain rfl : j = 0 := (by have : j < 1 := hj; omega); rfl) | exact le_var rfl) | exact byLeq) (by exact byCon) (LeAll.cons (by rfl) (by first | with_reducible exact Root.Le.refl _ | with_reducible exact le_dead | (first | exact le_row (Nat.le_refl _) (fun j hj => by obtain rfl : j = 0 := (by have : j < 1 := hj; omega); rfl) | exact le_var rfl) | exact byLeq) (by exact byCon) (LeAll.cons (by rfl) (by first | with_reducible exact Root.Le.refl _ | with_reducible exact le_dead | (first | exact le_row (Nat.le_refl _) (fun j hj => by obtain rfl : j = 0 := (by have : j < 1 := hj; omega); rfl) | exact le_var rfl) | exact byLeq) (by exact byCon) (LeAll.cons (by rfl) (by first | with_reducible exact Root.Le.refl _ | with_reducible exact le_dead | (first | exact le_row (Nat.le_refl _) (fun j hj => by obtain rfl : j = 0 := (by have : j < 1 := hj; omega); rfl) | exact le_var rfl) | exact byLeq) (by exact byCon) (trivial)))))) rfl rfl) (by exact bySlots)
        · refine ⟨_, _, _, rfl, by rfl, by rfl, .inl (MK.of tok (wm := false) (by rfl) (by exact byObl) (by rfl) (by exact byObl)), ?_⟩
          refine WA.allT [5, 6] (by kernel_rfl) (by simp) ?_; intro i' hi'; simp only [List.mem_cons, List.not_mem_nil, or_false] at hi'
          rcases hi' with rfl | rfl
          · refine ⟨_, _, _, rfl, by rfl, by rfl, .inl (MK.of tok (wm := false) (by rfl) (by exact byObl) (by rfl) (by exact byObl)), ?_⟩
            refine WA.allT [6] (by kernel_rfl) (by simp) ?_; intro i' hi'; simp only [List.mem_cons, List.not_mem_nil, or_false] at hi'
            subst hi'
            refine ⟨_, _, _, rfl, by rfl, by rfl, .inl (MK.of tok (wm := false) (by rfl) (by exact byObl) (by rfl) (by exact byObl)), ?_⟩
            refine WA.allT [8] (by kernel_rfl) (by simp) ?_; intro i' hi'; simp only [List.mem_cons, List.not_mem_nil, or_false] at hi'
            subst hi'
            refine ⟨_, _, _, rfl, by rfl, by rfl, .inr ⟨by decide, TK.of tok (wm := false) (by rfl) (by exact byObl)⟩, ?_⟩
            refine WA.allT [9] (by kernel_rfl) (by simp) ?_; intro i' hi'; simp only [List.mem_cons, List.not_mem_nil, or_false] at hi'
            subst hi'
            refine ⟨_, _, _, rfl, by rfl, by rfl, .inr ⟨by decide, TK.of tok (wm := false) (by rfl) (by exact byObl)⟩, ?_⟩
            refine WA.allT [10] (by kernel_rfl) (by simp) ?_; intro i' hi'; simp only [List.mem_cons, List.not_mem_nil, or_false] at hi'
            subst hi'
            refine ⟨_, _, _, rfl, by rfl, by rfl, .inl (MK.q (evalOp_q tok (wm := false) (by rfl) (by rfl) (by exact byObl))), ?_⟩
            refine WA.end rfl (by kernel_rfl) (noPan ?_)
            exact Ghost.cut (Nat.le_refl _) (tauOf [0, 1, 4, 2, 3]) [(1, .sl 0 0 m 1), (2, .i .i64 (x : Int)), (3, .p 1 [] 0), (7, .p 2 [] 0), (8, .p 3 [] 0), (9, .sl 4 0 1 1)] [.ro m 1 (nmF gn), .var (ds_ N b w), .var (rwD fun _ _ => 0), .var (bl fun _ => false), .row 2 1 1 (numsF [gn 0])] (Taken.of [0, 1, 4, 2, 3] (LeAll.cons (by rfl) (by first | with_reducible exact Root.Le.refl _ | with_reducible exact le_dead | (first | exact le_row (Nat.le_refl _) (fun j hj => by obtain rfl : j = 0 := (by have : j < 1 := hj; omega); rfl) | exact le_var rfl) | exact byLeq) (by exact byCon) (LeAll.cons (by rfl) (by first | with_reducible exact Root.Le.refl _ | with_reducible exact le_dead | (first | exact le_row (Nat.le_refl _) (fun j hj => by obtain rfl : j = 0 := (by have : j < 1 := hj; omega); rfl) | exact le_var rfl) | exact byLeq) (by exact byCon) (LeAll.cons (by rfl) (by first | with_reducible exact Root.Le.refl _ | with_reducible exact le_dead | (first | exact le_row (Nat.le_refl _) (fun j hj => by obtain rfl : j = 0 := (by have : j < 1 := hj; omega); rfl) | exact le_var rfl) | exact byLeq) (by exact byCon) (LeAll.cons (by rfl) (by first | with_reducible exact Root.Le.refl _ | with_reducible exact le_dead | (first | exact le_row (Nat.le_refl _) (fun j hj => by obtain rfl : j = 0 := (by have : j < 1 := hj; omega); rfl) | exact le_var rfl) | exact byLeq) (by exact byCon) (LeAll.cons (by rfl) (by first | with_reducible exact Root.Le.refl _ | with_reducible exact le_dead | (first | exact le_row (Nat.le_refl _) (fun j hj => by obtain rfl : j = 0 := (by have : j < 1 := hj; omega); rfl) | exact le_var rfl) | exact byLeq) (by exact byCon) (trivial)))))) rfl rfl) (by exact bySlots)
          · refine ⟨_, _, _, rfl, by rfl, by rfl, .inl (MK.of tok (wm := false) (by rfl) (by exact byObl) (by rfl) (by exact byObl)), ?_⟩
            refine WA.allT [5, 8] (by kernel_rfl) (by simp) ?_; intro i' hi'; simp only [List.mem_cons, List.not_mem_nil, or_false] at hi'
            rcases hi' with rfl | rfl
            · refine ⟨_, _, _, rfl, by rfl, by rfl, .inl (MK.of tok (wm := false) (by rfl) (by exact byObl) (by rfl) (by exact byObl)), ?_⟩
              refine WA.allT [8] (by kernel_rfl) (by simp) ?_; intro i' hi'; simp only [List.mem_cons, List.not_mem_nil, or_false] at hi'
              subst hi'
              refine ⟨_, _, _, rfl, by rfl, by rfl, .inr ⟨by decide, TK.of tok (wm := false) (by rfl) (by exact byObl)⟩, ?_⟩
              refine WA.allT [9] (by kernel_rfl) (by simp) ?_; intro i' hi'; simp only [List.mem_cons, List.not_mem_nil, or_false] at hi'
              subst hi'
              refine ⟨_, _, _, rfl, by rfl, by rfl, .inr ⟨by decide, TK.of tok (wm := false) (by rfl) (by exact byObl)⟩, ?_⟩
              refine WA.allT [10] (by kernel_rfl) (by simp) ?_; intro i' hi'; simp only [List.mem_cons, List.not_mem_nil, or_false] at hi'
              subst hi'
              refine ⟨_, _, _, rfl, by rfl, by rfl, .inl (MK.q (evalOp_q tok (wm := false) (by rfl) (by rfl) (by exact byObl))), ?_⟩
              refine WA.end rfl (by kernel_rfl) (noPan ?_)
              exact Ghost.cut (Nat.le_refl _) (tauOf [0, 1, 3, 2, 4]) [(1, .sl 0 0 m 1), (2, .i .i64 (x : Int)), (3, .p 1 [] 0), (7, .p 2 [] 0), (8, .p 3 [] 0), (9, .sl 4 0 1 1)] [.ro m 1 (nmF gn), .var (ds_ N b w), .var (rwD fun _ _ => 0), .var (bl fun _ => false), .row 2 1 1 (numsF [gn 0])] (Taken.of [0, 1, 3, 2, 4] (LeAll.cons (by rfl) (by first | with_reducible exact Root.Le.refl _ | with_reducible exact le_dead | (first | exact le_row (Nat.le_refl _) (fun j hj => by obtain rfl : j = 0 := (by have : j < 1 := hj; omega); rfl) | exact le_var rfl) | exact byLeq) (by exact byCon) (LeAll.cons (by rfl) (by first | with_reducible exact Root.Le.refl _ | with_reducible exact le_dead | (first | exact le_row (Nat.le_refl _) (fun j hj => by obtain rfl : j = 0 := (by have : j < 1 := hj; omega); rfl) | exact le_var rfl) | exact byLeq) (by exact byCon) (LeAll.cons (by rfl) (by first | with_reducible exact Root.Le.refl _ | with_reducible exact le_dead | (first | exact le_row (Nat.le_refl _) (fun j hj => by obtain rfl : j = 0 := (by have : j < 1 := hj; omega); rfl) | exact le_var rfl) | exact byLeq) (by exact byCon) (LeAll.cons (by rfl) (by first | with_reducible exact Root.Le.refl _ | with_reducible exact le_dead | (first | exact le_row (Nat.le_refl _) (fun j hj => by obtain rfl : j = 0 := (by have : j < 1 := hj; omega); rfl) | exact le_var rfl) | exact byLeq) (by exact byCon) (LeAll.cons (by rfl) (by first | with_reducible exact Root.Le.refl _ | with_reducible exact le_dead | (first | exact le_row (Nat.le_refl _) (fun j hj => by obtain rfl : j = 0 := (by have : j < 1 := hj; omega); rfl) | exact le_var rfl) | exact byLeq) (by exact byCon) (trivial)))))) rfl rfl) (by exact bySlots)
            · refine ⟨_, _, _, rfl, by rfl, by rfl, .inr ⟨by decide, TK.of tok (wm := false) (by rfl) (by exact byObl)⟩, ?_⟩
              refine WA.allT [5, 9] (by kernel_rfl) (by simp) ?_; intro i' hi'; simp only [List.mem_cons, List.not_mem_nil, or_false] at hi'
              rcases hi' with rfl | rfl
              · refine ⟨_, _, _, rfl, by rfl, by rfl, .inl (MK.of tok (wm := false) (by rfl) (by exact byObl) (by rfl) (by exact byObl)), ?_⟩
                refine WA.allT [9] (by kernel_rfl) (by simp) ?_; intro i' hi'; simp only [List.mem_cons, List.not_mem_nil, or_false] at hi'
                subst hi'
                refine ⟨_, _, _, rfl, by rfl, by rfl, .inr ⟨by decide, TK.of tok (wm := false) (by rfl) (by exact byObl)⟩, ?_⟩
                refine WA.allT [10] (by kernel_rfl) (by simp) ?_; intro i' hi'; simp only [List.mem_cons, List.not_mem_nil, or_false] at hi'
                subst hi'
                refine ⟨_, _, _, rfl, by rfl, by rfl, .inl (MK.q (evalOp_q tok (wm := false) (by rfl) (by rfl) (by exact byObl))), ?_⟩
                refine WA.end rfl (by kernel_rfl) (noPan ?_)
                exact Ghost.cut (Nat.le_refl _) (tauOf [0, 1, 3, 2, 4]) [(1, .sl 0 0 m 1), (2, .i .i64 (x : Int)), (3, .p 1 [] 0), (7, .p 2 [] 0), (8, .p 3 [] 0), (9, .sl 4 0 1 1)] [.ro m 1 (nmF gn), .var (ds_ N b w), .var (rwD fun _ _ => 0), .var (bl fun _ => false), .row 2 1 1 (numsF [gn 0])] (Taken.of [0, 1, 3, 2, 4] (LeAll.cons (by rfl) (by first | with_reducible exact Root.Le.refl _ | with_reducible exact le_dead | (first | exact le_row (Nat.le_refl _) (fun j hj => by obtain rfl : j = 0 := (by have : j < 1 := hj; omega); rfl) | exact le_var rfl) | exact byLeq) (by exact byCon) (LeAll.cons (by rfl) (by first | with_reducible exact Root.Le.refl _ | with_reducible exact le_dead | (first | exact le_row (Nat.le_refl _) (fun j hj => by obtain rfl : j = 0 := (by have : j < 1 := hj; omega); rfl) | exact le_var rfl) | exact byLeq) (by exact byCon) (LeAll.cons (by rfl) (by first | with_reducible exact Root.Le.refl _ | with_reducible exact le_dead | (first | exact le_row (Nat.le_refl _) (fun j hj => by obtain rfl : j = 0 := (by have : j < 1 := hj; omega); rfl) | exact le_var rfl) | exact byLeq) (by exact byCon) (LeAll.cons (by rfl) (by first | with_reducible exact Root.Le.refl _ | with_reducible exact le_dead | (first | exact le_row (Nat.le_refl _) (fun j hj => by obtain rfl : j = 0 := (by have : j < 1 := hj; omega); rfl) | exact le_var rfl) | exact byLeq) (by exact byCon) (LeAll.cons (by rfl) (by first | with_reducible exact Root.Le.refl _ | with_reducible exact le_dead | (first | exact le_row (Nat.le_refl _) (fun j hj => by obtain rfl : j = 0 := (by have : j < 1 := hj; omega); rfl) | exact le_var rfl) | exact byLeq) (by exact byCon) (trivial)))))) rfl rfl) (by exact bySlots)
              · refine ⟨_, _, _, rfl, by rfl, by rfl, .inr ⟨by decide, TK.of tok (wm := false) (by rfl) (by exact byObl)⟩, ?_⟩
                refine WA.allT [5] (by kernel_rfl) (by simp) ?_; intro i' hi'; simp only [List.mem_cons, List.not_mem_nil, or_false] at hi'
                subst hi'
                refine ⟨_, _, _, rfl, by rfl, by rfl, .inl (MK.of tok (wm := false) (by rfl) (by exact byObl) (by rfl) (by exact byObl)), ?_⟩
                refine WA.allT [10] (by kernel_rfl) (by simp) ?_; intro i' hi'; simp only [List.mem_cons, List.not_mem_nil, or_false] at hi'
                subst hi'
                refine ⟨_, _, _, rfl, by rfl, by rfl, .inl (MK.q (evalOp_q tok (wm := false) (by rfl) (by rfl) (by exact byObl))), ?_⟩
                refine WA.end rfl (by kernel_rfl) (noPan ?_)
                exact Ghost.cut (Nat.le_refl _) (tauOf [0, 1, 3, 2, 4]) [(1, .sl 0 0 m 1), (2, .i .i64 (x : Int)), (3, .p 1 [] 0), (7, .p 2 [] 0), (8, .p 3 [] 0), (9, .sl 4 0 1 1)] [.ro m 1 (nmF gn), .var (ds_ N b w), .var (rwD fun _ _ => 0), .var (bl fun _ => false), .row 2 1 1 (numsF [gn 0])] (Taken.of [0, 1, 3, 2, 4] (LeAll.cons (by rfl) (by first | with_reducible exact Root.Le.refl _ | with_reducible exact le_dead | (first | exact le_row (Nat.le_refl _) (fun j hj => by obtain rfl : j = 0 := (by have : j < 1 := hj; omega); rfl) | exact le_var rfl) | exact byLeq) (by exact byCon) (LeAll.cons (by rfl) (by first | with_reducible exact Root.Le.refl _ | with_reducible exact le_dead | (first | exact le_row (Nat.le_refl _) (fun j hj => by obtain rfl : j = 0 := (by have : j < 1 := hj; omega); rfl) | exact le_var rfl) | exact byLeq) (by exact byCon) (LeAll.cons (by rfl) (by first | with_reducible exact Root.Le.refl _ | with_reducible exact le_dead | (first | exact le_row (Nat.le_refl _) (fun j hj => by obtain rfl : j = 0 := (by have : j < 1 := hj; omega); rfl) | exact le_var rfl) | exact byLeq) (by exact byCon) (LeAll.cons (by rfl) (by first | with_reducible exact Root.Le.refl _ | with_reducible exact le_dead | (first | exact le_row (Nat.le_refl _) (fun j hj => by obtain rfl : j = 0 := (by have : j < 1 := hj; omega); rfl) | exact le_var rfl) | exact byLeq) (by exact byCon) (LeAll.cons (by rfl) (by first | with_reducible exact Root.Le.refl _ | with_reducible exact le_dead | (first | exact le_row (Nat.le_refl _) (fun j hj => by obtain rfl : j = 0 := (by have : j < 1 := hj; omega); rfl) | exact le_var rfl) | exact byLeq) (by exact byCon) (trivial)))))) rfl rfl) (by exact bySlots)
      · refine ⟨_, _, _, rfl, by rfl, by rfl, .inl (MK.of tok (wm := false) (by rfl) (by exact byObl) (by rfl) (by exact byObl)), ?_⟩
        refine WA.allT [4, 7] (by kernel_rfl) (by simp) ?_; intro i' hi'; simp only [List.mem_cons, List.not_mem_nil, or_false] at hi'
        rcases hi' with rfl | rfl
        · refine ⟨_, _, _, rfl, by rfl, by rfl, .inl (MK.q (evalOp_q tok (wm := false) (by rfl) (by rfl) (by exact byObl))), ?_⟩
          refine WA.allT [5, 7] (by kernel_rfl) (by simp) ?_; intro i' hi'; simp only [List.mem_cons, List.not_mem_nil, or_false] at hi'
          rcases hi' with rfl | rfl
          · refine ⟨_, _, _, rfl, by rfl, by rfl, .inl (MK.of tok (wm := false) (by rfl) (by exact byObl) (by rfl) (by exact byObl)), ?_⟩
            refine WA.allT [7] (by kernel_rfl) (by simp) ?_; intro i' hi'; simp only [List.mem_cons, List.not_mem_nil, or_false] at hi'
            subst hi'
            refine ⟨_, _, _, rfl, by rfl, by rfl, .inl (MK.of tok (wm := false) (by rfl) (by exact byObl) (by rfl) (by exact byObl)), ?_⟩
            refine WA.allT [8] (by kernel_rfl) (by simp) ?_; intro i' hi'; simp only [List.mem_cons, List.not_mem_nil, or_false] at hi'
            subst hi'
            refine ⟨_, _, _, rfl, by rfl, by rfl, .inr ⟨by decide, TK.of tok (wm := false) (by rfl) (by exact byObl)⟩, ?_⟩
            refine WA.allT [9] (by kernel_rfl) (by simp) ?_; intro i' hi'; simp only [List.mem_cons, List.not_mem_nil, or_false] at hi'
            subst hi'
            refine ⟨_, _, _, rfl, by rfl, by rfl, .inr ⟨by decide, TK.of tok (wm := false) (by rfl) (by exact byObl)⟩, ?_⟩
            refine WA.allT [10] (by kernel_rfl) (by simp) ?_; intro i' hi'; simp only [List.mem_cons, List.not_mem_nil, or_false] at hi'
            subst hi'
            refine ⟨_, _, _, rfl, by rfl, by rfl, .inl (MK.q (evalOp_q tok (wm := false) (by rfl) (by rfl) (by exact byObl))), ?_⟩
            refine WA.end rfl (by kernel_rfl) (noPan ?_)
            exact Ghost.cut (Nat.le_refl _) (tauOf [0, 1, 2, 4, 3]) [(1, .sl 0 0 m 1), (2, .i .i64 (x : Int)), (3, .p 1 [] 0), (7, .p 2 [] 0), (8, .p 3 [] 0), (9, .sl 4 0 1 1)] [.ro m 1 (nmF gn), .var (ds_ N b w), .var (rwD fun _ _ => 0), .var (bl fun _ => false), .row 2 1 1 (numsF [gn 0])] (Taken.of [0, 1, 2, 4, 3] (LeAll.cons (by rfl) (by first | with_reducible exact Root.Le.refl _ | with_reducible exact le_dead | (first | exact le_row (Nat.le_refl _) (fun j hj => by obtain rfl : j = 0 := (by have : j < 1 := hj; omega); rfl) | exact le_var rfl) | exact byLeq) (by exact byCon) (LeAll.cons (by rfl) (by first | with_reducible exact Root.Le.refl _ | with_reducible exact le_dead | (first | exact le_row (Nat.le_refl _) (fun j hj => by obtain rfl : j = 0 := (by have : j < 1 := hj; omega); rfl) | exact le_var rfl) | exact byLeq) (by exact byCon) (LeAll.cons (by rfl) (by first | with_reducible exact Root.Le.refl _ | with_reducible exact le_dead | (first | exact le_row (Nat.le_refl _) (fun j hj => by obtain rfl : j = 0 := (by have : j < 1 := hj; omega); rfl) | exact le_var rfl) | exact byLeq) (by exact byCon) (LeAll.cons (by rfl) (by first | with_reducible exact Root.Le.refl _ | with_reducible exact le_dead | (first | exact le_row (Nat.le_refl _) (fun j hj => by obtain rfl : j = 0 := (by have : j < 1 := hj; omega); rfl) | exact le_var rfl) | exact byLeq) (by exact byCon) (LeAll.cons (by rfl) (by first | with_reducible exact Root.Le.refl _ | with_reducible exact le_dead | (first | exact le_row (Nat.le_refl _) (fun j hj => by obtain rfl : j = 0 := (by have : j < 1 := hj; omega); rfl) | exact le_var rfl) | exact byLeq) (by exact byCon) (trivial)))))) rfl rfl) (by exact bySlots)
          · refine ⟨_, _, _, rfl, by rfl, by rfl, .inl (MK.of tok (wm := false) (by rfl) (by exact byObl) (by rfl) (by exact byObl)), ?_⟩
            refine WA.allT [5, 8] (by kernel_rfl) (by simp) ?_; intro i' hi'; simp only [List.mem_cons, List.not_mem_nil, or_false] at hi'
            rcases hi' with rfl | rfl
            · refine ⟨_, _, _, rfl, by rfl, by rfl, .inl (MK.of tok (wm := false) (by rfl) (by exact byObl) (by rfl) (by exact byObl)), ?_⟩
              refine WA.allT [8] (by kernel_rfl) (by simp) ?_; intro i' hi'; simp only [List.mem_cons, List.not_mem_nil, or_false] at hi'
              subst hi'
              refine ⟨_, _, _, rfl, by rfl, by rfl, .inr ⟨by decide, TK.of tok (wm := false) (by rfl) (by exact byObl)⟩, ?_⟩
              refine WA.allT [9] (by kernel_rfl) (by simp) ?_; intro i' hi'; simp only [List.mem_cons, List.not_mem_nil, or_false] at hi'
              subst hi'
              refine ⟨_, _, _, rfl, by rfl, by rfl, .inr ⟨by decide, TK.of tok (wm := false) (by rfl) (by exact byObl)⟩, ?_⟩
              refine WA.allT [10] (by kernel_rfl) (by simp) ?_; intro i' hi'; simp only [List.mem_cons, List.not_mem_nil, or_false] at hi'
              subst hi'
              refine ⟨_, _, _, rfl, by rfl, by rfl, .inl (MK.q (evalOp_q tok (wm := false) (by rfl) (by rfl) (by exact byObl))), ?_⟩
              refine WA.end rfl (by kernel_rfl) (noPan ?_)
              exact Ghost.cut (Nat.le_refl _) (tauOf [0, 1, 2, 3, 4]) [(1, .sl 0 0 m 1), (2, .i .i64 (x : Int)), (3, .p 1 [] 0), (7, .p 2 [] 0), (8, .p 3 [] 0), (9, .sl 4 0 1 1)] [.ro m 1 (nmF gn), .var (ds_ N b w), .var (rwD fun _ _ => 0), .var (bl fun _ => false), .row 2 1 1 (numsF [gn 0])] (Taken.of [0, 1, 2, 3, 4] (LeAll.cons (by rfl) (by first | with_reducible exact Root.Le.refl _ | with_reducible exact le_dead | (first | exact le_row (Nat.le_refl _) (fun j hj => by obtain rfl : j = 0 := (by have : j < 1 := hj; omega); rfl) | exact le_var rfl) | exact byLeq) (by exact byCon) (LeAll.cons (by rfl) (by first | with_reducible exact Root.Le.refl _ | with_reducible exact le_dead | (first | exact le_row (Nat.le_refl _) (fun j hj => by obtain rfl : j = 0 := (by have : j < 1 := hj; omega); rfl) | exact le_var rfl) | exact byLeq) (by exact byCon) (LeAll.cons (by rfl) (by first | with_reducible exact Root.Le.refl _ | with_reducible exact le_dead | (first | exact le_row (Nat.le_refl _) (fun j hj => by obtain rfl : j = 0 := (by have : j < 1 := hj; omega); rfl) | exact le_var rfl) | exact byLeq) (by exact byCon) (LeAll.cons (by rfl) (by first | with_reducible exact Root.Le.refl _ | with_reducible exact le_dead | (first | exact le_row (Nat.le_refl _) (fun j hj => by obtain rfl : j = 0 := (by have : j < 1 := hj; omega); rfl) | exact le_var rfl) | exact byLeq) (by exact byCon) (LeAll.cons (by rfl) (by first | with_reducible exact Root.Le.refl _ | with_reducible exact le_dead | (first | exact le_row (Nat.le_refl _) (fun j hj => by obtain rfl : j = 0 := (by have : j < 1 := hj; omega); rfl) | exact le_var rfl) | exact byLeq) (by exact byCon) (trivial)))))) rfl rfl) (by exact bySlots)
            · refine ⟨_, _, _, rfl, by rfl, by rfl, .inr ⟨by decide, TK.of tok (wm := false) (by rfl) (by exact byObl)⟩, ?_⟩
              refine WA.allT [5, 9] (by kernel_rfl) (by simp) ?_; intro i' hi'; simp only [List.mem_cons, List.not_mem_nil, or_false] at hi'
              rcases hi' with rfl | rfl
              · refine ⟨_, _, _, rfl, by rfl, by rfl, .inl (MK.of tok (wm := false) (by rfl) (by exact byObl) (by rfl) (by exact byObl)), ?_⟩
                refine WA.allT [9] (by kernel_rfl) (by simp) ?_; intro i' hi'; simp only [List.mem_cons, List.not_mem_nil, or_false] at hi'
                subst hi'
                refine ⟨_, _, _, rfl, by rfl, by rfl, .inr ⟨by decide, TK.of tok (wm := false) (by rfl) (by exact byObl)⟩, ?_⟩
                refine WA.allT [10] (by kernel_rfl) (by simp) ?_; intro i' hi'; simp only [List.mem_cons, List.not_mem_nil, or_false] at hi'
                subst hi'
                refine ⟨_, _, _, rfl, by rfl, by rfl, .inl (MK.q (evalOp_q tok (wm := false) (by rfl) (by rfl) (by exact byObl))), ?_⟩
                refine WA.end rfl (by kernel_rfl) (noPan ?_)
                exact Ghost.cut (Nat.le_refl _) (tauOf [0, 1, 2, 3, 4]) [(1, .sl 0 0 m 1), (2, .i .i64 (x : Int)), (3, .p 1 [] 0), (7, .p 2 [] 0), (8, .p 3 [] 0), (9, .sl 4 0 1 1)] [.ro m 1 (nmF gn), .var (ds_ N b w), .var (rwD fun _ _ => 0), .var (bl fun _ => false), .row 2 1 1 (numsF [gn 0])] (Taken.of [0, 1, 2, 3, 4] (LeAll.cons (by rfl) (by first | with_reducible exact Root.Le.refl _ | with_reducible exact le_dead | (first | exact le_row (Nat.le_refl _) (fun j hj => by obtain rfl : j = 0 := (by have : j < 1 := hj; omega); rfl) | exact le_var rfl) | exact byLeq) (by exact byCon) (LeAll.cons (by rfl) (by first | with_reducible exact Root.Le.refl _ | with_reducible exact le_dead | (first | exact le_row (Nat.le_refl _) (fun j hj => by obtain rfl : j = 0 := (by have : j < 1 := hj; omega); rfl) | exact le_var rfl) | exact byLeq) (by exact byCon) (LeAll.cons (by rfl) (by first | with_reducible exact Root.Le.refl _ | with_reducible exact le_dead | (first | exact le_row (Nat.le_refl _) (fun j hj => by obtain rfl : j = 0 := (by have : j < 1 := hj; omega); rfl) | exact le_var rfl) | exact byLeq) (by exact byCon) (LeAll.cons (by rfl) (by first | with_reducible exact Root.Le.refl _ | with_reducible exact le_dead | (first | exact le_row (Nat.le_refl _) (fun j hj => by obtain rfl : j = 0 := (by have : j < 1 := hj; omega); rfl) | exact le_var rfl) | exact byLeq) (by exact byCon) (LeAll.cons (by rfl) (by first | with_reducible exact Root.Le.refl _ | with_reducible exact le_dead | (first | exact le_row (Nat.le_refl _) (fun j hj => by obtain rfl : j = 0 := (by have : j < 1 := hj; omega); rfl) | exact le_var rfl) | exact byLeq) (by exact byCon) (trivial)))))) rfl rfl) (by exact bySlots)
              · refine ⟨_, _, _, rfl, by rfl, by rfl, .inr ⟨by decide, TK.of tok (wm := false) (by rfl) (by exact byObl)⟩, ?_⟩
                refine WA.allT [5] (by kernel_rfl) (by simp) ?_; intro i' hi'; simp only [List.mem_cons, List.not_mem_nil, or_false] at hi'
                subst hi'
                refine ⟨_, _, _, rfl, by rfl, by rfl, .inl (MK.of tok (wm := false) (by rfl) (by exact byObl) (by rfl) (by exact byObl)), ?_⟩
                refine WA.allT [10] (by kernel_rfl) (by simp) ?_; intro i' hi'; simp only [List.mem_cons, List.not_mem_nil, or_false] at hi'
                subst hi'
                refine ⟨_, _, _, rfl, by rfl, by rfl, .inl (MK.q (evalOp_q tok (wm := false) (by rfl) (by rfl) (by exact byObl))), ?_⟩
                refine WA.end rfl (by kernel_rfl) (noPan ?_)
                exact Ghost.cut (Nat.le_refl _) (tauOf [0, 1, 2, 3, 4]) [(1, .sl 0 0 m 1), (2, .i .i64 (x : Int)), (3, .p 1 [] 0), (7, .p 2 [] 0), (8, .p 3 [] 0), (9, .sl 4 0 1 1)] [.ro m 1 (nmF gn), .var (ds_ N b w), .var (rwD fun _ _ => 0), .var (bl fun _ => false), .row 2 1 1 (numsF [gn 0])] (Taken.of [0, 1, 2, 3, 4] (LeAll.cons (by rfl) (by first | with_reducible exact Root.Le.refl _ | with_reducible exact le_dead | (first | exact le_row (Nat.le_refl _) (fun j hj => by obtain rfl : j = 0 := (by have : j < 1 := hj; omega); rfl) | exact le_var rfl) | exact byLeq) (by exact byCon) (LeAll.cons (by rfl) (by first | with_reducible exact Root.Le.refl _ | with_reducible exact le_dead | (first | exact le_row (Nat.le_refl _) (fun j hj => by obtain rfl : j = 0 := (by have : j < 1 := hj; omega); rfl) | exact le_var rfl) | exact byLeq) (by exact byCon) (LeAll.cons (by rfl) (by first | with_reducible exact Root.Le.refl _ | with_reducible exact le_dead | (first | exact le_row (Nat.le_refl _) (fun j hj => by obtain rfl : j = 0 := (by have : j < 1 := hj; omega); rfl) | exact le_var rfl) | exact byLeq) (by exact byCon) (LeAll.cons (by rfl) (by first | with_reducible exact Root.Le.refl _ | with_reducible exact le_dead | (first | exact le_row (Nat.le_refl _) (fun j hj => by obtain rfl : j = 0 := (by have : j < 1 := hj; omega); rfl) | exact le_var rfl) | exact byLeq) (by exact byCon) (LeAll.cons (by rfl) (by first | with_reducible exact Root.Le.refl _ | with_reducible exact le_dead | (first | exact le_row (Nat.le_refl _) (fun j hj => by obtain rfl : j = 0 := (by have : j < 1 := hj; omega); rfl) | exact le_var rfl) | exact byLeq) (by exact byCon) (trivial)))))) rfl rfl) (by exact bySlots)
        · refine ⟨_, _, _, rfl, by rfl, by rfl, .inl (MK.of tok (wm := false) (by rfl) (by exact byObl) (by rfl) (by exact byObl)), ?_⟩
          refine WA.allT [4, 8] (by kernel_rfl) (by simp) ?_; intro i' hi'; simp only [List.mem_cons, List.not_mem_nil, or_false] at hi'
          rcases hi' with rfl | rfl
          · refine ⟨_, _, _, rfl, by rfl, by rfl, .inl (MK.q (evalOp_q tok (wm := false) (by rfl) (by rfl) (by exact byObl))), ?_⟩
            refine WA.allT [5, 8] (by kernel_rfl) (by simp) ?_; intro i' hi'; simp only [List.mem_cons, List.not_mem_nil, or_false] at hi'
            rcases hi' with rfl | rfl
            · refine ⟨_, _, _, rfl, by rfl, by rfl, .inl (MK.of tok (wm := false) (by rfl) (by exact byObl) (by rfl) (by exact byObl)), ?_⟩
              refine WA.allT [8] (by kernel_rfl) (by simp) ?_; intro i' hi'; simp only [List.mem_cons, List.not_mem_nil, or_false] at hi'
              subst hi'
              refine ⟨_, _, _, rfl, by rfl, by rfl, .inr ⟨by decide, TK.of tok (wm := false) (by rfl) (by exact byObl)⟩, ?_⟩
              refine WA.allT [9] (by kernel_rfl) (by simp) ?_; intro i' hi'; simp only [List.mem_cons, List.not_mem_nil, or_false] at hi'
              subst hi'
              refine ⟨_, _, _, rfl, by rfl, by rfl, .inr ⟨by decide, TK.of tok (wm := false) (by rfl) (by exact byObl)⟩, ?_⟩
              refine WA.allT [10] (by kernel_rfl) (by simp) ?_; intro i' hi'; simp only [List.mem_cons, List.not_mem_nil, or_false] at hi'
              subst hi'
              refine ⟨_, _, _, rfl, by rfl, by rfl, .inl (MK.q (evalOp_q tok (wm := false) (by rfl) (by rfl) (by exact byObl))), ?_⟩
              refine WA.end rfl (by kernel_rfl) (noPan ?_)
              exact Ghost.cut (Nat.le_refl _) (tauOf [0, 1, 2, 3, 4]) [(1, .sl 0 0 m 1), (2, .i .i64 (x : Int)), (3, .p 1 [] 0), (7, .p 2 [] 0), (8, .p 3 [] 0), (9, .sl 4 0 1 1)] [.ro m 1 (nmF gn), .var (ds_ N b w), .var (rwD fun _ _ => 0), .var (bl fun _ => false), .row 2 1 1 (numsF [gn 0])] (Taken.of [0, 1, 2, 3, 4] (LeAll.cons (by rfl) (by first | with_reducible exact Root.Le.refl _ | with_reducible exact le_dead | (first | exact le_row (Nat.le_refl _) (fun j hj => by obtain rfl : j = 0 := (by have : j < 1 := hj; omega); rfl) | exact le_var rfl) | exact byLeq) (by exact byCon) (LeAll.cons (by rfl) (by first | with_reducible exact Root.Le.refl _ | with_reducible exact le_dead | (first | exact le_row (Nat.le_refl _) (fun j hj => by obtain rfl : j = 0 := (by have : j < 1 := hj; omega); rfl) | exact le_var rfl) | exact byLeq) (by exact byCon) (LeAll.cons (by rfl) (by first | with_reducible exact Root.Le.refl _ | with_reducible exact le_dead | (first | exact le_row (Nat.le_refl _) (fun j hj => by obtain rfl : j = 0 := (by have : j < 1 := hj; omega); rfl) | exact le_var rfl) | exact byLeq) (by exact byCon) (LeAll.cons (by rfl) (by first | with_reducible exact Root.Le.refl _ | with_reducible exact le_dead | (first | exact le_row (Nat.le_refl _) (fun j hj => by obtain rfl : j = 0 := (by have : j < 1 := hj; omega); rfl) | exact le_var rfl) | exact byLeq) (by exact byCon) (LeAll.cons (by rfl) (by first | with_reducible exact Root.Le.refl _ | with_reducible exact le_dead | (first | exact le_row (Nat.le_refl _) (fun j hj => by obtain rfl : j = 0 := (by have : j < 1 := hj; omega); rfl) | exact le_var rfl) | exact byLeq) (by exact byCon) (trivial)))))) rfl rfl) (by exact bySlots)
            · refine ⟨_, _, _, rfl, by rfl, by rfl, .inr ⟨by decide, TK.of tok (wm := false) (by rfl) (by exact byObl)⟩, ?_⟩
              refine WA.allT [5, 9] (by kernel_rfl) (by simp) ?_; intro i' hi'; simp only [List.mem_cons, List.not_mem_nil, or_false] at hi'
              rcases hi' with rfl | rfl
              · refine ⟨_, _, _, rfl, by rfl, by rfl, .inl (MK.of tok (wm := false) (by rfl) (by exact byObl) (by rfl) (by exact byObl)), ?_⟩
                refine WA.allT [9] (by kernel_rfl) (by simp) ?_; intro i' hi'; simp only [List.mem_cons, List.not_mem_nil, or_false] at hi'
                subst hi'
                refine ⟨_, _, _, rfl, by rfl, by rfl, .inr ⟨by decide, TK.of tok (wm := false) (by rfl) (by exact byObl)⟩, ?_⟩
                refine WA.allT [10] (by kernel_rfl) (by simp) ?_; intro i' hi'; simp only [List.mem_cons, List.not_mem_nil, or_false] at hi'
                subst hi'
                refine ⟨_, _, _, rfl, by rfl, by rfl, .inl (MK.q (evalOp_q tok (wm := false) (by rfl) (by rfl) (by exact byObl))), ?_⟩
                refine WA.end rfl (by kernel_rfl) (noPan ?_)
                exact Ghost.cut (Nat.le_refl _) (tauOf [0, 1, 2, 3, 4]) [(1, .sl 0 0 m 1), (2, .i .i64 (x : Int)), (3, .p 1 [] 0), (7, .p 2 [] 0), (8, .p 3 [] 0), (9, .sl 4 0 1 1)] [.ro m 1 (nmF gn), .var (ds_ N b w), .var (rwD fun _ _ => 0), .var (bl fun _ => false), .row 2 1 1 (numsF [gn 0])] (Taken.of [0, 1, 2, 3, 4] (LeAll.cons (by rfl) (by first | with_reducible exact Root.Le.refl _ | with_reducible exact le_dead | (first | exact le_row (Nat.le_refl _) (fun j hj => by obtain rfl : j = 0 := (by have : j < 1 := hj; omega); rfl) | exact le_var rfl) | exact byLeq) (by exact byCon) (LeAll.cons (by rfl) (by first | with_reducible exact Root.Le.refl _ | with_reducible exact le_dead | (first | exact le_row (Nat.le_refl _) (fun j hj => by obtain rfl : j = 0 := (by have : j < 1 := hj; omega); rfl) | exact le_var rfl) | exact byLeq) (by exact byCon) (LeAll.cons (by rfl) (by first | with_reducible exact Root.Le.refl _ | with_reducible exact le_dead | (first | exact le_row (Nat.le_refl _) (fun j hj => by obtain rfl : j = 0 := (by have : j < 1 := hj; omega); rfl) | exact le_var rfl) | exact byLeq) (by exact byCon) (LeAll.cons (by rfl) (by first | with_reducible exact Root.Le.refl _ | with_reducible exact le_dead | (first | exact le_row (Nat.le_refl _) (fun j hj => by obtain rfl : j = 0 := (by have : j < 1 := hj; omega); rfl) | exact le_var rfl) | exact byLeq) (by exact byCon) (LeAll.cons (by rfl) (by first | with_reducible exact Root.Le.refl _ | with_reducible exact le_dead | (first | exact le_row (Nat.le_refl _) (fun j hj => by obtain rfl : j = 0 := (by have : j < 1 := hj; omega); rfl) | exact le_var rfl) | exact byLeq) (by exact byCon) (trivial)))))) rfl rfl) (by exact bySlots)
              · refine ⟨_, _, _, rfl, by rfl, by rfl, .inr ⟨by decide, TK.of tok (wm := false) (by rfl) (by exact byObl)⟩, ?_⟩
                refine WA.allT [5] (by kernel_rfl) (by simp) ?_; intro i' hi'; simp only [List.mem_cons, List.not_mem_nil, or_false] at hi'
                subst hi'
                refine ⟨_, _, _, rfl, by rfl, by rfl, .inl (MK.of tok (wm := false) (by rfl) (by exact byObl) (by rfl) (by exact byObl)), ?_⟩
                refine WA.allT [10] (by kernel_rfl) (by simp) ?_; intro i' hi'; simp only [List.mem_cons, List.not_mem_nil, or_false] at hi'
                subst hi'
                refine ⟨_, _, _, rfl, by rfl, by rfl, .inl (MK.q (evalOp_q tok (wm := false) (by rfl) (by rfl) (by exact byObl))), ?_⟩
                refine WA.end rfl (by kernel_rfl) (noPan ?_)
                exact Ghost.cut (Nat.le_refl _) (tauOf [0, 1, 2, 3, 4]) [(1, .sl 0 0 m 1), (2, .i .i64 (x : Int)), (3, .p 1 [] 0), (7, .p 2 [] 0), (8, .p 3 [] 0), (9, .sl 4 0 1 1)] [.ro m 1 (nmF gn), .var (ds_ N b w), .var (rwD fun _ _ => 0), .var (bl fun _ => false), .row 2 1 1 (numsF [gn 0])] (Taken.of [0, 1, 2, 3, 4] (LeAll.cons (by rfl) (by first | with_reducible exact Root.Le.refl _ | with_reducible exact le_dead | (first | exact le_row (Nat.le_refl _) (fun j hj => by obtain rfl : j = 0 := (by have : j < 1 := hj; omega); rfl) | exact le_var rfl) | exact byLeq) (by exact byCon) (LeAll.cons (by rfl) (by first | with_reducible exact Root.Le.refl _ | with_reducible exact le_dead | (first | exact le_row (Nat.le_refl _) (fun j hj => by obtain rfl : j = 0 := (by have : j < 1 := hj; omega); rfl) | exact le_var rfl) | exact byLeq) (by exact byCon) (LeAll.cons (by rfl) (by first | with_reducible exact Root.Le.refl _ | with_reducible exact le_dead | (first | exact le_row (Nat.le_refl _) (fun j hj => by obtain rfl : j = 0 := (by have : j < 1 := hj; omega); rfl) | exact le_var rfl) | exact byLeq) (by exact byCon) (LeAll.cons (by rfl) (by first | with_reducible exact Root.Le.refl _ | with_reducible exact le_dead | (first | exact le_row (Nat.le_refl _) (fun j hj => by obtain rfl : j = 0 := (by have : j < 1 := hj; omega); rfl) | exact le_var rfl) | exact byLeq) (by exact byCon) (LeAll.cons (by rfl) (by first | with_reducible exact Root.Le.refl _ | with_reducible exact le_dead | (first | exact le_row (Nat.le_refl _) (fun j hj => by obtain rfl : j = 0 := (by have : j < 1 := hj; omega); rfl) | exact le_var rfl) | exact byLeq) (by exact byCon) (trivial)))))) rfl rfl) (by exact bySlots)
          · refine ⟨_, _, _, rfl, by rfl, by rfl, .inr ⟨by decide, TK.of tok (wm := false) (by rfl) (by exact byObl)⟩, ?_⟩
            refine WA.allT [4, 9] (by kernel_rfl) (by simp) ?_; intro i' hi'; simp only [List.mem_cons, List.not_mem_nil, or_false] at hi'
            rcases hi' with rfl | rfl
            · refine ⟨_, _, _, rfl, by rfl, by rfl, .inl (MK.q (evalOp_q tok (wm := false) (by rfl) (by rfl) (by exact byObl))), ?_⟩
              refine WA.allT [5, 9] (by kernel_rfl) (by simp) ?_; intro i' hi'; simp only [List.mem_cons, List.not_mem_nil, or_false] at hi'
              rcases hi' with rfl | rfl
              · refine ⟨_, _, _, rfl, by rfl, by rfl, .inl (MK.of tok (wm := false) (by rfl) (by exact byObl) (by rfl) (by exact byObl)), ?_⟩
                refine WA.allT [9] (by kernel_rfl) (by simp) ?_; intro i' hi'; simp only [List.mem_cons, List.not_mem_nil, or_false] at hi'
                subst hi'
                refine ⟨_, _, _, rfl, by rfl, by rfl, .inr ⟨by decide, TK.of tok (wm := false) (by rfl) (by exact byObl)⟩, ?_⟩
                refine WA.allT [10] (by kernel_rfl) (by simp) ?_; intro i' hi'; simp only [List.mem_cons, List.not_mem_nil, or_false] at hi'
                subst hi'
                refine ⟨_, _, _, rfl, by rfl, by rfl, .inl (MK.q (evalOp_q tok (wm := false) (by rfl) (by rfl) (by exact byObl))), ?_⟩
                refine WA.end rfl (by kernel_rfl) (noPan ?_)
                exact Ghost.cut (Nat.le_refl _) (tauOf [0, 1, 2, 3, 4]) [(1, .sl 0 0 m 1), (2, .i .i64 (x : Int)), (3, .p 1 [] 0), (7, .p 2 [] 0), (8, .p 3 [] 0), (9, .sl 4 0 1 1)] [.ro m 1 (nmF gn), .var (ds_ N b w), .var (rwD fun _ _ => 0), .var (bl fun _ => false), .row 2 1 1 (numsF [gn 0])] (Taken.of [0, 1, 2, 3, 4] (LeAll.cons (by rfl) (by first | with_reducible exact Root.Le.refl _ | with_reducible exact le_dead | (first | exact le_row (Nat.le_refl _) (fun j hj => by obtain rfl : j = 0 := (by have : j < 1 := hj; omega); rfl) | exact le_var rfl) | exact byLeq) (by exact byCon) (LeAll.cons (by rfl) (by first | with_reducible exact Root.Le.refl _ | with_reducible exact le_dead | (first | exact le_row (Nat.le_refl _) (fun j hj => by obtain rfl : j = 0 := (by have : j < 1 := hj; omega); rfl) | exact le_var rfl) | exact byLeq) (by exact byCon) (LeAll.cons (by rfl) (by first | with_reducible exact Root.Le.refl _ | with_reducible exact le_dead | (first | exact le_row (Nat.le_refl _) (fun j hj => by obtain rfl : j = 0 := (by have : j < 1 := hj; omega); rfl) | exact le_var rfl) | exact byLeq) (by exact byCon) (LeAll.cons (by rfl) (by first | with_reducible exact Root.Le.refl _ | with_reducible exact le_dead | (first | exact le_row (Nat.le_refl _) (fun j hj => by obtain rfl : j = 0 := (by have : j < 1 := hj; omega); rfl) | exact le_var rfl) | exact byLeq) (by exact byCon) (LeAll.cons (by rfl) (by first | with_reducible exact Root.Le.refl _ | with_reducible exact le_dead | (first | exact le_row (Nat.le_refl _) (fun j hj => by obtain rfl : j = 0 := (by have : j < 1 := hj; omega); rfl) | exact le_var rfl) | exact byLeq) (by exact byCon) (trivial)))))) rfl rfl) (by exact bySlots)
              · refine ⟨_, _, _, rfl, by rfl, by rfl, .inr ⟨by decide, TK.of tok (wm := false) (by rfl) (by exact byObl)⟩, ?_⟩
                refine WA.allT [5] (by kernel_rfl) (by simp) ?_; intro i' hi'; simp only [List.mem_cons, List.not_mem_nil, or_false] at hi'
                subst hi'
                refine ⟨_, _, _, rfl, by rfl, by rfl, .inl (MK.of tok (wm := false) (by rfl) (by exact byObl) (by rfl) (by exact byObl)), ?_⟩
                refine WA.allT [10] (by kernel_rfl) (by simp) ?_; intro i' hi'; simp only [List.mem_cons, List.not_mem_nil, or_false] at hi'
                subst hi'
                refine ⟨_, _, _, rfl, by rfl, by rfl, .inl (MK.q (evalOp_q tok (wm := false) (by rfl) (by rfl) (by exact byObl))), ?_⟩
                refine WA.end rfl (by kernel_rfl) (noPan ?_)
                exact Ghost.cut (Nat.le_refl _) (tauOf [0, 1, 2, 3, 4]) [(1, .sl 0 0 m 1), (2, .i .i64 (x : Int)), (3, .p 1 [] 0), (7, .p 2 [] 0), (8, .p 3 [] 0), (9, .sl 4 0 1 1)] [.ro m 1 (nmF gn), .var (ds_ N b w), .var (rwD fun _ _ => 0), .var (bl fun _ => false), .row 2 1 1 (numsF [gn 0])] (Taken.of [0, 1, 2, 3, 4] (LeAll.cons (by rfl) (by first | with_reducible exact Root.Le.refl _ | with_reducible exact le_dead | (first | exact le_row (Nat.le_refl _) (fun j hj => by obtain rfl : j = 0 := (by have : j < 1 := hj; omega); rfl) | exact le_var rfl) | exact byLeq) (by exact byCon) (LeAll.cons (by rfl) (by first | with_reducible exact Root.Le.refl _ | with_reducible exact le_dead | (first | exact le_row (Nat.le_refl _) (fun j hj => by obtain rfl : j = 0 := (by have : j < 1 := hj; omega); rfl) | exact le_var rfl) | exact byLeq) (by exact byCon) (LeAll.cons (by rfl) (by first | with_reducible exact Root.Le.refl _ | with_reducible exact le_dead | (first | exact le_row (Nat.le_refl _) (fun j hj => by obtain rfl : j = 0 := (by have : j < 1 := hj; omega); rfl) | exact le_var rfl) | exact byLeq) (by exact byCon) (LeAll.cons (by rfl) (by first | with_reducible exact Root.Le.refl _ | with_reducible exact le_dead | (first | exact le_row (Nat.le_refl _) (fun j hj => by obtain rfl : j = 0 := (by have : j < 1 := hj; omega); rfl) | exact le_var rfl) | exact byLeq) (by exact byCon) (LeAll.cons (by rfl) (by first | with_reducible exact Root.Le.refl _ | with_reducible exact le_dead | (first | exact le_row (Nat.le_refl _) (fun j hj => by obtain rfl : j = 0 := (by have : j < 1 := hj; omega); rfl) | exact le_var rfl) | exact byLeq) (by exact byCon) (trivial)))))) rfl rfl) (by exact bySlots)
            · refine ⟨_, _, _, rfl, by rfl, by rfl, .inr ⟨by decide, TK.of tok (wm := false) (by rfl) (by exact byObl)⟩, ?_⟩
              refine WA.allT [4] (by kernel_rfl) (by simp) ?_; intro i' hi'; simp only [List.mem_cons, List.not_mem_nil, or_false] at hi'
              subst hi'
              refine ⟨_, _, _, rfl, by rfl, by rfl, .inl (MK.q (evalOp_q tok (wm := false) (by rfl) (by rfl) (by exact byObl))), ?_⟩
              refine WA.allT [5] (by kernel_rfl) (by simp) ?_; intro i' hi'; simp only [List.mem_cons, List.not_mem_nil, or_false] at hi'
              subst hi'
              refine ⟨_, _, _, rfl, by rfl, by rfl, .inl (MK.of tok (wm := false) (by rfl) (by exact byObl) (by rfl) (by exact byObl)), ?_⟩
              refine WA.allT [10] (by kernel_rfl) (by simp) ?_; intro i' hi'; simp only [List.mem_cons, List.not_mem_nil, or_false] at hi'
              subst hi'
              refine ⟨_, _, _, rfl, by rfl, by rfl, .inl (MK.q (evalOp_q tok (wm := false) (by rfl) (by rfl) (by exact byObl))), ?_⟩
              refine WA.end rfl (by kernel_rfl) (noPan ?_)
              exact Ghost.cut (Nat.le_refl _) (tauOf [0, 1, 2, 3, 4]) [(1, .sl 0 0 m 1), (2, .i .i64 (x : Int)), (3, .p 1 [] 0), (7, .p 2 [] 0), (8, .p 3 [] 0), (9, .sl 4 0 1 1)] [.ro m 1 (nmF gn), .var (ds_ N b w), .var (rwD fun _ _ => 0), .var (bl fun _ => false), .row 2 1 1 (numsF [gn 0])] (Taken.of [0, 1, 2, 3, 4] (LeAll.cons (by rfl) (by first | with_reducible exact Root.Le.refl _ | with_reducible exact le_dead | (first | exact le_row (Nat.le_refl _) (fun j hj => by obtain rfl : j = 0 := (by have : j < 1 := hj; omega); rfl) | exact le_var rfl) | exact byLeq) (by exact byCon) (LeAll.cons (by rfl) (by first | with_reducible exact Root.Le.refl _ | with_reducible exact le_dead | (first | exact le_row (Nat.le_refl _) (fun j hj => by obtain rfl : j = 0 := (by have : j < 1 := hj; omega); rfl) | exact le_var rfl) | exact byLeq) (by exact byCon) (LeAll.cons (by rfl) (by first | with_reducible exact Root.Le.refl _ | with_reducible exact le_dead | (first | exact le_row (Nat.le_refl _) (fun j hj => by obtain rfl : j = 0 := (by have : j < 1 := hj; omega); rfl) | exact le_var rfl) | exact byLeq) (by exact byCon) (LeAll.cons (by rfl) (by first | with_reducible exact Root.Le.refl _ | with_reducible exact le_dead | (first | exact le_row (Nat.le_refl _) (fun j hj => by obtain rfl : j = 0 := (by have : j < 1 := hj; omega); rfl) | exact le_var rfl) | exact byLeq) (by exact byCon) (LeAll.cons (by rfl) (by first | with_reducible exact Root.Le.refl _ | with_reducible exact le_dead | (first | exact le_row (Nat.le_refl _) (fun j hj => by obtain rfl : j = 0 := (by have : j < 1 := hj; omega); rfl) | exact le_var rfl) | exact byLeq) (by exact byCon) (trivial)))))) rfl rfl) (by exact bySlots)
      · refine ⟨_, _, _, rfl, by rfl, by rfl, .inl (MK.of tok (wm := false) (by rfl) (by exact byObl) (by rfl) (by exact byObl)), ?_⟩
        refine WA.allT [4, 6] (by kernel_rfl) (by simp) ?_; intro i' hi'; simp only [List.mem_cons, List.not_mem_nil, or_false] at hi'
        rcases hi' with rfl | rfl
        · refine ⟨_, _, _, rfl, by rfl, by rfl, .inl (MK.q (evalOp_q tok (wm := false) (by rfl) (by rfl) (by exact byObl))), ?_⟩
          refine WA.allT [5, 6] (by kernel_rfl) (by simp) ?_; intro i' hi'; simp only [List.mem_cons, List.not_mem_nil, or_false] at hi'
          rcases hi' with rfl | rfl
          · refine ⟨_, _, _, rfl, by rfl, by rfl, .inl (MK.of tok (wm := false) (by rfl) (by exact byObl) (by rfl) (by exact byObl)), ?_⟩
            refine WA.allT [6] (by kernel_rfl) (by simp) ?_; intro i' hi'; simp only [List.mem_cons, List.not_mem_nil, or_false] at hi'
            subst hi'
            refine ⟨_, _, _, rfl, by rfl, by rfl, .inl (MK.of tok (wm := false) (by rfl) (by exact byObl) (by rfl) (by exact byObl)), ?_⟩
            refine WA.allT [8] (by kernel_rfl) (by simp) ?_; intro i' hi'; simp only [List.mem_cons, List.not_mem_nil, or_false] at hi'
            subst hi'
            refine ⟨_, _, _, rfl, by rfl, by rfl, .inr ⟨by decide, TK.of tok (wm := false) (by rfl) (by exact byObl)⟩, ?_⟩
            refine WA.allT [9] (by kernel_rfl) (by simp) ?_; intro i' hi'; simp only [List.mem_cons, List.not_mem_nil, or_false] at hi'
            subst hi'
            refine ⟨_, _, _, rfl, by rfl, by rfl, .inr ⟨by decide, TK.of tok (wm := false) (by rfl) (by exact byObl)⟩, ?_⟩
            refine WA.allT [10] (by kernel_rfl) (by simp) ?_; intro i' hi'; simp only [List.mem_cons, List.not_mem_nil, or_false] at hi'
            subst hi'
            refine ⟨_, _, _, rfl, by rfl, by rfl, .inl (MK.q (evalOp_q tok (wm := false) (by rfl) (by rfl) (by exact byObl))), ?_⟩
            refine WA.end rfl (by kernel_rfl) (noPan ?_)
            exact Ghost.cut (Nat.le_refl _) (tauOf [0, 1, 4, 2, 3]) [(1, .sl 0 0 m 1), (2, .i .i64 (x : Int)), (3, .p 1 [] 0), (7, .p 2 [] 0), (8, .p 3 [] 0), (9, .sl 4 0 1 1)] [.ro m 1 (nmF gn), .var (ds_ N b w), .var (rwD fun _ _ => 0), .var (bl fun _ => false), .row 2 1 1 (numsF [gn 0])] (Taken.of [0, 1, 4, 2, 3] (LeAll.cons (by rfl) (by first | with_reducible exact Root.Le.refl _ | with_reducible exact le_dead | (first | exact le_row (Nat.le_refl _) (fun j hj => by obtain rfl : j = 0 := (by have : j < 1 := hj; omega); rfl) | exact le_var rfl) | exact byLeq) (by exact byCon) (LeAll.cons (by rfl) (by first | with_reducible exact Root.Le.refl _ | with_reducible exact le_dead | (first | exact le_row (Nat.le_refl _) (fun j hj => by obtain rfl : j = 0 := (by have : j < 1 := hj; omega); rfl) | exact le_var rfl) | exact byLeq) (by exact byCon) (LeAll.cons (by rfl) (by first | with_reducible exact Root.Le.refl _ | with_reducible exact le_dead | (first | exact le_row (Nat.le_refl _) (fun j hj => by obtain rfl : j = 0 := (by have : j < 1 := hj; omega); rfl) | exact le_var rfl) | exact byLeq) (by exact byCon) (LeAll.cons (by rfl) (by first | with_reducible exact Root.Le.refl _ | with_reducible exact le_dead | (first | exact le_row (Nat.le_refl _) (fun j hj => by obtain rfl : j = 0 := (by have : j < 1 := hj; omega); rfl) | exact le_var rfl) | exact byLeq) (by exact byCon) (LeAll.cons (by rfl) (by first | with_reducible exact Root.Le.refl _ | with_reducible exact le_dead | (first | exact le_row (Nat.le_refl _) (fun j hj => by obtain rfl : j = 0 := (by have : j < 1 := hj; omega); rfl) | exact le_var rfl) | exact byLeq) (by exact byCon) (trivial)))))) rfl rfl) (by exact bySlots)
          · refine ⟨_, _, _, rfl, by rfl, by rfl, .inl (MK.of tok (wm := false) (by rfl) (by exact byObl) (by rfl) (by exact byObl)), ?_⟩
            refine WA.allT [5, 8] (by kernel_rfl) (by simp) ?_; intro i' hi'; simp only [List.mem_cons, List.not_mem_nil, or_false] at hi'
            rcases hi' with rfl | rfl
            · refine ⟨_, _, _, rfl, by rfl, by rfl, .inl (MK.of tok (wm := false) (by rfl) (by exact byObl) (by rfl) (by exact byObl)), ?_⟩
              refine WA.allT [8] (by kernel_rfl) (by simp) ?_; intro i' hi'; simp only [List.mem_cons, List.not_mem_nil, or_false] at hi'
              subst hi'
              refine ⟨_, _, _, rfl, by rfl, by rfl, .inr ⟨by decide, TK.of tok (wm := false) (by rfl) (by exact byObl)⟩, ?_⟩
              refine WA.allT [9] (by kernel_rfl) (by simp) ?_; intro i' hi'; simp only [List.mem_cons, List.not_mem_nil, or_false] at hi'
              subst hi'
              refine ⟨_, _, _, rfl, by rfl, by rfl, .inr ⟨by decide, TK.of tok (wm := false) (by rfl) (by exact byObl)⟩, ?_⟩
              refine WA.allT [10] (by kernel_rfl) (by simp) ?_; intro i' hi'; simp only [List.mem_cons, List.not_mem_nil, or_false] at hi'
              subst hi'
              refine ⟨_, _, _, rfl, by rfl, by rfl, .inl (MK.q (evalOp_q tok (wm := false) (by rfl) (by rfl) (by exact byObl))), ?_⟩
              refine WA.end rfl (by kernel_rfl) (noPan ?_)
              exact Ghost.cut (Nat.le_refl _) (tauOf [0, 1, 3, 2, 4]) [(1, .sl 0 0 m 1), (2, .i .i64 (x : Int)), (3, .p 1 [] 0), (7, .p 2 [] 0), (8, .p 3 [] 0), (9, .sl 4 0 1 1)] [.ro m 1 (nmF gn), .var (ds_ N b w), .var (rwD fun _ _ => 0), .var (bl fun _ => false), .row 2 1 1 (numsF [gn 0])] (Taken.of [0, 1, 3, 2, 4] (LeAll.cons (by rfl) (by first | with_reducible exact Root.Le.refl _ | with_reducible exact le_dead | (first | exact le_row (Nat.le_refl _) (fun j hj => by obtain rfl : j = 0 := (by have : j < 1 := hj; omega); rfl) | exact le_var rfl) | exact byLeq) (by exact byCon) (LeAll.cons (by rfl) (by first | with_reducible exact Root.Le.refl _ | with_reducible exact le_dead | (first | exact le_row (Nat.le_refl _) (fun j hj => by obtain rfl : j = 0 := (by have : j < 1 := hj; omega); rfl) | exact le_var rfl) | exact byLeq) (by exact byCon) (LeAll.cons (by rfl) (by first | with_reducible exact Root.Le.refl _ | with_reducible exact le_dead | (first | exact le_row (Nat.le_refl _) (fun j hj => by obtain rfl : j = 0 := (by have : j < 1 := hj; omega); rfl) | exact le_var rfl) | exact byLeq) (by exact byCon) (LeAll.cons (by rfl) (by first | with_reducible exact Root.Le.refl _ | with_reducible exact le_dead | (first | exact le_row (Nat.le_refl _) (fun j hj => by obtain rfl : j = 0 := (by have : j < 1 := hj; omega); rfl) | exact le_var rfl) | exact byLeq) (by exact byCon) (LeAll.cons (by rfl) (by first | with_reducible exact Root.Le.refl _ | with_reducible exact le_dead | (first | exact le_row (Nat.le_refl _) (fun j hj => by obtain rfl : j = 0 := (by have : j < 1 := hj; omega); rfl) | exact le_var rfl) | exact byLeq) (by exact byCon) (trivial)))))) rfl rfl) (by exact bySlots)
            · refine ⟨_, _, _, rfl, by rfl, by rfl, .inr ⟨by decide, TK.of tok (wm := false) (by rfl) (by exact byObl)⟩, ?_⟩
              refine WA.allT [5, 9] (by kernel_rfl) (by simp) ?_; intro i' hi'; simp only [List.mem_cons, List.not_mem_nil, or_false] at hi'
              rcases hi' with rfl | rfl
              · refine ⟨_, _, _, rfl, by rfl, by rfl, .inl (MK.of tok (wm := false) (by rfl) (by exact byObl) (by rfl) (by exact byObl)), ?_⟩
                refine WA.allT [9] (by kernel_rfl) (by simp) ?_; intro i' hi'; simp only [List.mem_cons, List.not_mem_nil, or_false] at hi'
                subst hi'
                refine ⟨_, _, _, rfl, by rfl, by rfl, .inr ⟨by decide, TK.of tok (wm := false) (by rfl) (by exact byObl)⟩, ?_⟩
                refine WA.allT [10] (by kernel_rfl) (by simp) ?_; intro i' hi'; simp only [List.mem_cons, List.not_mem_nil, or_false] at hi'
                subst hi'
                refine ⟨_, _, _, rfl, by rfl, by rfl, .inl (MK.q (evalOp_q tok (wm := false) (by rfl) (by rfl) (by exact byObl))), ?_⟩
                refine WA.end rfl (by kernel_rfl) (noPan ?_)
                exact Ghost.cut (Nat.le_refl _) (tauOf [0, 1, 3, 2, 4]) [(1, .sl 0 0 m 1), (2, .i .i64 (x : Int)), (3, .p 1 [] 0), (7, .p 2 [] 0), (8, .p 3 [] 0), (9, .sl 4 0 1 1)] [.ro m 1 (nmF gn), .var (ds_ N b w), .var (rwD fun _ _ => 0), .var (bl fun _ => false), .row 2 1 1 (numsF [gn 0])] (Taken.of [0, 1, 3, 2, 4] (LeAll.cons (by rfl) (by first | with_reducible exact Root.Le.refl _ | with_reducible exact le_dead | (first | exact le_row (Nat.le_refl _) (fun j hj => by obtain rfl : j = 0 := (by have : j < 1 := hj; omega); rfl) | exact le_var rfl) | exact byLeq) (by exact byCon) (LeAll.cons (by rfl) (by first | with_reducible exact Root.Le.refl _ | with_reducible exact le_dead | (first | exact le_row (Nat.le_refl _) (fun j hj => by obtain rfl : j = 0 := (by have : j < 1 := hj; omega); rfl) | exact le_var rfl) | exact byLeq) (by exact byCon) (LeAll.cons (by rfl) (by first | with_reducible exact Root.Le.refl _ | with_reducible exact le_dead | (first | exact le_row (Nat.le_refl _) (fun j hj => by obtain rfl : j = 0 := (by have : j < 1 := hj; omega); rfl) | exact le_var rfl) | exact byLeq) (by exact byCon) (LeAll.cons (by rfl) (by first | with_reducible exact Root.Le.refl _ | with_reducible exact le_dead | (first | exact le_row (Nat.le_refl _) (fun j hj => by obtain rfl : j = 0 := (by have : j < 1 := hj; omega); rfl) | exact le_var rfl) | exact byLeq) (by exact byCon) (LeAll.cons (by rfl) (by first | with_reducible exact Root.Le.refl _ | with_reducible exact le_dead | (first | exact le_row (Nat.le_refl _) (fun j hj => by obtain rfl : j = 0 := (by have : j < 1 := hj; omega); rfl) | exact le_var rfl) | exact byLeq) (by exact byCon) (trivial)))))) rfl rfl) (by exact bySlots)
              · refine ⟨_, _, _, rfl, by rfl, by rfl, .inr ⟨by decide, TK.of tok (wm := false) (by rfl) (by exact byObl)⟩, ?_⟩
                refine WA.allT [5] (by kernel_rfl) (by simp) ?_; intro i' hi'; simp only [List.mem_cons, List.not_mem_nil, or_false] at hi'
                subst hi'
                refine ⟨_, _, _, rfl, by rfl, by rfl, .inl (MK.of tok (wm := false) (by rfl) (by exact byObl) (by rfl) (by exact byObl)), ?_⟩
                refine WA.allT [10] (by kernel_rfl) (by simp) ?_; intro i' hi'; simp only [List.mem_cons, List.not_mem_nil, or_false] at hi'
                subst hi'
                refine ⟨_, _, _, rfl, by rfl, by rfl, .inl (MK.q (evalOp_q tok (wm := false) (by rfl) (by rfl) (by exact byObl))), ?_⟩
                refine WA.end rfl (by kernel_rfl) (noPan ?_)
                exact Ghost.cut (Nat.le_refl _) (tauOf [0, 1, 3, 2, 4]) [(1, .sl 0 0 m 1), (2, .i .i64 (x : Int)), (3, .p 1 [] 0), (7, .p 2 [] 0), (8, .p 3 [] 0), (9, .sl 4 0 1 1)] [.ro m 1 (nmF gn), .var (ds_ N b w), .var (rwD fun _ _ => 0), .var (bl fun _ => false), .row 2 1 1 (numsF [gn 0])] (Taken.of [0, 1, 3, 2, 4] (LeAll.cons (by rfl) (by first | with_reducible exact Root.Le.refl _ | with_reducible exact le_dead | (first | exact le_row (Nat.le_refl _) (fun j hj => by obtain rfl : j = 0 := (by have : j < 1 := hj; omega); rfl) | exact le_var rfl) | exact byLeq) (by exact byCon) (LeAll.cons (by rfl) (by first | with_reducible exact Root.Le.refl _ | with_reducible exact le_dead | (first | exact le_row (Nat.le_refl _) (fun j hj => by obtain rfl : j = 0 := (by have : j < 1 := hj; omega); rfl) | exact le_var rfl) | exact byLeq) (by exact byCon) (LeAll.cons (by rfl) (by first | with_reducible exact Root.Le.refl _ | with_reducible exact le_dead | (first | exact le_row (Nat.le_refl _) (fun j hj => by obtain rfl : j = 0 := (by have : j < 1 := hj; omega); rfl) | exact le_var rfl) | exact byLeq) (by exact byCon) (LeAll.cons (by rfl) (by first | with_reducible exact Root.Le.refl _ | with_reducible exact le_dead | (first | exact le_row (Nat.le_refl _) (fun j hj => by obtain rfl : j = 0 := (by have : j < 1 := hj; omega); rfl) | exact le_var rfl) | exact byLeq) (by exact byCon) (LeAll.cons (by rfl) (by first | with_reducible exact Root.Le.refl _ | with_reducible exact le_dead | (first | exact le_row (Nat.le_refl _) (fun j hj => by obtain rfl : j = 0 := (by have : j < 1 := hj; omega); rfl) | exact le_var rfl) | exact byLeq) (by exact byCon) (trivial)))))) rfl rfl) (by exact bySlots)
        · refine ⟨_, _, _, rfl, by rfl, by rfl, .inl (MK.of tok (wm := false) (by rfl) (by exact byObl) (by rfl) (by exact byObl)), ?_⟩
          refine WA.allT [4, 8] (by kernel_rfl) (by simp) ?_; intro i' hi'; simp only [List.mem_cons, List.not_mem_nil, or_false] at hi'
          rcases hi' with rfl | rfl
          · refine ⟨_, _, _, rfl, by rfl, by rfl, .inl (MK.q (evalOp_q tok (wm := false) (by rfl) (by rfl) (by exact byObl))), ?_⟩
            refine WA.allT [5, 8] (by kernel_rfl) (by simp) ?_; intro i' hi'; simp only [List.mem_cons, List.not_mem_nil, or_false] at hi'
            rcases hi' with rfl | rfl
            · refine ⟨_, _, _, rfl, by rfl, by rfl, .inl (MK.of tok (wm := false) (by rfl) (by exact byObl) (by rfl) (by exact byObl)), ?_⟩
              refine WA.allT [8] (by kernel_rfl) (by simp) ?_; intro i' hi'; simp only [List.mem_cons, List.not_mem_nil, or_false] at hi'
              subst hi'
              refine ⟨_, _, _, rfl, by rfl, by rfl, .inr ⟨by decide, TK.of tok (wm := false) (by rfl) (by exact byObl)⟩, ?_⟩
              refine WA.allT [9] (by kernel_rfl) (by simp) ?_; intro i' hi'; simp only [List.mem_cons, List.not_mem_nil, or_false] at hi'
              subst hi'
              refine ⟨_, _, _, rfl, by rfl, by rfl, .inr ⟨by decide, TK.of tok (wm := false) (by rfl) (by exact byObl)⟩, ?_⟩
              refine WA.allT [10] (by kernel_rfl) (by simp) ?_; intro i' hi'; simp only [List.mem_cons, List.not_mem_nil, or_false] at hi'
              subst hi'
              refine ⟨_, _, _, rfl, by rfl, by rfl, .inl (MK.q (evalOp_q tok (wm := false) (by rfl) (by rfl) (by exact byObl))), ?_⟩
              refine WA.end rfl (by kernel_rfl) (noPan ?_)
              exact Ghost.cut (Nat.le_refl _) (tauOf [0, 1, 3, 2, 4]) [(1, .sl 0 0 m 1), (2, .i .i64 (x : Int)), (3, .p 1 [] 0), (7, .p 2 [] 0), (8, .p 3 [] 0), (9, .sl 4 0 1 1)] [.ro m 1 (nmF gn), .var (ds_ N b w), .var (rwD fun _ _ => 0), .var (bl fun _ => false), .row 2 1 1 (numsF [gn 0])] (Taken.of [0, 1, 3, 2, 4] (LeAll.cons (by rfl) (by first | with_reducible exact Root.Le.refl _ | with_reducible exact le_dead | (first | exact le_row (Nat.le_refl _) (fun j hj => by obtain rfl : j = 0 := (by have : j < 1 := hj; omega); rfl) | exact le_var rfl) | exact byLeq) (by exact byCon) (LeAll.cons (by rfl) (by first | with_reducible exact Root.Le.refl _ | with_reducible exact le_dead | (first | exact le_row (Nat.le_refl _) (fun j hj => by obtain rfl : j = 0 := (by have : j < 1 := hj; omega); rfl) | exact le_var rfl) | exact byLeq) (by exact byCon) (LeAll.cons (by rfl) (by first | with_reducible exact Root.Le.refl _ | with_reducible exact le_dead | (first | exact le_row (Nat.le_refl _) (fun j hj => by obtain rfl : j = 0 := (by have : j < 1 := hj; omega); rfl) | exact le_var rfl) | exact byLeq) (by exact byCon) (LeAll.cons (by rfl) (by first | with_reducible exact Root.Le.refl _ | with_reducible exact le_dead | (first | exact le_row (Nat.le_refl _) (fun j hj => by obtain rfl : j = 0 := (by have : j < 1 := hj; omega); rfl) | exact le_var rfl) | exact byLeq) (by exact byCon) (LeAll.cons (by rfl) (by first | with_reducible exact Root.Le.refl _ | with_reducible exact le_dead | (first | exact le_row (Nat.le_refl _) (fun j hj => by obtain rfl : j = 0 := (by have : j < 1 := hj; omega); rfl) | exact le_var rfl) | exact byLeq) (by exact byCon) (trivial)))))) rfl rfl) (by exact bySlots)
            · refine ⟨_, _, _, rfl, by rfl, by rfl, .inr ⟨by decide, TK.of tok (wm := false) (by rfl) (by exact byObl)⟩, ?_⟩
              refine WA.allT [5, 9] (by kernel_rfl) (by simp) ?_; intro i' hi'; simp only [List.mem_cons, List.not_mem_nil, or_false] at hi'
              rcases hi' with rfl | rfl
              · refine ⟨_, _, _, rfl, by rfl, by rfl, .inl (MK.of tok (wm := false) (by rfl) (by exact byObl) (by rfl) (by exact byObl)), ?_⟩
                refine WA.allT [9] (by kernel_rfl) (by simp) ?_; intro i' hi'; simp only [List.mem_cons, List.not_mem_nil, or_false] at hi'
                subst hi'
                refine ⟨_, _, _, rfl, by rfl, by rfl, .inr ⟨by decide, TK.of tok (wm := false) (by rfl) (by exact byObl)⟩, ?_⟩
                refine WA.allT [10] (by kernel_rfl) (by simp) ?_; intro i' hi'; simp only [List.mem_cons, List.not_mem_nil, or_false] at hi'
                subst hi'
                refine ⟨_, _, _, rfl, by rfl, by rfl, .inl (MK.q (evalOp_q tok (wm := false) (by rfl) (by rfl) (by exact byObl))), ?_⟩
                refine WA.end rfl (by kernel_rfl) (noPan ?_)
                exact Ghost.cut (Nat.le_refl _) (tauOf [0, 1, 3, 2, 4]) [(1, .sl 0 0 m 1), (2, .i .i64 (x : Int)), (3, .p 1 [] 0), (7, .p 2 [] 0), (8, .p 3 [] 0), (9, .sl 4 0 1 1)] [.ro m 1 (nmF gn), .var (ds_ N b w), .var (rwD fun _ _ => 0), .var (bl fun _ => false), .row 2 1 1 (numsF [gn 0])] (Taken.of [0, 1, 3, 2, 4] (LeAll.cons (by rfl) (by first | with_reducible exact Root.Le.refl _ | with_reducible exact le_dead | (first | exact le_row (Nat.le_refl _) (fun j hj => by obtain rfl : j = 0 := (by have : j < 1 := hj; omega); rfl) | exact le_var rfl) | exact byLeq) (by exact byCon) (LeAll.cons (by rfl) (by first | with_reducible exact Root.Le.refl _ | with_reducible exact le_dead | (first | exact le_row (Nat.le_refl _) (fun j hj => by obtain rfl : j = 0 := (by have : j < 1 := hj; omega); rfl) | exact le_var rfl) | exact byLeq) (by exact byCon) (LeAll.cons (by rfl) (by first | with_reducible exact Root.Le.refl _ | with_reducible exact le_dead | (first | exact le_row (Nat.le_refl _) (fun j hj => by obtain rfl : j = 0 := (by have : j < 1 := hj; omega); rfl) | exact le_var rfl) | exact byLeq) (by exact byCon) (LeAll.cons (by rfl) (by first | with_reducible exact Root.Le.refl _ | with_reducible exact le_dead | (first | exact le_row (Nat.le_refl _) (fun j hj => by obtain rfl : j = 0 := (by have : j < 1 := hj; omega); rfl) | exact le_var rfl) | exact byLeq) (by exact byCon) (LeAll.cons (by rfl) (by first | with_reducible exact Root.Le.refl _ | with_reducible exact le_dead | (first | exact le_row (Nat.le_refl _) (fun j hj => by obtain rfl : j = 0 := (by have : j < 1 := hj; omega); rfl) | exact le_var rfl) | exact byLeq) (by exact byCon) (trivial)))))) rfl rfl) (by exact bySlots)
              · refine ⟨_, _, _, rfl, by rfl, by rfl, .inr ⟨by decide, TK.of tok (wm := false) (by rfl) (by exact byObl)⟩, ?_⟩
                refine WA.allT [5] (by kernel_rfl) (by simp) ?_; intro i' hi'; simp only [List.mem_cons, List.not_mem_nil, or_false] at hi'
                subst hi'
                refine ⟨_, _, _, rfl, by rfl, by rfl, .inl (MK.of tok (wm := false) (by rfl) (by exact byObl) (by rfl) (by exact byObl)), ?_⟩
                refine WA.allT [10] (by kernel_rfl) (by simp) ?_; intro i' hi'; simp only [List.mem_cons, List.not_mem_nil, or_false] at hi'
                subst hi'
                refine ⟨_, _, _, rfl, by rfl, by rfl, .inl (MK.q (evalOp_q tok (wm := false) (by rfl) (by rfl) (by exact byObl))), ?_⟩
                refine WA.end rfl (by kernel_rfl) (noPan ?_)
                exact Ghost.cut (Nat.le_refl _) (tauOf [0, 1, 3, 2, 4]) [(1, .sl 0 0 m 1), (2, .i .i64 (x : Int)), (3, .p 1 [] 0), (7, .p 2 [] 0), (8, .p 3 [] 0), (9, .sl 4 0 1 1)] [.ro m 1 (nmF gn), .var (ds_ N b w), .var (rwD fun _ _ => 0), .var (bl fun _ => false), .row 2 1 1 (numsF [gn 0])] (Taken.of [0, 1, 3, 2, 4] (LeAll.cons (by rfl) (by first | with_reducible exact Root.Le.refl _ | with_reducible exact le_dead | (first | exact le_row (Nat.le_refl _) (fun j hj => by obtain rfl : j = 0 := (by have : j < 1 := hj; omega); rfl) | exact le_var rfl) | exact byLeq) (by exact byCon) (LeAll.cons (by rfl) (by first | with_reducible exact Root.Le.refl _ | with_reducible exact le_dead | (first | exact le_row (Nat.le_refl _) (fun j hj => by obtain rfl : j = 0 := (by have : j < 1 := hj; omega); rfl) | exact le_var rfl) | exact byLeq) (by exact byCon) (LeAll.cons (by rfl) (by first | with_reducible exact Root.Le.refl _ | with_reducible exact le_dead | (first | exact le_row (Nat.le_refl _) (fun j hj => by obtain rfl : j = 0 := (by have : j < 1 := hj; omega); rfl) | exact le_var rfl) | exact byLeq) (by exact byCon) (LeAll.cons (by rfl) (by first | with_reducible exact Root.Le.refl _ | with_reducible exact le_dead | (first | exact le_row (Nat.le_refl _) (fun j hj => by obtain rfl : j = 0 := (by have : j < 1 := hj; omega); rfl) | exact le_var rfl) | exact byLeq) (by exact byCon) (LeAll.cons (by rfl) (by first | with_reducible exact Root.Le.refl _ | with_reducible exact le_dead | (first | exact le_row (Nat.le_refl _) (fun j hj => by obtain rfl : j = 0 := (by have : j < 1 := hj; omega); rfl) | exact le_var rfl) | exact byLeq) (by exact byCon) (trivial)))))) rfl rfl) (by exact bySlots)
          · refine ⟨_, _, _, rfl, by rfl, by rfl, .inr ⟨by decide, TK.of tok (wm := false) (by rfl) (by exact byObl)⟩, ?_⟩
            refine WA.allT [4, 9] (by kernel_rfl) (by simp) ?_; intro i' hi'; simp only [List.mem_cons, List.not_mem_nil, or_false] at hi'
            rcases hi' with rfl | rfl
            · refine ⟨_, _, _, rfl, by rfl, by rfl, .inl (MK.q (evalOp_q tok (wm := false) (by rfl) (by rfl) (by exact byObl))), ?_⟩
              refine WA.allT [5, 9] (by kernel_rfl) (by simp) ?_; intro i' hi'; simp only [List.mem_cons, List.not_mem_nil, or_false] at hi'
              rcases hi' with rfl | rfl
              · refine ⟨_, _, _, rfl, by rfl, by rfl, .inl (MK.of tok (wm := false) (by rfl) (by exact byObl) (by rfl) (by exact byObl)), ?_⟩
                refine WA.allT [9] (by kernel_rfl) (by simp) ?_; intro i' hi'; simp only [List.mem_cons, List.not_mem_nil, or_false] at hi'
                subst hi'
                refine ⟨_, _, _, rfl, by rfl, by rfl, .inr ⟨by decide, TK.of tok (wm := false) (by rfl) (by exact byObl)⟩, ?_⟩
                refine WA.allT [10] (by kernel_rfl) (by simp) ?_; intro i' hi'; simp only [List.mem_cons, List.not_mem_nil, or_false] at hi'
                subst hi'
                refine ⟨_, _, _, rfl, by rfl, by rfl, .inl (MK.q (evalOp_q tok (wm := false) (by rfl) (by rfl) (by exact byObl))), ?_⟩
                refine WA.end rfl (by kernel_rfl) (noPan ?_)
                exact Ghost.cut (Nat.le_refl _) (tauOf [0, 1, 3, 2, 4]) [(1, .sl 0 0 m 1), (2, .i .i64 (x : Int)), (3, .p 1 [] 0), (7, .p 2 [] 0), (8, .p 3 [] 0), (9, .sl 4 0 1 1)] [.ro m 1 (nmF gn), .var (ds_ N b w), .var (rwD fun _ _ => 0), .var (bl fun _ => false), .row 2 1 1 (numsF [gn 0])] (Taken.of [0, 1, 3, 2, 4] (LeAll.cons (by rfl) (by first | with_reducible exact Root.Le.refl _ | with_reducible exact le_dead | (first | exact le_row (Nat.le_refl _) (fun j hj => by obtain rfl : j = 0 := (by have : j < 1 := hj; omega); rfl) | exact le_var rfl) | exact byLeq) (by exact byCon) (LeAll.cons (by rfl) (by first | with_reducible exact Root.Le.refl _ | with_reducible exact le_dead | (first | exact le_row (Nat.le_refl _) (fun j hj => by obtain rfl : j = 0 := (by have : j < 1 := hj; omega); rfl) | exact le_var rfl) | exact byLeq) (by exact byCon) (LeAll.cons (by rfl) (by first | with_reducible exact Root.Le.refl _ | with_reducible exact le_dead | (first | exact le_row (Nat.le_refl _) (fun j hj => by obtain rfl : j = 0 := (by have : j < 1 := hj; omega); rfl) | exact le_var rfl) | exact byLeq) (by exact byCon) (LeAll.cons (by rfl) (by first | with_reducible exact Root.Le.refl _ | with_reducible exact le_dead | (first | exact le_row (Nat.le_refl _) (fun j hj => by obtain rfl : j = 0 := (by have : j < 1 := hj; omega); rfl) | exact le_var rfl) | exact byLeq) (by exact byCon) (LeAll.cons (by rfl) (by first | with_reducible exact Root.Le.refl _ | with_reducible exact le_dead | (first | exact le_row (Nat.le_refl _) (fun j hj => by obtain rfl : j = 0 := (by have : j < 1 := hj; omega); rfl) | exact le_var rfl) | exact byLeq) (by exact byCon) (trivial)))))) rfl rfl) (by exact bySlots)
              · refine ⟨_, _, _, rfl, by rfl, by rfl, .inr ⟨by decide, TK.of tok (wm := false) (by rfl) (by exact byObl)⟩, ?_⟩
                refine WA.allT [5] (by kernel_rfl) (by simp) ?_; intro i' hi'; simp only [List.mem_cons, List.not_mem_nil, or_false] at hi'
                subst hi'
                refine ⟨_, _, _, rfl, by rfl, by rfl, .inl (MK.of tok (wm := false) (by rfl) (by exact byObl) (by rfl) (by exact byObl)), ?_⟩
                refine WA.allT [10] (by kernel_rfl) (by simp) ?_; intro i' hi'; simp only [List.mem_cons, List.not_mem_nil, or_false] at hi'
                subst hi'
                refine ⟨_, _, _, rfl, by rfl, by rfl, .inl (MK.q (evalOp_q tok (wm := false) (by rfl) (by rfl) (by exact byObl))), ?_⟩
                refine WA.end rfl (by kernel_rfl) (noPan ?_)
                exact Ghost.cut (Nat.le_refl _) (tauOf [0, 1, 3, 2, 4]) [(1, .sl 0 0 m 1), (2, .i .i64 (x : Int)), (3, .p 1 [] 0), (7, .p 2 [] 0), (8, .p 3 [] 0), (9, .sl 4 0 1 1)] [.ro m 1 (nmF gn), .var (ds_ N b w), .var (rwD fun _ _ => 0), .var (bl fun _ => false), .row 2 1 1 (numsF [gn 0])] (Taken.of [0, 1, 3, 2, 4] (LeAll.cons (by rfl) (by first | with_reducible exact Root.Le.refl _ | with_reducible exact le_dead | (first | exact le_row (Nat.le_refl _) (fun j hj => by obtain rfl : j = 0 := (by have : j < 1 := hj; omega); rfl) | exact le_var rfl) | exact byLeq) (by exact byCon) (LeAll.cons (by rfl) (by first | with_reducible exact Root.Le.refl _ | with_reducible exact le_dead | (first | exact le_row (Nat.le_refl _) (fun j hj => by obtain rfl : j = 0 := (by have : j < 1 := hj; omega); rfl) | exact le_var rfl) | exact byLeq) (by exact byCon) (LeAll.cons (by rfl) (by first | with_reducible exact Root.Le.refl _ | with_reducible exact le_dead | (first | exact le_row (Nat.le_refl _) (fun j hj => by obtain rfl : j = 0 := (by have : j < 1 := hj; omega); rfl) | exact le_var rfl) | exact byLeq) (by exact byCon) (LeAll.cons (by rfl) (by first | with_reducible exact Root.Le.refl _ | with_reducible exact le_dead | (first | exact le_row (Nat.le_refl _) (fun j hj => by obtain rfl : j = 0 := (by have : j < 1 := hj; omega); rfl) | exact le_var rfl) | exact byLeq) (by exact byCon) (LeAll.cons (by rfl) (by first | with_reducible exact Root.Le.refl _ | with_reducible exact le_dead | (first | exact le_row (Nat.le_refl _) (fun j hj => by obtain rfl : j = 0 := (by have : j < 1 := hj; omega); rfl) | exact le_var rfl) | exact byLeq) (by exact byCon) (trivial)))))) rfl rfl) (by exact bySlots)
            · refine ⟨_, _, _, rfl, by rfl, by rfl, .inr ⟨by decide, TK.of tok (wm := false) (by rfl) (by exact byObl)⟩, ?_⟩
              refine WA.allT [4] (by kernel_rfl) (by simp) ?_; intro i' hi'; simp only [List.mem_cons, List.not_mem_nil, or_false] at hi'
              subst hi'
              refine ⟨_, _, _, rfl, by rfl, by rfl, .inl (MK.q (evalOp_q tok (wm := false) (by rfl) (by rfl) (by exact byObl))), ?_⟩
              refine WA.allT [5] (by kernel_rfl) (by simp) ?_; intro i' hi'; simp only [List.mem_cons, List.not_mem_nil, or_false] at hi'
              subst hi'
              refine ⟨_, _, _, rfl, by rfl, by rfl, .inl (MK.of tok (wm := false) (by rfl) (by exact byObl) (by rfl) (by exact byObl)), ?_⟩
              refine WA.allT [10] (by kernel_rfl) (by simp) ?_; intro i' hi'; simp only [List.mem_cons, List.not_mem_nil, or_false] at hi'
              subst hi'
              refine ⟨_, _, _, rfl, by rfl, by rfl, .inl (MK.q (evalOp_q tok (wm := false) (by rfl) (by rfl) (by exact byObl))), ?_⟩
              refine WA.end rfl (by kernel_rfl) (noPan ?_)
              exact Ghost.cut (Nat.le_refl _) (tauOf [0, 1, 3, 2, 4]) [(1, .sl 0 0 m 1), (2, .i .i64 (x : Int)), (3, .p 1 [] 0), (7, .p 2 [] 0), (8, .p 3 [] 0), (9, .sl 4 0 1 1)] [.ro m 1 (nmF gn), .var (ds_ N b w), .var (rwD fun _ _ => 0), .var (bl fun _ => false), .row 2 1 1 (numsF [gn 0])] (Taken.of [0, 1, 3, 2, 4] (LeAll.cons (by rfl) (by first | with_reducible exact Root.Le.refl _ | with_reducible exact le_dead | (first | exact le_row (Nat.le_refl _) (fun j hj => by obtain rfl : j = 0 := (by have : j < 1 := hj; omega); rfl) | exact le_var rfl) | exact byLeq) (by exact byCon) (LeAll.cons (by rfl) (by first | with_reducible exact Root.Le.refl _ | with_reducible exact le_dead | (first | exact le_row (Nat.le_refl _) (fun j hj => by obtain rfl : j = 0 := (by have : j < 1 := hj; omega); rfl) | exact le_var rfl) | exact byLeq) (by exact byCon) (LeAll.cons (by rfl) (by first | with_reducible exact Root.Le.refl _ | with_reducible exact le_dead | (first | exact le_row (Nat.le_refl _) (fun j hj => by obtain rfl : j = 0 := (by have : j < 1 := hj; omega); rfl) | exact le_var rfl) | exact byLeq) (by exact byCon) (LeAll.cons (by rfl) (by first | with_reducible exact Root.Le.refl _ | with_reducible exact le_dead | (first | exact le_row (Nat.le_refl _) (fun j hj => by obtain rfl : j = 0 := (by have : j < 1 := hj; omega); rfl) | exact le_var rfl) | exact byLeq) (by exact byCon) (LeAll.cons (by rfl) (by first | with_reducible exact Root.Le.refl _ | with_reducible exact le_dead | (first | exact le_row (Nat.le_refl _) (fun j hj => by obtain rfl : j = 0 := (by have : j < 1 := hj; omega); rfl) | exact le_var rfl) | exact byLeq) (by exact byCon) (trivial)))))) rfl rfl) (by exact bySlots)
    · refine ⟨_, _, _, rfl, by rfl, by rfl, .inl (MK.of tok (wm := false) (by rfl) (by exact byObl) (by rfl) (by exact byObl)), ?_⟩
      refine WA.allT [3, 7] (by kernel_rfl) (by simp) ?_; intro i' hi'; simp only [List.mem_cons, List.not_mem_nil, or_false] at hi'
      rcases hi' with rfl | rfl
      · refine ⟨_, _, _, rfl, by rfl, by rfl, .inl (MK.q (evalOp_q tok (wm := false) (by rfl) (by rfl) (by exact byObl))), ?_⟩
        refine WA.allT [4, 7] (by kernel_rfl) (by simp) ?_; intro i' hi'; simp only [List.mem_cons, List.not_mem_nil, or_false] at hi'
        rcases hi' with rfl | rfl
        · refine ⟨_, _, _, rfl, by rfl, by rfl, .inl (MK.q (evalOp_q tok (wm := false) (by rfl) (by rfl) (by exact byObl))), ?_⟩
          refine WA.allT [5, 7] (by kernel_rfl) (by simp) ?_; intro i' hi'; simp only [List.mem_cons, List.not_mem_nil, or_false] at hi'
          rcases hi' with rfl | rfl
          · refine ⟨_, _, _, rfl, by rfl, by rfl, .inl (MK.of tok (wm := false) (by rfl) (by exact byObl) (by rfl) (by exact byObl)), ?_⟩
            refine WA.allT [7] (by kernel_rfl) (by simp) ?_; intro i' hi'; simp only [List.mem_cons, List.not_mem_nil, or_false] at hi'
            subst hi'
            refine ⟨_, _, _, rfl, by rfl, by rfl, .inl (MK.of tok (wm := false) (by rfl) (by exact byObl) (by rfl) (by exact byObl)), ?_⟩
            refine WA.allT [8] (by kernel_rfl) (by simp) ?_; intro i' hi'; simp only [List.mem_cons, List.not_mem_nil, or_false] at hi'
            subst hi'
            refine ⟨_, _, _, rfl, by rfl, by rfl, .inr ⟨by decide, TK.of tok (wm := false) (by rfl) (by exact byObl)⟩, ?_⟩
            refine WA.allT [9] (by kernel_rfl) (by simp) ?_; intro i' hi'; simp only [List.mem_cons, List.not_mem_nil, or_false] at hi'
            subst hi'
            refine ⟨_, _, _, rfl, by rfl, by rfl, .inr ⟨by decide, TK.of tok (wm := false) (by rfl) (by exact byObl)⟩, ?_⟩
            refine WA.allT [10] (by kernel_rfl) (by simp) ?_; intro i' hi'; simp only [List.mem_cons, List.not_mem_nil, or_false] at hi'
            subst hi'
            refine ⟨_, _, _, rfl, by rfl, by rfl, .inl (MK.q (evalOp_q tok (wm := false) (by rfl) (by rfl) (by exact byObl))), ?_⟩
            refine WA.end rfl (by kernel_rfl) (noPan ?_)
            exact Ghost.cut (Nat.le_refl _) (tauOf [0, 1, 2, 4, 3]) [(1, .sl 0 0 m 1), (2, .i .i64 (x : Int)), (3, .p 1 [] 0), (7, .p 2 [] 0), (8, .p 3 [] 0), (9, .sl 4 0 1 1)] [.ro m 1 (nmF gn), .var (ds_ N b w), .var (rwD fun _ _ => 0), .var (bl fun _ => false), .row 2 1 1 (numsF [gn 0])] (Taken.of [0, 1, 2, 4, 3] (LeAll.cons (by rfl) (by first | with_reducible exact Root.Le.refl _ | with_reducible exact le_dead | (first | exact le_row (Nat.le_refl _) (fun j hj => by obtain rfl : j = 0 := (by have : j < 1 := hj; omega); rfl) | exact le_var rfl) | exact byLeq) (by exact byCon) (LeAll.cons (by rfl) (by first | with_reducible exact Root.Le.refl _ | with_reducible exact le_dead | (first | exact le_row (Nat.le_refl _) (fun j hj => by obtain rfl : j = 0 := (by have : j < 1 := hj; omega); rfl) | exact le_var rfl) | exact byLeq) (by exact byCon) (LeAll.cons (by rfl) (by first | with_reducible exact Root.Le.refl _ | with_reducible exact le_dead | (first | exact le_row (Nat.le_refl _) (fun j hj => by obtain rfl : j = 0 := (by have : j < 1 := hj; omega); rfl) | exact le_var rfl) | exact byLeq) (by exact byCon) (LeAll.cons (by rfl) (by first | with_reducible exact Root.Le.refl _ | with_reducible exact le_dead | (first | exact le_row (Nat.le_refl _) (fun j hj => by obtain rfl : j = 0 := (by have : j < 1 := hj; omega); rfl) | exact le_var rfl) | exact byLeq) (by exact byCon) (LeAll.cons (by rfl) (by first | with_reducible exact Root.Le.refl _ | with_reducible exact le_dead | (first | exact le_row (Nat.le_refl _) (fun j hj => by obtain rfl : j = 0 := (by have : j < 1 := hj; omega); rfl) | exact le_var rfl) | exact byLeq) (by exact byCon) (trivial)))))) rfl rfl) (by exact bySlots)
          · refine ⟨_, _, _, rfl, by rfl, by rfl, .inl (MK.of tok (wm := false) (by rfl) (by exact byObl) (by rfl) (by exact byObl)), ?_⟩
            refine WA.allT [5, 8] (by kernel_rfl) (by simp) ?_; intro i' hi'; simp only [List.mem_cons, List.not_mem_nil, or_false] at hi'
            rcases hi' with rfl | rfl
            · refine ⟨_, _, _, rfl, by rfl, by rfl, .inl (MK.of tok (wm := false) (by rfl) (by exact byObl) (by rfl) (by exact byObl)), ?_⟩
              refine WA.allT [8] (by kernel_rfl) (by simp) ?_; intro i' hi'; simp only [List.mem_cons, List.not_mem_nil, or_false] at hi'
              subst hi'
              refine ⟨_, _, _, rfl, by rfl, by rfl, .inr ⟨by decide, TK.of tok (wm := false) (by rfl) (by exact byObl)⟩, ?_⟩
              refine WA.allT [9] (by kernel_rfl) (by simp) ?_; intro i' hi'; simp only [List.mem_cons, List.not_mem_nil, or_false] at hi'
              subst hi'
              refine ⟨_, _, _, rfl, by rfl, by rfl, .inr ⟨by decide, TK.of tok (wm := false) (by rfl) (by exact byObl)⟩, ?_⟩
              refine WA.allT [10] (by kernel_rfl) (by simp) ?_; intro i' hi'; simp only [List.mem_cons, List.not_mem_nil, or_false] at hi'
              subst hi'
              refine ⟨_, _, _, rfl, by rfl, by rfl, .inl (MK.q (evalOp_q tok (wm := false) (by rfl) (by rfl) (by exact byObl))), ?_⟩
              refine WA.end rfl (by kernel_rfl) (noPan ?_)
              exact Ghost.cut (Nat.le_refl _) (tauOf [0, 1, 2, 3, 4]) [(1, .sl 0 0 m 1), (2, .i .i64 (x : Int)), (3, .p 1 [] 0), (7, .p 2 [] 0), (8, .p 3 [] 0), (9, .sl 4 0 1 1)] [.ro m 1 (nmF gn), .var (ds_ N b w), .var (rwD fun _ _ => 0), .var (bl fun _ => false), .row 2 1 1 (numsF [gn 0])] (Taken.of [0, 1, 2, 3, 4] (LeAll.cons (by rfl) (by first | with_reducible exact Root.Le.refl _ | with_reducible exact le_dead | (first | exact le_row (Nat.le_refl _) (fun j hj => by obtain rfl : j = 0 := (by have : j < 1 := hj; omega); rfl) | exact le_var rfl) | exact byLeq) (by exact byCon) (LeAll.cons (by rfl) (by first | with_reducible exact Root.Le.refl _ | with_reducible exact le_dead | (first | exact le_row (Nat.le_refl _) (fun j hj => by obtain rfl : j = 0 := (by have : j < 1 := hj; omega); rfl) | exact le_var rfl) | exact byLeq) (by exact byCon) (LeAll.cons (by rfl) (by first | with_reducible exact Root.Le.refl _ | with_reducible exact le_dead | (first | exact le_row (Nat.le_refl _) (fun j hj => by obtain rfl : j = 0 := (by have : j < 1 := hj; omega); rfl) | exact le_var rfl) | exact byLeq) (by exact byCon) (LeAll.cons (by rfl) (by first | with_reducible exact Root.Le.refl _ | with_reducible exact le_dead | (first | exact le_row (Nat.le_refl _) (fun j hj => by obtain rfl : j = 0 := (by have : j < 1 := hj; omega); rfl) | exact le_var rfl) | exact byLeq) (by exact byCon) (LeAll.cons (by rfl) (by first | with_reducible exact Root.Le.refl _ | with_reducible exact le_dead | (first | exact le_row (Nat.le_refl _) (fun j hj => by obtain rfl : j = 0 := (by have : j < 1 := hj; omega); rfl) | exact le_var rfl) | exact byLeq) (by exact byCon) (trivial)))))) rfl rfl) (by exact bySlots)
            · refine ⟨_, _, _, rfl, by rfl, by rfl, .inr ⟨by decide, TK.of tok (wm := false) (by rfl) (by exact byObl)⟩, ?_⟩
              refine WA.allT [5, 9] (by kernel_rfl) (by simp) ?_; intro i' hi'; simp only [List.mem_cons, List.not_mem_nil, or_false] at hi'
              rcases hi' with rfl | rfl
              · refine ⟨_, _, _, rfl, by rfl, by rfl, .inl (MK.of tok (wm := false) (by rfl) (by exact byObl) (by rfl) (by exact byObl)), ?_⟩
                refine WA.allT [9] (by kernel_rfl) (by simp) ?_; intro i' hi'; simp only [List.mem_cons, List.not_mem_nil, or_false] at hi'
                subst hi'
                refine ⟨_, _, _, rfl, by rfl, by rfl, .inr ⟨by decide, TK.of tok (wm := false) (by rfl) (by exact byObl)⟩, ?_⟩
                refine WA.allT [10] (by kernel_rfl) (by simp) ?_; intro i' hi'; simp only [List.mem_cons, List.not_mem_nil, or_false] at hi'
                subst hi'
                refine ⟨_, _, _, rfl, by rfl, by rfl, .inl (MK.q (evalOp_q tok (wm := false) (by rfl) (by rfl) (by exact byObl))), ?_⟩
                refine WA.end rfl (by kernel_rfl) (noPan ?_)
                exact Ghost.cut (Nat.le_refl _) (tauOf [0, 1, 2, 3, 4]) [(1, .sl 0 0 m 1), (2, .i .i64 (x : Int)), (3, .p 1 [] 0), (7, .p 2 [] 0), (8, .p 3 [] 0), (9, .sl 4 0 1 1)] [.ro m 1 (nmF gn), .var (ds_ N b w), .var (rwD fun _ _ => 0), .var (bl fun _ => false), .row 2 1 1 (numsF [gn 0])] (Taken.of [0, 1, 2, 3, 4] (LeAll.cons (by rfl) (by first | with_reducible exact Root.Le.refl _ | with_reducible exact le_dead | (first | exact le_row (Nat.le_refl _) (fun j hj => by obtain rfl : j = 0 := (by have : j < 1 := hj; omega); rfl) | exact le_var rfl) | exact byLeq) (by exact byCon) (LeAll.cons (by rfl) (by first | with_reducible exact Root.Le.refl _ | with_reducible exact le_dead | (first | exact le_row (Nat.le_refl _) (fun j hj => by obtain rfl : j = 0 := (by have : j < 1 := hj; omega); rfl) | exact le_var rfl) | exact byLeq) (by exact byCon) (LeAll.cons (by rfl) (by first | with_reducible exact Root.Le.refl _ | with_reducible exact le_dead | (first | exact le_row (Nat.le_refl _) (fun j hj => by obtain rfl : j = 0 := (by have : j < 1 := hj; omega); rfl) | exact le_var rfl) | exact byLeq) (by exact byCon) (LeAll.cons (by rfl) (by first | with_reducible exact Root.Le.refl _ | with_reducible exact le_dead | (first | exact le_row (Nat.le_refl _) (fun j hj => by obtain rfl : j = 0 := (by have : j < 1 := hj; omega); rfl) | exact le_var rfl) | exact byLeq) (by exact byCon) (LeAll.cons (by rfl) (by first | with_reducible exact Root.Le.refl _ | with_reducible exact le_dead | (first | exact le_row (Nat.le_refl _) (fun j hj => by obtain rfl : j = 0 := (by have : j < 1 := hj; omega); rfl) | exact le_var rfl) | exact byLeq) (by exact byCon) (trivial)))))) rfl rfl) (by exact bySlots)
              · refine ⟨_, _, _, rfl, by rfl, by rfl, .inr ⟨by decide, TK.of tok (wm := false) (by rfl) (by exact byObl)⟩, ?_⟩
                refine WA.allT [5] (by kernel_rfl) (by simp) ?_; intro i' hi'; simp only [List.mem_cons, List.not_mem_nil, or_false] at hi'
                subst hi'
                refine ⟨_, _, _, rfl, by rfl, by rfl, .inl (MK.of tok (wm := false) (by rfl) (by exact byObl) (by rfl) (by exact byObl)), ?_⟩
                refine WA.allT [10] (by kernel_rfl) (by simp) ?_; intro i' hi'; simp only [List.mem_cons, List.not_mem_nil, or_false] at hi'
                subst hi'
                refine ⟨_, _, _, rfl, by rfl, by rfl, .inl (MK.q (evalOp_q tok (wm := false) (by rfl) (by rfl) (by exact byObl))), ?_⟩
                refine WA.end rfl (by kernel_rfl) (noPan ?_)
                exact Ghost.cut (Nat.le_refl _) (tauOf [0, 1, 2, 3, 4]) [(1, .sl 0 0 m 1), (2, .i .i64 (x : Int)), (3, .p 1 [] 0), (7, .p 2 [] 0), (8, .p 3 [] 0), (9, .sl 4 0 1 1)] [.ro m 1 (nmF gn), .var (ds_ N b w), .var (rwD fun _ _ => 0), .var (bl fun _ => false), .row 2 1 1 (numsF [gn 0])] (Taken.of [0, 1, 2, 3, 4] (LeAll.cons (by rfl) (by first | with_reducible exact Root.Le.refl _ | with_reducible exact le_dead | (first | exact le_row (Nat.le_refl _) (fun j hj => by obtain rfl : j = 0 := (by have : j < 1 := hj; omega); rfl) | exact le_var rfl) | exact byLeq) (by exact byCon) (LeAll.cons (by rfl) (by first | with_reducible exact Root.Le.refl _ | with_reducible exact le_dead | (first | exact le_row (Nat.le_refl _) (fun j hj => by obtain rfl : j = 0 := (by have : j < 1 := hj; omega); rfl) | exact le_var rfl) | exact byLeq) (by exact byCon) (LeAll.cons (by rfl) (by first | with_reducible exact Root.Le.refl _ | with_reducible exact le_dead | (first | exact le_row (Nat.le_refl _) (fun j hj => by obtain rfl : j = 0 := (by have : j < 1 := hj; omega); rfl) | exact le_var rfl) | exact byLeq) (by exact byCon) (LeAll.cons (by rfl) (by first | with_reducible exact Root.Le.refl _ | with_reducible exact le_dead | (first | exact le_row (Nat.le_refl _) (fun j hj => by obtain rfl : j = 0 := (by have : j < 1 := hj; omega); rfl) | exact le_var rfl) | exact byLeq) (by exact byCon) (LeAll.cons (by rfl) (by first | with_reducible exact Root.Le.refl _ | with_reducible exact le_dead | (first | exact le_row (Nat.le_refl _) (fun j hj => by obtain rfl : j = 0 := (by have : j < 1 := hj; omega); rfl) | exact le_var rfl) | exact byLeq) (by exact byCon) (trivial)))))) rfl rfl) (by exact bySlots)
        · refine ⟨_, _, _, rfl, by rfl, by rfl, .inl (MK.of tok (wm := false) (by rfl) (by exact byObl) (by rfl) (by exact byObl)), ?_⟩
          refine WA.allT [4, 8] (by kernel_rfl) (by simp) ?_; intro i' hi'; simp only [List.mem_cons, List.not_mem_nil, or_false] at hi'
          rcases hi' with rfl | rfl
          · refine ⟨_, _, _, rfl, by rfl, by rfl, .inl (MK.q (evalOp_q tok (wm := false) (by rfl) (by rfl) (by exact byObl))), ?_⟩
            refine WA.allT [5, 8] (by kernel_rfl) (by simp) ?_; intro i' hi'; simp only [List.mem_cons, List.not_mem_nil, or_false] at hi'
            rcases hi' with rfl | rfl
            · refine ⟨_, _, _, rfl, by rfl, by rfl, .inl (MK.of tok (wm := false) (by rfl) (by exact byObl) (by rfl) (by exact byObl)), ?_⟩
              refine WA.allT [8] (by kernel_rfl) (by simp) ?_; intro i' hi'; simp only [List.mem_cons, List.not_mem_nil, or_false] at hi'
              subst hi'
              refine ⟨_, _, _, rfl, by rfl, by rfl, .inr ⟨by decide, TK.of tok (wm := false) (by rfl) (by exact byObl)⟩, ?_⟩
              refine WA.allT [9] (by kernel_rfl) (by simp) ?_; intro i' hi'; simp only [List.mem_cons, List.not_mem_nil, or_false] at hi'
              subst hi'
              refine ⟨_, _, _, rfl, by rfl, by rfl, .inr ⟨by decide, TK.of tok (wm := false) (by rfl) (by exact byObl)⟩, ?_⟩
              refine WA.allT [10] (by kernel_rfl) (by simp) ?_; intro i' hi'; simp only [List.mem_cons, List.not_mem_nil, or_false] at hi'
              subst hi'
              refine ⟨_, _, _, rfl, by rfl, by rfl, .inl (MK.q (evalOp_q tok (wm := false) (by rfl) (by rfl) (by exact byObl))), ?_⟩
              refine WA.end rfl (by kernel_rfl) (noPan ?_)
              exact Ghost.cut (Nat.le_refl _) (tauOf [0, 1, 2, 3, 4]) [(1, .sl 0 0 m 1), (2, .i .i64 (x : Int)), (3, .p 1 [] 0), (7, .p 2 [] 0), (8, .p 3 [] 0), (9, .sl 4 0 1 1)] [.ro m 1 (nmF gn), .var (ds_ N b w), .var (rwD fun _ _ => 0), .var (bl fun _ => false), .row 2 1 1 (numsF [gn 0])] (Taken.of [0, 1, 2, 3, 4] (LeAll.cons (by rfl) (by first | with_reducible exact Root.Le.refl _ | with_reducible exact le_dead | (first | exact le_row (Nat.le_refl _) (fun j hj => by obtain rfl : j = 0 := (by have : j < 1 := hj; omega); rfl) | exact le_var rfl) | exact byLeq) (by exact byCon) (LeAll.cons (by rfl) (by first | with_reducible exact Root.Le.refl _ | with_reducible exact le_dead | (first | exact le_row (Nat.le_refl _) (fun j hj => by obtain rfl : j = 0 := (by have : j < 1 := hj; omega); rfl) | exact le_var rfl) | exact byLeq) (by exact byCon) (LeAll.cons (by rfl) (by first | with_reducible exact Root.Le.refl _ | with_reducible exact le_dead | (first | exact le_row (Nat.le_refl _) (fun j hj => by obtain rfl : j = 0 := (by have : j < 1 := hj; omega); rfl) | exact le_var rfl) | exact byLeq) (by exact byCon) (LeAll.cons (by rfl) (by first | with_reducible exact Root.Le.refl _ | with_reducible exact le_dead | (first | exact le_row (Nat.le_refl _) (fun j hj => by obtain rfl : j = 0 := (by have : j < 1 := hj; omega); rfl) | exact le_var rfl) | exact byLeq) (by exact byCon) (LeAll.cons (by rfl) (by first | with_reducible exact Root.Le.refl _ | with_reducible exact le_dead | (first | exact le_row (Nat.le_refl _) (fun j hj => by obtain rfl : j = 0 := (by have : j < 1 := hj; omega); rfl) | exact le_var rfl) | exact byLeq) (by exact byCon) (trivial)))))) rfl rfl) (by exact bySlots)
            · refine ⟨_, _, _, rfl, by rfl, by rfl, .inr ⟨by decide, TK.of tok (wm := false) (by rfl) (by exact byObl)⟩, ?_⟩
              refine WA.allT [5, 9] (by kernel_rfl) (by simp) ?_; intro i' hi'; simp only [List.mem_cons, List.not_mem_nil, or_false] at hi'
              rcases hi' with rfl | rfl
              · refine ⟨_, _, _, rfl, by rfl, by rfl, .inl (MK.of tok (wm := false) (by rfl) (by exact byObl) (by rfl) (by exact byObl)), ?_⟩
                refine WA.allT [9] (by kernel_rfl) (by simp) ?_; intro i' hi'; simp only [List.mem_cons, List.not_mem_nil, or_false] at hi'
                subst hi'
                refine ⟨_, _, _, rfl, by rfl, by rfl, .inr ⟨by decide, TK.of tok (wm := false) (by rfl) (by exact byObl)⟩, ?_⟩
                refine WA.allT [10] (by kernel_rfl) (by simp) ?_; intro i' hi'; simp only [List.mem_cons, List.not_mem_nil, or_false] at hi'
                subst hi'
                refine ⟨_, _, _, rfl, by rfl, by rfl, .inl (MK.q (evalOp_q tok (wm := false) (by rfl) (by rfl) (by exact byObl))), ?_⟩
                refine WA.end rfl (by kernel_rfl) (noPan ?_)
                exact Ghost.cut (Nat.le_refl _) (tauOf [0, 1, 2, 3, 4]) [(1, .sl 0 0 m 1), (2, .i .i64 (x : Int)), (3, .p 1 [] 0), (7, .p 2 [] 0), (8, .p 3 [] 0), (9, .sl 4 0 1 1)] [.ro m 1 (nmF gn), .var (ds_ N b w), .var (rwD fun _ _ => 0), .var (bl fun _ => false), .row 2 1 1 (numsF [gn 0])] (Taken.of [0, 1, 2, 3, 4] (LeAll.cons (by rfl) (by first | with_reducible exact Root.Le.refl _ | with_reducible exact le_dead | (first | exact le_row (Nat.le_refl _) (fun j hj => by obtain rfl : j = 0 := (by have : j < 1 := hj; omega); rfl) | exact le_var rfl) | exact byLeq) (by exact byCon) (LeAll.cons (by rfl) (by first | with_reducible exact Root.Le.refl _ | with_reducible exact le_dead | (first | exact le_row (Nat.le_refl _) (fun j hj => by obtain rfl : j = 0 := (by have : j < 1 := hj; omega); rfl) | exact le_var rfl) | exact byLeq) (by exact byCon) (LeAll.cons (by rfl) (by first | with_reducible exact Root.Le.refl _ | with_reducible exact le_dead | (first | exact le_row (Nat.le_refl _) (fun j hj => by obtain rfl : j = 0 := (by have : j < 1 := hj; omega); rfl) | exact le_var rfl) | exact byLeq) (by exact byCon) (LeAll.cons (by rfl) (by first | with_reducible exact Root.Le.refl _ | with_reducible exact le_dead | (first | exact le_row (Nat.le_refl _) (fun j hj => by obtain rfl : j = 0 := (by have : j < 1 := hj; omega); rfl) | exact le_var rfl) | exact byLeq) (by exact byCon) (LeAll.cons (by rfl) (by first | with_reducible exact Root.Le.refl _ | with_reducible exact le_dead | (first | exact le_row (Nat.le_refl _) (fun j hj => by obtain rfl : j = 0 := (by have : j < 1 := hj; omega); rfl) | exact le_var rfl) | exact byLeq) (by exact byCon) (trivial)))))) rfl rfl) (by exact bySlots)
              · refine ⟨_, _, _, rfl, by rfl, by rfl, .inr ⟨by decide, TK.of tok (wm := false) (by rfl) (by exact byObl)⟩, ?_⟩
                refine WA.allT [5] (by kernel_rfl) (by simp) ?_; intro i' hi'; simp only [List.mem_cons, List.not_mem_nil, or_false] at hi'
                subst hi'
                refine ⟨_, _, _, rfl, by rfl, by rfl, .inl (MK.of tok (wm := false) (by rfl) (by exact byObl) (by rfl) (by exact byObl)), ?_⟩
                refine WA.allT [10] (by kernel_rfl) (by simp) ?_; intro i' hi'; simp only [List.mem_cons, List.not_mem_nil, or_false] at hi'
                subst hi'
                refine ⟨_, _, _, rfl, by rfl, by rfl, .inl (MK.q (evalOp_q tok (wm := false) (by rfl) (by rfl) (by exact byObl))), ?_⟩
                refine WA.end rfl (by kernel_rfl) (noPan ?_)
                exact Ghost.cut (Nat.le_refl _) (tauOf [0, 1, 2, 3, 4]) [(1, .sl 0 0 m 1), (2, .i .i64 (x : Int)), (3, .p 1 [] 0), (7, .p 2 [] 0), (8, .p 3 [] 0), (9, .sl 4 0 1 1)] [.ro m 1 (nmF gn), .var (ds_ N b w), .var (rwD fun _ _ => 0), .var (bl fun _ => false), .row 2 1 1 (numsF [gn 0])] (Taken.of [0, 1, 2, 3, 4] (LeAll.cons (by rfl) (by first | with_reducible exact Root.Le.refl _ | with_reducible exact le_dead | (first | exact le_row (Nat.le_refl _) (fun j hj => by obtain rfl : j = 0 := (by have : j < 1 := hj; omega); rfl) | exact le_var rfl) | exact byLeq) (by exact byCon) (LeAll.cons (by rfl) (by first | with_reducible exact Root.Le.refl _ | with_reducible exact le_dead | (first | exact le_row (Nat.le_refl _) (fun j hj => by obtain rfl : j = 0 := (by have : j < 1 := hj; omega); rfl) | exact le_var rfl) | exact byLeq) (by exact byCon) (LeAll.cons (by rfl) (by first | with_reducible exact Root.Le.refl _ | with_reducible exact le_dead | (first | exact le_row (Nat.le_refl _) (fun j hj => by obtain rfl : j = 0 := (by have : j < 1 := hj; omega); rfl) | exact le_var rfl) | exact byLeq) (by exact byCon) (LeAll.cons (by rfl) (by first | with_reducible exact Root.Le.refl _ | with_reducible exact le_dead | (first | exact le_row (Nat.le_refl _) (fun j hj => by obtain rfl : j = 0 := (by have : j < 1 := hj; omega); rfl) | exact le_var rfl) | exact byLeq) (by exact byCon) (LeAll.cons (by rfl) (by first | with_reducible exact Root.Le.refl _ | with_reducible exact le_dead | (first | exact le_row (Nat.le_refl _) (fun j hj => by obtain rfl : j = 0 := (by have : j < 1 := hj; omega); rfl) | exact le_var rfl) | exact byLeq) (by exact byCon) (trivial)))))) rfl rfl) (by exact bySlots)
          · refine ⟨_, _, _, rfl, by rfl, by rfl, .inr ⟨by decide, TK.of tok (wm := false) (by rfl) (by exact byObl)⟩, ?_⟩
            refine WA.allT [4, 9] (by kernel_rfl) (by simp) ?_; intro i' hi'; simp only [List.mem_cons, List.not_mem_nil, or_false] at hi'
            rcases hi' with rfl | rfl
            · refine ⟨_, _, _, rfl, by rfl, by rfl, .inl (MK.q (evalOp_q tok (wm := false) (by rfl) (by rfl) (by exact byObl))), ?_⟩
              refine WA.allT [5, 9] (by kernel_rfl) (by simp) ?_; intro i' hi'; simp only [List.mem_cons, List.not_mem_nil, or_false] at hi'
              rcases hi' with rfl | rfl
              · refine ⟨_, _, _, rfl, by rfl, by rfl, .inl (MK.of tok (wm := false) (by rfl) (by exact byObl) (by rfl) (by exact byObl)), ?_⟩
                refine WA.allT [9] (by kernel_rfl) (by simp) ?_; intro i' hi'; simp only [List.mem_cons, List.not_mem_nil, or_false] at hi'
                subst hi'
                refine ⟨_, _, _, rfl, by rfl, by rfl, .inr ⟨by decide, TK.of tok (wm := false) (by rfl) (by exact byObl)⟩, ?_⟩
                refine WA.allT [10] (by kernel_rfl) (by simp) ?_; intro i' hi'; simp only [List.mem_cons, List.not_mem_nil, or_false] at hi'
                subst hi'
                refine ⟨_, _, _, rfl, by rfl, by rfl, .inl (MK.q (evalOp_q tok (wm := false) (by rfl) (by rfl) (by exact byObl))), ?_⟩
                refine WA.end rfl (by kernel_rfl) (noPan ?_)
                exact Ghost.cut (Nat.le_refl _) (tauOf [0, 1, 2, 3, 4]) [(1, .sl 0 0 m 1), (2, .i .i64 (x : Int)), (3, .p 1 [] 0), (7, .p 2 [] 0), (8, .p 3 [] 0), (9, .sl 4 0 1 1)] [.ro m 1 (nmF gn), .var (ds_ N b w), .var (rwD fun _ _ => 0), .var (bl fun _ => false), .row 2 1 1 (numsF [gn 0])] (Taken.of [0, 1, 2, 3, 4] (LeAll.cons (by rfl) (by first | with_reducible exact Root.Le.refl _ | with_reducible exact le_dead | (first | exact le_row (Nat.le_refl _) (fun j hj => by obtain rfl : j = 0 := (by have : j < 1 := hj; omega); rfl) | exact le_var rfl) | exact byLeq) (by exact byCon) (LeAll.cons (by rfl) (by first | with_reducible exact Root.Le.refl _ | with_reducible exact le_dead | (first | exact le_row (Nat.le_refl _) (fun j hj => by obtain rfl : j = 0 := (by have : j < 1 := hj; omega); rfl) | exact le_var rfl) | exact byLeq) (by exact byCon) (LeAll.cons (by rfl) (by first | with_reducible exact Root.Le.refl _ | with_reducible exact le_dead | (first | exact le_row (Nat.le_refl _) (fun j hj => by obtain rfl : j = 0 := (by have : j < 1 := hj; omega); rfl) | exact le_var rfl) | exact byLeq) (by exact byCon) (LeAll.cons (by rfl) (by first | with_reducible exact Root.Le.refl _ | with_reducible exact le_dead | (first | exact le_row (Nat.le_refl _) (fun j hj => by obtain rfl : j = 0 := (by have : j < 1 := hj; omega); rfl) | exact le_var rfl) | exact byLeq) (by exact byCon) (LeAll.cons (by rfl) (by first | with_reducible exact Root.Le.refl _ | with_reducible exact le_dead | (first | exact le_row (Nat.le_refl _) (fun j hj => by obtain rfl : j = 0 := (by have : j < 1 := hj; omega); rfl) | exact le_var rfl) | exact byLeq) (by exact byCon) (trivial)))))) rfl rfl) (by exact bySlots)
              · refine ⟨_, _, _, rfl, by rfl, by rfl, .inr ⟨by decide, TK.of tok (wm := false) (by rfl) (by exact byObl)⟩, ?_⟩
                refine WA.allT [5] (by kernel_rfl) (by simp) ?_; intro i' hi'; simp only [List.mem_cons, List.not_mem_nil, or_false] at hi'
                subst hi'
                refine ⟨_, _, _, rfl, by rfl, by rfl, .inl (MK.of tok (wm := false) (by rfl) (by exact byObl) (by rfl) (by exact byObl)), ?_⟩
                refine WA.allT [10] (by kernel_rfl) (by simp) ?_; intro i' hi'; simp only [List.mem_cons, List.not_mem_nil, or_false] at hi'
                subst hi'
                refine ⟨_, _, _, rfl, by rfl, by rfl, .inl (MK.q (evalOp_q tok (wm := false) (by rfl) (by rfl) (by exact byObl))), ?_⟩
                refine WA.end rfl (by kernel_rfl) (noPan ?_)
                exact Ghost.cut (Nat.le_refl _) (tauOf [0, 1, 2, 3, 4]) [(1, .sl 0 0 m 1), (2, .i .i64 (x : Int)), (3, .p 1 [] 0), (7, .p 2 [] 0), (8, .p 3 [] 0), (9, .sl 4 0 1 1)] [.ro m 1 (nmF gn), .var (ds_ N b w), .var (rwD fun _ _ => 0), .var (bl fun _ => false), .row 2 1 1 (numsF [gn 0])] (Taken.of [0, 1, 2, 3, 4] (LeAll.cons (by rfl) (by first | with_reducible exact Root.Le.refl _ | with_reducible exact le_dead | (first | exact le_row (Nat.le_refl _) (fun j hj => by obtain rfl : j = 0 := (by have : j < 1 := hj; omega); rfl) | exact le_var rfl) | exact byLeq) (by exact byCon) (LeAll.cons (by rfl) (by first | with_reducible exact Root.Le.refl _ | with_reducible exact le_dead | (first | exact le_row (Nat.le_refl _) (fun j hj => by obtain rfl : j = 0 := (by have : j < 1 := hj; omega); rfl) | exact le_var rfl) | exact byLeq) (by exact byCon) (LeAll.cons (by rfl) (by first | with_reducible exact Root.Le.refl _ | with_reducible exact le_dead | (first | exact le_row (Nat.le_refl _) (fun j hj => by obtain rfl : j = 0 := (by have : j < 1 := hj; omega); rfl) | exact le_var rfl) | exact byLeq) (by exact byCon) (LeAll.cons (by rfl) (by first | with_reducible exact Root.Le.refl _ | with_reducible exact le_dead | (first | exact le_row (Nat.le_refl _) (fun j hj => by obtain rfl : j = 0 := (by have : j < 1 := hj; omega); rfl) | exact le_var rfl) | exact byLeq) (by exact byCon) (LeAll.cons (by rfl) (by first | with_reducible exact Root.Le.refl _ | with_reducible exact le_dead | (first | exact le_row (Nat.le_refl _) (fun j hj => by obtain rfl : j = 0 := (by have : j < 1 := hj; omega); rfl) | exact le_var rfl) | exact byLeq) (by exact byCon) (trivial)))))) rfl rfl) (by exact bySlots)
            · refine ⟨_, _, _, rfl, by rfl, by rfl, .inr ⟨by decide, TK.of tok (wm := false) (by rfl) (by exact byObl)⟩, ?_⟩
              refine WA.allT [4] (by kernel_rfl) (by simp) ?_; intro i' hi'; simp only [List.mem_cons, List.not_mem_nil, or_false] at hi'
              subst hi'
              refine ⟨_, _, _, rfl, by rfl, by rfl, .inl (MK.q (evalOp_q tok (wm := false) (by rfl) (by rfl) (by exact byObl))), ?_⟩
              refine WA.allT [5] (by kernel_rfl) (by simp) ?_; intro i' hi'; simp only [List.mem_cons, List.not_mem_nil, or_false] at hi'
              subst hi'
              refine ⟨_, _, _, rfl, by rfl, by rfl, .inl (MK.of tok (wm := false) (by rfl) (by exact byObl) (by rfl) (by exact byObl)), ?_⟩
              refine WA.allT [10] (by kernel_rfl) (by simp) ?_; intro i' hi'; simp only [List.mem_cons, List.not_mem_nil, or_false] at hi'
              subst hi'
              refine ⟨_, _, _, rfl, by rfl, by rfl, .inl (MK.q (evalOp_q tok (wm := false) (by rfl) (by rfl) (by exact byObl))), ?_⟩
              refine WA.end rfl (by kernel_rfl) (noPan ?_)
              exact Ghost.cut (Nat.le_refl _) (tauOf [0, 1, 2, 3, 4]) [(1, .sl 0 0 m 1), (2, .i .i64 (x : Int)), (3, .p 1 [] 0), (7, .p 2 [] 0), (8, .p 3 [] 0), (9, .sl 4 0 1 1)] [.ro m 1 (nmF gn), .var (ds_ N b w), .var (rwD fun _ _ => 0), .var (bl fun _ => false), .row 2 1 1 (numsF [gn 0])] (Taken.of [0, 1, 2, 3, 4] (LeAll.cons (by rfl) (by first | with_reducible exact Root.Le.refl _ | with_reducible exact le_dead | (first | exact le_row (Nat.le_refl _) (fun j hj => by obtain rfl : j = 0 := (by have : j < 1 := hj; omega); rfl) | exact le_var rfl) | exact byLeq) (by exact byCon) (LeAll.cons (by rfl) (by first | with_reducible exact Root.Le.refl _ | with_reducible exact le_dead | (first | exact le_row (Nat.le_refl _) (fun j hj => by obtain rfl : j = 0 := (by have : j < 1 := hj; omega); rfl) | exact le_var rfl) | exact byLeq) (by exact byCon) (LeAll.cons (by rfl) (by first | with_reducible exact Root.Le.refl _ | with_reducible exact le_dead | (first | exact le_row (Nat.le_refl _) (fun j hj => by obtain rfl : j = 0 := (by have : j < 1 := hj; omega); rfl) | exact le_var rfl) | exact byLeq) (by exact byCon) (LeAll.cons (by rfl) (by first | with_reducible exact Root.Le.refl _ | with_reducible exact le_dead | (first | exact le_row (Nat.le_refl _) (fun j hj => by obtain rfl : j = 0 := (by have : j < 1 := hj; omega); rfl) | exact le_var rfl) | exact byLeq) (by exact byCon) (LeAll.cons (by rfl) (by first | with_reducible exact Root.Le.refl _ | with_reducible exact le_dead | (first | exact le_row (Nat.le_refl _) (fun j hj => by obtain rfl : j = 0 := (by have : j < 1 := hj; omega); rfl) | exact le_var rfl) | exact byLeq) (by exact byCon) (trivial)))))) rfl rfl) (by exact bySlots)
      · refine ⟨_, _, _, rfl, by rfl, by rfl, .inl (MK.of tok (wm := false) (by rfl) (by exact byObl) (by rfl) (by exact byObl)), ?_⟩
        refine WA.allT [3, 8] (by kernel_rfl) (by simp) ?_; intro i' hi'; simp only [List.mem_cons, List.not_mem_nil, or_false] at hi'
        rcases hi' with rfl | rfl
        · refine ⟨_, _, _, rfl, by rfl, by rfl, .inl (MK.q (evalOp_q tok (wm := false) (by rfl) (by rfl) (by exact byObl))), ?_⟩
          refine WA.allT [4, 8] (by kernel_rfl) (by simp) ?_; intro i' hi'; simp only [List.mem_cons, List.not_mem_nil, or_false] at hi'
          rcases hi' with rfl | rfl
          · refine ⟨_, _, _, rfl, by rfl, by rfl, .inl (MK.q (evalOp_q tok (wm := false) (by rfl) (by rfl) (by exact byObl))), ?_⟩
            refine WA.allT [5, 8] (by kernel_rfl) (by simp) ?_; intro i' hi'; simp only [List.mem_cons, List.not_mem_nil, or_false] at hi'
            rcases hi' with rfl | rfl
            · refine ⟨_, _, _, rfl, by rfl, by rfl, .inl (MK.of tok (wm := false) (by rfl) (by exact byObl) (by rfl) (by exact byObl)), ?_⟩
              refine WA.allT [8] (by kernel_rfl) (by simp) ?_; intro i' hi'; simp only [List.mem_cons, List.not_mem_nil, or_false] at hi'
              subst hi'
              refine ⟨_, _, _, rfl, by rfl, by rfl, .inr ⟨by decide, TK.of tok (wm := false) (by rfl) (by exact byObl)⟩, ?_⟩
              refine WA.allT [9] (by kernel_rfl) (by simp) ?_; intro i' hi'; simp only [List.mem_cons, List.not_mem_nil, or_false] at hi'
              subst hi'
              refine ⟨_, _, _, rfl, by rfl, by rfl, .inr ⟨by decide, TK.of tok (wm := false) (by rfl) (by exact byObl)⟩, ?_⟩
              refine WA.allT [10] (by kernel_rfl) (by simp) ?_; intro i' hi'; simp only [List.mem_cons, List.not_mem_nil, or_false] at hi'
              subst hi'
              refine ⟨_, _, _, rfl, by rfl, by rfl, .inl (MK.q (evalOp_q tok (wm := false) (by rfl) (by rfl) (by exact byObl))), ?_⟩
              refine WA.end rfl (by kernel_rfl) (noPan ?_)
              exact Ghost.cut (Nat.le_refl _) (tauOf [0, 1, 2, 3, 4]) [(1, .sl 0 0 m 1), (2, .i .i64 (x : Int)), (3, .p 1 [] 0), (7, .p 2 [] 0), (8, .p 3 [] 0), (9, .sl 4 0 1 1)] [.ro m 1 (nmF gn), .var (ds_ N b w), .var (rwD fun _ _ => 0), .var (bl fun _ => false), .row 2 1 1 (numsF [gn 0])] (Taken.of [0, 1, 2, 3, 4] (LeAll.cons (by rfl) (by first | with_reducible exact Root.Le.refl _ | with_reducible exact le_dead | (first | exact le_row (Nat.le_refl _) (fun j hj => by obtain rfl : j = 0 := (by have : j < 1 := hj; omega); rfl) | exact le_var rfl) | exact byLeq) (by exact byCon) (LeAll.cons (by rfl) (by first | with_reducible exact Root.Le.refl _ | with_reducible exact le_dead | (first | exact le_row (Nat.le_refl _) (fun j hj => by obtain rfl : j = 0 := (by have : j < 1 := hj; omega); rfl) | exact le_var rfl) | exact byLeq) (by exact byCon) (LeAll.cons (by rfl) (by first | with_reducible exact Root.Le.refl _ | with_reducible exact le_dead | (first | exact le_row (Nat.le_refl _) (fun j hj => by obtain rfl : j = 0 := (by have : j < 1 := hj; omega); rfl) | exact le_var rfl) | exact byLeq) (by exact byCon) (LeAll.cons (by rfl) (by first | with_reducible exact Root.Le.refl _ | with_reducible exact le_dead | (first | exact le_row (Nat.le_refl _) (fun j hj => by obtain rfl : j = 0 := (by have : j < 1 := hj; omega); rfl) | exact le_var rfl) | exact byLeq) (by exact byCon) (LeAll.cons (by rfl) (by first | with_reducible exact Root.Le.refl _ | with_reducible exact le_dead | (first | exact le_row (Nat.le_refl _) (fun j hj => by obtain rfl : j = 0 := (by have : j < 1 := hj; omega); rfl) | exact le_var rfl) | exact byLeq) (by exact byCon) (trivial)))))) rfl rfl) (by exact bySlots)
            · refine ⟨_, _, _, rfl, by rfl, by rfl, .inr ⟨by decide, TK.of tok (wm := false) (by rfl) (by exact byObl)⟩, ?_⟩
              refine WA.allT [5, 9] (by kernel_rfl) (by simp) ?_; intro i' hi'; simp only [List.mem_cons, List.not_mem_nil, or_false] at hi'
              rcases hi' with rfl | rfl
              · refine ⟨_, _, _, rfl, by rfl, by rfl, .inl (MK.of tok (wm := false) (by rfl) (by exact byObl) (by rfl) (by exact byObl)), ?_⟩
                refine WA.allT [9] (by kernel_rfl) (by simp) ?_; intro i' hi'; simp only [List.mem_cons, List.not_mem_nil, or_false] at hi'
                subst hi'
                refine ⟨_, _, _, rfl, by rfl, by rfl, .inr ⟨by decide, TK.of tok (wm := false) (by rfl) (by exact byObl)⟩, ?_⟩
                refine WA.allT [10] (by kernel_rfl) (by simp) ?_; intro i' hi'; simp only [List.mem_cons, List.not_mem_nil, or_false] at hi'
                subst hi'
                refine ⟨_, _, _, rfl, by rfl, by rfl, .inl (MK.q (evalOp_q tok (wm := false) (by rfl) (by rfl) (by exact byObl))), ?_⟩
                refine WA.end rfl (by kernel_rfl) (noPan ?_)
                exact Ghost.cut (Nat.le_refl _) (tauOf [0, 1, 2, 3, 4]) [(1, .sl 0 0 m 1), (2, .i .i64 (x : Int)), (3, .p 1 [] 0), (7, .p 2 [] 0), (8, .p 3 [] 0), (9, .sl 4 0 1 1)] [.ro m 1 (nmF gn), .var (ds_ N b w), .var (rwD fun _ _ => 0), .var (bl fun _ => false), .row 2 1 1 (numsF [gn 0])] (Taken.of [0, 1, 2, 3, 4] (LeAll.cons (by rfl) (by first | with_reducible exact Root.Le.refl _ | with_reducible exact le_dead | (first | exact le_row (Nat.le_refl _) (fun j hj => by obtain rfl : j = 0 := (by have : j < 1 := hj; omega); rfl) | exact le_var rfl) | exact byLeq) (by exact byCon) (LeAll.cons (by rfl) (by first | with_reducible exact Root.Le.refl _ | with_reducible exact le_dead | (first | exact le_row (Nat.le_refl _) (fun j hj => by obtain rfl : j = 0 := (by have : j < 1 := hj; omega); rfl) | exact le_var rfl) | exact byLeq) (by exact byCon) (LeAll.cons (by rfl) (by first | with_reducible exact Root.Le.refl _ | with_reducible exact le_dead | (first | exact le_row (Nat.le_refl _) (fun j hj => by obtain rfl : j = 0 := (by have : j < 1 := hj; omega); rfl) | exact le_var rfl) | exact byLeq) (by exact byCon) (LeAll.cons (by rfl) (by first | with_reducible exact Root.Le.refl _ | with_reducible exact le_dead | (first | exact le_row (Nat.le_refl _) (fun j hj => by obtain rfl : j = 0 := (by have : j < 1 := hj; omega); rfl) | exact le_var rfl) | exact byLeq) (by exact byCon) (LeAll.cons (by rfl) (by first | with_reducible exact Root.Le.refl _ | with_reducible exact le_dead | (first | exact le_row (Nat.le_refl _) (fun j hj => by obtain rfl : j = 0 := (by have : j < 1 := hj; omega); rfl) | exact le_var rfl) | exact byLeq) (by exact byCon) (trivial)))))) rfl rfl) (by exact bySlots)
              · refine ⟨_, _, _, rfl, by rfl, by rfl, .inr ⟨by decide, TK.of tok (wm := false) (by rfl) (by exact byObl)⟩, ?_⟩
                refine WA.allT [5] (by kernel_rfl) (by simp) ?_; intro i' hi'; simp only [List.mem_cons, List.not_mem_nil, or_false] at hi'
                subst hi'
                refine ⟨_, _, _, rfl, by rfl, by rfl, .inl (MK.of tok (wm := false) (by rfl) (by exact byObl) (by rfl) (by exact byObl)), ?_⟩
                refine WA.allT [10] (by kernel_rfl) (by simp) ?_; intro i' hi'; simp only [List.mem_cons, List.not_mem_nil, or_false] at hi'
                subst hi'
                refine ⟨_, _, _, rfl, by rfl, by rfl, .inl (MK.q (evalOp_q tok (wm := false) (by rfl) (by rfl) (by exact byObl))), ?_⟩
                refine WA.end rfl (by kernel_rfl) (noPan ?_)
                exact Ghost.cut (Nat.le_refl _) (tauOf [0, 1, 2, 3, 4]) [(1, .sl 0 0 m 1), (2, .i .i64 (x : Int)), (3, .p 1 [] 0), (7, .p 2 [] 0), (8, .p 3 [] 0), (9, .sl 4 0 1 1)] [.ro m 1 (nmF gn), .var (ds_ N b w), .var (rwD fun _ _ => 0), .var (bl fun _ => false), .row 2 1 1 (numsF [gn 0])] (Taken.of [0, 1, 2, 3, 4] (LeAll.cons (by rfl) (by first | with_reducible exact Root.Le.refl _ | with_reducible exact le_dead | (first | exact le_row (Nat.le_refl _) (fun j hj => by obtain rfl : j = 0 := (by have : j < 1 := hj; omega); rfl) | exact le_var rfl) | exact byLeq) (by exact byCon) (LeAll.cons (by rfl) (by first | with_reducible exact Root.Le.refl _ | with_reducible exact le_dead | (first | exact le_row (Nat.le_refl _) (fun j hj => by obtain rfl : j = 0 := (by have : j < 1 := hj; omega); rfl) | exact le_var rfl) | exact byLeq) (by exact byCon) (LeAll.cons (by rfl) (by first | with_reducible exact Root.Le.refl _ | with_reducible exact le_dead | (first | exact le_row (Nat.le_refl _) (fun j hj => by obtain rfl : j = 0 := (by have : j < 1 := hj; omega); rfl) | exact le_var rfl) | exact byLeq) (by exact byCon) (LeAll.cons (by rfl) (by first | with_reducible exact Root.Le.refl _ | with_reducible exact le_dead | (first | exact le_row (Nat.le_refl _) (fun j hj => by obtain rfl : j = 0 := (by have : j < 1 := hj; omega); rfl) | exact le_var rfl) | exact byLeq) (by exact byCon) (LeAll.cons (by rfl) (by first | with_reducible exact Root.Le.refl _ | with_reducible exact le_dead | (first | exact le_row (Nat.le_refl _) (fun j hj => by obtain rfl : j = 0 := (by have : j < 1 := hj; omega); rfl) | exact le_var rfl) | exact byLeq) (by exact byCon) (trivial)))))) rfl rfl) (by exact bySlots)
          · refine ⟨_, _, _, rfl, by rfl, by rfl, .inr ⟨by decide, TK.of tok (wm := false) (by rfl) (by exact byObl)⟩, ?_⟩
            refine WA.allT [4, 9] (by kernel_rfl) (by simp) ?_; intro i' hi'; simp only [List.mem_cons, List.not_mem_nil, or_false] at hi'
            rcases hi' with rfl | rfl
            · refine ⟨_, _, _, rfl, by rfl, by rfl, .inl (MK.q (evalOp_q tok (wm := false) (by rfl) (by rfl) (by exact byObl))), ?_⟩
              refine WA.allT [5, 9] (by kernel_rfl) (by simp) ?_; intro i' hi'; simp only [List.mem_cons, List.not_mem_nil, or_false] at hi'
              rcases hi' with rfl | rfl
              · refine ⟨_, _, _, rfl, by rfl, by rfl, .inl (MK.of tok (wm := false) (by rfl) (by exact byObl) (by rfl) (by exact byObl)), ?_⟩
                refine WA.allT [9] (by kernel_rfl) (by simp) ?_; intro i' hi'; simp only [List.mem_cons, List.not_mem_nil, or_false] at hi'
                subst hi'
                refine ⟨_, _, _, rfl, by rfl, by rfl, .inr ⟨by decide, TK.of tok (wm := false) (by rfl) (by exact byObl)⟩, ?_⟩
                refine WA.allT [10] (by kernel_rfl) (by simp) ?_; intro i' hi'; simp only [List.mem_cons, List.not_mem_nil, or_false] at hi'
                subst hi'
                refine ⟨_, _, _, rfl, by rfl, by rfl, .inl (MK.q (evalOp_q tok (wm := false) (by rfl) (by rfl) (by exact byObl))), ?_⟩
                refine WA.end rfl (by kernel_rfl) (noPan ?_)
                exact Ghost.cut (Nat.le_refl _) (tauOf [0, 1, 2, 3, 4]) [(1, .sl 0 0 m 1), (2, .i .i64 (x : Int)), (3, .p 1 [] 0), (7, .p 2 [] 0), (8, .p 3 [] 0), (9, .sl 4 0 1 1)] [.ro m 1 (nmF gn), .var (ds_ N b w), .var (rwD fun _ _ => 0), .var (bl fun _ => false), .row 2 1 1 (numsF [gn 0])] (Taken.of [0, 1, 2, 3, 4] (LeAll.cons (by rfl) (by first | with_reducible exact Root.Le.refl _ | with_reducible exact le_dead | (first | exact le_row (Nat.le_refl _) (fun j hj => by obtain rfl : j = 0 := (by have : j < 1 := hj; omega); rfl) | exact le_var rfl) | exact byLeq) (by exact byCon) (LeAll.cons (by rfl) (by first | with_reducible exact Root.Le.refl _ | with_reducible exact le_dead | (first | exact le_row (Nat.le_refl _) (fun j hj => by obtain rfl : j = 0 := (by have : j < 1 := hj; omega); rfl) | exact le_var rfl) | exact byLeq) (by exact byCon) (LeAll.cons (by rfl) (by first | with_reducible exact Root.Le.refl _ | with_reducible exact le_dead | (first | exact le_row (Nat.le_refl _) (fun j hj => by obtain rfl : j = 0 := (by have : j < 1 := hj; omega); rfl) | exact le_var rfl) | exact byLeq) (by exact byCon) (LeAll.cons (by rfl) (by first | with_reducible exact Root.Le.refl _ | with_reducible exact le_dead | (first | exact le_row (Nat.le_refl _) (fun j hj => by obtain rfl : j = 0 := (by have : j < 1 := hj; omega); rfl) | exact le_var rfl) | exact byLeq) (by exact byCon) (LeAll.cons (by rfl) (by first | with_reducible exact Root.Le.refl _ | with_reducible exact le_dead | (first | exact le_row (Nat.le_refl _) (fun j hj => by obtain rfl : j = 0 := (by have : j < 1 := hj; omega); rfl) | exact le_var rfl) | exact byLeq) (by exact byCon) (trivial)))))) rfl rfl) (by exact bySlots)
              · refine ⟨_, _, _, rfl, by rfl, by rfl, .inr ⟨by decide, TK.of tok (wm := false) (by rfl) (by exact byObl)⟩, ?_⟩
                refine WA.allT [5] (by kernel_rfl) (by simp) ?_; intro i' hi'; simp only [List.mem_cons, List.not_mem_nil, or_false] at hi'
                subst hi'
                refine ⟨_, _, _, rfl, by rfl, by rfl, .inl (MK.of tok (wm := false) (by rfl) (by exact byObl) (by rfl) (by exact byObl)), ?_⟩
                refine WA.allT [10] (by kernel_rfl) (by simp) ?_; intro i' hi'; simp only [List.mem_cons, List.not_mem_nil, or_false] at hi'
                subst hi'
                refine ⟨_, _, _, rfl, by rfl, by rfl, .inl (MK.q (evalOp_q tok (wm := false) (by rfl) (by rfl) (by exact byObl))), ?_⟩
                refine WA.end rfl (by kernel_rfl) (noPan ?_)
                exact Ghost.cut (Nat.le_refl _) (tauOf [0, 1, 2, 3, 4]) [(1, .sl 0 0 m 1), (2, .i .i64 (x : Int)), (3, .p 1 [] 0), (7, .p 2 [] 0), (8, .p 3 [] 0), (9, .sl 4 0 1 1)] [.ro m 1 (nmF gn), .var (ds_ N b w), .var (rwD fun _ _ => 0), .var (bl fun _ => false), .row 2 1 1 (numsF [gn 0])] (Taken.of [0, 1, 2, 3, 4] (LeAll.cons (by rfl) (by first | with_reducible exact Root.Le.refl _ | with_reducible exact le_dead | (first | exact le_row (Nat.le_refl _) (fun j hj => by obtain rfl : j = 0 := (by have : j < 1 := hj; omega); rfl) | exact le_var rfl) | exact byLeq) (by exact byCon) (LeAll.cons (by rfl) (by first | with_reducible exact Root.Le.refl _ | with_reducible exact le_dead | (first | exact le_row (Nat.le_refl _) (fun j hj => by obtain rfl : j = 0 := (by have : j < 1 := hj; omega); rfl) | exact le_var rfl) | exact byLeq) (by exact byCon) (LeAll.cons (by rfl) (by first | with_reducible exact Root.Le.refl _ | with_reducible exact le_dead | (first | exact le_row (Nat.le_refl _) (fun j hj => by obtain rfl : j = 0 := (by have : j < 1 := hj; omega); rfl) | exact le_var rfl) | exact byLeq) (by exact byCon) (LeAll.cons (by rfl) (by first | with_reducible exact Root.Le.refl _ | with_reducible exact le_dead | (first | exact le_row (Nat.le_refl _) (fun j hj => by obtain rfl : j = 0 := (by have : j < 1 := hj; omega); rfl) | exact le_var rfl) | exact byLeq) (by exact byCon) (LeAll.cons (by rfl) (by first | with_reducible exact Root.Le.refl _ | with_reducible exact le_dead | (first | exact le_row (Nat.le_refl _) (fun j hj => by obtain rfl : j = 0 := (by have : j < 1 := hj; omega); rfl) | exact le_var rfl) | exact byLeq) (by exact byCon) (trivial)))))) rfl rfl) (by exact bySlots)
            · refine ⟨_, _, _, rfl, by rfl, by rfl, .inr ⟨by decide, TK.of tok (wm := false) (by rfl) (by exact byObl)⟩, ?_⟩
              refine WA.allT [4] (by kernel_rfl) (by simp) ?_; intro i' hi'; simp only [List.mem_cons, List.not_mem_nil, or_false] at hi'
              subst hi'
              refine ⟨_, _, _, rfl, by rfl, by rfl, .inl (MK.q (evalOp_q tok (wm := false) (by rfl) (by rfl) (by exact byObl))), ?_⟩
              refine WA.allT [5] (by kernel_rfl) (by simp) ?_; intro i' hi'; simp only [List.mem_cons, List.not_mem_nil, or_false] at hi'
              subst hi'
              refine ⟨_, _, _, rfl, by rfl, by rfl, .inl (MK.of tok (wm := false) (by rfl) (by exact byObl) (by rfl) (by exact byObl)), ?_⟩
              refine WA.allT [10] (by kernel_rfl) (by simp) ?_; intro i' hi'; simp only [List.mem_cons, List.not_mem_nil, or_false] at hi'
              subst hi'
              refine ⟨_, _, _, rfl, by rfl, by rfl, .inl (MK.q (evalOp_q tok (wm := false) (by rfl) (by rfl) (by exact byObl))), ?_⟩
              refine WA.end rfl (by kernel_rfl) (noPan ?_)
              exact Ghost.cut (Nat.le_refl _) (tauOf [0, 1, 2, 3, 4]) [(1, .sl 0 0 m 1), (2, .i .i64 (x : Int)), (3, .p 1 [] 0), (7, .p 2 [] 0), (8, .p 3 [] 0), (9, .sl 4 0 1 1)] [.ro m 1 (nmF gn), .var (ds_ N b w), .var (rwD fun _ _ => 0), .var (bl fun _ => false), .row 2 1 1 (numsF [gn 0])] (Taken.of [0, 1, 2, 3, 4] (LeAll.cons (by rfl) (by first | with_reducible exact Root.Le.refl _ | with_reducible exact le_dead | (first | exact le_row (Nat.le_refl _) (fun j hj => by obtain rfl : j = 0 := (by have : j < 1 := hj; omega); rfl) | exact le_var rfl) | exact byLeq) (by exact byCon) (LeAll.cons (by rfl) (by first | with_reducible exact Root.Le.refl _ | with_reducible exact le_dead | (first | exact le_row (Nat.le_refl _) (fun j hj => by obtain rfl : j = 0 := (by have : j < 1 := hj; omega); rfl) | exact le_var rfl) | exact byLeq) (by exact byCon) (LeAll.cons (by rfl) (by first | with_reducible exact Root.Le.refl _ | with_reducible exact le_dead | (first | exact le_row (Nat.le_refl _) (fun j hj => by obtain rfl : j = 0 := (by have : j < 1 := hj; omega); rfl) | exact le_var rfl) | exact byLeq) (by exact byCon) (LeAll.cons (by rfl) (by first | with_reducible exact Root.Le.refl _ | with_reducible exact le_dead | (first | exact le_row (Nat.le_refl _) (fun j hj => by obtain rfl : j = 0 := (by have : j < 1 := hj; omega); rfl) | exact le_var rfl) | exact byLeq) (by exact byCon) (LeAll.cons (by rfl) (by first | with_reducible exact Root.Le.refl _ | with_reducible exact le_dead | (first | exact le_row (Nat.le_refl _) (fun j hj => by obtain rfl : j = 0 := (by have : j < 1 := hj; omega); rfl) | exact le_var rfl) | exact byLeq) (by exact byCon) (trivial)))))) rfl rfl) (by exact bySlots)
        · refine ⟨_, _, _, rfl, by rfl, by rfl, .inr ⟨by decide, TK.of tok (wm := false) (by rfl) (by exact byObl)⟩, ?_⟩
          refine WA.allT [3, 9] (by kernel_rfl) (by simp) ?_; intro i' hi'; simp only [List.mem_cons, List.not_mem_nil, or_false] at hi'
          rcases hi' with rfl | rfl
          · refine ⟨_, _, _, rfl, by rfl, by rfl, .inl (MK.q (evalOp_q tok (wm := false) (by rfl) (by rfl) (by exact byObl))), ?_⟩
            refine WA.allT [4, 9] (by kernel_rfl) (by simp) ?_; intro i' hi'; simp only [List.mem_cons, List.not_mem_nil, or_false] at hi'
            rcases hi' with rfl | rfl
            · refine ⟨_, _, _, rfl, by rfl, by rfl, .inl (MK.q (evalOp_q tok (wm := false) (by rfl) (by rfl) (by exact byObl))), ?_⟩
              refine WA.allT [5, 9] (by kernel_rfl) (by simp) ?_; intro i' hi'; simp only [List.mem_cons, List.not_mem_nil, or_false] at hi'
              rcases hi' with rfl | rfl
              · refine ⟨_, _, _, rfl, by rfl, by rfl, .inl (MK.of tok (wm := false) (by rfl) (by exact byObl) (by rfl) (by exact byObl)), ?_⟩
                refine WA.allT [9] (by kernel_rfl) (by simp) ?_; intro i' hi'; simp only [List.mem_cons, List.not_mem_nil, or_false] at hi'
                subst hi'
                refine ⟨_, _, _, rfl, by rfl, by rfl, .inr ⟨by decide, TK.of tok (wm := false) (by rfl) (by exact byObl)⟩, ?_⟩
                refine WA.allT [10] (by kernel_rfl) (by simp) ?_; intro i' hi'; simp only [List.mem_cons, List.not_mem_nil, or_false] at hi'
                subst hi'
                refine ⟨_, _, _, rfl, by rfl, by rfl, .inl (MK.q (evalOp_q tok (wm := false) (by rfl) (by rfl) (by exact byObl))), ?_⟩
                refine WA.end rfl (by kernel_rfl) (noPan ?_)
                exact Ghost.cut (Nat.le_refl _) (tauOf [0, 1, 2, 3, 4]) [(1, .sl 0 0 m 1), (2, .i .i64 (x : Int)), (3, .p 1 [] 0), (7, .p 2 [] 0), (8, .p 3 [] 0), (9, .sl 4 0 1 1)] [.ro m 1 (nmF gn), .var (ds_ N b w), .var (rwD fun _ _ => 0), .var (bl fun _ => false), .row 2 1 1 (numsF [gn 0])] (Taken.of [0, 1, 2, 3, 4] (LeAll.cons (by rfl) (by first | with_reducible exact Root.Le.refl _ | with_reducible exact le_dead | (first | exact le_row (Nat.le_refl _) (fun j hj => by obtain rfl : j = 0 := (by have : j < 1 := hj; omega); rfl) | exact le_var rfl) | exact byLeq) (by exact byCon) (LeAll.cons (by rfl) (by first | with_reducible exact Root.Le.refl _ | with_reducible exact le_dead | (first | exact le_row (Nat.le_refl _) (fun j hj => by obtain rfl : j = 0 := (by have : j < 1 := hj; omega); rfl) | exact le_var rfl) | exact byLeq) (by exact byCon) (LeAll.cons (by rfl) (by first | with_reducible exact Root.Le.refl _ | with_reducible exact le_dead | (first | exact le_row (Nat.le_refl _) (fun j hj => by obtain rfl : j = 0 := (by have : j < 1 := hj; omega); rfl) | exact le_var rfl) | exact byLeq) (by exact byCon) (LeAll.cons (by rfl) (by first | with_reducible exact Root.Le.refl _ | with_reducible exact le_dead | (first | exact le_row (Nat.le_refl _) (fun j hj => by obtain rfl : j = 0 := (by have : j < 1 := hj; omega); rfl) | exact le_var rfl) | exact byLeq) (by exact byCon) (LeAll.cons (by rfl) (by first | with_reducible exact Root.Le.refl _ | with_reducible exact le_dead | (first | exact le_row (Nat.le_refl _) (fun j hj => by obtain rfl : j = 0 := (by have : j < 1 := hj; omega); rfl) | exact le_var rfl) | exact byLeq) (by exact byCon) (trivial)))))) rfl rfl) (by exact bySlots)
              · refine ⟨_, _, _, rfl, by rfl, by rfl, .inr ⟨by decide, TK.of tok (wm := false) (by rfl) (by exact byObl)⟩, ?_⟩
                refine WA.allT [5] (by kernel_rfl) (by simp) ?_; intro i' hi'; simp only [List.mem_cons, List.not_mem_nil, or_false] at hi'
                subst hi'
                refine ⟨_, _, _, rfl, by rfl, by rfl, .inl (MK.of tok (wm := false) (by rfl) (by exact byObl) (by rfl) (by exact byObl)), ?_⟩
                refine WA.allT [10] (by kernel_rfl) (by simp) ?_; intro i' hi'; simp only [List.mem_cons, List.not_mem_nil, or_false] at hi'
                subst hi'
                refine ⟨_, _, _, rfl, by rfl, by rfl, .inl (MK.q (evalOp_q tok (wm := false) (by rfl) (by rfl) (by exact byObl))), ?_⟩
                refine WA.end rfl (by kernel_rfl) (noPan ?_)
                exact Ghost.cut (Nat.le_refl _) (tauOf [0, 1, 2, 3, 4]) [(1, .sl 0 0 m 1), (2, .i .i64 (x : Int)), (3, .p 1 [] 0), (7, .p 2 [] 0), (8, .p 3 [] 0), (9, .sl 4 0 1 1)] [.ro m 1 (nmF gn), .var (ds_ N b w), .var (rwD fun _ _ => 0), .var (bl fun _ => false), .row 2 1 1 (numsF [gn 0])] (Taken.of [0, 1, 2, 3, 4] (LeAll.cons (by rfl) (by first | with_reducible exact Root.Le.refl _ | with_reducible exact le_dead | (first | exact le_row (Nat.le_refl _) (fun j hj => by obtain rfl : j = 0 := (by have : j < 1 := hj; omega); rfl) | exact le_var rfl) | exact byLeq) (by exact byCon) (LeAll.cons (by rfl) (by first | with_reducible exact Root.Le.refl _ | with_reducible exact le_dead | (first | exact le_row (Nat.le_refl _) (fun j hj => by obtain rfl : j = 0 := (by have : j < 1 := hj; omega); rfl) | exact le_var rfl) | exact byLeq) (by exact byCon) (LeAll.cons (by rfl) (by first | with_reducible exact Root.Le.refl _ | with_reducible exact le_dead | (first | exact le_row (Nat.le_refl _) (fun j hj => by obtain rfl : j = 0 := (by have : j < 1 := hj; omega); rfl) | exact le_var rfl) | exact byLeq) (by exact byCon) (LeAll.cons (by rfl) (by first | with_reducible exact Root.Le.refl _ | with_reducible exact le_dead | (first | exact le_row (Nat.le_refl _) (fun j hj => by obtain rfl : j = 0 := (by have : j < 1 := hj; omega); rfl) | exact le_var rfl) | exact byLeq) (by exact byCon) (LeAll.cons (by rfl) (by first | with_reducible exact Root.Le.refl _ | with_reducible exact le_dead | (first | exact le_row (Nat.le_refl _) (fun j hj => by obtain rfl : j = 0 := (by have : j < 1 := hj; omega); rfl) | exact le_var rfl) | exact byLeq) (by exact byCon) (trivial)))))) rfl rfl) (by exact bySlots)
            · refine ⟨_, _, _, rfl, by rfl, by rfl, .inr ⟨by decide, TK.of tok (wm := false) (by rfl) (by exact byObl)⟩, ?_⟩
              refine WA.allT [4] (by kernel_rfl) (by simp) ?_; intro i' hi'; simp only [List.mem_cons, List.not_mem_nil, or_false] at hi'
              subst hi'
              refine ⟨_, _, _, rfl, by rfl, by rfl, .inl (MK.q (evalOp_q tok (wm := false) (by rfl) (by rfl) (by exact byObl))), ?_⟩
              refine WA.allT [5] (by kernel_rfl) (by simp) ?_; intro i' hi'; simp only [List.mem_cons, List.not_mem_nil, or_false] at hi'
              subst hi'
              refine ⟨_, _, _, rfl, by rfl, by rfl, .inl (MK.of tok (wm := false) (by rfl) (by exact byObl) (by rfl) (by exact byObl)), ?_⟩
              refine WA.allT [10] (by kernel_rfl) (by simp) ?_; intro i' hi'; simp only [List.mem_cons, List.not_mem_nil, or_false] at hi'
              subst hi'
              refine ⟨_, _, _, rfl, by rfl, by rfl, .inl (MK.q (evalOp_q tok (wm := false) (by rfl) (by rfl) (by exact byObl))), ?_⟩
              refine WA.end rfl (by kernel_rfl) (noPan ?_)
              exact Ghost.cut (Nat.le_refl _) (tauOf [0, 1, 2, 3, 4]) [(1, .sl 0 0 m 1), (2, .i .i64 (x : Int)), (3, .p 1 [] 0), (7, .p 2 [] 0), (8, .p 3 [] 0), (9, .sl 4 0 1 1)] [.ro m 1 (nmF gn), .var (ds_ N b w), .var (rwD fun _ _ => 0), .var (bl fun _ => false), .row 2 1 1 (numsF [gn 0])] (Taken.of [0, 1, 2, 3, 4] (LeAll.cons (by rfl) (by first | with_reducible exact Root.Le.refl _ | with_reducible exact le_dead | (first | exact le_row (Nat.le_refl _) (fun j hj => by obtain rfl : j = 0 := (by have : j < 1 := hj; omega); rfl) | exact le_var rfl) | exact byLeq) (by exact byCon) (LeAll.cons (by rfl) (by first | with_reducible exact Root.Le.refl _ | with_reducible exact le_dead | (first | exact le_row (Nat.le_refl _) (fun j hj => by obtain rfl : j = 0 := (by have : j < 1 := hj; omega); rfl) | exact le_var rfl) | exact byLeq) (by exact byCon) (LeAll.cons (by rfl) (by first | with_reducible exact Root.Le.refl _ | with_reducible exact le_dead | (first | exact le_row (Nat.le_refl _) (fun j hj => by obtain rfl : j = 0 := (by have : j < 1 := hj; omega); rfl) | exact le_var rfl) | exact byLeq) (by exact byCon) (LeAll.cons (by rfl) (by first | with_reducible exact Root.Le.refl _ | with_reducible exact le_dead | (first | exact le_row (Nat.le_refl _) (fun j hj => by obtain rfl : j = 0 := (by have : j < 1 := hj; omega); rfl) | exact le_var rfl) | exact byLeq) (by exact byCon) (LeAll.cons (by rfl) (by first | with_reducible exact Root.Le.refl _ | with_reducible exact le_dead | (first | exact le_row (Nat.le_refl _) (fun j hj => by obtain rfl : j = 0 := (by have : j < 1 := hj; omega); rfl) | exact le_var rfl) | exact byLeq) (by exact byCon) (trivial)))))) rfl rfl) (by exact bySlots)
          · refine ⟨_, _, _, rfl, by rfl, by rfl, .inr ⟨by decide, TK.of tok (wm := false) (by rfl) (by exact byObl)⟩, ?_⟩
            refine WA.allT [3] (by kernel_rfl) (by simp) ?_; intro i' hi'; simp only [List.mem_cons, List.not_mem_nil, or_false] at hi'
            subst hi'
            refine ⟨_, _, _, rfl, by rfl, by rfl, .inl (MK.q (evalOp_q tok (wm := false) (by rfl) (by rfl) (by exact byObl))), ?_⟩
            refine WA.allT [4] (by kernel_rfl) (by simp) ?_; intro i' hi'; simp only [List.mem_cons, List.not_mem_nil, or_false] at hi'
            subst hi'
            refine ⟨_, _, _, rfl, by rfl, by rfl, .inl (MK.q (evalOp_q tok (wm := false) (by rfl) (by rfl) (by exact byObl))), ?_⟩
            refine WA.allT [5] (by kernel_rfl) (by simp) ?_; intro i' hi'; simp only [List.mem_cons, List.not_mem_nil, or_false] at hi'
            subst hi'
            refine ⟨_, _, _, rfl, by rfl, by rfl, .inl (MK.of tok (wm := false) (by rfl) (by exact byObl) (by rfl) (by exact byObl)), ?_⟩
            refine WA.allT [10] (by kernel_rfl) (by simp) ?_; intro i' hi'; simp only [List.mem_cons, List.not_mem_nil, or_false] at hi'
            subst hi'
            refine ⟨_, _, _, rfl, by rfl, by rfl, .inl (MK.q (evalOp_q tok (wm := false) (by rfl) (by rfl) (by exact byObl))), ?_⟩
            refine WA.end rfl (by kernel_rfl) (noPan ?_)
            exact Ghost.cut (Nat.le_refl _) (tauOf [0, 1, 2, 3, 4]) [(1, .sl 0 0 m 1), (2, .i .i64 (x : Int)), (3, .p 1 [] 0), (7, .p 2 [] 0), (8, .p 3 [] 0), (9, .sl 4 0 1 1)] [.ro m 1 (nmF gn), .var (ds_ N b w), .var (rwD fun _ _ => 0), .var (bl fun _ => false), .row 2 1 1 (numsF [gn 0])] (Taken.of [0, 1, 2, 3, 4] (LeAll.cons (by rfl) (by first | with_reducible exact Root.Le.refl _ | with_reducible exact le_dead | (first | exact le_row (Nat.le_refl _) (fun j hj => by obtain rfl : j = 0 := (by have : j < 1 := hj; omega); rfl) | exact le_var rfl) | exact byLeq) (by exact byCon) (LeAll.cons (by rfl) (by first | with_reducible exact Root.Le.refl _ | with_reducible exact le_dead | (first | exact le_row (Nat.le_refl _) (fun j hj => by obtain rfl : j = 0 := (by have : j < 1 := hj; omega); rfl) | exact le_var rfl) | exact byLeq) (by exact byCon) (LeAll.cons (by rfl) (by first | with_reducible exact Root.Le.refl _ | with_reducible exact le_dead | (first | exact le_row (Nat.le_refl _) (fun j hj => by obtain rfl : j = 0 := (by have : j < 1 := hj; omega); rfl) | exact le_var rfl) | exact byLeq) (by exact byCon) (LeAll.cons (by rfl) (by first | with_reducible exact Root.Le.refl _ | with_reducible exact le_dead | (first | exact le_row (Nat.le_refl _) (fun j hj => by obtain rfl : j = 0 := (by have : j < 1 := hj; omega); rfl) | exact le_var rfl) | exact byLeq) (by exact byCon) (LeAll.cons (by rfl) (by first | with_reducible exact Root.Le.refl _ | with_reducible exact le_dead | (first | exact le_row (Nat.le_refl _) (fun j hj => by obtain rfl : j = 0 := (by have : j < 1 := hj; omega); rfl) | exact le_var rfl) | exact byLeq) (by exact byCon) (trivial)))))) rfl rfl) (by exact bySlots)
    · refine ⟨_, _, _, rfl, by rfl, by rfl, .inl (MK.of tok (wm := false) (by rfl) (by exact byObl) (by rfl) (by exact byObl)), ?_⟩
      refine WA.allT [3, 6] (by kernel_rfl) (by simp) ?_; intro i' hi'; simp only [List.mem_cons, List.not_mem_nil, or_false] at hi'
      rcases hi' with rfl | rfl
      · refine ⟨_, _, _, rfl, by rfl, by rfl, .inl (MK.q (evalOp_q tok (wm := false) (by rfl) (by rfl) (by exact byObl))), ?_⟩
        refine WA.allT [4, 6] (by kernel_rfl) (by simp) ?_; intro i' hi'; simp only [List.mem_cons, List.not_mem_nil, or_false] at hi'
        rcases hi' with rfl | rfl
        · refine ⟨_, _, _, rfl, by rfl, by rfl, .inl (MK.q (evalOp_q tok (wm := false) (by rfl) (by rfl) (by exact byObl))), ?_⟩
          refine WA.allT [5, 6] (by kernel_rfl) (by simp) ?_; intro i' hi'; simp only [List.mem_cons, List.not_mem_nil, or_false] at hi'
          rcases hi' with rfl | rfl
          · refine ⟨_, _, _, rfl, by rfl, by rfl, .inl (MK.of tok (wm := false) (by rfl) (by exact byObl) (by rfl) (by exact byObl)), ?_⟩
            refine WA.allT [6] (by kernel_rfl) (by simp) ?_; intro i' hi'; simp only [List.mem_cons, List.not_mem_nil, or_false] at hi'
            subst hi'
            refine ⟨_, _, _, rfl, by rfl, by rfl, .inl (MK.of tok (wm := false) (by rfl) (by exact byObl) (by rfl) (by exact byObl)), ?_⟩
            refine WA.allT [8] (by kernel_rfl) (by simp) ?_; intro i' hi'; simp only [List.mem_cons, List.not_mem_nil, or_false] at hi'
            subst hi'
            refine ⟨_, _, _, rfl, by rfl, by rfl, .inr ⟨by decide, TK.of tok (wm := false) (by rfl) (by exact byObl)⟩, ?_⟩
            refine WA.allT [9] (by kernel_rfl) (by simp) ?_; intro i' hi'; simp only [List.mem_cons, List.not_mem_nil, or_false] at hi'
            subst hi'
            refine ⟨_, _, _, rfl, by rfl, by rfl, .inr ⟨by decide, TK.of tok (wm := false) (by rfl) (by exact byObl)⟩, ?_⟩
            refine WA.allT [10] (by kernel_rfl) (by simp) ?_; intro i' hi'; simp only [List.mem_cons, List.not_mem_nil, or_false] at hi'
            subst hi'
            refine ⟨_, _, _, rfl, by rfl, by rfl, .inl (MK.q (evalOp_q tok (wm := false) (by rfl) (by rfl) (by exact byObl))), ?_⟩
            refine WA.end rfl (by kernel_rfl) (noPan ?_)
            exact Ghost.cut (Nat.le_refl _) (tauOf [0, 1, 4, 2, 3]) [(1, .sl 0 0 m 1), (2, .i .i64 (x : Int)), (3, .p 1 [] 0), (7, .p 2 [] 0), (8, .p 3 [] 0), (9, .sl 4 0 1 1)] [.ro m 1 (nmF gn), .var (ds_ N b w), .var (rwD fun _ _ => 0), .var (bl fun _ => false), .row 2 1 1 (numsF [gn 0])] (Taken.of [0, 1, 4, 2, 3] (LeAll.cons (by rfl) (by first | with_reducible exact Root.Le.refl _ | with_reducible exact le_dead | (first | exact le_row (Nat.le_refl _) (fun j hj => by obtain rfl : j = 0 := (by have : j < 1 := hj; omega); rfl) | exact le_var rfl) | exact byLeq) (by exact byCon) (LeAll.cons (by rfl) (by first | with_reducible exact Root.Le.refl _ | with_reducible exact le_dead | (first | exact le_row (Nat.le_refl _) (fun j hj => by obtain rfl : j = 0 := (by have : j < 1 := hj; omega); rfl) | exact le_var rfl) | exact byLeq) (by exact byCon) (LeAll.cons (by rfl) (by first | with_reducible exact Root.Le.refl _ | with_reducible exact le_dead | (first | exact le_row (Nat.le_refl _) (fun j hj => by obtain rfl : j = 0 := (by have : j < 1 := hj; omega); rfl) | exact le_var rfl) | exact byLeq) (by exact byCon) (LeAll.cons (by rfl) (by first | with_reducible exact Root.Le.refl _ | with_reducible exact le_dead | (first | exact le_row (Nat.le_refl _) (fun j hj => by obtain rfl : j = 0 := (by have : j < 1 := hj; omega); rfl) | exact le_var rfl) | exact byLeq) (by exact byCon) (LeAll.cons (by rfl) (by first | with_reducible exact Root.Le.refl _ | with_reducible exact le_dead | (first | exact le_row (Nat.le_refl _) (fun j hj => by obtain rfl : j = 0 := (by have : j < 1 := hj; omega); rfl) | exact le_var rfl) | exact byLeq) (by exact byCon) (trivial)))))) rfl rfl) (by exact bySlots)
          · refine ⟨_, _, _, rfl, by rfl, by rfl, .inl (MK.of tok (wm := false) (by rfl) (by exact byObl) (by rfl) (by exact byObl)), ?_⟩
            refine WA.allT [5, 8] (by kernel_rfl) (by simp) ?_; intro i' hi'; simp only [List.mem_cons, List.not_mem_nil, or_false] at hi'
            rcases hi' with rfl | rfl
            · refine ⟨_, _, _, rfl, by rfl, by rfl, .inl (MK.of tok (wm := false) (by rfl) (by exact byObl) (by rfl) (by exact byObl)), ?_⟩
              refine WA.allT [8] (by kernel_rfl) (by simp) ?_; intro i' hi'; simp only [List.mem_cons, List.not_mem_nil, or_false] at hi'
              subst hi'
              refine ⟨_, _, _, rfl, by rfl, by rfl, .inr ⟨by decide, TK.of tok (wm := false) (by rfl) (by exact byObl)⟩, ?_⟩
              refine WA.allT [9] (by kernel_rfl) (by simp) ?_; intro i' hi'; simp only [List.mem_cons, List.not_mem_nil, or_false] at hi'
              subst hi'
              refine ⟨_, _, _, rfl, by rfl, by rfl, .inr ⟨by decide, TK.of tok (wm := false) (by rfl) (by exact byObl)⟩, ?_⟩
              refine WA.allT [10] (by kernel_rfl) (by simp) ?_; intro i' hi'; simp only [List.mem_cons, List.not_mem_nil, or_false] at hi'
              subst hi'
              refine ⟨_, _, _, rfl, by rfl, by rfl, .inl (MK.q (evalOp_q tok (wm := false) (by rfl) (by rfl) (by exact byObl))), ?_⟩
              refine WA.end rfl (by kernel_rfl) (noPan ?_)
              exact Ghost.cut (Nat.le_refl _) (tauOf [0, 1, 3, 2, 4]) [(1, .sl 0 0 m 1), (2, .i .i64 (x : Int)), (3, .p 1 [] 0), (7, .p 2 [] 0), (8, .p 3 [] 0), (9, .sl 4 0 1 1)] [.ro m 1 (nmF gn), .var (ds_ N b w), .var (rwD fun _ _ => 0), .var (bl fun _ => false), .row 2 1 1 (numsF [gn 0])] (Taken.of [0, 1, 3, 2, 4] (LeAll.cons (by rfl) (by first | with_reducible exact Root.Le.refl _ | with_reducible exact le_dead | (first | exact le_row (Nat.le_refl _) (fun j hj => by obtain rfl : j = 0 := (by have : j < 1 := hj; omega); rfl) | exact le_var rfl) | exact byLeq) (by exact byCon) (LeAll.cons (by rfl) (by first | with_reducible exact Root.Le.refl _ | with_reducible exact le_dead | (first | exact le_row (Nat.le_refl _) (fun j hj => by obtain rfl : j = 0 := (by have : j < 1 := hj; omega); rfl) | exact le_var rfl) | exact byLeq) (by exact byCon) (LeAll.cons (by rfl) (by first | with_reducible exact Root.Le.refl _ | with_reducible exact le_dead | (first | exact le_row (Nat.le_refl _) (fun j hj => by obtain rfl : j = 0 := (by have : j < 1 := hj; omega); rfl) | exact le_var rfl) | exact byLeq) (by exact byCon) (LeAll.cons (by rfl) (by first | with_reducible exact Root.Le.refl _ | with_reducible exact le_dead | (first | exact le_row (Nat.le_refl _) (fun j hj => by obtain rfl : j = 0 := (by have : j < 1 := hj; omega); rfl) | exact le_var rfl) | exact byLeq) (by exact byCon) (LeAll.cons (by rfl) (by first | with_reducible exact Root.Le.refl _ | with_reducible exact le_dead | (first | exact le_row (Nat.le_refl _) (fun j hj => by obtain rfl : j = 0 := (by have : j < 1 := hj; omega); rfl) | exact le_var rfl) | exact byLeq) (by exact byCon) (trivial)))))) rfl rfl) (by exact bySlots)
            · refine ⟨_, _, _, rfl, by rfl, by rfl, .inr ⟨by decide, TK.of tok (wm := false) (by rfl) (by exact byObl)⟩, ?_⟩
              refine WA.allT [5, 9] (by kernel_rfl) (by simp) ?_; intro i' hi'; simp only [List.mem_cons, List.not_mem_nil, or_false] at hi'
              rcases hi' with rfl | rfl
              · refine ⟨_, _, _, rfl, by rfl, by rfl, .inl (MK.of tok (wm := false) (by rfl) (by exact byObl) (by rfl) (by exact byObl)), ?_⟩
                refine WA.allT [9] (by kernel_rfl) (by simp) ?_; intro i' hi'; simp only [List.mem_cons, List.not_mem_nil, or_false] at hi'
                subst hi'
                refine ⟨_, _, _, rfl, by rfl, by rfl, .inr ⟨by decide, TK.of tok (wm := false) (by rfl) (by exact byObl)⟩, ?_⟩
                refine WA.allT [10] (by kernel_rfl) (by simp) ?_; intro i' hi'; simp only [List.mem_cons, List.not_mem_nil, or_false] at hi'
                subst hi'
                refine ⟨_, _, _, rfl, by rfl, by rfl, .inl (MK.q (evalOp_q tok (wm := false) (by rfl) (by rfl) (by exact byObl))), ?_⟩
                refine WA.end rfl (by kernel_rfl) (noPan ?_)
                exact Ghost.cut (Nat.le_refl _) (tauOf [0, 1, 3, 2, 4]) [(1, .sl 0 0 m 1), (2, .i .i64 (x : Int)), (3, .p 1 [] 0), (7, .p 2 [] 0), (8, .p 3 [] 0), (9, .sl 4 0 1 1)] [.ro m 1 (nmF gn), .var (ds_ N b w), .var (rwD fun _ _ => 0), .var (bl fun _ => false), .row 2 1 1 (numsF [gn 0])] (Taken.of [0, 1, 3, 2, 4] (LeAll.cons (by rfl) (by first | with_reducible exact Root.Le.refl _ | with_reducible exact le_dead | (first | exact le_row (Nat.le_refl _) (fun j hj => by obtain rfl : j = 0 := (by have : j < 1 := hj; omega); rfl) | exact le_var rfl) | exact byLeq) (by exact byCon) (LeAll.cons (by rfl) (by first | with_reducible exact Root.Le.refl _ | with_reducible exact le_dead | (first | exact le_row (Nat.le_refl _) (fun j hj => by obtain rfl : j = 0 := (by have : j < 1 := hj; omega); rfl) | exact le_var rfl) | exact byLeq) (by exact byCon) (LeAll.cons (by rfl) (by first | with_reducible exact Root.Le.refl _ | with_reducible exact le_dead | (first | exact le_row (Nat.le_refl _) (fun j hj => by obtain rfl : j = 0 := (by have : j < 1 := hj; omega); rfl) | exact le_var rfl) | exact byLeq) (by exact byCon) (LeAll.cons (by rfl) (by first | with_reducible exact Root.Le.refl _ | with_reducible exact le_dead | (first | exact le_row (Nat.le_refl _) (fun j hj => by obtain rfl : j = 0 := (by have : j < 1 := hj; omega); rfl) | exact le_var rfl) | exact byLeq) (by exact byCon) (LeAll.cons (by rfl) (by first | with_reducible exact Root.Le.refl _ | with_reducible exact le_dead | (first | exact le_row (Nat.le_refl _) (fun j hj => by obtain rfl : j = 0 := (by have : j < 1 := hj; omega); rfl) | exact le_var rfl) | exact byLeq) (by exact byCon) (trivial)))))) rfl rfl) (by exact bySlots)
              · refine ⟨_, _, _, rfl, by rfl, by rfl, .inr ⟨by decide, TK.of tok (wm := false) (by rfl) (by exact byObl)⟩, ?_⟩
                refine WA.allT [5] (by kernel_rfl) (by simp) ?_; intro i' hi'; simp only [List.mem_cons, List.not_mem_nil, or_false] at hi'
                subst hi'
                refine ⟨_, _, _, rfl, by rfl, by rfl, .inl (MK.of tok (wm := false) (by rfl) (by exact byObl) (by rfl) (by exact byObl)), ?_⟩
                refine WA.allT [10] (by kernel_rfl) (by simp) ?_; intro i' hi'; simp only [List.mem_cons, List.not_mem_nil, or_false] at hi'
                subst hi'
                refine ⟨_, _, _, rfl, by rfl, by rfl, .inl (MK.q (evalOp_q tok (wm := false) (by rfl) (by rfl) (by exact byObl))), ?_⟩
                refine WA.end rfl (by kernel_rfl) (noPan ?_)
                exact Ghost.cut (Nat.le_refl _) (tauOf [0, 1, 3, 2, 4]) [(1, .sl 0 0 m 1), (2, .i .i64 (x : Int)), (3, .p 1 [] 0), (7, .p 2 [] 0), (8, .p 3 [] 0), (9, .sl 4 0 1 1)] [.ro m 1 (nmF gn), .var (ds_ N b w), .var (rwD fun _ _ => 0), .var (bl fun _ => false), .row 2 1 1 (numsF [gn 0])] (Taken.of [0, 1, 3, 2, 4] (LeAll.cons (by rfl) (by first | with_reducible exact Root.Le.refl _ | with_reducible exact le_dead | (first | exact le_row (Nat.le_refl _) (fun j hj => by obtain rfl : j = 0 := (by have : j < 1 := hj; omega); rfl) | exact le_var rfl) | exact byLeq) (by exact byCon) (LeAll.cons (by rfl) (by first | with_reducible exact Root.Le.refl _ | with_reducible exact le_dead | (first | exact le_row (Nat.le_refl _) (fun j hj => by obtain rfl : j = 0 := (by have : j < 1 := hj; omega); rfl) | exact le_var rfl) | exact byLeq) (by exact byCon) (LeAll.cons (by rfl) (by first | with_reducible exact Root.Le.refl _ | with_reducible exact le_dead | (first | exact le_row (Nat.le_refl _) (fun j hj => by obtain rfl : j = 0 := (by have : j < 1 := hj; omega); rfl) | exact le_var rfl) | exact byLeq) (by exact byCon) (LeAll.cons (by rfl) (by first | with_reducible exact Root.Le.refl _ | with_reducible exact le_dead | (first | exact le_row (Nat.le_refl _) (fun j hj => by obtain rfl : j = 0 := (by have : j < 1 := hj; omega); rfl) | exact le_var rfl) | exact byLeq) (by exact byCon) (LeAll.cons (by rfl) (by first | with_reducible exact Root.Le.refl _ | with_reducible exact le_dead | (first | exact le_row (Nat.le_refl _) (fun j hj => by obtain rfl : j = 0 := (by have : j < 1 := hj; omega); rfl) | exact le_var rfl) | exact byLeq) (by exact byCon) (trivial)))))) rfl rfl) (by exact bySlots)
        · refine ⟨_, _, _, rfl, by rfl, by rfl, .inl (MK.of tok (wm := false) (by rfl) (by exact byObl) (by rfl) (by exact byObl)), ?_⟩
          refine WA.allT [4, 8] (by kernel_rfl) (by simp) ?_; intro i' hi'; simp only [List.mem_cons, List.not_mem_nil, or_false] at hi'
          rcases hi' with rfl | rfl
          · refine ⟨_, _, _, rfl, by rfl, by rfl, .inl (MK.q (evalOp_q tok (wm := false) (by rfl) (by rfl) (by exact byObl))), ?_⟩
            refine WA.allT [5, 8] (by kernel_rfl) (by simp) ?_; intro i' hi'; simp only [List.mem_cons, List.not_mem_nil, or_false] at hi'
            rcases hi' with rfl | rfl
            · refine ⟨_, _, _, rfl, by rfl, by rfl, .inl (MK.of tok (wm := false) (by rfl) (by exact byObl) (by rfl) (by exact byObl)), ?_⟩
              refine WA.allT [8] (by kernel_rfl) (by simp) ?_; intro i' hi'; simp only [List.mem_cons, List.not_mem_nil, or_false] at hi'
              subst hi'
              refine ⟨_, _, _, rfl, by rfl, by rfl, .inr ⟨by decide, TK.of tok (wm := false) (by rfl) (by exact byObl)⟩, ?_⟩
              refine WA.allT [9] (by kernel_rfl) (by simp) ?_; intro i' hi'; simp only [List.mem_cons, List.not_mem_nil, or_false] at hi'
              subst hi'
              refine ⟨_, _, _, rfl, by rfl, by rfl, .inr ⟨by decide, TK.of tok (wm := false) (by rfl) (by exact byObl)⟩, ?_⟩
              refine WA.allT [10] (by kernel_rfl) (by simp) ?_; intro i' hi'; simp only [List.mem_cons, List.not_mem_nil, or_false] at hi'
              subst hi'
              refine ⟨_, _, _, rfl, by rfl, by rfl, .inl (MK.q (evalOp_q tok (wm := false) (by rfl) (by rfl) (by exact byObl))), ?_⟩
              refine WA.end rfl (by kernel_rfl) (noPan ?_)
              exact Ghost.cut (Nat.le_refl _) (tauOf [0, 1, 3, 2, 4]) [(1, .sl 0 0 m 1), (2, .i .i64 (x : Int)), (3, .p 1 [] 0), (7, .p 2 [] 0), (8, .p 3 [] 0), (9, .sl 4 0 1 1)] [.ro m 1 (nmF gn), .var (ds_ N b w), .var (rwD fun _ _ => 0), .var (bl fun _ => false), .row 2 1 1 (numsF [gn 0])] (Taken.of [0, 1, 3, 2, 4] (LeAll.cons (by rfl) (by first | with_reducible exact Root.Le.refl _ | with_reducible exact le_dead | (first | exact le_row (Nat.le_refl _) (fun j hj => by obtain rfl : j = 0 := (by have : j < 1 := hj; omega); rfl) | exact le_var rfl) | exact byLeq) (by exact byCon) (LeAll.cons (by rfl) (by first | with_reducible exact Root.Le.refl _ | with_reducible exact le_dead | (first | exact le_row (Nat.le_refl _) (fun j hj => by obtain rfl : j = 0 := (by have : j < 1 := hj; omega); rfl) | exact le_var rfl) | exact byLeq) (by exact byCon) (LeAll.cons (by rfl) (by first | with_reducible exact Root.Le.refl _ | with_reducible exact le_dead | (first | exact le_row (Nat.le_refl _) (fun j hj => by obtain rfl : j = 0 := (by have : j < 1 := hj; omega); rfl) | exact le_var rfl) | exact byLeq) (by exact byCon) (LeAll.cons (by rfl) (by first | with_reducible exact Root.Le.refl _ | with_reducible exact le_dead | (first | exact le_row (Nat.le_refl _) (fun j hj => by obtain rfl : j = 0 := (by have : j < 1 := hj; omega); rfl) | exact le_var rfl) | exact byLeq) (by exact byCon) (LeAll.cons (by rfl) (by first | with_reducible exact Root.Le.refl _ | with_reducible exact le_dead | (first | exact le_row (Nat.le_refl _) (fun j hj => by obtain rfl : j = 0 := (by have : j < 1 := hj; omega); rfl) | exact le_var rfl) | exact byLeq) (by exact byCon) (trivial)))))) rfl rfl) (by exact bySlots)
            · refine ⟨_, _, _, rfl, by rfl, by rfl, .inr ⟨by decide, TK.of tok (wm := false) (by rfl) (by exact byObl)⟩, ?_⟩
              refine WA.allT [5, 9] (by kernel_rfl) (by simp) ?_; intro i' hi'; simp only [List.mem_cons, List.not_mem_nil, or_false] at hi'
              rcases hi' with rfl | rfl
              · refine ⟨_, _, _, rfl, by rfl, by rfl, .inl (MK.of tok (wm := false) (by rfl) (by exact byObl) (by rfl) (by exact byObl)), ?_⟩
                refine WA.allT [9] (by kernel_rfl) (by simp) ?_; intro i' hi'; simp only [List.mem_cons, List.not_mem_nil, or_false] at hi'
                subst hi'
                refine ⟨_, _, _, rfl, by rfl, by rfl, .inr ⟨by decide, TK.of tok (wm := false) (by rfl) (by exact byObl)⟩, ?_⟩
                refine WA.allT [10] (by kernel_rfl) (by simp) ?_; intro i' hi'; simp only [List.mem_cons, List.not_mem_nil, or_false] at hi'
                subst hi'
                refine ⟨_, _, _, rfl, by rfl, by rfl, .inl (MK.q (evalOp_q tok (wm := false) (by rfl) (by rfl) (by exact byObl))), ?_⟩
                refine WA.end rfl (by kernel_rfl) (noPan ?_)
                exact Ghost.cut (Nat.le_refl _) (tauOf [0, 1, 3, 2, 4]) [(1, .sl 0 0 m 1), (2, .i .i64 (x : Int)), (3, .p 1 [] 0), (7, .p 2 [] 0), (8, .p 3 [] 0), (9, .sl 4 0 1 1)] [.ro m 1 (nmF gn), .var (ds_ N b w), .var (rwD fun _ _ => 0), .var (bl fun _ => false), .row 2 1 1 (numsF [gn 0])] (Taken.of [0, 1, 3, 2, 4] (LeAll.cons (by rfl) (by first | with_reducible exact Root.Le.refl _ | with_reducible exact le_dead | (first | exact le_row (Nat.le_refl _) (fun j hj => by obtain rfl : j = 0 := (by have : j < 1 := hj; omega); rfl) | exact le_var rfl) | exact byLeq) (by exact byCon) (LeAll.cons (by rfl) (by first | with_reducible exact Root.Le.refl _ | with_reducible exact le_dead | (first | exact le_row (Nat.le_refl _) (fun j hj => by obtain rfl : j = 0 := (by have : j < 1 := hj; omega); rfl) | exact le_var rfl) | exact byLeq) (by exact byCon) (LeAll.cons (by rfl) (by first | with_reducible exact Root.Le.refl _ | with_reducible exact le_dead | (first | exact le_row (Nat.le_refl _) (fun j hj => by obtain rfl : j = 0 := (by have : j < 1 := hj; omega); rfl) | exact le_var rfl) | exact byLeq) (by exact byCon) (LeAll.cons (by rfl) (by first | with_reducible exact Root.Le.refl _ | with_reducible exact le_dead | (first | exact le_row (Nat.le_refl _) (fun j hj => by obtain rfl : j = 0 := (by have : j < 1 := hj; omega); rfl) | exact le_var rfl) | exact byLeq) (by exact byCon) (LeAll.cons (by rfl) (by first | with_reducible exact Root.Le.refl _ | with_reducible exact le_dead | (first | exact le_row (Nat.le_refl _) (fun j hj => by obtain rfl : j = 0 := (by have : j < 1 := hj; omega); rfl) | exact le_var rfl) | exact byLeq) (by exact byCon) (trivial)))))) rfl rfl) (by exact bySlots)
              · refine ⟨_, _, _, rfl, by rfl, by rfl, .inr ⟨by decide, TK.of tok (wm := false) (by rfl) (by exact byObl)⟩, ?_⟩
                refine WA.allT [5] (by kernel_rfl) (by simp) ?_; intro i' hi'; simp only [List.mem_cons, List.not_mem_nil, or_false] at hi'
                subst hi'
                refine ⟨_, _, _, rfl, by rfl, by rfl, .inl (MK.of tok (wm := false) (by rfl) (by exact byObl) (by rfl) (by exact byObl)), ?_⟩
                refine WA.allT [10] (by kernel_rfl) (by simp) ?_; intro i' hi'; simp only [List.mem_cons, List.not_mem_nil, or_false] at hi'
                subst hi'
                refine ⟨_, _, _, rfl, by rfl, by rfl, .inl (MK.q (evalOp_q tok (wm := false) (by rfl) (by rfl) (by exact byObl))), ?_⟩
                refine WA.end rfl (by kernel_rfl) (noPan ?_)
                exact Ghost.cut (Nat.le_refl _) (tauOf [0, 1, 3, 2, 4]) [(1, .sl 0 0 m 1), (2, .i .i64 (x : Int)), (3, .p 1 [] 0), (7, .p 2 [] 0), (8, .p 3 [] 0), (9, .sl 4 0 1 1)] [.ro m 1 (nmF gn), .var (ds_ N b w), .var (rwD fun _ _ => 0), .var (bl fun _ => false), .row 2 1 1 (numsF [gn 0])] (Taken.of [0, 1, 3, 2, 4] (LeAll.cons (by rfl) (by first | with_reducible exact Root.Le.refl _ | with_reducible exact le_dead | (first | exact le_row (Nat.le_refl _) (fun j hj => by obtain rfl : j = 0 := (by have : j < 1 := hj; omega); rfl) | exact le_var rfl) | exact byLeq) (by exact byCon) (LeAll.cons (by rfl) (by first | with_reducible exact Root.Le.refl _ | with_reducible exact le_dead | (first | exact le_row (Nat.le_refl _) (fun j hj => by obtain rfl : j = 0 := (by have : j < 1 := hj; omega); rfl) | exact le_var rfl) | exact byLeq) (by exact byCon) (LeAll.cons (by rfl) (by first | with_reducible exact Root.Le.refl _ | with_reducible exact le_dead | (first | exact le_row (Nat.le_refl _) (fun j hj => by obtain rfl : j = 0 := (by have : j < 1 := hj; omega); rfl) | exact le_var rfl) | exact byLeq) (by exact byCon) (LeAll.cons (by rfl) (by first | with_reducible exact Root.Le.refl _ | with_reducible exact le_dead | (first | exact le_row (Nat.le_refl _) (fun j hj => by obtain rfl : j = 0 := (by have : j < 1 := hj; omega); rfl) | exact le_var rfl) | exact byLeq) (by exact byCon) (LeAll.cons (by rfl) (by first | with_reducible exact Root.Le.refl _ | with_reducible exact le_dead | (first | exact le_row (Nat.le_refl _) (fun j hj => by obtain rfl : j = 0 := (by have : j < 1 := hj; omega); rfl) | exact le_var rfl) | exact byLeq) (by exact byCon) (trivial)))))) rfl rfl) (by exact bySlots)
          · refine ⟨_, _, _, rfl, by rfl, by rfl, .inr ⟨by decide, TK.of tok (wm := false) (by rfl) (by exact byObl)⟩, ?_⟩
            refine WA.allT [4, 9] (by kernel_rfl) (by simp) ?_; intro i' hi'; simp only [List.mem_cons, List.not_mem_nil, or_false] at hi'
            rcases hi' with rfl | rfl
            · refine ⟨_, _, _, rfl, by rfl, by rfl, .inl (MK.q (evalOp_q tok (wm := false) (by rfl) (by rfl) (by exact byObl))), ?_⟩
              refine WA.allT [5, 9] (by kernel_rfl) (by simp) ?_; intro i' hi'; simp only [List.mem_cons, List.not_mem_nil, or_false] at hi'
              rcases hi' with rfl | rfl
              · refine ⟨_, _, _, rfl, by rfl, by rfl, .inl (MK.of tok (wm := false) (by rfl) (by exact byObl) (by rfl) (by exact byObl)), ?_⟩
                refine WA.allT [9] (by kernel_rfl) (by simp) ?_; intro i' hi'; simp only [List.mem_cons, List.not_mem_nil, or_false] at hi'
                subst hi'
                refine ⟨_, _, _, rfl, by rfl, by rfl, .inr ⟨by decide, TK.of tok (wm := false) (by rfl) (by exact byObl)⟩, ?_⟩
                refine WA.allT [10] (by kernel_rfl) (by simp) ?_; intro i' hi'; simp only [List.mem_cons, List.not_mem_nil, or_false] at hi'
                subst hi'
                refine ⟨_, _, _, rfl, by rfl, by rfl, .inl (MK.q (evalOp_q tok (wm := false) (by rfl) (by rfl) (by exact byObl))), ?_⟩
                refine WA.end rfl (by kernel_rfl) (noPan ?_)
                exact Ghost.cut (Nat.le_refl _) (tauOf [0, 1, 3, 2, 4]) [(1, .sl 0 0 m 1), (2, .i .i64 (x : Int)), (3, .p 1 [] 0), (7, .p 2 [] 0), (8, .p 3 [] 0), (9, .sl 4 0 1 1)] [.ro m 1 (nmF gn), .var (ds_ N b w), .var (rwD fun _ _ => 0), .var (bl fun _ => false), .row 2 1 1 (numsF [gn 0])] (Taken.of [0, 1, 3, 2, 4] (LeAll.cons (by rfl) (by first | with_reducible exact Root.Le.refl _ | with_reducible exact le_dead | (first | exact le_row (Nat.le_refl _) (fun j hj => by obtain rfl : j = 0 := (by have : j < 1 := hj; omega); rfl) | exact le_var rfl) | exact byLeq) (by exact byCon) (LeAll.cons (by rfl) (by first | with_reducible exact Root.Le.refl _ | with_reducible exact le_dead | (first | exact le_row (Nat.le_refl _) (fun j hj => by obtain rfl : j = 0 := (by have : j < 1 := hj; omega); rfl) | exact le_var rfl) | exact byLeq) (by exact byCon) (LeAll.cons (by rfl) (by first | with_reducible exact Root.Le.refl _ | with_reducible exact le_dead | (first | exact le_row (Nat.le_refl _) (fun j hj => by obtain rfl : j = 0 := (by have : j < 1 := hj; omega); rfl) | exact le_var rfl) | exact byLeq) (by exact byCon) (LeAll.cons (by rfl) (by first | with_reducible exact Root.Le.refl _ | with_reducible exact le_dead | (first | exact le_row (Nat.le_refl _) (fun j hj => by obtain rfl : j = 0 := (by have : j < 1 := hj; omega); rfl) | exact le_var rfl) | exact byLeq) (by exact byCon) (LeAll.cons (by rfl) (by first | with_reducible exact Root.Le.refl _ | with_reducible exact le_dead | (first | exact le_row (Nat.le_refl _) (fun j hj => by obtain rfl : j = 0 := (by have : j < 1 := hj; omega); rfl) | exact le_var rfl) | exact byLeq) (by exact byCon) (trivial)))))) rfl rfl) (by exact bySlots)
              · refine ⟨_, _, _, rfl, by rfl, by rfl, .inr ⟨by decide, TK.of tok (wm := false) (by rfl) (by exact byObl)⟩, ?_⟩
                refine WA.allT [5] (by kernel_rfl) (by simp) ?_; intro i' hi'; simp only [List.mem_cons, List.not_mem_nil, or_false] at hi'
                subst hi'
                refine ⟨_, _, _, rfl, by rfl, by rfl, .inl (MK.of tok (wm := false) (by rfl) (by exact byObl) (by rfl) (by exact byObl)), ?_⟩
                refine WA.allT [10] (by kernel_rfl) (by simp) ?_; intro i' hi'; simp only [List.mem_cons, List.not_mem_nil, or_false] at hi'
                subst hi'
                refine ⟨_, _, _, rfl, by rfl, by rfl, .inl (MK.q (evalOp_q tok (wm := false) (by rfl) (by rfl) (by exact byObl))), ?_⟩
                refine WA.end rfl (by kernel_rfl) (noPan ?_)
                exact Ghost.cut (Nat.le_refl _) (tauOf [0, 1, 3, 2, 4]) [(1, .sl 0 0 m 1), (2, .i .i64 (x : Int)), (3, .p 1 [] 0), (7, .p 2 [] 0), (8, .p 3 [] 0), (9, .sl 4 0 1 1)] [.ro m 1 (nmF gn), .var (ds_ N b w), .var (rwD fun _ _ => 0), .var (bl fun _ => false), .row 2 1 1 (numsF [gn 0])] (Taken.of [0, 1, 3, 2, 4] (LeAll.cons (by rfl) (by first | with_reducible exact Root.Le.refl _ | with_reducible exact le_dead | (first | exact le_row (Nat.le_refl _) (fun j hj => by obtain rfl : j = 0 := (by have : j < 1 := hj; omega); rfl) | exact le_var rfl) | exact byLeq) (by exact byCon) (LeAll.cons (by rfl) (by first | with_reducible exact Root.Le.refl _ | with_reducible exact le_dead | (first | exact le_row (Nat.le_refl _) (fun j hj => by obtain rfl : j = 0 := (by have : j < 1 := hj; omega); rfl) | exact le_var rfl) | exact byLeq) (by exact byCon) (LeAll.cons (by rfl) (by first | with_reducible exact Root.Le.refl _ | with_reducible exact le_dead | (first | exact le_row (Nat.le_refl _) (fun j hj => by obtain rfl : j = 0 := (by have : j < 1 := hj; omega); rfl) | exact le_var rfl) | exact byLeq) (by exact byCon) (LeAll.cons (by rfl) (by first | with_reducible exact Root.Le.refl _ | with_reducible exact le_dead | (first | exact le_row (Nat.le_refl _) (fun j hj => by obtain rfl : j = 0 := (by have : j < 1 := hj; omega); rfl) | exact le_var rfl) | exact byLeq) (by exact byCon) (LeAll.cons (by rfl) (by first | with_reducible exact Root.Le.refl _ | with_reducible exact le_dead | (first | exact le_row (Nat.le_refl _) (fun j hj => by obtain rfl : j = 0 := (by have : j < 1 := hj; omega); rfl) | exact le_var rfl) | exact byLeq) (by exact byCon) (trivial)))))) rfl rfl) (by exact bySlots)
            · refine ⟨_, _, _, rfl, by rfl, by rfl, .inr ⟨by decide, TK.of tok (wm := false) (by rfl) (by exact byObl)⟩, ?_⟩
              refine WA.allT [4] (by kernel_rfl) (by simp) ?_; intro i' hi'; simp only [List.mem_cons, List.not_mem_nil, or_false] at hi'
              subst hi'
              refine ⟨_, _, _, rfl, by rfl, by rfl, .inl (MK.q (evalOp_q tok (wm := false) (by rfl) (by rfl) (by exact byObl))), ?_⟩
              refine WA.allT [5] (by kernel_rfl) (by simp) ?_; intro i' hi'; simp only [List.mem_cons, List.not_mem_nil, or_false] at hi'
              subst hi'
              refine ⟨_, _, _, rfl, by rfl, by rfl, .inl (MK.of tok (wm := false) (by rfl) (by exact byObl) (by rfl) (by exact byObl)), ?_⟩
              refine WA.allT [10] (by kernel_rfl) (by simp) ?_; intro i' hi'; simp only [List.mem_cons, List.not_mem_nil, or_false] at hi'
              subst hi'
              refine ⟨_, _, _, rfl, by rfl, by rfl, .inl (MK.q (evalOp_q tok (wm := false) (by rfl) (by rfl) (by exact byObl))), ?_⟩
              refine WA.end rfl (by kernel_rfl) (noPan ?_)
              exact Ghost.cut (Nat.le_refl _) (tauOf [0, 1, 3, 2, 4]) [(1, .sl 0 0 m 1), (2, .i .i64 (x : Int)), (3, .p 1 [] 0), (7, .p 2 [] 0), (8, .p 3 [] 0), (9, .sl 4 0 1 1)] [.ro m 1 (nmF gn), .var (ds_ N b w), .var (rwD fun _ _ => 0), .var (bl fun _ => false), .row 2 1 1 (numsF [gn 0])] (Taken.of [0, 1, 3, 2, 4] (LeAll.cons (by rfl) (by first | with_reducible exact Root.Le.refl _ | with_reducible exact le_dead | (first | exact le_row (Nat.le_refl _) (fun j hj => by obtain rfl : j = 0 := (by have : j < 1 := hj; omega); rfl) | exact le_var rfl) | exact byLeq) (by exact byCon) (LeAll.cons (by rfl) (by first | with_reducible exact Root.Le.refl _ | with_reducible exact le_dead | (first | exact le_row (Nat.le_refl _) (fun j hj => by obtain rfl : j = 0 := (by have : j < 1 := hj; omega); rfl) | exact le_var rfl) | exact byLeq) (by exact byCon) (LeAll.cons (by rfl) (by first | with_reducible exact Root.Le.refl _ | with_reducible exact le_dead | (first | exact le_row (Nat.le_refl _) (fun j hj => by obtain rfl : j = 0 := (by have : j < 1 := hj; omega); rfl) | exact le_var rfl) | exact byLeq) (by exact byCon) (LeAll.cons (by rfl) (by first | with_reducible exact Root.Le.refl _ | with_reducible exact le_dead | (first | exact le_row (Nat.le_refl _) (fun j hj => by obtain rfl : j = 0 := (by have : j < 1 := hj; omega); rfl) | exact le_var rfl) | exact byLeq) (by exact byCon) (LeAll.cons (by rfl) (by first | with_reducible exact Root.Le.refl _ | with_reducible exact le_dead | (first | exact le_row (Nat.le_refl _) (fun j hj => by obtain rfl : j = 0 := (by have : j < 1 := hj; omega); rfl) | exact le_var rfl) | exact byLeq) (by exact byCon) (trivial)))))) rfl rfl) (by exact bySlots)
      · refine ⟨_, _, _, rfl, by rfl, by rfl, .inl (MK.of tok (wm := false) (by rfl) (by exact byObl) (by rfl) (by exact byObl)), ?_⟩
        refine WA.allT [3, 8] (by kernel_rfl) (by simp) ?_; intro i' hi'; simp only [List.mem_cons, List.not_mem_nil, or_false] at hi'
        rcases hi' with rfl | rfl
        · refine ⟨_, _, _, rfl, by rfl, by rfl, .inl (MK.q (evalOp_q tok (wm := false) (by rfl) (by rfl) (by exact byObl))), ?_⟩
          refine WA.allT [4, 8] (by kernel_rfl) (by simp) ?_; intro i' hi'; simp only [List.mem_cons, List.not_mem_nil, or_false] at hi'
          rcases hi' with rfl | rfl
          · refine ⟨_, _, _, rfl, by rfl, by rfl, .inl (MK.q (evalOp_q tok (wm := false) (by rfl) (by rfl) (by exact byObl))), ?_⟩
            refine WA.allT [5, 8] (by kernel_rfl) (by simp) ?_; intro i' hi'; simp only [List.mem_cons, List.not_mem_nil, or_false] at hi'
            rcases hi' with rfl | rfl
            · refine ⟨_, _, _, rfl, by rfl, by rfl, .inl (MK.of tok (wm := false) (by rfl) (by exact byObl) (by rfl) (by exact byObl)), ?_⟩
              refine WA.allT [8] (by kernel_rfl) (by simp) ?_; intro i' hi'; simp only [List.mem_cons, List.not_mem_nil, or_false] at hi'
              subst hi'
              refine ⟨_, _, _, rfl, by rfl, by rfl, .inr ⟨by decide, TK.of tok (wm := false) (by rfl) (by exact byObl)⟩, ?_⟩
              refine WA.allT [9] (by kernel_rfl) (by simp) ?_; intro i' hi'; simp only [List.mem_cons, List.not_mem_nil, or_false] at hi'
              subst hi'
              refine ⟨_, _, _, rfl, by rfl, by rfl, .inr ⟨by decide, TK.of tok (wm := false) (by rfl) (by exact byObl)⟩, ?_⟩
              refine WA.allT [10] (by kernel_rfl) (by simp) ?_; intro i' hi'; simp only [List.mem_cons, List.not_mem_nil, or_false] at hi'
              subst hi'
              refine ⟨_, _, _, rfl, by rfl, by rfl, .inl (MK.q (evalOp_q tok (wm := false) (by rfl) (by rfl) (by exact byObl))), ?_⟩
              refine WA.end rfl (by kernel_rfl) (noPan ?_)
              exact Ghost.cut (Nat.le_refl _) (tauOf [0, 1, 3, 2, 4]) [(1, .sl 0 0 m 1), (2, .i .i64 (x : Int)), (3, .p 1 [] 0), (7, .p 2 [] 0), (8, .p 3 [] 0), (9, .sl 4 0 1 1)] [.ro m 1 (nmF gn), .var (ds_ N b w), .var (rwD fun _ _ => 0), .var (bl fun _ => false), .row 2 1 1 (numsF [gn 0])] (Taken.of [0, 1, 3, 2, 4] (LeAll.cons (by rfl) (by first | with_reducible exact Root.Le.refl _ | with_reducible exact le_dead | (first | exact le_row (Nat.le_refl _) (fun j hj => by obtain rfl : j = 0 := (by have : j < 1 := hj; omega); rfl) | exact le_var rfl) | exact byLeq) (by exact byCon) (LeAll.cons (by rfl) (by first | with_reducible exact Root.Le.refl _ | with_reducible exact le_dead | (first | exact le_row (Nat.le_refl _) (fun j hj => by obtain rfl : j = 0 := (by have : j < 1 := hj; omega); rfl) | exact le_var rfl) | exact byLeq) (by exact byCon) (LeAll.cons (by rfl) (by first | with_reducible exact Root.Le.refl _ | with_reducible exact le_dead | (first | exact le_row (Nat.le_refl _) (fun j hj => by obtain rfl : j = 0 := (by have : j < 1 := hj; omega); rfl) | exact le_var rfl) | exact byLeq) (by exact byCon) (LeAll.cons (by rfl) (by first | with_reducible exact Root.Le.refl _ | with_reducible exact le_dead | (first | exact le_row (Nat.le_refl _) (fun j hj => by obtain rfl : j = 0 := (by have : j < 1 := hj; omega); rfl) | exact le_var rfl) | exact byLeq) (by exact byCon) (LeAll.cons (by rfl) (by first | with_reducible exact Root.Le.refl _ | with_reducible exact le_dead | (first | exact le_row (Nat.le_refl _) (fun j hj => by obtain rfl : j = 0 := (by have : j < 1 := hj; omega); rfl) | exact le_var rfl) | exact byLeq) (by exact byCon) (trivial)))))) rfl rfl) (by exact bySlots)
            · refine ⟨_, _, _, rfl, by rfl, by rfl, .inr ⟨by decide, TK.of tok (wm := false) (by rfl) (by exact byObl)⟩, ?_⟩
              refine WA.allT [5, 9] (by kernel_rfl) (by simp) ?_; intro i' hi'; simp only [List.mem_cons, List.not_mem_nil, or_false] at hi'
              rcases hi' with rfl | rfl
              · refine ⟨_, _, _, rfl, by rfl, by rfl, .inl (MK.of tok (wm := false) (by rfl) (by exact byObl) (by rfl) (by exact byObl)), ?_⟩
                refine WA.allT [9] (by kernel_rfl) (by simp) ?_; intro i' hi'; simp only [List.mem_cons, List.not_mem_nil, or_false] at hi'
                subst hi'
                refine ⟨_, _, _, rfl, by rfl, by rfl, .inr ⟨by decide, TK.of tok (wm := false) (by rfl) (by exact byObl)⟩, ?_⟩
                refine WA.allT [10] (by kernel_rfl) (by simp) ?_; intro i' hi'; simp only [List.mem_cons, List.not_mem_nil, or_false] at hi'
                subst hi'
                refine ⟨_, _, _, rfl, by rfl, by rfl, .inl (MK.q (evalOp_q tok (wm := false) (by rfl) (by rfl) (by exact byObl))), ?_⟩
                refine WA.end rfl (by kernel_rfl) (noPan ?_)
                exact Ghost.cut (Nat.le_refl _) (tauOf [0, 1, 3, 2, 4]) [(1, .sl 0 0 m 1), (2, .i .i64 (x : Int)), (3, .p 1 [] 0), (7, .p 2 [] 0), (8, .p 3 [] 0), (9, .sl 4 0 1 1)] [.ro m 1 (nmF gn), .var (ds_ N b w), .var (rwD fun _ _ => 0), .var (bl fun _ => false), .row 2 1 1 (numsF [gn 0])] (Taken.of [0, 1, 3, 2, 4] (LeAll.cons (by rfl) (by first | with_reducible exact Root.Le.refl _ | with_reducible exact le_dead | (first | exact le_row (Nat.le_refl _) (fun j hj => by obtain rfl : j = 0 := (by have : j < 1 := hj; omega); rfl) | exact le_var rfl) | exact byLeq) (by exact byCon) (LeAll.cons (by rfl) (by first | with_reducible exact Root.Le.refl _ | with_reducible exact le_dead | (first | exact le_row (Nat.le_refl _) (fun j hj => by obtain rfl : j = 0 := (by have : j < 1 := hj; omega); rfl) | exact le_var rfl) | exact byLeq) (by exact byCon) (LeAll.cons (by rfl) (by first | with_reducible exact Root.Le.refl _ | with_reducible exact le_dead | (first | exact le_row (Nat.le_refl _) (fun j hj => by obtain rfl : j = 0 := (by have : j < 1 := hj; omega); rfl) | exact le_var rfl) | exact byLeq) (by exact byCon) (LeAll.cons (by rfl) (by first | with_reducible exact Root.Le.refl _ | with_reducible exact le_dead | (first | exact le_row (Nat.le_refl _) (fun j hj => by obtain rfl : j = 0 := (by have : j < 1 := hj; omega); rfl) | exact le_var rfl) | exact byLeq) (by exact byCon) (LeAll.cons (by rfl) (by first | with_reducible exact Root.Le.refl _ | with_reducible exact le_dead | (first | exact le_row (Nat.le_refl _) (fun j hj => by obtain rfl : j = 0 := (by have : j < 1 := hj; omega); rfl) | exact le_var rfl) | exact byLeq) (by exact byCon) (trivial)))))) rfl rfl) (by exact bySlots)
              · refine ⟨_, _, _, rfl, by rfl, by rfl, .inr ⟨by decide, TK.of tok (wm := false) (by rfl) (by exact byObl)⟩, ?_⟩
                refine WA.allT [5] (by kernel_rfl) (by simp) ?_; intro i' hi'; simp only [List.mem_cons, List.not_mem_nil, or_false] at hi'
                subst hi'
                refine ⟨_, _, _, rfl, by rfl, by rfl, .inl (MK.of tok (wm := false) (by rfl) (by exact byObl) (by rfl) (by exact byObl)), ?_⟩
                refine WA.allT [10] (by kernel_rfl) (by simp) ?_; intro i' hi'; simp only [List.mem_cons, List.not_mem_nil, or_false] at hi'
                subst hi'
                refine ⟨_, _, _, rfl, by rfl, by rfl, .inl (MK.q (evalOp_q tok (wm := false) (by rfl) (by rfl) (by exact byObl))), ?_⟩
                refine WA.end rfl (by kernel_rfl) (noPan ?_)
                exact Ghost.cut (Nat.le_refl _) (tauOf [0, 1, 3, 2, 4]) [(1, .sl 0 0 m 1), (2, .i .i64 (x : Int)), (3, .p 1 [] 0), (7, .p 2 [] 0), (8, .p 3 [] 0), (9, .sl 4 0 1 1)] [.ro m 1 (nmF gn), .var (ds_ N b w), .var (rwD fun _ _ => 0), .var (bl fun _ => false), .row 2 1 1 (numsF [gn 0])] (Taken.of [0, 1, 3, 2, 4] (LeAll.cons (by rfl) (by first | with_reducible exact Root.Le.refl _ | with_reducible exact le_dead | (first | exact le_row (Nat.le_refl _) (fun j hj => by obtain rfl : j = 0 := (by have : j < 1 := hj; omega); rfl) | exact le_var rfl) | exact byLeq) (by exact byCon) (LeAll.cons (by rfl) (by first | with_reducible exact Root.Le.refl _ | with_reducible exact le_dead | (first | exact le_row (Nat.le_refl _) (fun j hj => by obtain rfl : j = 0 := (by have : j < 1 := hj; omega); rfl) | exact le_var rfl) | exact byLeq) (by exact byCon) (LeAll.cons (by rfl) (by first | with_reducible exact Root.Le.refl _ | with_reducible exact le_dead | (first | exact le_row (Nat.le_refl _) (fun j hj => by obtain rfl : j = 0 := (by have : j < 1 := hj; omega); rfl) | exact le_var rfl) | exact byLeq) (by exact byCon) (LeAll.cons (by rfl) (by first | with_reducible exact Root.Le.refl _ | with_reducible exact le_dead | (first | exact le_row (Nat.le_refl _) (fun j hj => by obtain rfl : j = 0 := (by have : j < 1 := hj; omega); rfl) | exact le_var rfl) | exact byLeq) (by exact byCon) (LeAll.cons (by rfl) (by first | with_reducible exact Root.Le.refl _ | with_reducible exact le_dead | (first | exact le_row (Nat.le_refl _) (fun j hj => by obtain rfl : j = 0 := (by have : j < 1 := hj; omega); rfl) | exact le_var rfl) | exact byLeq) (by exact byCon) (trivial)))))) rfl rfl) (by exact bySlots)
          · refine ⟨_, _, _, rfl, by rfl, by rfl, .inr ⟨by decide, TK.of tok (wm := false) (by rfl) (by exact byObl)⟩, ?_⟩
            refine WA.allT [4, 9] (by kernel_rfl) (by simp) ?_; intro i' hi'; simp only [List.mem_cons, List.not_mem_nil, or_false] at hi'
            rcases hi' with rfl | rfl
            · refine ⟨_, _, _, rfl, by rfl, by rfl, .inl (MK.q (evalOp_q tok (wm := false) (by rfl) (by rfl) (by exact byObl))), ?_⟩
              refine WA.allT [5, 9] (by kernel_rfl) (by simp) ?_; intro i' hi'; simp only [List.mem_cons, List.not_mem_nil, or_false] at hi'
              rcases hi' with rfl | rfl
              · refine ⟨_, _, _, rfl, by rfl, by rfl, .inl (MK.of tok (wm := false) (by rfl) (by exact byObl) (by rfl) (by exact byObl)), ?_⟩
                refine WA.allT [9] (by kernel_rfl) (by simp) ?_; intro i' hi'; simp only [List.mem_cons, List.not_mem_nil, or_false] at hi'
                subst hi'
                refine ⟨_, _, _, rfl, by rfl, by rfl, .inr ⟨by decide, TK.of tok (wm := false) (by rfl) (by exact byObl)⟩, ?_⟩
                refine WA.allT [10] (by kernel_rfl) (by simp) ?_; intro i' hi'; simp only [List.mem_cons, List.not_mem_nil, or_false] at hi'
                subst hi'
                refine ⟨_, _, _, rfl, by rfl, by rfl, .inl (MK.q (evalOp_q tok (wm := false) (by rfl) (by rfl) (by exact byObl))), ?_⟩
                refine WA.end rfl (by kernel_rfl) (noPan ?_)
                exact Ghost.cut (Nat.le_refl _) (tauOf [0, 1, 3, 2, 4]) [(1, .sl 0 0 m 1), (2, .i .i64 (x : Int)), (3, .p 1 [] 0), (7, .p 2 [] 0), (8, .p 3 [] 0), (9, .sl 4 0 1 1)] [.ro m 1 (nmF gn), .var (ds_ N b w), .var (rwD fun _ _ => 0), .var (bl fun _ => false), .row 2 1 1 (numsF [gn 0])] (Taken.of [0, 1, 3, 2, 4] (LeAll.cons (by rfl) (by first | with_reducible exact Root.Le.refl _ | with_reducible exact le_dead | (first | exact le_row (Nat.le_refl _) (fun j hj => by obtain rfl : j = 0 := (by have : j < 1 := hj; omega); rfl) | exact le_var rfl) | exact byLeq) (by exact byCon) (LeAll.cons (by rfl) (by first | with_reducible exact Root.Le.refl _ | with_reducible exact le_dead | (first | exact le_row (Nat.le_refl _) (fun j hj => by obtain rfl : j = 0 := (by have : j < 1 := hj; omega); rfl) | exact le_var rfl) | exact byLeq) (by exact byCon) (LeAll.cons (by rfl) (by first | with_reducible exact Root.Le.refl _ | with_reducible exact le_dead | (first | exact le_row (Nat.le_refl _) (fun j hj => by obtain rfl : j = 0 := (by have : j < 1 := hj; omega); rfl) | exact le_var rfl) | exact byLeq) (by exact byCon) (LeAll.cons (by rfl) (by first | with_reducible exact Root.Le.refl _ | with_reducible exact le_dead | (first | exact le_row (Nat.le_refl _) (fun j hj => by obtain rfl : j = 0 := (by have : j < 1 := hj; omega); rfl) | exact le_var rfl) | exact byLeq) (by exact byCon) (LeAll.cons (by rfl) (by first | with_reducible exact Root.Le.refl _ | with_reducible exact le_dead | (first | exact le_row (Nat.le_refl _) (fun j hj => by obtain rfl : j = 0 := (by have : j < 1 := hj; omega); rfl) | exact le_var rfl) | exact byLeq) (by exact byCon) (trivial)))))) rfl rfl) (by exact bySlots)
              · refine ⟨_, _, _, rfl, by rfl, by rfl, .inr ⟨by decide, TK.of tok (wm := false) (by rfl) (by exact byObl)⟩, ?_⟩
                refine WA.allT [5] (by kernel_rfl) (by simp) ?_; intro i' hi'; simp only [List.mem_cons, List.not_mem_nil, or_false] at hi'
                subst hi'
                refine ⟨_, _, _, rfl, by rfl, by rfl, .inl (MK.of tok (wm := false) (by rfl) (by exact byObl) (by rfl) (by exact byObl)), ?_⟩
                refine WA.allT [10] (by kernel_rfl) (by simp) ?_; intro i' hi'; simp only [List.mem_cons, List.not_mem_nil, or_false] at hi'
                subst hi'
                refine ⟨_, _, _, rfl, by rfl, by rfl, .inl (MK.q (evalOp_q tok (wm := false) (by rfl) (by rfl) (by exact byObl))), ?_⟩
                refine WA.end rfl (by kernel_rfl) (noPan ?_)
                exact Ghost.cut (Nat.le_refl _) (tauOf [0, 1, 3, 2, 4]) [(1, .sl 0 0 m 1), (2, .i .i64 (x : Int)), (3, .p 1 [] 0), (7, .p 2 [] 0), (8, .p 3 [] 0), (9, .sl 4 0 1 1)] [.ro m 1 (nmF gn), .var (ds_ N b w), .var (rwD fun _ _ => 0), .var (bl fun _ => false), .row 2 1 1 (numsF [gn 0])] (Taken.of [0, 1, 3, 2, 4] (LeAll.cons (by rfl) (by first | with_reducible exact Root.Le.refl _ | with_reducible exact le_dead | (first | exact le_row (Nat.le_refl _) (fun j hj => by obtain rfl : j = 0 := (by have : j < 1 := hj; omega); rfl) | exact le_var rfl) | exact byLeq) (by exact byCon) (LeAll.cons (by rfl) (by first | with_reducible exact Root.Le.refl _ | with_reducible exact le_dead | (first | exact le_row (Nat.le_refl _) (fun j hj => by obtain rfl : j = 0 := (by have : j < 1 := hj; omega); rfl) | exact le_var rfl) | exact byLeq) (by exact byCon) (LeAll.cons (by rfl) (by first | with_reducible exact Root.Le.refl _ | with_reducible exact le_dead | (first | exact le_row (Nat.le_refl _) (fun j hj => by obtain rfl : j = 0 := (by have : j < 1 := hj; omega); rfl) | exact le_var rfl) | exact byLeq) (by exact byCon) (LeAll.cons (by rfl) (by first | with_reducible exact Root.Le.refl _ | with_reducible exact le_dead | (first | exact le_row (Nat.le_refl _) (fun j hj => by obtain rfl : j = 0 := (by have : j < 1 := hj; omega); rfl) | exact le_var rfl) | exact byLeq) (by exact byCon) (LeAll.cons (by rfl) (by first | with_reducible exact Root.Le.refl _ | with_reducible exact le_dead | (first | exact le_row (Nat.le_refl _) (fun j hj => by obtain rfl : j = 0 := (by have : j < 1 := hj; omega); rfl) | exact le_var rfl) | exact byLeq) (by exact byCon) (trivial)))))) rfl rfl) (by exact bySlots)
            · refine ⟨_, _, _, rfl, by rfl, by rfl, .inr ⟨by decide, TK.of tok (wm := false) (by rfl) (by exact byObl)⟩, ?_⟩
              refine WA.allT [4] (by kernel_rfl) (by simp) ?_; intro i' hi'; simp only [List.mem_cons, List.not_mem_nil, or_false] at hi'
              subst hi'
              refine ⟨_, _, _, rfl, by rfl, by rfl, .inl (MK.q (evalOp_q tok (wm := false) (by rfl) (by rfl) (by exact byObl))), ?_⟩
              refine WA.allT [5] (by kernel_rfl) (by simp) ?_; intro i' hi'; simp only [List.mem_cons, List.not_mem_nil, or_false] at hi'
              subst hi'
              refine ⟨_, _, _, rfl, by rfl, by rfl, .inl (MK.of tok (wm := false) (by rfl) (by exact byObl) (by rfl) (by exact byObl)), ?_⟩
              refine WA.allT [10] (by kernel_rfl) (by simp) ?_; intro i' hi'; simp only [List.mem_cons, List.not_mem_nil, or_false] at hi'
              subst hi'
              refine ⟨_, _, _, rfl, by rfl, by rfl, .inl (MK.q (evalOp_q tok (wm := false) (by rfl) (by rfl) (by exact byObl))), ?_⟩
              refine WA.end rfl (by kernel_rfl) (noPan ?_)
              exact Ghost.cut (Nat.le_refl _) (tauOf [0, 1, 3, 2, 4]) [(1, .sl 0 0 m 1), (2, .i .i64 (x : Int)), (3, .p 1 [] 0), (7, .p 2 [] 0), (8, .p 3 [] 0), (9, .sl 4 0 1 1)] [.ro m 1 (nmF gn), .var (ds_ N b w), .var (rwD fun _ _ => 0), .var (bl fun _ => false), .row 2 1 1 (numsF [gn 0])] (Taken.of [0, 1, 3, 2, 4] (LeAll.cons (by rfl) (by first | with_reducible exact Root.Le.refl _ | with_reducible exact le_dead | (first | exact le_row (Nat.le_refl _) (fun j hj => by obtain rfl : j = 0 := (by have : j < 1 := hj; omega); rfl) | exact le_var rfl) | exact byLeq) (by exact byCon) (LeAll.cons (by rfl) (by first | with_reducible exact Root.Le.refl _ | with_reducible exact le_dead | (first | exact le_row (Nat.le_refl _) (fun j hj => by obtain rfl : j = 0 := (by have : j < 1 := hj; omega); rfl) | exact le_var rfl) | exact byLeq) (by exact byCon) (LeAll.cons (by rfl) (by first | with_reducible exact Root.Le.refl _ | with_reducible exact le_dead | (first | exact le_row (Nat.le_refl _) (fun j hj => by obtain rfl : j = 0 := (by have : j < 1 := hj; omega); rfl) | exact le_var rfl) | exact byLeq) (by exact byCon) (LeAll.cons (by rfl) (by first | with_reducible exact Root.Le.refl _ | with_reducible exact le_dead | (first | exact le_row (Nat.le_refl _) (fun j hj => by obtain rfl : j = 0 := (by have : j < 1 := hj; omega); rfl) | exact le_var rfl) | exact byLeq) (by exact byCon) (LeAll.cons (by rfl) (by first | with_reducible exact Root.Le.refl _ | with_reducible exact le_dead | (first | exact le_row (Nat.le_refl _) (fun j hj => by obtain rfl : j = 0 := (by have : j < 1 := hj; omega); rfl) | exact le_var rfl) | exact byLeq) (by exact byCon) (trivial)))))) rfl rfl) (by exact bySlots)
        · refine ⟨_, _, _, rfl, by rfl, by rfl, .inr ⟨by decide, TK.of tok (wm := false) (by rfl) (by exact byObl)⟩, ?_⟩
          refine WA.allT [3, 9] (by kernel_rfl) (by simp) ?_; intro i' hi'; simp only [List.mem_cons, List.not_mem_nil, or_false] at hi'
          rcases hi' with rfl | rfl
          · refine ⟨_, _, _, rfl, by rfl, by rfl, .inl (MK.q (evalOp_q tok (wm := false) (by rfl) (by rfl) (by exact byObl))), ?_⟩
            refine WA.allT [4, 9] (by kernel_rfl) (by simp) ?_; intro i' hi'; simp only [List.mem_cons, List.not_mem_nil, or_false] at hi'
            rcases hi' with rfl | rfl
            · refine ⟨_, _, _, rfl, by rfl, by rfl, .inl (MK.q (evalOp_q tok (wm := false) (by rfl) (by rfl) (by exact byObl))), ?_⟩
              refine WA.allT [5, 9] (by kernel_rfl) (by simp) ?_; intro i' hi'; simp only [List.mem_cons, List.not_mem_nil, or_false] at hi'
              rcases hi' with rfl | rfl
              · refine ⟨_, _, _, rfl, by rfl, by rfl, .inl (MK.of tok (wm := false) (by rfl) (by exact byObl) (by rfl) (by exact byObl)), ?_⟩
                refine WA.allT [9] (by kernel_rfl) (by simp) ?_; intro i' hi'; simp only [List.mem_cons, List.not_mem_nil, or_false] at hi'
                subst hi'
                refine ⟨_, _, _, rfl, by rfl, by rfl, .inr ⟨by decide, TK.of tok (wm := false) (by rfl) (by exact byObl)⟩, ?_⟩
                refine WA.allT [10] (by kernel_rfl) (by simp) ?_; intro i' hi'; simp only [List.mem_cons, List.not_mem_nil, or_false] at hi'
                subst hi'
                refine ⟨_, _, _, rfl, by rfl, by rfl, .inl (MK.q (evalOp_q tok (wm := false) (by rfl) (by rfl) (by exact byObl))), ?_⟩
                refine WA.end rfl (by kernel_rfl) (noPan ?_)
                exact Ghost.cut (Nat.le_refl _) (tauOf [0, 1, 3, 2, 4]) [(1, .sl 0 0 m 1), (2, .i .i64 (x : Int)), (3, .p 1 [] 0), (7, .p 2 [] 0), (8, .p 3 [] 0), (9, .sl 4 0 1 1)] [.ro m 1 (nmF gn), .var (ds_ N b w), .var (rwD fun _ _ => 0), .var (bl fun _ => false), .row 2 1 1 (numsF [gn 0])] (Taken.of [0, 1, 3, 2, 4] (LeAll.cons (by rfl) (by first | with_reducible exact Root.Le.refl _ | with_reducible exact le_dead | (first | exact le_row (Nat.le_refl _) (fun j hj => by obtain rfl : j = 0 := (by have : j < 1 := hj; omega); rfl) | exact le_var rfl) | exact byLeq) (by exact byCon) (LeAll.cons (by rfl) (by first | with_reducible exact Root.Le.refl _ | with_reducible exact le_dead | (first | exact le_row (Nat.le_refl _) (fun j hj => by obtain rfl : j = 0 := (by have : j < 1 := hj; omega); rfl) | exact le_var rfl) | exact byLeq) (by exact byCon) (LeAll.cons (by rfl) (by first | with_reducible exact Root.Le.refl _ | with_reducible exact le_dead | (first | exact le_row (Nat.le_refl _) (fun j hj => by obtain rfl : j = 0 := (by have : j < 1 := hj; omega); rfl) | exact le_var rfl) | exact byLeq) (by exact byCon) (LeAll.cons (by rfl) (by first | with_reducible exact Root.Le.refl _ | with_reducible exact le_dead | (first | exact le_row (Nat.le_refl _) (fun j hj => by obtain rfl : j = 0 := (by have : j < 1 := hj; omega); rfl) | exact le_var rfl) | exact byLeq) (by exact byCon) (LeAll.cons (by rfl) (by first | with_reducible exact Root.Le.refl _ | with_reducible exact le_dead | (first | exact le_row (Nat.le_refl _) (fun j hj => by obtain rfl : j = 0 := (by have : j < 1 := hj; omega); rfl) | exact le_var rfl) | exact byLeq) (by exact byCon) (trivial)))))) rfl rfl) (by exact bySlots)
              · refine ⟨_, _, _, rfl, by rfl, by rfl, .inr ⟨by decide, TK.of tok (wm := false) (by rfl) (by exact byObl)⟩, ?_⟩
                refine WA.allT [5] (by kernel_rfl) (by simp) ?_; intro i' hi'; simp only [List.mem_cons, List.not_mem_nil, or_false] at hi'
                subst hi'
                refine ⟨_, _, _, rfl, by rfl, by rfl, .inl (MK.of tok (wm := false) (by rfl) (by exact byObl) (by rfl) (by exact byObl)), ?_⟩
                refine WA.allT [10] (by kernel_rfl) (by simp) ?_; intro i' hi'; simp only [List.mem_cons, List.not_mem_nil, or_false] at hi'
                subst hi'
                refine ⟨_, _, _, rfl, by rfl, by rfl, .inl (MK.q (evalOp_q tok (wm := false) (by rfl) (by rfl) (by exact byObl))), ?_⟩
                refine WA.end rfl (by kernel_rfl) (noPan ?_)
                exact Ghost.cut (Nat.le_refl _) (tauOf [0, 1, 3, 2, 4]) [(1, .sl 0 0 m 1), (2, .i .i64 (x : Int)), (3, .p 1 [] 0), (7, .p 2 [] 0), (8, .p 3 [] 0), (9, .sl 4 0 1 1)] [.ro m 1 (nmF gn), .var (ds_ N b w), .var (rwD fun _ _ => 0), .var (bl fun _ => false), .row 2 1 1 (numsF [gn 0])] (Taken.of [0, 1, 3, 2, 4] (LeAll.cons (by rfl) (by first | with_reducible exact Root.Le.refl _ | with_reducible exact le_dead | (first | exact le_row (Nat.le_refl _) (fun j hj => by obtain rfl : j = 0 := (by have : j < 1 := hj; omega); rfl) | exact le_var rfl) | exact byLeq) (by exact byCon) (LeAll.cons (by rfl) (by first | with_reducible exact Root.Le.refl _ | with_reducible exact le_dead | (first | exact le_row (Nat.le_refl _) (fun j hj => by obtain rfl : j = 0 := (by have : j < 1 := hj; omega); rfl) | exact le_var rfl) | exact byLeq) (by exact byCon) (LeAll.cons (by rfl) (by first | with_reducible exact Root.Le.refl _ | with_reducible exact le_dead | (first | exact le_row (Nat.le_refl _) (fun j hj => by obtain rfl : j = 0 := (by have : j < 1 := hj; omega); rfl) | exact le_var rfl) | exact byLeq) (by exact byCon) (LeAll.cons (by rfl) (by first | with_reducible exact Root.Le.refl _ | with_reducible exact le_dead | (first | exact le_row (Nat.le_refl _) (fun j hj => by obtain rfl : j = 0 := (by have : j < 1 := hj; omega); rfl) | exact le_var rfl) | exact byLeq) (by exact byCon) (LeAll.cons (by rfl) (by first | with_reducible exact Root.Le.refl _ | with_reducible exact le_dead | (first | exact le_row (Nat.le_refl _) (fun j hj => by obtain rfl : j = 0 := (by have : j < 1 := hj; omega); rfl) | exact le_var rfl) | exact byLeq) (by exact byCon) (trivial)))))) rfl rfl) (by exact bySlots)
            · refine ⟨_, _, _, rfl, by rfl, by rfl, .inr ⟨by decide, TK.of tok (wm := false) (by rfl) (by exact byObl)⟩, ?_⟩
              refine WA.allT [4] (by kernel_rfl) (by simp) ?_; intro i' hi'; simp only [List.mem_cons, List.not_mem_nil, or_false] at hi'
              subst hi'
              refine ⟨_, _, _, rfl, by rfl, by rfl, .inl (MK.q (evalOp_q tok (wm := false) (by rfl) (by rfl) (by exact byObl))), ?_⟩
              refine WA.allT [5] (by kernel_rfl) (by simp) ?_; intro i' hi'; simp only [List.mem_cons, List.not_mem_nil, or_false] at hi'
              subst hi'
              refine ⟨_, _, _, rfl, by rfl, by rfl, .inl (MK.of tok (wm := false) (by rfl) (by exact byObl) (by rfl) (by exact byObl)), ?_⟩
              refine WA.allT [10] (by kernel_rfl) (by simp) ?_; intro i' hi'; simp only [List.mem_cons, List.not_mem_nil, or_false] at hi'
              subst hi'
              refine ⟨_, _, _, rfl, by rfl, by rfl, .inl (MK.q (evalOp_q tok (wm := false) (by rfl) (by rfl) (by exact byObl))), ?_⟩
              refine WA.end rfl (by kernel_rfl) (noPan ?_)
              exact Ghost.cut (Nat.le_refl _) (tauOf [0, 1, 3, 2, 4]) [(1, .sl 0 0 m 1), (2, .i .i64 (x : Int)), (3, .p 1 [] 0), (7, .p 2 [] 0), (8, .p 3 [] 0), (9, .sl 4 0 1 1)] [.ro m 1 (nmF gn), .var (ds_ N b w), .var (rwD fun _ _ => 0), .var (bl fun _ => false), .row 2 1 1 (numsF [gn 0])] (Taken.of [0, 1, 3, 2, 4] (LeAll.cons (by rfl) (by first | with_reducible exact Root.Le.refl _ | with_reducible exact le_dead | (first | exact le_row (Nat.le_refl _) (fun j hj => by obtain rfl : j = 0 := (by have : j < 1 := hj; omega); rfl) | exact le_var rfl) | exact byLeq) (by exact byCon) (LeAll.cons (by rfl) (by first | with_reducible exact Root.Le.refl _ | with_reducible exact le_dead | (first | exact le_row (Nat.le_refl _) (fun j hj => by obtain rfl : j = 0 := (by have : j < 1 := hj; omega); rfl) | exact le_var rfl) | exact byLeq) (by exact byCon) (LeAll.cons (by rfl) (by first | with_reducible exact Root.Le.refl _ | with_reducible exact le_dead | (first | exact le_row (Nat.le_refl _) (fun j hj => by obtain rfl : j = 0 := (by have : j < 1 := hj; omega); rfl) | exact le_var rfl) | exact byLeq) (by exact byCon) (LeAll.cons (by rfl) (by first | with_reducible exact Root.Le.refl _ | with_reducible exact le_dead | (first | exact le_row (Nat.le_refl _) (fun j hj => by obtain rfl : j = 0 := (by have : j < 1 := hj; omega); rfl) | exact le_var rfl) | exact byLeq) (by exact byCon) (LeAll.cons (by rfl) (by first | with_reducible exact Root.Le.refl _ | with_reducible exact le_dead | (first | exact le_row (Nat.le_refl _) (fun j hj => by obtain rfl : j = 0 := (by have : j < 1 := hj; omega); rfl) | exact le_var rfl) | exact byLeq) (by exact byCon) (trivial)))))) rfl rfl) (by exact bySlots)
          · refine ⟨_, _, _, rfl, by rfl, by rfl, .inr ⟨by decide, TK.of tok (wm := false) (by rfl) (by exact byObl)⟩, ?_⟩
            refine WA.allT [3] (by kernel_rfl) (by simp) ?_; intro i' hi'; simp only [List.mem_cons, List.not_mem_nil, or_false] at hi'
            subst hi'
            refine ⟨_, _, _, rfl, by rfl, by rfl, .inl (MK.q (evalOp_q tok (wm := false) (by rfl) (by rfl) (by exact byObl))), ?_⟩
            refine WA.allT [4] (by kernel_rfl) (by simp) ?_; intro i' hi'; simp only [List.mem_cons, List.not_mem_nil, or_false] at hi'
            subst hi'
            refine ⟨_, _, _, rfl, by rfl, by rfl, .inl (MK.q (evalOp_q tok (wm := false) (by rfl) (by rfl) (by exact byObl))), ?_⟩
            refine WA.allT [5] (by kernel_rfl) (by simp) ?_; intro i' hi'; simp only [List.mem_cons, List.not_mem_nil, or_false] at hi'
            subst hi'
            refine ⟨_, _, _, rfl, by rfl, by rfl, .inl (MK.of tok (wm := false) (by rfl) (by exact byObl) (by rfl) (by exact byObl)), ?_⟩
            refine WA.allT [10] (by kernel_rfl) (by simp) ?_; intro i' hi'; simp only [List.mem_cons, List.not_mem_nil, or_false] at hi'
            subst hi'
            refine ⟨_, _, _, rfl, by rfl, by rfl, .inl (MK.q (evalOp_q tok (wm := false) (by rfl) (by rfl) (by exact byObl))), ?_⟩
            refine WA.end rfl (by kernel_rfl) (noPan ?_)
            exact Ghost.cut (Nat.le_refl _) (tauOf [0, 1, 3, 2, 4]) [(1, .sl 0 0 m 1), (2, .i .i64 (x : Int)), (3, .p 1 [] 0), (7, .p 2 [] 0), (8, .p 3 [] 0), (9, .sl 4 0 1 1)] [.ro m 1 (nmF gn), .var (ds_ N b w), .var (rwD fun _ _ => 0), .var (bl fun _ => false), .row 2 1 1 (numsF [gn 0])] (Taken.of [0, 1, 3, 2, 4] (LeAll.cons (by rfl) (by first | with_reducible exact Root.Le.refl _ | with_reducible exact le_dead | (first | exact le_row (Nat.le_refl _) (fun j hj => by obtain rfl : j = 0 := (by have : j < 1 := hj; omega); rfl) | exact le_var rfl) | exact byLeq) (by exact byCon) (LeAll.cons (by rfl) (by first | with_reducible exact Root.Le.refl _ | with_reducible exact le_dead | (first | exact le_row (Nat.le_refl _) (fun j hj => by obtain rfl : j = 0 := (by have : j < 1 := hj; omega); rfl) | exact le_var rfl) | exact byLeq) (by exact byCon) (LeAll.cons (by rfl) (by first | with_reducible exact Root.Le.refl _ | with_reducible exact le_dead | (first | exact le_row (Nat.le_refl _) (fun j hj => by obtain rfl : j = 0 := (by have : j < 1 := hj; omega); rfl) | exact le_var rfl) | exact byLeq) (by exact byCon) (LeAll.cons (by rfl) (by first | with_reducible exact Root.Le.refl _ | with_reducible exact le_dead | (first | exact le_row (Nat.le_refl _) (fun j hj => by obtain rfl : j = 0 := (by have : j < 1 := hj; omega); rfl) | exact le_var rfl) | exact byLeq) (by exact byCon) (LeAll.cons (by rfl) (by first | with_reducible exact Root.Le.refl _ | with_reducible exact le_dead | (first | exact le_row (Nat.le_refl _) (fun j hj => by obtain rfl : j = 0 := (by have : j < 1 := hj; omega); rfl) | exact le_var rfl) | exact byLeq) (by exact byCon) (trivial)))))) rfl rfl) (by exact bySlots)
  have hx16 : gn (Int.toNat 0) < 16 := show gn 0 < 16 by omega
  refine WP.rs T false tok (by rfl) (by exact byObl) ?_
  refine WP.seq ?_
  refine WP.da (by kernel_rfl) 6 (by kernel_rfl) ?_
  refine WA.takes T false tok [0, 1, 2, 3, 4] (f' := 3) (by kernel_rfl) (by rfl) (by rfl) (by rfl) (by exact byObl) (by rfl) (by rfl) ?_
  refine WA.all [5] (by kernel_rfl) (by simp) ?_; intro i' hi'; simp only [List.mem_cons, List.not_mem_nil, or_false] at hi'
  subst hi'
  refine ⟨_, _, _, rfl, by rfl, by rfl, MK.callP (l01Same_fn N hN) (by rfl) (by simp [Sc, sc_pl, sc_ds, pl_ne, ds_ne]), ?_⟩
  refine WA.tail (by rfl) (by rfl) (by kernel_rfl) ?_
  refine WPL.fin T false tok (by rfl) (by exact byObl) ?_
  refine noPan ?_
  have hbi : BInv N (bx (gn 0)) := bx_inv hx0 hN
  refine WP.seq ?_
  refine WP.rs T false tok (by rfl) (by exact byObl) ?_
  refine WP.block ?_
  refine WP.loopH (⟨fun s : Nat × (List Nat × (Nat → Bool)) × (Nat → Nat → Nat) => BInv N s.2.1 ∧ IM N [b, w] (gn 0) s.2.1 s.2.2 ∧ s.1 ≤ s.2.1.1.length ∧ ∀ j, j < s.1 → b (s.2.1.1.getD j 0) ∈ s.2.1.1 ∧ w (s.2.1.1.getD j 0) ∈ s.2.1.1, fun s => [(1, .sl 0 0 m 1), (2, .i .i64 (x : Int)), (3, .p 1 [] 0), (7, .p 2 [] 0), (8, .p 3 [] 0), (9, .sl 4 0 s.2.1.1.length 1), (10, .i .i64 (s.1 : Int))], fun s => [.ro m 1 (nmF gn), .var (ds_ N b w), .var (rwD s.2.2), .var (bl s.2.1.2), .row 2 s.2.1.1.length 1 (numsF s.2.1.1)], fun s => bmu s.1 s.2.1⟩) ((0, bx (gn 0), up (fun _ _ => 0) (gn 0) (sameF N))) (⟨hbi, ⟨fun a ha => by
    have ha : a = gn 0 := by simpa [bx] using ha
    subst ha
    simp only [up, if_pos]
    exact ⟨.one, one_at hx0⟩, fun z => by simp [bx, up], by simp [bx]⟩, Nat.zero_le _, fun j hj => absurd hj (Nat.not_lt_zero _)⟩) (Ghost.cut (Nat.le_refl _) (tauOf [0, 1, 2, 3, 4]) _ _ (Taken.of [0, 1, 2, 3, 4] (LeAll.cons (by rfl) (by first | with_reducible exact Root.Le.refl _ | with_reducible exact le_dead | (first | exact le_var (rw_up (fun _ _ => 0) (gn 0) (sameF N)).symm | exact le_var rfl) | exact byLeq) (by exact byCon) (LeAll.cons (by rfl) (by first | with_reducible exact Root.Le.refl _ | with_reducible exact le_dead | (first | exact le_var (rw_up (fun _ _ => 0) (gn 0) (sameF N)).symm | exact le_var rfl) | exact byLeq) (by exact byCon) (LeAll.cons (by rfl) (by first | with_reducible exact Root.Le.refl _ | with_reducible exact le_dead | (first | exact le_var (rw_up (fun _ _ => 0) (gn 0) (sameF N)).symm | exact le_var rfl) | exact byLeq) (by exact byCon) (LeAll.cons (by rfl) (by first | with_reducible exact Root.Le.refl _ | with_reducible exact le_dead | (first | exact le_var (rw_up (fun _ _ => 0) (gn 0) (sameF N)).symm | exact le_var rfl) | exact byLeq) (by exact byCon) (LeAll.cons (by rfl) (by first | with_reducible exact Root.Le.refl _ | with_reducible exact le_dead | (first | exact le_var (rw_up (fun _ _ => 0) (gn 0) (sameF N)).symm | exact le_var rfl) | exact byLeq) (by exact byCon) (trivial)))))) rfl rfl) (by exact bySlots)) ?_
  rintro ⟨i, ⟨Q, met⟩, f⟩ ⟨hI, hM, hi, hdone⟩
  simp only at hI hM hi hdone
  dsimp only [Hd.at]
  have hQl : Q.length ≤ 16 := by have := hI.len; simp only at this; omega
  refine WP.seq ?_
  refine WP.rs T false tok (by rfl) (by exact byObl) ?_
  refine WP.cond (by rfl) (fun hc => WP.skip ?_) (fun hc => WP.exit ?_)
  · have hi : i < Q.length := by have := of_decide_eq_true hc; omega
    clear hc
    have ei : addrAt 0 ((i : Nat) : Int).toNat = i := by simp [addrAt0]
    have ha : Q.getD i 0 < N := hI.get hi
    have haQ : Q.getD i 0 ∈ Q := getD_mem hi
    refine WP.seq (WP.block ?_)
    refine WP.rs T false tok (by rfl) (by exact byObl) ?_
    rw [ei]
    generalize hqa : Q.getD i 0 = a at ha haQ
    refine WP.rs T false tok (by rfl) (by exact byObl) ?_
    have hba := hb a ha
    have hwa := hw a ha
    have hsel : ∀ q, sel b w q ∈ [b, w] := fun q => by
      unfold sel
      cases Nat.beq q 0
      · exact .tail _ (.head _)
      · exact .head _
    refine WP.rs T false tok (by rfl) (by exact byObl) ?_
    refine WP.block ?_
    refine WP.loopH (⟨fun s : Nat × (List Nat × (Nat → Bool)) × (Nat → Nat → Nat) => BInv N s.2.1 ∧ IM N [b, w] (gn 0) s.2.1 s.2.2 ∧ ((s.1 = 0 ∧ s.2.1 = (Q, met)) ∨ (s.1 = 1 ∧ s.2.1 = bst (b a) (Q, met)) ∨ (s.1 = 2 ∧ s.2.1 = bst (w a) (bst (b a) (Q, met)))), fun s => [(1, .sl 0 0 m 1), (2, .i .i64 (x : Int)), (3, .p 1 [] 0), (7, .p 2 [] 0), (8, .p 3 [] 0), (9, .sl 4 0 s.2.1.1.length 1), (10, .i .i64 (i : Int)), (11, .i .i64 ((a : Nat) : Int)), (12, .sl 5 0 2 16), (13, .i .i64 (s.1 : Int))], fun s => [.ro m 1 (nmF gn), .var (ds_ N b w), .var (rwD s.2.2), .var (bl s.2.1.2), .row 2 s.2.1.1.length 1 (numsF s.2.1.1), .row 27 2 16 (fun q => pl (sel b w q))], fun s => 2 - s.1⟩) ((0, (Q, met), f)) (⟨hI, hM, .inl ⟨rfl, rfl⟩⟩) (Ghost.cut (Nat.le_refl _) (tauOf [0, 1, 2, 3, 4, 5]) _ _ (Taken.of [0, 1, 2, 3, 4, 5] (LeAll.cons (by rfl) (by first | with_reducible exact Root.Le.refl _ | with_reducible exact le_dead | (exact le_row (Nat.le_refl _) (fun j hj => by rcases j with _ | _ | j <;> first | rfl | omega)) | exact byLeq) (by exact byCon) (LeAll.cons (by rfl) (by first | with_reducible exact Root.Le.refl _ | with_reducible exact le_dead | (exact le_row (Nat.le_refl _) (fun j hj => by rcases j with _ | _ | j <;> first | rfl | omega)) | exact byLeq) (by exact byCon) (LeAll.cons (by rfl) (by first | with_reducible exact Root.Le.refl _ | with_reducible exact le_dead | (exact le_row (Nat.le_refl _) (fun j hj => by rcases j with _ | _ | j <;> first | rfl | omega)) | exact byLeq) (by exact byCon) (LeAll.cons (by rfl) (by first | with_reducible exact Root.Le.refl _ | with_reducible exact le_dead | (exact le_row (Nat.le_refl _) (fun j hj => by rcases j with _ | _ | j <;> first | rfl | omega)) | exact byLeq) (by exact byCon) (LeAll.cons (by rfl) (by first | with_reducible exact Root.Le.refl _ | with_reducible exact le_dead | (exact le_row (Nat.le_refl _) (fun j hj => by rcases j with _ | _ | j <;> first | rfl | omega)) | exact byLeq) (by exact byCon) (LeAll.cons (by rfl) (by first | with_reducible exact Root.Le.refl _ | with_reducible exact le_dead | (exact le_row (Nat.le_refl _) (fun j hj => by rcases j with _ | _ | j <;> first | rfl | omega)) | exact byLeq) (by exact byCon) (trivial))))))) rfl rfl) (by exact bySlots)) ?_
    rintro ⟨k, ⟨Q', mt⟩, f'⟩ ⟨hJ, hK, hk⟩
    simp only at hJ hK hk
    dsimp only [Hd.at]
    refine WP.seq ?_
    refine WP.rs T false tok (by rfl) (by exact byObl) ?_
    refine WP.cond (by rfl) (fun hc => WP.skip ?_) (fun hc => WP.exit ?_)
    · have hk2 : k < 2 := by have := of_decide_eq_true hc; omega
      clear hc
      have ek : addrAt 0 ((k : Nat) : Int).toNat = k := by simp [addrAt0]
      obtain ⟨p, hp⟩ : ∃ p, p = sel b w k := ⟨_, rfl⟩
      have hpm : p ∈ [b, w] := hp ▸ hsel k
      have hpa : p a < N := (hL p hpm).perm.lt a ha
      have haQ' : a ∈ Q' := by
        rcases hk with ⟨_, e⟩ | ⟨_, e⟩ | ⟨h, _⟩
        · cases e; exact haQ
        · have h1 := (bst_pre (b a) (Q, met)).subset haQ
          rw [← e] at h1; exact h1
        · omega
      have hy : (k + 1 = 1 ∧ bst (p a) (Q', mt) = bst (b a) (Q, met)) ∨ (k + 1 = 2 ∧ bst (p a) (Q', mt) = bst (w a) (bst (b a) (Q, met))) := by
        rcases hk with ⟨rfl, e⟩ | ⟨rfl, e⟩ | ⟨rfl, e⟩
        · exact .inl ⟨rfl, by rw [e, hp]; rfl⟩
        · exact .inr ⟨rfl, by rw [e, hp]; rfl⟩
        · omega
      have hJ1 := hJ.bst hN hpa
      have hlen : Q'.length ≤ 16 := by have := hJ.len; simp only at this; omega
      refine WP.seq (WP.block ?_)
      have hs16 : sel b w k a < 16 := by rw [← hp]; omega
      refine WP.rs T false tok (by rfl) (by exact byObl) ?_
      rw [ek, ← hp, show ((a : Nat) : Int).toNat = a from Int.toNat_natCast a]
      generalize hy0 : p a = y at hpa hy hJ1
      have hy16 : y < 16 := by omega
      refine WP.seq ?_
      refine WP.run T false tok (by rfl) (by exact byObl) ?_
      cases hmy : mt y
      · have e1 : bst y (Q', mt) = (Q' ++ [y], up mt y true) := bst_new hmy
        have hK1 := hK.add hx0 haQ' hpm (by rw [hy0]; exact hmy)
        rw [hy0, e1] at hK1
        rw [e1] at hy hJ1
        refine WP.cond (by rfl) (fun h => ?_) (fun h => WP.skip ?_)
        · refine WP.rs T false tok (by rfl) (by exact byObl) ?_
          refine WP.seq ?_
          refine WP.da (by kernel_rfl) 11 (by kernel_rfl) ?_
          refine WA.takes T false tok [0, 1, 2, 3, 4, 5, 6, 7, 8, 9] (f' := 3) (by kernel_rfl) (by rfl) (by rfl) (by rfl) (by exact byObl) (by rfl) (by rfl) ?_
          refine WA.all [10] (by kernel_rfl) (by simp) ?_; intro i' hi'; simp only [List.mem_cons, List.not_mem_nil, or_false] at hi'
          subst hi'
          rw [ek, ← hp]
          refine ⟨_, _, _, rfl, by rfl, by rfl, MK.callP (l01Then_fn (f' a) p N hN ((hK.gr a haQ').1.np hL).perm.lt) (by rfl) (by simp [Sc, sc_pl, sc_ds, pl_ne, ds_ne]), ?_⟩
          refine WA.tail (by rfl) (by rfl) (by kernel_rfl) ?_
          refine WPL.fin T false tok (by rfl) (by exact byObl) ?_
          refine noPan ?_
          refine WP.run T false tok (by rfl) (by exact byObl) ?_
          refine WP.run T false tok (by rfl) (by exact byObl) ?_
          refine Again.next ((k + 1, (Q' ++ [y], up mt y true), up f' y (mulF N (f' a) p))) (Ghost.cut (Nat.le_refl _) (tauOf [0, 1, 2, 3, 7, 5]) _ _ (Taken.of [0, 1, 2, 3, 7, 5] (LeAll.cons (by rfl) (by first | with_reducible exact Root.Le.refl _ | with_reducible exact le_dead | (first | exact le_row (by simp) (fun j hj => ap_nums Q' y _ j (by simpa using hj)) | exact le_var (rw_up f' y (mulF N (f' a) p)).symm) | exact byLeq) (by exact byCon) (LeAll.cons (by rfl) (by first | with_reducible exact Root.Le.refl _ | with_reducible exact le_dead | (first | exact le_row (by simp) (fun j hj => ap_nums Q' y _ j (by simpa using hj)) | exact le_var (rw_up f' y (mulF N (f' a) p)).symm) | exact byLeq) (by exact byCon) (LeAll.cons (by rfl) (by first | with_reducible exact Root.Le.refl _ | with_reducible exact le_dead | (first | exact le_row (by simp) (fun j hj => ap_nums Q' y _ j (by simpa using hj)) | exact le_var (rw_up f' y (mulF N (f' a) p)).symm) | exact byLeq) (by exact byCon) (LeAll.cons (by rfl) (by first | with_reducible exact Root.Le.refl _ | with_reducible exact le_dead | (first | exact le_row (by simp) (fun j hj => ap_nums Q' y _ j (by simpa using hj)) | exact le_var (rw_up f' y (mulF N (f' a) p)).symm) | exact byLeq) (by exact byCon) (LeAll.cons (by rfl) (by first | with_reducible exact Root.Le.refl _ | with_reducible exact le_dead | (first | exact le_row (by simp) (fun j hj => ap_nums Q' y _ j (by simpa using hj)) | exact le_var (rw_up f' y (mulF N (f' a) p)).symm) | exact byLeq) (by exact byCon) (LeAll.cons (by rfl) (by first | with_reducible exact Root.Le.refl _ | with_reducible exact le_dead | (first | exact le_row (by simp) (fun j hj => ap_nums Q' y _ j (by simpa using hj)) | exact le_var (rw_up f' y (mulF N (f' a) p)).symm) | exact byLeq) (by exact byCon) (trivial))))))) rfl rfl) (by exact bySlots)) (⟨hJ1, hK1, .inr hy⟩) (by dsimp only; omega)
        · have h : (!mt y) = false := h; rw [hmy] at h; cases h
      · have e1 : bst y (Q', mt) = (Q', mt) := bst_old hmy
        rw [e1] at hy hJ1
        refine WP.cond (by rfl) (fun h => ?_) (fun h => WP.skip ?_)
        · have h : (!mt y) = true := h; rw [hmy] at h; cases h
        · refine WP.run T false tok (by rfl) (by exact byObl) ?_
          refine Again.next ((k + 1, (Q', mt), f')) (Ghost.cut (Nat.le_refl _) (tauOf [0, 1, 2, 3, 4, 5]) _ _ (Taken.of [0, 1, 2, 3, 4, 5] (LeAll.cons (by rfl) (by first | with_reducible exact Root.Le.refl _ | with_reducible exact le_dead | (skip; done) | exact byLeq) (by exact byCon) (LeAll.cons (by rfl) (by first | with_reducible exact Root.Le.refl _ | with_reducible exact le_dead | (skip; done) | exact byLeq) (by exact byCon) (LeAll.cons (by rfl) (by first | with_reducible exact Root.Le.refl _ | with_reducible exact le_dead | (skip; done) | exact byLeq) (by exact byCon) (LeAll.cons (by rfl) (by first | with_reducible exact Root.Le.refl _ | with_reducible exact le_dead | (skip; done) | exact byLeq) (by exact byCon) (LeAll.cons (by rfl) (by first | with_reducible exact Root.Le.refl _ | with_reducible exact le_dead | (skip; done) | exact byLeq) (by exact byCon) (LeAll.cons (by rfl) (by first | with_reducible exact Root.Le.refl _ | with_reducible exact le_dead | (skip; done) | exact byLeq) (by exact byCon) (trivial))))))) rfl rfl) (by exact bySlots)) (⟨hJ1, hK, .inr hy⟩) (by dsimp only; omega)
    · have hk : k = 2 ∧ (Q', mt) = bst (w a) (bst (b a) (Q, met)) := by
        have := of_decide_eq_false hc
        rcases hk with ⟨rfl, _⟩ | ⟨rfl, _⟩ | h
        · simp at this
        · simp at this
        · exact h
      obtain ⟨rfl, e⟩ := hk
      have hpre1 := bst_pre (b a) (Q, met)
      have hpre2 := bst_pre (w a) (bst (b a) (Q, met))
      have hmb : b a ∈ (bst (b a) (Q, met)).1 := mem_bst _ _ (hM.met _)
      have hI1 := hI.bst hN hba
      have hr := bmu_round hN hb hw hI hi
      simp only at hr
      rw [hqa, ← e] at hr
      have hmw : w a ∈ Q' := by
        have h1 : w a ∈ (bst (w a) (bst (b a) (Q, met))).1 := by
          cases hmm : (bst (b a) (Q, met)).2 (w a) with
          | true =>
            have h2 : mt (w a) = true := by
              have e2 : bst (w a) (bst (b a) (Q, met)) = bst (b a) (Q, met) := by unfold bst at hmm ⊢; rw [hmm]; rfl
              rw [e2] at e
              have e3 : mt = (bst (b a) (Q, met)).2 := congrArg Prod.snd e
              rw [e3]; exact hmm
            have h3 := (hK.met (w a)).1 h2
            rw [← e]; exact h3
          | false => unfold bst at hmm ⊢; rw [hmm]; simp
        rw [← e] at h1; exact h1
      have hpQ : Q <+: Q' := by
        have h1 := hpre1.trans hpre2
        rw [← e] at h1; exact h1
      have hbQ : b a ∈ Q' := by
        have h1 := hpre2.subset hmb
        rw [← e] at h1; exact h1
      have hle := hpQ.length_le
      refine WP.run T false tok (by rfl) (by exact byObl) ?_
      refine Again.next ((i + 1, (Q', mt), f')) (Ghost.cut (Nat.le_refl _) (tauOf [0, 1, 2, 3, 4]) _ _ (Taken.of [0, 1, 2, 3, 4] (LeAll.cons (by rfl) (by first | with_reducible exact Root.Le.refl _ | with_reducible exact le_dead | (skip; done) | exact byLeq) (by exact byCon) (LeAll.cons (by rfl) (by first | with_reducible exact Root.Le.refl _ | with_reducible exact le_dead | (skip; done) | exact byLeq) (by exact byCon) (LeAll.cons (by rfl) (by first | with_reducible exact Root.Le.refl _ | with_reducible exact le_dead | (skip; done) | exact byLeq) (by exact byCon) (LeAll.cons (by rfl) (by first | with_reducible exact Root.Le.refl _ | with_reducible exact le_dead | (skip; done) | exact byLeq) (by exact byCon) (LeAll.cons (by rfl) (by first | with_reducible exact Root.Le.refl _ | with_reducible exact le_dead | (skip; done) | exact byLeq) (by exact byCon) (trivial)))))) rfl rfl) (by exact bySlots)) (⟨hr.1, hK, by simp only; omega, fun j hj => by
        by_cases e2 : j = i
        · subst e2; rw [pre_getD hpQ hi, hqa]; exact ⟨hbQ, hmw⟩
        · have := hdone j (by simp only at hj; omega)
          rw [pre_getD hpQ (by simp only at hj; omega)]
          exact ⟨hpQ.subset this.1, hpQ.subset this.2⟩⟩) (by exact hr.2)
  · have hi : i = Q.length := by have := of_decide_eq_false hc; omega
    subst hi
    have hcl : Cl N b w fun z => z ∈ Q := fun z _ hz => by
      obtain ⟨j, hj, rfl⟩ := mem_getD hz
      exact hdone j hj
    have hxQ : x ∈ Q := conn_all hD hx0 hM.base hcl hx
    obtain ⟨hgx, hgx0⟩ := hM.gr x hxQ
    have hnx := hgx.np hL
    have hlt := hnx.perm.lt
    have hx16' : x < 16 := by omega
    refine WP.rs T false tok (by rfl) (by exact byObl) ?_
    refine WP.seq ?_
    refine WP.rs T false tok (by rfl) (by exact byObl) ?_
    refine WP.block ?_
    refine WP.loopH (⟨fun i : Nat => i ≤ m, fun i => [(1, .sl 0 0 m 1), (2, .i .i64 (x : Int)), (3, .p 1 [] 0), (7, .p 2 [] 0), (15, .p 3 [] 0), (16, .sl 4 0 0 1), (17, .i .i64 (i : Int))], fun i => [.ro m 1 (nmF gn), .var (ds_ N b w), .var (rwD f), .var (bl fun z => (mskTo (fun t => f x (gn t)) i).testBit z), .row 2 0 1 (numsF [])], fun i => m - i⟩) (0) (Nat.zero_le _) (Ghost.cut (Nat.le_refl _) (tauOf [0, 1, 2, 6, 5]) _ _ (Taken.of [0, 1, 2, 6, 5] (LeAll.cons (by rfl) (by first | with_reducible exact Root.Le.refl _ | with_reducible exact le_dead | (first | exact le_row (Nat.le_refl _) (fun j hj => absurd hj (Nat.not_lt_zero _)) | exact le_var (congrArg bl (funext fun z => Nat.zero_testBit z))) | exact byLeq) (by exact byCon) (LeAll.cons (by rfl) (by first | with_reducible exact Root.Le.refl _ | with_reducible exact le_dead | (first | exact le_row (Nat.le_refl _) (fun j hj => absurd hj (Nat.not_lt_zero _)) | exact le_var (congrArg bl (funext fun z => Nat.zero_testBit z))) | exact byLeq) (by exact byCon) (LeAll.cons (by rfl) (by first | with_reducible exact Root.Le.refl _ | with_reducible exact le_dead | (first | exact le_row (Nat.le_refl _) (fun j hj => absurd hj (Nat.not_lt_zero _)) | exact le_var (congrArg bl (funext fun z => Nat.zero_testBit z))) | exact byLeq) (by exact byCon) (LeAll.cons (by rfl) (by first | with_reducible exact Root.Le.refl _ | with_reducible exact le_dead | (first | exact le_row (Nat.le_refl _) (fun j hj => absurd hj (Nat.not_lt_zero _)) | exact le_var (congrArg bl (funext fun z => Nat.zero_testBit z))) | exact byLeq) (by exact byCon) (LeAll.cons (by rfl) (by first | with_reducible exact Root.Le.refl _ | with_reducible exact le_dead | (first | exact le_row (Nat.le_refl _) (fun j hj => absurd hj (Nat.not_lt_zero _)) | exact le_var (congrArg bl (funext fun z => Nat.zero_testBit z))) | exact byLeq) (by exact byCon) (trivial)))))) rfl rfl) (by exact bySlots)) ?_
    intro i hi
    dsimp only at hi
    dsimp only [Hd.at]
    refine WP.seq ?_
    refine WP.rs T false tok (by rfl) (by exact byObl) ?_
    refine WP.cond (by rfl) (fun hc => WP.skip ?_) (fun hc => WP.exit ?_)
    · have hi : i < m := by have := of_decide_eq_true hc; omega
      clear hc
      have ei : addrAt 0 ((i : Nat) : Int).toNat = i := by simp [addrAt0]
      have hgi := hgn i hi
      have hfi := hlt _ hgi
      have hgi16 : gn (addrAt 0 ((i : Nat) : Int).toNat) < 16 := by rw [ei]; omega
      have hfi16 : f x (gn (addrAt 0 ((i : Nat) : Int).toNat)) < 16 := by rw [ei]; omega
      have hup := bits_up (fun t => f x (gn t)) i
      refine WP.seq (WP.block ?_)
      refine WP.da (by kernel_rfl) 8 (by kernel_rfl) ?_
      refine WA.takes T false tok [0, 1, 2, 3, 4, 5, 6, 7] (f' := 2) (by kernel_rfl) (by rfl) (by rfl) (by rfl) (by exact byObl) (by rfl) (by rfl) ?_
      refine WA.tail (by rfl) (by rfl) (by kernel_rfl) ?_
      refine WPL.fin T false tok (by rfl) (by exact byObl) ?_
      refine noPan ?_
      rw [ei]
      refine WP.run T false tok (by rfl) (by exact byObl) ?_
      refine Again.next (i + 1) (Ghost.cut (Nat.le_refl _) (tauOf [0, 1, 2, 3, 4]) _ _ (Taken.of [0, 1, 2, 3, 4] (LeAll.cons (by rfl) (by first | with_reducible exact Root.Le.refl _ | with_reducible exact le_dead | (exact le_var (by rw [hup]; exact byVareq)) | exact byLeq) (by exact byCon) (LeAll.cons (by rfl) (by first | with_reducible exact Root.Le.refl _ | with_reducible exact le_dead | (exact le_var (by rw [hup]; exact byVareq)) | exact byLeq) (by exact byCon) (LeAll.cons (by rfl) (by first | with_reducible exact Root.Le.refl _ | with_reducible exact le_dead | (exact le_var (by rw [hup]; exact byVareq)) | exact byLeq) (by exact byCon) (LeAll.cons (by rfl) (by first | with_reducible exact Root.Le.refl _ | with_reducible exact le_dead | (exact le_var (by rw [hup]; exact byVareq)) | exact byLeq) (by exact byCon) (LeAll.cons (by rfl) (by first | with_reducible exact Root.Le.refl _ | with_reducible exact le_dead | (exact le_var (by rw [hup]; exact byVareq)) | exact byLeq) (by exact byCon) (trivial)))))) rfl rfl) (by exact bySlots)) (hi) (by dsimp only; omega)
    · have hi : i = m := by have := of_decide_eq_false hc; omega
      subst hi
      have hS : mskTo (fun t => f x (gn t)) i = img (f x) N (mskTo gn i) := bits_ext fun y => by
        unfold img
        rw [msk_bit, imgTo_bit]
        constructor
        · rintro ⟨t, h1, h2⟩; exact ⟨gn t, hgn t h1, msk_bit.2 ⟨t, h1, rfl⟩, h2⟩
        · rintro ⟨z, _, h2, h3⟩
          obtain ⟨t, h4, rfl⟩ := msk_bit.1 h2
          exact ⟨t, h4, h3⟩
      have hO : Orb N [b, w] (mskTo gn i) (mskTo (fun t => f x (gn t)) i) := ⟨f x, hgx, hS⟩
      have hxS : (mskTo (fun t => f x (gn t)) i).testBit x = true := msk_bit.2 ⟨0, hm0, hgx0⟩
      generalize mskTo (fun t => f x (gn t)) i = S at hO hxS ⊢
      refine WP.seq ?_
      refine WP.rs T false tok (by rfl) (by exact byObl) ?_
      refine WP.block ?_
      refine WP.loopH (⟨fun s : Nat × List Nat => s.1 ≤ N ∧ s.2 = bitsL S s.1, fun s => [(3, .p 1 [] 0), (15, .p 2 [] 0), (16, .sl 3 0 s.2.length 1), (18, .i .i64 (s.1 : Int))], fun s => [.ro i 1 (nmF gn), .var (ds_ N b w), .var (bl fun z => S.testBit z), .row 2 s.2.length 1 (numsF s.2)], fun s => N - s.1⟩) ((0, [])) (⟨Nat.zero_le _, rfl⟩) (Ghost.cut (Nat.le_refl _) (tauOf [0, 1, 3, 4]) _ _ (Taken.of [0, 1, 3, 4] (LeAll.cons (by rfl) (by first | with_reducible exact Root.Le.refl _ | with_reducible exact le_dead | (skip; done) | exact byLeq) (by exact byCon) (LeAll.cons (by rfl) (by first | with_reducible exact Root.Le.refl _ | with_reducible exact le_dead | (skip; done) | exact byLeq) (by exact byCon) (LeAll.cons (by rfl) (by first | with_reducible exact Root.Le.refl _ | with_reducible exact le_dead | (skip; done) | exact byLeq) (by exact byCon) (LeAll.cons (by rfl) (by first | with_reducible exact Root.Le.refl _ | with_reducible exact le_dead | (skip; done) | exact byLeq) (by exact byCon) (trivial))))) rfl rfl) (by exact bySlots)) ?_
      rintro ⟨z, l⟩ ⟨hz, hl⟩
      simp only at hz hl
      dsimp only [Hd.at]
      have hbl : l.length ≤ z := hl ▸ bits_len S z
      refine WP.seq ?_
      refine WP.rs T false tok (by rfl) (by exact byObl) ?_
      refine WP.cond (by rfl) (fun hc => WP.skip ?_) (fun hc => WP.exit ?_)
      · have hz : z < N := by have := of_decide_eq_true hc; omega
        clear hc
        refine WP.seq (WP.block ?_)
        refine WP.seq ?_
        refine WP.run T false tok (by rfl) (by exact byObl) ?_
        cases hs : S.testBit z
        · have e1 := bits_miss hs
          refine WP.cond (by rfl) (fun h => ?_) (fun h => WP.skip ?_)
          · have h : S.testBit z = true := h; rw [hs] at h; cases h
          · refine WP.run T false tok (by rfl) (by exact byObl) ?_
            refine Again.next ((z + 1, l)) (Ghost.cut (Nat.le_refl _) (tauOf [0, 1, 2, 3]) _ _ (Taken.of [0, 1, 2, 3] (LeAll.cons (by rfl) (by first | with_reducible exact Root.Le.refl _ | with_reducible exact le_dead | (skip; done) | exact byLeq) (by exact byCon) (LeAll.cons (by rfl) (by first | with_reducible exact Root.Le.refl _ | with_reducible exact le_dead | (skip; done) | exact byLeq) (by exact byCon) (LeAll.cons (by rfl) (by first | with_reducible exact Root.Le.refl _ | with_reducible exact le_dead | (skip; done) | exact byLeq) (by exact byCon) (LeAll.cons (by rfl) (by first | with_reducible exact Root.Le.refl _ | with_reducible exact le_dead | (skip; done) | exact byLeq) (by exact byCon) (trivial))))) rfl rfl) (by exact bySlots)) (⟨hz, by simp only; rw [e1, hl]⟩) (by dsimp only; omega)
        · have e1 := bits_hit hs
          refine WP.cond (by rfl) (fun h => ?_) (fun h => WP.skip ?_)
          · refine WP.run T false tok (by rfl) (by exact byObl) ?_
            refine WP.run T false tok (by rfl) (by exact byObl) ?_
            refine Again.next ((z + 1, l ++ [z])) (Ghost.cut (Nat.le_refl _) (tauOf [0, 1, 2, 5]) _ _ (Taken.of [0, 1, 2, 5] (LeAll.cons (by rfl) (by first | with_reducible exact Root.Le.refl _ | with_reducible exact le_dead | (exact le_row (by simp) (fun j hj => ap_nums l z _ j (by simpa using hj))) | exact byLeq) (by exact byCon) (LeAll.cons (by rfl) (by first | with_reducible exact Root.Le.refl _ | with_reducible exact le_dead | (exact le_row (by simp) (fun j hj => ap_nums l z _ j (by simpa using hj))) | exact byLeq) (by exact byCon) (LeAll.cons (by rfl) (by first | with_reducible exact Root.Le.refl _ | with_reducible exact le_dead | (exact le_row (by simp) (fun j hj => ap_nums l z _ j (by simpa using hj))) | exact byLeq) (by exact byCon) (LeAll.cons (by rfl) (by first | with_reducible exact Root.Le.refl _ | with_reducible exact le_dead | (exact le_row (by simp) (fun j hj => ap_nums l z _ j (by simpa using hj))) | exact byLeq) (by exact byCon) (trivial))))) rfl rfl) (by exact bySlots)) (⟨hz, by simp only; rw [e1, hl]⟩) (by dsimp only; omega)
          · have h : S.testBit z = false := h; rw [hs] at h; cases h
      · have hz : z = N := by have := of_decide_eq_false hc; omega
        subst hz
        subst hl
        refine WP.rs T false tok (by rfl) (by exact byObl) ?_
        exact WP.ret (Ends.newE [0, 3] (⟨S, rfl, rfl, hO, hxS⟩) (.inl rfl) (by rfl) (by exact byObl) (LeAll.cons (by rfl) (by first | with_reducible exact Root.Le.refl _ | with_reducible exact le_dead | (skip; done) | exact byLeq) (by exact byCon) (LeAll.cons (by rfl) (by first | with_reducible exact Root.Le.refl _ | with_reducible exact le_dead | (skip; done) | exact byLeq) (by exact byCon) (trivial))) rfl rfl (rfl) (sc_sl rfl))
end Go.Proofs.Ytokhjhkicledmaa
