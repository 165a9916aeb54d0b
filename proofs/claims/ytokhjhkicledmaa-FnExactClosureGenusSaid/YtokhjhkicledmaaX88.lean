import Derived.Test.YtokhjhkicledmaaX87
import Derived.Test.YtokhjhkicledmaaX44
import Derived.Test.YtokhjhkicledmaaX46
/- ClosureGenus on both sides, and its law. -/
namespace Go.Proofs.Ytokhjhkicledmaa
open Go.RowKit DM
set_option linter.unusedSimpArgs false
set_option linter.unusedVariables false
set_option maxRecDepth 100000
set_option maxHeartbeats 1000000

/-- The order of one of the three permutations. -/
def cgq (N : Nat) (b w : Nat → Nat) (j : Nat) : Nat := lcmTo ((pasL N b w).getD j []) ((pasL N b w).getD j []).length
def cgS (o N : Nat) (b w : Nat → Nat) : Nat → Nat
  | 0 => 0
  | k + 1 => cgS o N b w k + o / cgq N b w k
theorem cgS_le (o N : Nat) (b w : Nat → Nat) : ∀ k, cgS o N b w k ≤ k * o
  | 0 => Nat.zero_le _
  | k + 1 => by
    have := cgS_le o N b w k
    have h := Nat.div_le_self o (cgq N b w k)
    simp only [cgS, Nat.succ_mul]; omega
def cgV (o N : Nat) (b w : Nat → Nat) : Int := 1 - (((cgS o N b w 3 : Nat) : Int) - (o : Int)).tdiv 2
noncomputable def cgR (n : Int) (b w : Nat → Nat) : Dat := bif desB n b w then t2 (.i .i64 (cgV (ordG n.toNat [b, w]) n.toNat b w)) (.i .i64 0) else t2 (.i .i64 0) (.i .i64 1)
theorem cgR_form (n : Int) (b w : Nat → Nat) : ∃ r c, cgR n b w = t2 (.i .i64 r) (.i .i64 c) := by
  unfold cgR
  cases desB n b w with
  | true => exact ⟨_, _, rfl⟩
  | false => exact ⟨_, _, rfl⟩

theorem pas_mem {N : Nat} {b w : Nat → Nat} (hD : Des N b w) (j : Nat) : ∀ x ∈ (pasL N b w).getD j [], 1 ≤ x ∧ x ≤ 16 := by
  have go : ∀ {p : Nat → Nat}, Perm N p → ∀ x ∈ tyN (cycs p N) N, 1 ≤ x ∧ x ≤ 16 := fun hp x hx => by
    have := dTo_mem _ N N (Nat.le_refl _) x hx
    have := hD.le
    omega
  rcases j with _ | _ | _ | j
  · exact go hD.pb
  · exact go hD.pw
  · exact go (perm_face hD)
  · intro x hx; simp [pasL] at hx
theorem three_perm {N : Nat} {b w : Nat → Nat} (hD : Des N b w) {j : Nat} (hj : j < 3) : Perm N ([b, w, faceF N b w].getD j fun _ => 0) ∧ (pasL N b w).getD j [] = tyN (cycs ([b, w, faceF N b w].getD j fun _ => 0) N) N := by
  rcases j with _ | _ | _ | j
  · exact ⟨hD.pb, rfl⟩
  · exact ⟨hD.pw, rfl⟩
  · exact ⟨perm_face hD, rfl⟩
  · omega
theorem cgq_pos {N : Nat} {b w : Nat → Nat} (hD : Des N b w) (j : Nat) : 0 < cgq N b w j ∧ cgq N b w j ≤ 720720 := lcmTo_le (pas_mem hD j) (Nat.le_refl _)

theorem row_three {b w f : Nat → Nat} {z : Nat → Dat} : ∀ j, j < 3 → rowP [b, w, f] j = fup (fup (fup z 0 (pl b)) 1 (pl w)) 2 (pl f) j
  | 0, _ => rfl
  | 1, _ => rfl
  | 2, _ => rfl
  | _ + 3, h => by omega

theorem implClosure_fn (n : Int) (b w : Nat → Nat) (hb : ∀ i, b i < 256) (hw : ∀ i, w i < 256) (hbz : ∀ i, 16 ≤ i → b i = 0) (hwz : ∀ i, 16 ≤ i → w i = 0) : FnP Try.prog 31 [ds_ n b w] (cgR n b w) := by
  have hgo := implGroupOrder_fn n b w hb hw hbz hwz
  cases hc : desB n b w
  · have e : cgR n b w = t2 (.i .i64 0) (.i .i64 1) := by unfold cgR; rw [hc]; rfl
    have eg : goR n b w = t2 (.i .i64 0) (.i .i64 1) := by unfold goR; rw [hc]; rfl
    rw [eg] at hgo
    refine FnS.into T tok Try.func31 (by rfl) rfl rfl rfl (by simp) ?_
    refine WP.rs T false tok (by rfl) (by exact byObl) ?_
    refine WP.rw ?_
    refine WPL.run T false 1 tok (by rfl) (by exact byObl) ?_
    refine WPL.call (hgo) (by rfl) (by rfl) (by rfl) (by simp [Sc, sc_pl, sc_ds, pl_ne, ds_ne]) ?_
    refine WPL.fin T false tok (by rfl) (by exact byObl) ?_
    refine WP.seq ?_
    refine WP.rs T false tok (by rfl) (by exact byObl) ?_
    refine WP.cond (by rfl) (fun h => ?_) (fun h => WP.skip ?_)
    · refine WP.rs T false tok (by rfl) (by exact byObl) ?_
      rw [e]
      exact WP.ret (Ends.val (by rfl) (by exact byObl) (by rfl) (by exact sc_t2 trivial trivial))
    · cases h
  · obtain ⟨N, rfl, hD, hnb, hnw⟩ := des_np hc hbz hwz
    have e : cgR N b w = t2 (.i .i64 (cgV (ordG N [b, w]) N b w)) (.i .i64 0) := by unfold cgR; rw [hc]; rfl
    have eg : goR N b w = t2 (.i .i64 ((ordG N [b, w] : Nat) : Int)) (.i .i64 0) := by unfold goR; rw [hc]; rfl
    have hole : ordG N [b, w] ≤ 20922789888000 := ordG_le hD.le (des_L hnb hnw)
    rw [eg] at hgo
    rw [e]
    generalize ordG N [b, w] = o at *
    refine FnS.into T tok Try.func31 (by rfl) rfl rfl rfl (by simp) ?_
    refine WP.rs T false tok (by rfl) (by exact byObl) ?_
    refine WP.rw ?_
    refine WPL.run T false 1 tok (by rfl) (by exact byObl) ?_
    refine WPL.call (hgo) (by rfl) (by rfl) (by rfl) (by simp [Sc, sc_pl, sc_ds, pl_ne, ds_ne]) ?_
    refine WPL.fin T false tok (by rfl) (by exact byObl) ?_
    refine WP.seq ?_
    refine WP.rs T false tok (by rfl) (by exact byObl) ?_
    refine WP.cond (by rfl) (fun h => ?_) (fun h => WP.skip ?_)
    · cases h
    refine WP.rs T false tok (by rfl) (by exact byObl) ?_
    refine WP.seq ?_
    refine WP.seq ?_
    refine WP.da (by kernel_rfl) 9 (by kernel_rfl) ?_
    refine WA.takesD T false tok [8] (f' := 8) (by kernel_rfl) (by rfl) (by rfl) (by exact byObl) (by rfl) (by rfl) ?_
    refine WA.takes T false tok [0, 1, 2, 3, 4] (f' := 3) (by kernel_rfl) (by rfl) (by rfl) (by rfl) (by exact byObl) (by rfl) (by rfl) ?_
    refine WA.all [5] (by kernel_rfl) (by simp) ?_; intro i' hi'; simp only [List.mem_cons, List.not_mem_nil, or_false] at hi'
    subst hi'
    refine ⟨_, _, _, rfl, by rfl, by rfl, MK.callP (face_fn N b w hD) (by rfl) (by simp [Sc, sc_pl, sc_ds, pl_ne, ds_ne]), ?_⟩
    refine WA.all [6] (by kernel_rfl) (by simp) ?_; intro i' hi'; simp only [List.mem_cons, List.not_mem_nil, or_false] at hi'
    subst hi'
    refine ⟨_, _, _, rfl, by rfl, by rfl, MK.of tok (wm := false) (by rfl) (by exact byObl) (by rfl) (by exact byObl), ?_⟩
    refine WA.takes T false tok [7] (f' := 0) (by kernel_rfl) (by rfl) (by rfl) (by rfl) (by exact byObl) (by rfl) (by rfl) ?_
    refine WA.end rfl (by kernel_rfl) (noPan ?_)
    refine WP.block ?_
    refine WP.loopH (⟨fun z : Nat × Int => z.1 ≤ 3 ∧ z.2 = (cgS o N b w z.1 : Int) - (o : Int), fun z => [(1, .p 0 [] 0), (4, .i .i64 (o : Int)), (6, .i .i64 z.2), (25, .sl 1 0 3 16), (26, .i .i64 3), (27, .i .i64 (z.1 : Int))], fun z => [.var (ds_ N b w), .row 27 3 16 (rowP [b, w, faceF N b w])], fun z => 3 - z.1⟩) ((0, -(o : Int))) (⟨Nat.zero_le _, by simp [cgS]⟩) (Ghost.cut (Nat.le_refl _) (tauOf [0, 1]) _ _ (Taken.of [0, 1] (LeAll.cons (by rfl) (by first | with_reducible exact Root.Le.refl _ | with_reducible exact le_dead | (exact le_row (Nat.le_refl _) row_three) | exact byLeq) (by exact byCon) (LeAll.cons (by rfl) (by first | with_reducible exact Root.Le.refl _ | with_reducible exact le_dead | (exact le_row (Nat.le_refl _) row_three) | exact byLeq) (by exact byCon) (trivial))) rfl rfl) (by exact bySlots)) ?_
    rintro ⟨k, s⟩ ⟨hk, hs⟩
    dsimp only at hk hs
    dsimp only [Hd.at]
    refine WP.rs T false tok (by rfl) (by exact byObl) ?_
    refine WP.seq ?_
    refine WP.cond (by rfl) (fun hc => WP.skip ?_) (fun hc => WP.exit ?_)
    · have hk : k < 3 := by have := of_decide_eq_true hc; omega
      clear hc
      obtain ⟨hpk, hpas⟩ := three_perm hD hk
      have hord := order_fn ([b, w, faceF N b w].getD k fun _ => 0) N hD.le hpk
      rw [← hpas] at hord
      have hq := cgq_pos hD k
      have hs1 := cgS_le o N b w k
      have hs2 := cgS_le o N b w (k + 1)
      have hs3 : cgS o N b w (k + 1) = cgS o N b w k + o / cgq N b w k := rfl
      have hd1 := Nat.div_le_self o (cgq N b w k)
      have h3o : k * o ≤ 2 * o := Nat.mul_le_mul_right _ (by omega)
      have h3o2 : (k + 1) * o ≤ 3 * o := Nat.mul_le_mul_right _ (by omega)
      refine WP.seq (WP.block ?_)
      refine WP.rs T false tok (by rfl) (by exact byObl) ?_
      refine WP.region ?_
      refine WPL.run T false 5 tok (by rfl) (by exact byObl) ?_
      refine WPL.call (hord) (by rfl) (by rfl) (by rfl) (by simp [Sc, sc_pl, sc_ds, pl_ne, ds_ne]) ?_
      rw [show lcmTo ((pasL N b w).getD k []) ((pasL N b w).getD k []).length = cgq N b w k from rfl]
      generalize cgq N b w k = q at *
      have htd := tdivC o q
      generalize o / q = d at *
      refine WPL.run T false 1 tok (by rfl) (by exact byObl) ?_
      rw [htd]
      refine WPL.fin T false tok (by rfl) (by exact byObl) ?_
      refine WP.run T false tok (by rfl) (by exact byObl) ?_
      refine Again.next ((k + 1, s + (d : Int))) (Ghost.cut (Nat.le_refl _) (tauOf [0, 1]) _ _ (Taken.of [0, 1] (LeAll.cons (by rfl) (by first | with_reducible exact Root.Le.refl _ | with_reducible exact le_dead | (skip; done) | exact byLeq) (by exact byCon) (LeAll.cons (by rfl) (by first | with_reducible exact Root.Le.refl _ | with_reducible exact le_dead | (skip; done) | exact byLeq) (by exact byCon) (trivial))) rfl rfl) (by exact bySlots)) (⟨hk, by dsimp only; rw [hs3]; omega⟩) (by dsimp only; omega)
    · have hk : k = 3 := by have := of_decide_eq_false hc; omega
      subst hk
      have hs1 := cgS_le o N b w 3
      have hv : 1 - s.tdiv 2 = cgV o N b w := by unfold cgV; rw [hs]
      have hlo : -20922789888000 ≤ s.tdiv 2 ∧ s.tdiv 2 ≤ 62768369664000 := by
        rcases Int.le_total 0 s with h0 | h0
        · rw [Int.tdiv_eq_ediv_of_nonneg h0]; omega
        · have := Int.neg_tdiv s 2
          have h1 : (-s).tdiv 2 = (-s) / 2 := Int.tdiv_eq_ediv_of_nonneg (by omega)
          omega
      refine WP.rs T false tok (by rfl) (by exact byObl) ?_
      rw [hv]
      exact WP.ret (Ends.val (by rfl) (by exact byObl) (by rfl) (by exact sc_t2 trivial trivial))

theorem specClosure_fn (n : Int) (b w : Nat → Nat) (hb : ∀ i, b i < 256) (hw : ∀ i, w i < 256) (hbz : ∀ i, 16 ≤ i → b i = 0) (hwz : ∀ i, 16 ≤ i → w i = 0) : FnP Try.prog 30 [ds_ n b w] (cgR n b w) := by
  refine FnS.into T tok Try.func30 (by rfl) rfl rfl rfl (by simp) ?_
  refine WP.rs T false tok (by rfl) (by exact byObl) ?_
  refine WP.seq ?_
  cases hc : desB n b w
  · have e : cgR n b w = t2 (.i .i64 0) (.i .i64 1) := by unfold cgR; rw [hc]; rfl
    refine WP.rw ?_
    refine WPL.run T false 1 tok (by rfl) (by exact byObl) ?_
    refine WPL.call (hc ▸ l01Is_fn n b w hb hw) (by rfl) (by rfl) (by rfl) (by simp [Sc, sc_pl, sc_ds, pl_ne, ds_ne]) ?_
    refine WPL.fin T false tok (by rfl) (by exact byObl) ?_
    refine WP.cond (by rfl) (fun h => ?_) (fun h => WP.skip ?_)
    · refine WP.rs T false tok (by rfl) (by exact byObl) ?_
      rw [e]
      exact WP.ret (Ends.val (by rfl) (by exact byObl) (by rfl) (by exact sc_t2 trivial trivial))
    · cases h
  · obtain ⟨N, rfl, hD, hnb, hnw⟩ := des_np hc hbz hwz
    have e : cgR N b w = t2 (.i .i64 (cgV (ordG N [b, w]) N b w)) (.i .i64 0) := by unfold cgR; rw [hc]; rfl
    have hole : ordG N [b, w] ≤ 20922789888000 := ordG_le hD.le (des_L hnb hnw)
    have hpas := l01Passport_fn N b w hD
    rw [e]
    refine WP.rw ?_
    refine WPL.run T false 1 tok (by rfl) (by exact byObl) ?_
    refine WPL.call (hc ▸ l01Is_fn N b w hb hw) (by rfl) (by rfl) (by rfl) (by simp [Sc, sc_pl, sc_ds, pl_ne, ds_ne]) ?_
    refine WPL.fin T false tok (by rfl) (by exact byObl) ?_
    refine WP.cond (by rfl) (fun h => ?_) (fun h => WP.skip ?_)
    · cases h
    refine WP.seqG ⟨lst [(1, .p 0 [] 0), (4, .i .i64 ((ordG N [b, w] : Nat) : Int)), (5, .sl 1 0 3 1), (6, .i .i64 0)], [.var (ds_ N b w), .row 37 3 1 (rowsF (pasL N b w))]⟩ ?_ ?_
    · refine WP.da (by kernel_rfl) 2 (by kernel_rfl) ?_
      refine WA.allE [0, 3] (by kernel_rfl) (by simp) ?_; intro i' hi'; simp only [List.mem_cons, List.not_mem_nil, or_false] at hi'
      rcases hi' with rfl | rfl
      · refine ⟨_, _, rfl, by rfl, by rfl, MKE.of (MK.q (evalOp_q tok (wm := false) (by rfl) (by rfl) (by exact byObl))), ?_⟩; rintro _ _ ⟨rfl, rfl⟩
        refine WA.allE [1, 3] (by kernel_rfl) (by simp) ?_; intro i' hi'; simp only [List.mem_cons, List.not_mem_nil, or_false] at hi'
        rcases hi' with rfl | rfl
        · refine ⟨_, fun v m' => v = .p 1 [] 0 ∧ ∃ C, m' = [.var (ds_ N b w), .var (chn N C)] ∧ Chain N [b, w] C, rfl, by rfl, by rfl, MKE.call [] (l03Of_fn N b w hD.pos hD.le hnb hnw) (trivial) (by rfl) (.inl rfl) (by rfl) (by exact byArgs) (by simp [Sc, sc_pl, sc_ds]) ?_, ?_⟩
          · rintro _ _ ⟨rfl, C, rfl, hok⟩
            exact ⟨by exact byAllc, .p 1 [] 0, rfl, sc_p rfl, rfl, C, rfl, hok⟩
          rintro _ _ ⟨rfl, C, rfl, hok⟩
          have hO := l03Order_fn N hD.le C hok.ci.T
          rw [(hok.done hD.le hD.pos (des_L hnb hnw)).1.ord] at hO
          refine WA.allT [2, 3] (by kernel_rfl) (by simp) ?_; intro i' hi'; simp only [List.mem_cons, List.not_mem_nil, or_false] at hi'
          rcases hi' with rfl | rfl
          · refine ⟨_, _, _, rfl, by rfl, by rfl, .inr ⟨by decide, TK.callN [1] (.i .i64 ((ordG N [b, w] : Nat) : Int)) (hO) (LeAll.cons (by rfl) (by first | with_reducible exact Root.Le.refl _ | with_reducible exact le_dead | (skip; done) | exact byLeq) (by exact byCon) (trivial)) (by rfl) (by rfl) (by exact byArgs) (by simp [Sc, sc_pl, sc_ds]) (by exact byAllc) (⟨rfl, trivial⟩) (by exact bySc) rfl⟩, ?_⟩
            refine WA.allT [3] (by kernel_rfl) (by simp) ?_; intro i' hi'; simp only [List.mem_cons, List.not_mem_nil, or_false] at hi'
            subst hi'
            refine ⟨_, _, _, rfl, by rfl, by rfl, .inl (MK.q (evalOp_q tok (wm := false) (by rfl) (by rfl) (by exact ⟨rfl, pl_ds _ _ _⟩))), ?_⟩
            refine WA.allT [4] (by kernel_rfl) (by simp) ?_; intro i' hi'; simp only [List.mem_cons, List.not_mem_nil, or_false] at hi'
            subst hi'
            refine ⟨_, _, _, rfl, by rfl, by rfl, .inl (MK.call [] (.sl 2 0 3 1) (hpas) (trivial) (by rfl) (by exact .inl rfl) (by rfl) (by exact byArgs) (by simp [Sc, sc_pl, sc_ds]) (by exact byAllc) (by exact rfl) (by exact bySc) (by rfl)), ?_⟩
            refine WA.move 5 (by rfl) (by first | exact .inl rfl | exact .inr rfl) (by kernel_rfl) (by kernel_rfl) (by rfl) (by rfl) ?_
            refine WA.move 6 (by rfl) (by first | exact .inl rfl | exact .inr rfl) (by kernel_rfl) (by kernel_rfl) (by rfl) (by rfl) ?_
            refine WA.move 7 (by rfl) (by first | exact .inl rfl | exact .inr rfl) (by kernel_rfl) (by kernel_rfl) (by rfl) (by rfl) ?_
            refine WA.end rfl (by kernel_rfl) (noPan ?_)
            exact Ghost.cut (Nat.le_refl _) (tauOf [0, 2]) [(1, .p 0 [] 0), (4, .i .i64 ((ordG N [b, w] : Nat) : Int)), (5, .sl 1 0 3 1), (6, .i .i64 0)] [.var (ds_ N b w), .row 37 3 1 (rowsF (pasL N b w))] (Taken.of [0, 2] (LeAll.cons (by rfl) (by first | with_reducible exact Root.Le.refl _ | with_reducible exact le_dead | (exact le_var (dsf_of rfl rfl rfl fun _ => rfl).symm) | exact byLeq) (by exact byCon) (LeAll.cons (by rfl) (by first | with_reducible exact Root.Le.refl _ | with_reducible exact le_dead | (exact le_var (dsf_of rfl rfl rfl fun _ => rfl).symm) | exact byLeq) (by exact byCon) (trivial))) rfl rfl) (by exact bySlots)
          · refine ⟨_, _, _, rfl, by rfl, by rfl, .inl (MK.q (evalOp_q tok (wm := false) (by rfl) (by rfl) (by exact ⟨rfl, pl_ds _ _ _⟩))), ?_⟩
            refine WA.allT [2] (by kernel_rfl) (by simp) ?_; intro i' hi'; simp only [List.mem_cons, List.not_mem_nil, or_false] at hi'
            subst hi'
            refine ⟨_, _, _, rfl, by rfl, by rfl, .inr ⟨by decide, TK.callN [1] (.i .i64 ((ordG N [b, w] : Nat) : Int)) (hO) (LeAll.cons (by rfl) (by first | with_reducible exact Root.Le.refl _ | with_reducible exact le_dead | (skip; done) | exact byLeq) (by exact byCon) (trivial)) (by rfl) (by rfl) (by exact byArgs) (by simp [Sc, sc_pl, sc_ds]) (by exact byAllc) (⟨rfl, trivial⟩) (by exact bySc) rfl⟩, ?_⟩
            refine WA.allT [4] (by kernel_rfl) (by simp) ?_; intro i' hi'; simp only [List.mem_cons, List.not_mem_nil, or_false] at hi'
            subst hi'
            refine ⟨_, _, _, rfl, by rfl, by rfl, .inl (MK.call [] (.sl 2 0 3 1) (hpas) (trivial) (by rfl) (by exact .inl rfl) (by rfl) (by exact byArgs) (by simp [Sc, sc_pl, sc_ds]) (by exact byAllc) (by exact rfl) (by exact bySc) (by rfl)), ?_⟩
            refine WA.move 5 (by rfl) (by first | exact .inl rfl | exact .inr rfl) (by kernel_rfl) (by kernel_rfl) (by rfl) (by rfl) ?_
            refine WA.move 6 (by rfl) (by first | exact .inl rfl | exact .inr rfl) (by kernel_rfl) (by kernel_rfl) (by rfl) (by rfl) ?_
            refine WA.move 7 (by rfl) (by first | exact .inl rfl | exact .inr rfl) (by kernel_rfl) (by kernel_rfl) (by rfl) (by rfl) ?_
            refine WA.end rfl (by kernel_rfl) (noPan ?_)
            exact Ghost.cut (Nat.le_refl _) (tauOf [0, 2]) [(1, .p 0 [] 0), (4, .i .i64 ((ordG N [b, w] : Nat) : Int)), (5, .sl 1 0 3 1), (6, .i .i64 0)] [.var (ds_ N b w), .row 37 3 1 (rowsF (pasL N b w))] (Taken.of [0, 2] (LeAll.cons (by rfl) (by first | with_reducible exact Root.Le.refl _ | with_reducible exact le_dead | (exact le_var (dsf_of rfl rfl rfl fun _ => rfl).symm) | exact byLeq) (by exact byCon) (LeAll.cons (by rfl) (by first | with_reducible exact Root.Le.refl _ | with_reducible exact le_dead | (exact le_var (dsf_of rfl rfl rfl fun _ => rfl).symm) | exact byLeq) (by exact byCon) (trivial))) rfl rfl) (by exact bySlots)
        · refine ⟨_, _, rfl, by rfl, by rfl, MKE.of (MK.q (evalOp_q tok (wm := false) (by rfl) (by rfl) (by exact byObl))), ?_⟩; rintro _ _ ⟨rfl, rfl⟩
          refine WA.allE [1] (by kernel_rfl) (by simp) ?_; intro i' hi'; simp only [List.mem_cons, List.not_mem_nil, or_false] at hi'
          subst hi'
          refine ⟨_, fun v m' => v = .p 1 [] 0 ∧ ∃ C, m' = [.var (ds_ N b w), .var (chn N C)] ∧ Chain N [b, w] C, rfl, by rfl, by rfl, MKE.call [] (l03Of_fn N b w hD.pos hD.le hnb hnw) (trivial) (by rfl) (.inl rfl) (by rfl) (by exact byArgs) (by simp [Sc, sc_pl, sc_ds]) ?_, ?_⟩
          · rintro _ _ ⟨rfl, C, rfl, hok⟩
            exact ⟨by exact byAllc, .p 1 [] 0, rfl, sc_p rfl, rfl, C, rfl, hok⟩
          rintro _ _ ⟨rfl, C, rfl, hok⟩
          have hO := l03Order_fn N hD.le C hok.ci.T
          rw [(hok.done hD.le hD.pos (des_L hnb hnw)).1.ord] at hO
          refine WA.allT [2] (by kernel_rfl) (by simp) ?_; intro i' hi'; simp only [List.mem_cons, List.not_mem_nil, or_false] at hi'
          subst hi'
          refine ⟨_, _, _, rfl, by rfl, by rfl, .inr ⟨by decide, TK.callN [1] (.i .i64 ((ordG N [b, w] : Nat) : Int)) (hO) (LeAll.cons (by rfl) (by first | with_reducible exact Root.Le.refl _ | with_reducible exact le_dead | (skip; done) | exact byLeq) (by exact byCon) (trivial)) (by rfl) (by rfl) (by exact byArgs) (by simp [Sc, sc_pl, sc_ds]) (by exact byAllc) (⟨rfl, trivial⟩) (by exact bySc) rfl⟩, ?_⟩
          refine WA.allT [4] (by kernel_rfl) (by simp) ?_; intro i' hi'; simp only [List.mem_cons, List.not_mem_nil, or_false] at hi'
          subst hi'
          refine ⟨_, _, _, rfl, by rfl, by rfl, .inl (MK.call [] (.sl 2 0 3 1) (hpas) (trivial) (by rfl) (by exact .inl rfl) (by rfl) (by exact byArgs) (by simp [Sc, sc_pl, sc_ds]) (by exact byAllc) (by exact rfl) (by exact bySc) (by rfl)), ?_⟩
          refine WA.move 5 (by rfl) (by first | exact .inl rfl | exact .inr rfl) (by kernel_rfl) (by kernel_rfl) (by rfl) (by rfl) ?_
          refine WA.move 6 (by rfl) (by first | exact .inl rfl | exact .inr rfl) (by kernel_rfl) (by kernel_rfl) (by rfl) (by rfl) ?_
          refine WA.move 7 (by rfl) (by first | exact .inl rfl | exact .inr rfl) (by kernel_rfl) (by kernel_rfl) (by rfl) (by rfl) ?_
          refine WA.end rfl (by kernel_rfl) (noPan ?_)
          exact Ghost.cut (Nat.le_refl _) (tauOf [0, 2]) [(1, .p 0 [] 0), (4, .i .i64 ((ordG N [b, w] : Nat) : Int)), (5, .sl 1 0 3 1), (6, .i .i64 0)] [.var (ds_ N b w), .row 37 3 1 (rowsF (pasL N b w))] (Taken.of [0, 2] (LeAll.cons (by rfl) (by first | with_reducible exact Root.Le.refl _ | with_reducible exact le_dead | (exact le_var (dsf_of rfl rfl rfl fun _ => rfl).symm) | exact byLeq) (by exact byCon) (LeAll.cons (by rfl) (by first | with_reducible exact Root.Le.refl _ | with_reducible exact le_dead | (exact le_var (dsf_of rfl rfl rfl fun _ => rfl).symm) | exact byLeq) (by exact byCon) (trivial))) rfl rfl) (by exact bySlots)
      · refine ⟨_, _, rfl, by rfl, by rfl, MKE.of (MK.q (evalOp_q tok (wm := false) (by rfl) (by rfl) (by exact byObl))), ?_⟩; rintro _ _ ⟨rfl, rfl⟩
        refine WA.allE [0] (by kernel_rfl) (by simp) ?_; intro i' hi'; simp only [List.mem_cons, List.not_mem_nil, or_false] at hi'
        subst hi'
        refine ⟨_, _, rfl, by rfl, by rfl, MKE.of (MK.q (evalOp_q tok (wm := false) (by rfl) (by rfl) (by exact byObl))), ?_⟩; rintro _ _ ⟨rfl, rfl⟩
        refine WA.allE [1] (by kernel_rfl) (by simp) ?_; intro i' hi'; simp only [List.mem_cons, List.not_mem_nil, or_false] at hi'
        subst hi'
        refine ⟨_, fun v m' => v = .p 1 [] 0 ∧ ∃ C, m' = [.var (ds_ N b w), .var (chn N C)] ∧ Chain N [b, w] C, rfl, by rfl, by rfl, MKE.call [] (l03Of_fn N b w hD.pos hD.le hnb hnw) (trivial) (by rfl) (.inl rfl) (by rfl) (by exact byArgs) (by simp [Sc, sc_pl, sc_ds]) ?_, ?_⟩
        · rintro _ _ ⟨rfl, C, rfl, hok⟩
          exact ⟨by exact byAllc, .p 1 [] 0, rfl, sc_p rfl, rfl, C, rfl, hok⟩
        rintro _ _ ⟨rfl, C, rfl, hok⟩
        have hO := l03Order_fn N hD.le C hok.ci.T
        rw [(hok.done hD.le hD.pos (des_L hnb hnw)).1.ord] at hO
        refine WA.allT [2] (by kernel_rfl) (by simp) ?_; intro i' hi'; simp only [List.mem_cons, List.not_mem_nil, or_false] at hi'
        subst hi'
        refine ⟨_, _, _, rfl, by rfl, by rfl, .inr ⟨by decide, TK.callN [1] (.i .i64 ((ordG N [b, w] : Nat) : Int)) (hO) (LeAll.cons (by rfl) (by first | with_reducible exact Root.Le.refl _ | with_reducible exact le_dead | (skip; done) | exact byLeq) (by exact byCon) (trivial)) (by rfl) (by rfl) (by exact byArgs) (by simp [Sc, sc_pl, sc_ds]) (by exact byAllc) (⟨rfl, trivial⟩) (by exact bySc) rfl⟩, ?_⟩
        refine WA.allT [4] (by kernel_rfl) (by simp) ?_; intro i' hi'; simp only [List.mem_cons, List.not_mem_nil, or_false] at hi'
        subst hi'
        refine ⟨_, _, _, rfl, by rfl, by rfl, .inl (MK.call [] (.sl 2 0 3 1) (hpas) (trivial) (by rfl) (by exact .inl rfl) (by rfl) (by exact byArgs) (by simp [Sc, sc_pl, sc_ds]) (by exact byAllc) (by exact rfl) (by exact bySc) (by rfl)), ?_⟩
        refine WA.move 5 (by rfl) (by first | exact .inl rfl | exact .inr rfl) (by kernel_rfl) (by kernel_rfl) (by rfl) (by rfl) ?_
        refine WA.move 6 (by rfl) (by first | exact .inl rfl | exact .inr rfl) (by kernel_rfl) (by kernel_rfl) (by rfl) (by rfl) ?_
        refine WA.move 7 (by rfl) (by first | exact .inl rfl | exact .inr rfl) (by kernel_rfl) (by kernel_rfl) (by rfl) (by rfl) ?_
        refine WA.end rfl (by kernel_rfl) (noPan ?_)
        exact Ghost.cut (Nat.le_refl _) (tauOf [0, 2]) [(1, .p 0 [] 0), (4, .i .i64 ((ordG N [b, w] : Nat) : Int)), (5, .sl 1 0 3 1), (6, .i .i64 0)] [.var (ds_ N b w), .row 37 3 1 (rowsF (pasL N b w))] (Taken.of [0, 2] (LeAll.cons (by rfl) (by first | with_reducible exact Root.Le.refl _ | with_reducible exact le_dead | (exact le_var (dsf_of rfl rfl rfl fun _ => rfl).symm) | exact byLeq) (by exact byCon) (LeAll.cons (by rfl) (by first | with_reducible exact Root.Le.refl _ | with_reducible exact le_dead | (exact le_var (dsf_of rfl rfl rfl fun _ => rfl).symm) | exact byLeq) (by exact byCon) (trivial))) rfl rfl) (by exact bySlots)
    generalize ordG N [b, w] = o at *
    refine WP.seq ?_
    refine WP.rs T false tok (by rfl) (by exact byObl) ?_
    refine WP.block ?_
    refine WP.loopH (⟨fun z : Nat × Nat => z.1 ≤ 3 ∧ z.2 = cgS o N b w z.1, fun z => [(1, .p 0 [] 0), (4, .i .i64 (o : Int)), (5, .sl 1 0 3 1), (6, .i .i64 (z.2 : Int)), (7, .i .i64 (z.1 : Int))], fun z => [.var (ds_ N b w), .ro 3 1 (rowsF (pasL N b w))], fun z => 3 - z.1⟩) ((0, 0)) (⟨Nat.zero_le _, rfl⟩) (Ghost.cut (Nat.le_refl _) (tauOf [0, 1]) _ _ (Taken.of [0, 1] (LeAll.cons (by rfl) (by first | with_reducible exact Root.Le.refl _ | with_reducible exact le_dead | (skip; done) | exact byLeq) (by exact byCon) (LeAll.cons (by rfl) (by first | with_reducible exact Root.Le.refl _ | with_reducible exact le_dead | (skip; done) | exact byLeq) (by exact byCon) (trivial))) rfl rfl) (by exact bySlots)) ?_
    rintro ⟨k, s⟩ ⟨hk, hs⟩
    dsimp only at hk hs
    dsimp only [Hd.at]
    refine WP.seq ?_
    refine WP.rs T false tok (by rfl) (by exact byObl) ?_
    refine WP.cond (by rfl) (fun hc => WP.skip ?_) (fun hc => WP.exit ?_)
    · have hk : k < 3 := by have := of_decide_eq_true hc; omega
      clear hc
      have hcom := l01Common_fn ((pasL N b w).getD k []) (by have := pas_len hD k; omega) (pas_mem hD k)
      have hq := cgq_pos hD k
      have hs2 := cgS_le o N b w (k + 1)
      have hs3 : cgS o N b w (k + 1) = cgS o N b w k + o / cgq N b w k := rfl
      have hd1 := Nat.div_le_self o (cgq N b w k)
      have h3o2 : (k + 1) * o ≤ 3 * o := Nat.mul_le_mul_right _ (by omega)
      refine WP.seq (WP.block ?_)
      refine WP.region ?_
      refine WPL.run T false 6 tok (by rfl) (by exact byObl) ?_
      refine WPL.callR [2] (hcom) (by rfl) (LeAll.cons (by rfl) (by first | with_reducible exact Root.Le.refl _ | with_reducible exact le_dead | (exact le_ro (Nat.le_refl _) (fun _ _ => rfl)) | exact byLeq) (by exact byCon) (trivial)) (by exact byArgs) (by rfl) (by rfl) (by simp [Sc, sc_pl, sc_ds]) ?_
      rw [show lcmTo ((pasL N b w).getD k []) ((pasL N b w).getD k []).length = cgq N b w k from rfl]
      generalize cgq N b w k = q at *
      have htd := tdivC o q
      generalize o / q = d at *
      refine WPL.run T false 1 tok (by rfl) (by exact byObl) ?_
      rw [htd]
      refine WPL.fin T false tok (by rfl) (by exact byObl) ?_
      refine WP.run T false tok (by rfl) (by exact byObl) ?_
      refine Again.next ((k + 1, s + d)) (Ghost.cut (Nat.le_refl _) (tauOf [0, 1]) _ _ (Taken.of [0, 1] (LeAll.cons (by rfl) (by first | with_reducible exact Root.Le.refl _ | with_reducible exact le_dead | (skip; done) | exact byLeq) (by exact byCon) (LeAll.cons (by rfl) (by first | with_reducible exact Root.Le.refl _ | with_reducible exact le_dead | (skip; done) | exact byLeq) (by exact byCon) (trivial))) rfl rfl) (by exact bySlots)) (⟨hk, by dsimp only; rw [hs3]; omega⟩) (by dsimp only; omega)
    · have hk : k = 3 := by have := of_decide_eq_false hc; omega
      subst hk
      have hs1 := cgS_le o N b w 3
      have hv : 1 - (((s : Nat) : Int) - (o : Int)).tdiv 2 = cgV o N b w := by unfold cgV; rw [hs]
      have hlo : -20922789888000 ≤ ((s : Int) - (o : Int)).tdiv 2 ∧ ((s : Int) - (o : Int)).tdiv 2 ≤ 62768369664000 := by
        generalize hx : (s : Int) - (o : Int) = x
        rcases Int.le_total 0 x with h0 | h0
        · rw [Int.tdiv_eq_ediv_of_nonneg h0]; omega
        · have := Int.neg_tdiv x 2
          have h1 : (-x).tdiv 2 = (-x) / 2 := Int.tdiv_eq_ediv_of_nonneg (by omega)
          omega
      refine WP.rs T false tok (by rfl) (by exact byObl) ?_
      rw [hv]
      exact WP.ret (Ends.val (by rfl) (by exact byObl) (by rfl) (by exact sc_t2 trivial trivial))

theorem law_ClosureGenus (n : Int) (b w : Nat → Nat) (_hn : -9223372036854775808 ≤ n ∧ n ≤ 9223372036854775807) (hb : ∀ i, b i < 256) (hw : ∀ i, w i < 256) : FnP Try.prog 9 [ds_ n b w] (.b true) := by
  obtain ⟨r, c, e⟩ := cgR_form n (lim b) (lim w)
  have h1 := specClosure_fn n (lim b) (lim w) (lim_lt hb) (lim_lt hw) (lim_z b) (lim_z w)
  have h2 := implClosure_fn n (lim b) (lim w) (lim_lt hb) (lim_lt hw) (lim_z b) (lim_z w)
  rw [e] at h1 h2
  refine FnS.into T tok Try.func9 (by rfl) rfl rfl rfl (by simp) ?_
  refine WP.rs T false tok (by rfl) (by exact byObl) ?_
  refine WP.rw ?_
  refine WPL.run T false 1 tok (by rfl) (by exact byObl) ?_
  refine WPL.call (toDessin_fn n b w) (by rfl) (by rfl) (by rfl) (by simp [Sc, sc_pl, sc_ds, pl_ne, ds_ne]) ?_
  refine WPL.call (h1) (by rfl) (by rfl) (by rfl) (by simp [Sc, sc_pl, sc_ds, pl_ne, ds_ne]) ?_
  refine WPL.fin T false tok (by rfl) (by exact byObl) ?_
  refine WP.rw ?_
  refine WPL.run T false 1 tok (by rfl) (by exact byObl) ?_
  refine WPL.call (toDessin_fn n b w) (by rfl) (by rfl) (by rfl) (by simp [Sc, sc_pl, sc_ds, pl_ne, ds_ne]) ?_
  refine WPL.call (h2) (by rfl) (by rfl) (by rfl) (by simp [Sc, sc_pl, sc_ds, pl_ne, ds_ne]) ?_
  refine WPL.fin T false tok (by rfl) (by exact byObl) ?_
  refine WP.seq ?_
  refine WP.rw ?_
  refine WPL.run T false 3 tok (by rfl) (by exact byObl) ?_
  rw [decide_eq_true (rfl : r = r)]
  refine WPL.fin T false tok (by rfl) (by exact byObl) ?_
  refine WP.cond (by rfl) (fun h => ?_) (fun h => WP.skip ?_)
  · simp at h
  · refine WP.rs T false tok (by rfl) (by exact byObl) ?_
    exact WP.ret (Ends.val (by rfl) (by exact byObl) (by rfl) (by trivial))

end Go.Proofs.Ytokhjhkicledmaa
