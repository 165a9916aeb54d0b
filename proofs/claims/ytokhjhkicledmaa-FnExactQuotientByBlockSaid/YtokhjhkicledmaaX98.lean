import Derived.Test.YtokhjhkicledmaaX96
import Derived.Test.YtokhjhkicledmaaX97
import Derived.Test.YtokhjhkicledmaaL34
/- Quotients by blocks, the reference's side. -/
namespace Go.Proofs.Ytokhjhkicledmaa
open Go.RowKit DM
set_option linter.unusedSimpArgs false
set_option linter.unusedVariables false
set_option maxRecDepth 100000
set_option maxHeartbeats 1000000

noncomputable def qsG (N : Nat) (b w : Nat → Nat) (B : Nat) : Dat := @ite _ (Blk N [b, w] B) (Classical.propDecidable _) (t2 (ds_ (qM N [b, w] B) (qTo (qF N [b, w] B) b N) (qTo (qF N [b, w] B) w N)) (.b true)) (t2 ds0 (.b false))
theorem qsG_yes {N : Nat} {b w : Nat → Nat} {B : Nat} (h : Blk N [b, w] B) : qsG N b w B = t2 (ds_ (qM N [b, w] B) (qTo (qF N [b, w] B) b N) (qTo (qF N [b, w] B) w N)) (.b true) := @if_pos _ (Classical.propDecidable _) h _ _ _
theorem qsG_no {N : Nat} {b w : Nat → Nat} {B : Nat} (h : ¬ Blk N [b, w] B) : qsG N b w B = t2 ds0 (.b false) := @if_neg _ (Classical.propDecidable _) h _ _ _

set_option maxHeartbeats 8000000 in
theorem l03Quotient_fn (N : Nat) (b w : Nat → Nat) (hD : Des N b w) (hL : ∀ p ∈ [b, w], Np N p) (m : Nat) (gn : Nat → Nat) (hm0 : 0 < m) (hm : m ≤ 1048576) (hgn : ∀ t, t < m → gn t < N) : FnR Try.prog 49 [ds_ N b w, .sl 0 0 m 1] [.ro m 1 (nmF gn)] (qsG N b w (mskTo gn m)) := by
  have hN := hD.le
  have hb := hD.pb.lt
  have hw := hD.pw.lt
  have hlow : Low N (mskTo gn m) := fun x hx => by
    obtain ⟨t, ht, rfl⟩ := msk_bit.1 hx
    exact hgn t ht
  have hne : ∃ x, x < N ∧ (mskTo gn m).testBit x = true := ⟨gn 0, hgn 0 hm0, msk_bit.2 ⟨0, hm0, rfl⟩⟩
  have himg := l03Image_fn N b w hD hL m gn hm0 hm hgn
  generalize mskTo gn m = B at hlow hne himg ⊢
  generalize hR : qsG N b w B = R
  refine FnS.into T tok Try.func49 (by rfl) rfl rfl rfl (by simp) ?_
  refine WP.rs T false tok (by rfl) (by exact byObl) ?_
  refine WP.rs T false tok (by rfl) (by exact byObl) ?_
  refine WP.seq ?_
  refine WP.rs T false tok (by rfl) (by exact byObl) ?_
  refine WP.block ?_
  refine WP.loopH (⟨fun s : Nat × (Nat → Nat) × List Nat => s.1 ≤ N ∧ WQ N b w B s.1 s.2.1 s.2.2, fun s => [(1, .sl 0 0 m 1), (2, .p 1 [] 0), (4, .p 2 [] 0), (6, .p 3 [] 0), (7, .sl 4 0 s.2.2.length 1), (8, .i .i64 (s.1 : Int))], fun s => [.ro m 1 (nmF gn), .var (ds_ N b w), .var (ds_ 0 (fun _ => 0) (fun _ => 0)), .var (.ar 16 1 (nmF s.2.1)), .row 37 s.2.2.length 1 (setsZ N s.2.2)], fun s => N - s.1⟩) ((0, (fun _ => 0), [])) (⟨Nat.zero_le _, WQ.start N b w B⟩) (Ghost.cut (Nat.le_refl _) (tauOf [0, 1, 2, 4, 3]) _ _ (Taken.of [0, 1, 2, 4, 3] (LeAll.cons (by rfl) (by first | with_reducible exact Root.Le.refl _ | with_reducible exact le_dead | (first | exact le_row (Nat.le_refl _) (fun j hj => absurd hj (Nat.not_lt_zero _)) | exact le_var rfl) | exact byLeq) (by exact byCon) (LeAll.cons (by rfl) (by first | with_reducible exact Root.Le.refl _ | with_reducible exact le_dead | (first | exact le_row (Nat.le_refl _) (fun j hj => absurd hj (Nat.not_lt_zero _)) | exact le_var rfl) | exact byLeq) (by exact byCon) (LeAll.cons (by rfl) (by first | with_reducible exact Root.Le.refl _ | with_reducible exact le_dead | (first | exact le_row (Nat.le_refl _) (fun j hj => absurd hj (Nat.not_lt_zero _)) | exact le_var rfl) | exact byLeq) (by exact byCon) (LeAll.cons (by rfl) (by first | with_reducible exact Root.Le.refl _ | with_reducible exact le_dead | (first | exact le_row (Nat.le_refl _) (fun j hj => absurd hj (Nat.not_lt_zero _)) | exact le_var rfl) | exact byLeq) (by exact byCon) (LeAll.cons (by rfl) (by first | with_reducible exact Root.Le.refl _ | with_reducible exact le_dead | (first | exact le_row (Nat.le_refl _) (fun j hj => absurd hj (Nat.not_lt_zero _)) | exact le_var rfl) | exact byLeq) (by exact byCon) (trivial)))))) rfl rfl) (by exact bySlots)) ?_
  rintro ⟨x, wh, l⟩ ⟨hx, hI⟩
  simp only at hx hI
  dsimp only [Hd.at]
  have hlen := hI.len
  refine WP.seq ?_
  refine WP.rs T false tok (by rfl) (by exact byObl) ?_
  refine WP.cond (by rfl) (fun hc => WP.skip ?_) (fun hc => WP.exit ?_)
  · have hx : x < N := by have := of_decide_eq_true hc; omega
    clear hc
    refine WP.seq (WP.block ?_)
    refine WP.seq ?_
    refine WP.rs T false tok (by rfl) (by exact byObl) ?_
    refine WP.cond (by rfl) (fun h => ?_) (fun h => WP.skip ?_)
    · have h := of_decide_eq_true h
      have hwx : 0 < wh x := by have h : ((wh x : Nat) : Int) > 0 := h; omega
      refine WP.exit ?_
      refine WP.run T false tok (by rfl) (by exact byObl) ?_
      refine Again.next ((x + 1, wh, l)) (Ghost.cut (Nat.le_refl _) (tauOf [0, 1, 2, 3, 4]) _ _ (Taken.of [0, 1, 2, 3, 4] (LeAll.cons (by rfl) (by first | with_reducible exact Root.Le.refl _ | with_reducible exact le_dead | (skip; done) | exact byLeq) (by exact byCon) (LeAll.cons (by rfl) (by first | with_reducible exact Root.Le.refl _ | with_reducible exact le_dead | (skip; done) | exact byLeq) (by exact byCon) (LeAll.cons (by rfl) (by first | with_reducible exact Root.Le.refl _ | with_reducible exact le_dead | (skip; done) | exact byLeq) (by exact byCon) (LeAll.cons (by rfl) (by first | with_reducible exact Root.Le.refl _ | with_reducible exact le_dead | (skip; done) | exact byLeq) (by exact byCon) (LeAll.cons (by rfl) (by first | with_reducible exact Root.Le.refl _ | with_reducible exact le_dead | (skip; done) | exact byLeq) (by exact byCon) (trivial)))))) rfl rfl) (by exact bySlots)) (⟨hx, hI.old hwx⟩) (by dsimp only; omega)
    have h := of_decide_eq_false h
    have hwx : ¬ 0 < wh x := by have h : ¬ ((wh x : Nat) : Int) > 0 := h; omega
    clear h
    refine WP.rw ?_
    refine WPL.run T false 3 tok (by rfl) (by exact byObl) ?_
    refine WPL.callE [0] (himg x hx) (LeAll.cons (by rfl) (by first | with_reducible exact Root.Le.refl _ | with_reducible exact le_dead | (skip; done) | exact byLeq) (by exact byCon) (trivial)) (by rfl) (by rfl) (by exact byArgs) (by rfl) (by rfl) (by simp [Sc, sc_pl, sc_ds]) ?_
    rintro _ _ ⟨S, rfl, rfl, hO, hxS⟩
    refine ⟨by exact byAllc, .sl 5 0 (bitsL S N).length 1, rfl, sc_sl rfl, ?_⟩
    refine WPL.mem (by rfl) ?_
    refine WPL.fin T false tok (by rfl) (by exact byObl) ?_
    have hSlow := hO.low hL
    have hol := bits_len S N
    have hmem : ∀ y, y ∈ bitsL S N ↔ S.testBit y = true := fun y => ⟨fun h => (bits_mem.1 h).2, fun h => bits_mem.2 ⟨hSlow y h, h⟩⟩
    have hap := ap_setsZ N l S
    have hnd : (bitsL S N).Nodup := List.nodup_range.filter _
    have hfull : whS (bitsL S N) l.length (bitsL S N).length wh = fun y => if S.testBit y = true then l.length + 1 else wh y := by
      funext y
      unfold whS
      rw [List.take_length]
      by_cases h : S.testBit y = true
      · rw [if_pos ((hmem y).2 h), if_pos h]
      · rw [if_neg fun h2 => h ((hmem y).1 h2), if_neg h]
    have hltN : ∀ y, y ∈ bitsL S N → y < N := fun y hy => (bits_mem.1 hy).1
    generalize bitsL S N = own at hol hmem hap hnd hfull hltN ⊢
    refine WP.rs T false tok (by rfl) (by exact byObl) ?_
    refine WP.ghost (Ghost.foldLast 7 5 (by rfl) rfl (by rfl) (by rfl) (Nat.le_refl _) (by exact fun _ _ => trivial)) ?_
    refine WP.rs T false tok (by rfl) (by exact byObl) ?_
    refine WP.block ?_
    refine WP.loopH (⟨fun i : Nat => i ≤ own.length ∧ ∀ j, j < i → wh (own.getD j 0) = 0, fun i => [(1, .sl 0 0 m 1), (2, .p 1 [] 0), (4, .p 2 [] 0), (6, .p 3 [] 0), (7, .sl 4 0 (l.length + 1) 1), (8, .i .i64 (x : Int)), (9, .sl 5 0 own.length 1), (10, .i .i64 (i : Int))], fun i => [.ro m 1 (nmF gn), .var (ds_ N b w), .var (ds_ 0 (fun _ => 0) (fun _ => 0)), .var (.ar 16 1 (nmF (whS own l.length i wh))), .row 37 (l.length + 1) 1 (setsZ N (l ++ [S])), .ro own.length 1 (numsF own)], fun i => own.length - i⟩) (0) (⟨Nat.zero_le _, fun j hj => absurd hj (Nat.not_lt_zero _)⟩) (Ghost.cut (Nat.le_refl _) (tauOf [0, 1, 2, 3, 7, 5]) _ _ (Taken.of [0, 1, 2, 3, 7, 5] (LeAll.cons (by rfl) (by first | with_reducible exact Root.Le.refl _ | with_reducible exact le_dead | (first | exact le_row (Nat.le_refl _) (fun j hj => hap _ j hj) | exact le_var (by rw [whS_zero])) | exact byLeq) (by exact byCon) (LeAll.cons (by rfl) (by first | with_reducible exact Root.Le.refl _ | with_reducible exact le_dead | (first | exact le_row (Nat.le_refl _) (fun j hj => hap _ j hj) | exact le_var (by rw [whS_zero])) | exact byLeq) (by exact byCon) (LeAll.cons (by rfl) (by first | with_reducible exact Root.Le.refl _ | with_reducible exact le_dead | (first | exact le_row (Nat.le_refl _) (fun j hj => hap _ j hj) | exact le_var (by rw [whS_zero])) | exact byLeq) (by exact byCon) (LeAll.cons (by rfl) (by first | with_reducible exact Root.Le.refl _ | with_reducible exact le_dead | (first | exact le_row (Nat.le_refl _) (fun j hj => hap _ j hj) | exact le_var (by rw [whS_zero])) | exact byLeq) (by exact byCon) (LeAll.cons (by rfl) (by first | with_reducible exact Root.Le.refl _ | with_reducible exact le_dead | (first | exact le_row (Nat.le_refl _) (fun j hj => hap _ j hj) | exact le_var (by rw [whS_zero])) | exact byLeq) (by exact byCon) (LeAll.cons (by rfl) (by first | with_reducible exact Root.Le.refl _ | with_reducible exact le_dead | (first | exact le_row (Nat.le_refl _) (fun j hj => hap _ j hj) | exact le_var (by rw [whS_zero])) | exact byLeq) (by exact byCon) (trivial))))))) rfl rfl) (by exact bySlots)) ?_
    rintro i ⟨hi, hz⟩
    dsimp only [Hd.at]
    refine WP.seq ?_
    refine WP.rs T false tok (by rfl) (by exact byObl) ?_
    refine WP.cond (by rfl) (fun hc => WP.skip ?_) (fun hc => WP.exit ?_)
    · have hi : i < own.length := by have := of_decide_eq_true hc; omega
      clear hc
      have ei : addrAt 0 ((i : Nat) : Int).toNat = i := by simp [addrAt0]
      have hym := getD_mem hi
      have hy16 : own.getD i 0 < 16 := by have := hltN _ hym; omega
      have hy16' : own.getD (addrAt 0 ((i : Nat) : Int).toNat) 0 < 16 := by rw [ei]; exact hy16
      have hst := whS_step (n := l.length) (wh := wh) hi
      have hnot : own.getD i 0 ∉ own.take i := fun hc => by
        obtain ⟨t, ht, e⟩ := mem_getD hc
        have ht' : t < i := by rw [List.length_take] at ht; omega
        have e2 : (own.take i).getD t 0 = own.getD t 0 := by simp [List.getD_eq_getElem?_getD, List.getElem?_take, ht']
        rw [e2] at e
        exact absurd (nodup_getD hnd (by omega) hi e) (by omega)
      have hwy : whS own l.length i wh (own.getD i 0) = wh (own.getD i 0) := by unfold whS; rw [if_neg hnot]
      refine WP.seq (WP.block ?_)
      refine WP.seq ?_
      refine WP.rs T false tok (by rfl) (by exact byObl) ?_
      rw [ei]
      refine WP.cond (by rfl) (fun h => ?_) (fun h => WP.skip ?_)
      · have h := of_decide_eq_true h
        have h : ((whS own l.length i wh (own.getD i 0) : Nat) : Int) > 0 := h
        rw [hwy] at h
        rw [qsG_no (hI.not hwx hO hxS ((hmem _).1 hym) (by omega))] at hR
        refine WP.rs T false tok (by rfl) (by exact byObl) ?_
        rw [← hR]
        exact WP.ret (Ends.val (by rfl) (by exact byObl) (by rfl) (by exact sc_t2 (sc_ds _ _ _ _) trivial))
      · have h := of_decide_eq_false h
        have h : ¬ ((whS own l.length i wh (own.getD i 0) : Nat) : Int) > 0 := h
        rw [hwy] at h
        refine WP.run T false tok (by rfl) (by exact byObl) ?_
        rw [ei]
        refine WP.run T false tok (by rfl) (by exact byObl) ?_
        refine Again.next (i + 1) (Ghost.cut (Nat.le_refl _) (tauOf [0, 1, 2, 3, 4, 5]) _ _ (Taken.of [0, 1, 2, 3, 4, 5] (LeAll.cons (by rfl) (by first | with_reducible exact Root.Le.refl _ | with_reducible exact le_dead | (exact le_var (by rw [hst, nm_up]; rfl)) | exact byLeq) (by exact byCon) (LeAll.cons (by rfl) (by first | with_reducible exact Root.Le.refl _ | with_reducible exact le_dead | (exact le_var (by rw [hst, nm_up]; rfl)) | exact byLeq) (by exact byCon) (LeAll.cons (by rfl) (by first | with_reducible exact Root.Le.refl _ | with_reducible exact le_dead | (exact le_var (by rw [hst, nm_up]; rfl)) | exact byLeq) (by exact byCon) (LeAll.cons (by rfl) (by first | with_reducible exact Root.Le.refl _ | with_reducible exact le_dead | (exact le_var (by rw [hst, nm_up]; rfl)) | exact byLeq) (by exact byCon) (LeAll.cons (by rfl) (by first | with_reducible exact Root.Le.refl _ | with_reducible exact le_dead | (exact le_var (by rw [hst, nm_up]; rfl)) | exact byLeq) (by exact byCon) (LeAll.cons (by rfl) (by first | with_reducible exact Root.Le.refl _ | with_reducible exact le_dead | (exact le_var (by rw [hst, nm_up]; rfl)) | exact byLeq) (by exact byCon) (trivial))))))) rfl rfl) (by exact bySlots)) (⟨hi, fun j hj => by
          by_cases e : j = i
          · subst e; omega
          · exact hz j (by omega)⟩) (by dsimp only; omega)
    · have hi : i = own.length := by have := of_decide_eq_false hc; omega
      subst hi
      rw [hfull]
      have hI2 := hI.new hwx hO hxS fun y hy => by
        obtain ⟨j, hj, rfl⟩ := mem_getD ((hmem y).2 hy)
        exact hz j hj
      refine WP.run T false tok (by rfl) (by exact byObl) ?_
      refine Again.next ((x + 1, (fun y => if S.testBit y = true then l.length + 1 else wh y), l ++ [S])) (Ghost.cut (Nat.le_refl _) (tauOf [0, 1, 2, 3, 4]) _ _ (Taken.of [0, 1, 2, 3, 4] (LeAll.cons (by rfl) (by first | with_reducible exact Root.Le.refl _ | with_reducible exact le_dead | (exact le_row (by simp) (fun j hj => rfl)) | exact byLeq) (by exact byCon) (LeAll.cons (by rfl) (by first | with_reducible exact Root.Le.refl _ | with_reducible exact le_dead | (exact le_row (by simp) (fun j hj => rfl)) | exact byLeq) (by exact byCon) (LeAll.cons (by rfl) (by first | with_reducible exact Root.Le.refl _ | with_reducible exact le_dead | (exact le_row (by simp) (fun j hj => rfl)) | exact byLeq) (by exact byCon) (LeAll.cons (by rfl) (by first | with_reducible exact Root.Le.refl _ | with_reducible exact le_dead | (exact le_row (by simp) (fun j hj => rfl)) | exact byLeq) (by exact byCon) (LeAll.cons (by rfl) (by first | with_reducible exact Root.Le.refl _ | with_reducible exact le_dead | (exact le_row (by simp) (fun j hj => rfl)) | exact byLeq) (by exact byCon) (trivial)))))) rfl rfl) (by exact bySlots)) (⟨hx, hI2⟩) (by dsimp only; omega)
  · have hx : x = N := by have := of_decide_eq_false hc; omega
    subst hx
    have hhd : ∀ j, j < l.length → 0 < (bitsL (l.getD j 0) x).length ∧ hdF x l j < x ∧ (l.getD j 0).testBit (hdF x l j) = true := fun j hj => hI.head hL hne hj
    have hle1 : ∀ y, wh y ≤ 16 := fun y => by
      cases e : wh y with
      | zero => omega
      | succ j => have := ((hI.idx y j).1 e).1; omega
    refine WP.rs T false tok (by rfl) (by exact byObl) ?_
    refine WP.seq ?_
    refine WP.rs T false tok (by rfl) (by exact byObl) ?_
    refine WP.block ?_
    refine WP.loopH (⟨fun k : Nat => k ≤ l.length ∧ ∀ j, j < k → ∀ y, (l.getD j 0).testBit y = true → wh (b y) = wh (b (hdF x l j)) ∧ wh (w y) = wh (w (hdF x l j)), fun k => [(2, .p 1 [] 0), (4, .p 2 [] 0), (6, .p 3 [] 0), (7, .sl 4 0 l.length 1), (11, .p 5 [] 0), (12, .i .i64 (k : Int))], fun k => [.ro m 1 (nmF gn), .var (ds_ x b w), .var (ds_ 0 (fun _ => 0) (fun _ => 0)), .var (.ar 16 1 (nmF wh)), .ro l.length 1 (setsZ x l), .var (ds_ l.length (fillF (tBF x wh b l) k) (fillF (tBF x wh w l) k))], fun k => l.length - k⟩) (0) (⟨Nat.zero_le _, fun j hj => absurd hj (Nat.not_lt_zero _)⟩) (Ghost.cut (Nat.le_refl _) (tauOf [0, 1, 2, 3, 4, 5]) _ _ (Taken.of [0, 1, 2, 3, 4, 5] (LeAll.cons (by rfl) (by first | with_reducible exact Root.Le.refl _ | with_reducible exact le_dead | (first | exact le_var (by rw [fill_zero, fill_zero]; exact (dsf_of rfl rfl rfl fun _ => rfl).symm)) | exact byLeq) (by exact byCon) (LeAll.cons (by rfl) (by first | with_reducible exact Root.Le.refl _ | with_reducible exact le_dead | (first | exact le_var (by rw [fill_zero, fill_zero]; exact (dsf_of rfl rfl rfl fun _ => rfl).symm)) | exact byLeq) (by exact byCon) (LeAll.cons (by rfl) (by first | with_reducible exact Root.Le.refl _ | with_reducible exact le_dead | (first | exact le_var (by rw [fill_zero, fill_zero]; exact (dsf_of rfl rfl rfl fun _ => rfl).symm)) | exact byLeq) (by exact byCon) (LeAll.cons (by rfl) (by first | with_reducible exact Root.Le.refl _ | with_reducible exact le_dead | (first | exact le_var (by rw [fill_zero, fill_zero]; exact (dsf_of rfl rfl rfl fun _ => rfl).symm)) | exact byLeq) (by exact byCon) (LeAll.cons (by rfl) (by first | with_reducible exact Root.Le.refl _ | with_reducible exact le_dead | (first | exact le_var (by rw [fill_zero, fill_zero]; exact (dsf_of rfl rfl rfl fun _ => rfl).symm)) | exact byLeq) (by exact byCon) (LeAll.cons (by rfl) (by first | with_reducible exact Root.Le.refl _ | with_reducible exact le_dead | (first | exact le_var (by rw [fill_zero, fill_zero]; exact (dsf_of rfl rfl rfl fun _ => rfl).symm)) | exact byLeq) (by exact byCon) (trivial))))))) rfl rfl) (by exact bySlots)) ?_
    rintro k ⟨hk, hcon⟩
    dsimp only [Hd.at]
    refine WP.seq ?_
    refine WP.rs T false tok (by rfl) (by exact byObl) ?_
    refine WP.cond (by rfl) (fun hc => WP.skip ?_) (fun hc => WP.exit ?_)
    · have hk : k < l.length := by have := of_decide_eq_true hc; omega
      clear hc
      have ek : addrAt 0 ((k : Nat) : Int).toNat = k := by simp [addrAt0]
      obtain ⟨hh0, hh1, hh2⟩ := hhd k hk
      have hbh := hb _ hh1
      have hwh := hw _ hh1
      have hh1' : (bitsL (l.getD k 0) x).getD 0 0 < 16 := show hdF x l k < 16 by omega
      have hbh' : b ((bitsL (l.getD k 0) x).getD 0 0) < 16 := show b (hdF x l k) < 16 by omega
      have hwh' : w ((bitsL (l.getD k 0) x).getD 0 0) < 16 := show w (hdF x l k) < 16 by omega
      refine WP.seq (WP.block ?_)
      refine WP.seq ?_
      refine WP.da (by kernel_rfl) 24 (by kernel_rfl) ?_
      refine WA.takes T false tok [0, 1, 2, 3, 4, 5, 6, 7, 8, 9, 10] (f' := 13) (by kernel_rfl) (by rfl) (by rfl) (by rfl) (by (try simp only [Int.toNat_zero]); exact byObl) (by rfl) (by rfl) ?_
      refine WA.takes T false tok [11, 12, 13, 14, 15, 16, 17, 18, 19, 20, 21] (f' := 2) (by kernel_rfl) (by rfl) (by rfl) (by rfl) (by (try simp only [Int.toNat_zero]); exact byObl) (by rfl) (by rfl) ?_
      refine WA.takes T false tok [22, 23] (f' := 0) (by kernel_rfl) (by rfl) (by rfl) (by rfl) (by exact byObl) (by rfl) (by rfl) ?_
      refine WA.tail (by rfl) (by rfl) (by kernel_rfl) ?_
      refine WPL.nil (noPan ?_)
      have cb := hI.cov _ hbh
      have cw := hI.cov _ hwh
      refine WP.ghost (Ghost.cut (Nat.le_refl _) (tauOf [0, 1, 2, 3, 4, 5]) [(2, .p 1 [] 0), (4, .p 2 [] 0), (6, .p 3 [] 0), (7, .sl 4 0 l.length 1), (11, .p 5 [] 0), (12, .i .i64 (k : Int)), (13, .i .i64 ((wh (b (hdF x l k)) : Nat) : Int)), (14, .i .i64 ((wh (w (hdF x l k)) : Nat) : Int))] [.ro m 1 (nmF gn), .var (ds_ x b w), .var (ds_ 0 (fun _ => 0) (fun _ => 0)), .var (.ar 16 1 (nmF wh)), .ro l.length 1 (setsZ x l), .var (ds_ l.length (fillF (tBF x wh b l) k) (fillF (tBF x wh w l) k))] (Taken.of [0, 1, 2, 3, 4, 5] (LeAll.cons (by rfl) (by first | with_reducible exact Root.Le.refl _ | with_reducible exact le_dead | (skip; done) | exact byLeq) (by exact byCon) (LeAll.cons (by rfl) (by first | with_reducible exact Root.Le.refl _ | with_reducible exact le_dead | (skip; done) | exact byLeq) (by exact byCon) (LeAll.cons (by rfl) (by first | with_reducible exact Root.Le.refl _ | with_reducible exact le_dead | (skip; done) | exact byLeq) (by exact byCon) (LeAll.cons (by rfl) (by first | with_reducible exact Root.Le.refl _ | with_reducible exact le_dead | (skip; done) | exact byLeq) (by exact byCon) (LeAll.cons (by rfl) (by first | with_reducible exact Root.Le.refl _ | with_reducible exact le_dead | (skip; done) | exact byLeq) (by exact byCon) (LeAll.cons (by rfl) (by first | with_reducible exact Root.Le.refl _ | with_reducible exact le_dead | (skip; done) | exact byLeq) (by exact byCon) (trivial))))))) rfl rfl) (by exact bySlots)) ?_
      have eb : wh (b (hdF x l k)) = tBF x wh b l k + 1 := by unfold tBF; omega
      have ew : wh (w (hdF x l k)) = tBF x wh w l k + 1 := by unfold tBF; omega
      have hb1 : tBF x wh b l k < 16 := by have := hle1 (b (hdF x l k)); omega
      have hw1 : tBF x wh w l k < 16 := by have := hle1 (w (hdF x l k)); omega
      refine WP.seq ?_
      refine WP.rs T false tok (by rfl) (by exact byObl) ?_
      refine WP.block ?_
      refine WP.loopH (⟨fun i : Nat => i ≤ (bitsL (l.getD k 0) x).length ∧ ∀ j, j < i → wh (b ((bitsL (l.getD k 0) x).getD j 0)) = wh (b (hdF x l k)) ∧ wh (w ((bitsL (l.getD k 0) x).getD j 0)) = wh (w (hdF x l k)), fun i => [(2, .p 1 [] 0), (4, .p 2 [] 0), (6, .p 3 [] 0), (7, .sl 4 0 l.length 1), (11, .p 5 [] 0), (12, .i .i64 (k : Int)), (13, .i .i64 ((wh (b (hdF x l k)) : Nat) : Int)), (14, .i .i64 ((wh (w (hdF x l k)) : Nat) : Int)), (15, .i .i64 (i : Int))], fun i => [.ro m 1 (nmF gn), .var (ds_ x b w), .var (ds_ 0 (fun _ => 0) (fun _ => 0)), .var (.ar 16 1 (nmF wh)), .ro l.length 1 (setsZ x l), .var (ds_ l.length (fillF (tBF x wh b l) k) (fillF (tBF x wh w l) k))], fun i => (bitsL (l.getD k 0) x).length - i⟩) (0) (⟨Nat.zero_le _, fun j hj => absurd hj (Nat.not_lt_zero _)⟩) (Ghost.cut (Nat.le_refl _) (tauOf [0, 1, 2, 3, 4, 5]) _ _ (Taken.of [0, 1, 2, 3, 4, 5] (LeAll.cons (by rfl) (by first | with_reducible exact Root.Le.refl _ | with_reducible exact le_dead | (skip; done) | exact byLeq) (by exact byCon) (LeAll.cons (by rfl) (by first | with_reducible exact Root.Le.refl _ | with_reducible exact le_dead | (skip; done) | exact byLeq) (by exact byCon) (LeAll.cons (by rfl) (by first | with_reducible exact Root.Le.refl _ | with_reducible exact le_dead | (skip; done) | exact byLeq) (by exact byCon) (LeAll.cons (by rfl) (by first | with_reducible exact Root.Le.refl _ | with_reducible exact le_dead | (skip; done) | exact byLeq) (by exact byCon) (LeAll.cons (by rfl) (by first | with_reducible exact Root.Le.refl _ | with_reducible exact le_dead | (skip; done) | exact byLeq) (by exact byCon) (LeAll.cons (by rfl) (by first | with_reducible exact Root.Le.refl _ | with_reducible exact le_dead | (skip; done) | exact byLeq) (by exact byCon) (trivial))))))) rfl rfl) (by exact bySlots)) ?_
      rintro i ⟨hi, hal⟩
      dsimp only [Hd.at]
      have hol := bits_len (l.getD k 0) x
      refine WP.seq ?_
      refine WP.rs T false tok (by rfl) (by exact byObl) ?_
      refine WP.cond (by rfl) (fun hc => WP.skip ?_) (fun hc => WP.exit ?_)
      · have hi : i < (bitsL (l.getD k 0) x).length := by have := of_decide_eq_true hc; simp only [addrAt0, Int.toNat_natCast] at this; omega
        clear hc
        have hy := bits_mem.1 (getD_mem hi)
        have hyb := hb _ hy.1
        have hyw := hw _ hy.1
        have hi0 : ((i : Nat) : Int).toNat < (bitsL (l.getD ((k : Nat) : Int).toNat 0) x).length := hi
        refine WP.seq (WP.block ?_)
        refine WP.seq ?_
        refine WP.region ?_
        refine WPL.run T false 15 tok (by rfl) (by exact byObl) ?_
        have ei : addrAt 0 ((i : Nat) : Int).toNat = i := by simp [addrAt0]
        rw [ek, ei, Int.toNat_natCast ((bitsL (l.getD k 0) x).getD i 0), Int.toNat_natCast (b ((bitsL (l.getD k 0) x).getD i 0))]
        cases h1 : decide (((wh (b ((bitsL (l.getD k 0) x).getD i 0)) : Nat) : Int) = ((wh (b (hdF x l k)) : Nat) : Int))
        case false =>
          have h1 := of_decide_eq_false h1
          rw [qsG_no (hI.bad hL hne (.head _) hk hy.2 (by omega))] at hR
          refine WPL.fin T false tok (by rfl) (by exact byObl) ?_
          refine WP.cond (by rfl) (fun h => ?_) (fun h => WP.skip ?_)
          · refine WP.rs T false tok (by rfl) (by exact byObl) ?_
            rw [← hR]
            exact WP.ret (Ends.val (by rfl) (by exact byObl) (by rfl) (by exact sc_t2 (sc_ds _ _ _ _) trivial))
          · cases h
        case true =>
          have h1 := of_decide_eq_true h1
          refine WPL.fin T false tok (by rfl) (by exact byObl) ?_
          refine WP.cond (by rfl) (fun h => ?_) (fun h => WP.skip ?_)
          · have h : (!decide (((wh (w ((bitsL (l.getD k 0) x).getD i 0)) : Nat) : Int) = ((wh (w (hdF x l k)) : Nat) : Int))) = true := h
            have h2 : ¬ ((wh (w ((bitsL (l.getD k 0) x).getD i 0)) : Nat) : Int) = ((wh (w (hdF x l k)) : Nat) : Int) := by simpa using h
            rw [qsG_no (hI.bad hL hne (.tail _ (.head _)) hk hy.2 (by omega))] at hR
            refine WP.rs T false tok (by rfl) (by exact byObl) ?_
            rw [← hR]
            exact WP.ret (Ends.val (by rfl) (by exact byObl) (by rfl) (by exact sc_t2 (sc_ds _ _ _ _) trivial))
          · have h : (!decide (((wh (w ((bitsL (l.getD k 0) x).getD i 0)) : Nat) : Int) = ((wh (w (hdF x l k)) : Nat) : Int))) = false := h
            have h2 : ((wh (w ((bitsL (l.getD k 0) x).getD i 0)) : Nat) : Int) = ((wh (w (hdF x l k)) : Nat) : Int) := by simpa using h
            refine WP.run T false tok (by rfl) (by exact byObl) ?_
            refine Again.next (i + 1) (Ghost.cut (Nat.le_refl _) (tauOf [0, 1, 2, 3, 4, 5]) _ _ (Taken.of [0, 1, 2, 3, 4, 5] (LeAll.cons (by rfl) (by first | with_reducible exact Root.Le.refl _ | with_reducible exact le_dead | (skip; done) | exact byLeq) (by exact byCon) (LeAll.cons (by rfl) (by first | with_reducible exact Root.Le.refl _ | with_reducible exact le_dead | (skip; done) | exact byLeq) (by exact byCon) (LeAll.cons (by rfl) (by first | with_reducible exact Root.Le.refl _ | with_reducible exact le_dead | (skip; done) | exact byLeq) (by exact byCon) (LeAll.cons (by rfl) (by first | with_reducible exact Root.Le.refl _ | with_reducible exact le_dead | (skip; done) | exact byLeq) (by exact byCon) (LeAll.cons (by rfl) (by first | with_reducible exact Root.Le.refl _ | with_reducible exact le_dead | (skip; done) | exact byLeq) (by exact byCon) (LeAll.cons (by rfl) (by first | with_reducible exact Root.Le.refl _ | with_reducible exact le_dead | (skip; done) | exact byLeq) (by exact byCon) (trivial))))))) rfl rfl) (by exact bySlots)) (⟨hi, fun j hj => by
              by_cases e : j = i
              · subst e; omega
              · exact hal j (by omega)⟩) (by dsimp only; omega)
      · have hi : i = (bitsL (l.getD k 0) x).length := by have := of_decide_eq_false hc; simp only [addrAt0, Int.toNat_natCast] at this; omega
        subst hi
        have hcon2 : ∀ y, (l.getD k 0).testBit y = true → wh (b y) = wh (b (hdF x l k)) ∧ wh (w y) = wh (w (hdF x l k)) := fun y hy => by
          obtain ⟨j, hj, rfl⟩ := mem_getD (bits_mem.2 ⟨(hI.orb _ (getD_mem hk)).low hL y hy, hy⟩)
          exact hal j hj
        rw [eb, ew]
        refine WP.rs T false tok (by rfl) (by exact byObl) ?_
        rw [show ((tBF x wh b l k + 1 : Nat) : Int) - 1 = ((tBF x wh b l k : Nat) : Int) by omega]
        refine WP.run T false tok (by rfl) (by exact byObl) ?_
        rw [show ((tBF x wh w l k + 1 : Nat) : Int) - 1 = ((tBF x wh w l k : Nat) : Int) by omega]
        refine WP.run T false tok (by rfl) (by exact byObl) ?_
        refine Again.next (k + 1) (Ghost.cut (Nat.le_refl _) (tauOf [0, 1, 2, 3, 4, 5]) _ _ (Taken.of [0, 1, 2, 3, 4, 5] (LeAll.cons (by rfl) (by first | with_reducible exact Root.Le.refl _ | with_reducible exact le_dead | (exact le_var (by rw [← fill_step, ← fill_step]; exact byVareq)) | exact byLeq) (by exact byCon) (LeAll.cons (by rfl) (by first | with_reducible exact Root.Le.refl _ | with_reducible exact le_dead | (exact le_var (by rw [← fill_step, ← fill_step]; exact byVareq)) | exact byLeq) (by exact byCon) (LeAll.cons (by rfl) (by first | with_reducible exact Root.Le.refl _ | with_reducible exact le_dead | (exact le_var (by rw [← fill_step, ← fill_step]; exact byVareq)) | exact byLeq) (by exact byCon) (LeAll.cons (by rfl) (by first | with_reducible exact Root.Le.refl _ | with_reducible exact le_dead | (exact le_var (by rw [← fill_step, ← fill_step]; exact byVareq)) | exact byLeq) (by exact byCon) (LeAll.cons (by rfl) (by first | with_reducible exact Root.Le.refl _ | with_reducible exact le_dead | (exact le_var (by rw [← fill_step, ← fill_step]; exact byVareq)) | exact byLeq) (by exact byCon) (LeAll.cons (by rfl) (by first | with_reducible exact Root.Le.refl _ | with_reducible exact le_dead | (exact le_var (by rw [← fill_step, ← fill_step]; exact byVareq)) | exact byLeq) (by exact byCon) (trivial))))))) rfl rfl) (by exact bySlots)) (⟨hk, fun j hj => by
          by_cases e : j = k
          · subst e; exact hcon2
          · exact hcon j (by omega)⟩) (by dsimp only; omega)
    · have hk : k = l.length := by have := of_decide_eq_false hc; omega
      subst hk
      obtain ⟨hblk, e1, e2, e3⟩ := hI.done hN hL hlow hne hcon
      rw [qsG_yes hblk] at hR
      rw [e2, e3, e1]
      refine WP.rs T false tok (by rfl) (by exact byObl) ?_
      rw [← hR]
      exact WP.ret (Ends.val (by rfl) (by exact byObl) (by rfl) (by exact sc_t2 (sc_ds _ _ _ _) trivial))
end Go.Proofs.Ytokhjhkicledmaa
