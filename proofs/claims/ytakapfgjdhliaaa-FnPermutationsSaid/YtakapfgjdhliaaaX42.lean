import Derived.Test.YtakapfgjdhliaaaShelf
import Derived.Test.YtakapfgjdhliaaaL3
import Derived.Test.YtakapfgjdhliaaaD22
import Derived.Sort.OwnSortedInts
import Derived.Test.YtakapfgjdhliaaaL12
import Derived.Test.YtakapfgjdhliaaaL9
import Derived.Test.YtakapfgjdhliaaaX10
/- The library's slices.Sort, slices.Reverse and slices.Contains at []int64, on plain data. -/
namespace Go.Proofs.Ytakapfgjdhliaaa
open Go.RowKit DM Go.Sort
set_option linter.unusedSimpArgs false
set_option linter.unusedVariables false
set_option maxRecDepth 100000
set_option maxHeartbeats 1000000

def zI (zs : List Int) (j : Nat) : Int := zs.getD j 0
def srt (zs : List Int) : List Int := zs.mergeSort fun x y => decide (x ≤ y)

theorem map_zI (zs : List Int) : (List.range zs.length).map (fun j => Value.int .i64 (zI zs j)) = zs.map (Value.int .i64) := by
  apply List.ext_getElem (by simp)
  intro i h1 h2
  simp at h1
  simp [zI, List.getD_eq_getElem?_getD, List.getElem?_eq_getElem h1]

theorem srt_len (zs : List Int) : (srt zs).length = zs.length := (List.mergeSort_perm _ _).length_eq

theorem slicesSort_fn (zs : List Int) (hl : zs.length ≤ 65536) : FnS Try.prog 90 [.sl 0 0 zs.length 1] [.row 2 zs.length 1 (intD (zI zs))] (fun r m' => r = .tup 0 (fun _ => .un) ∧ m' = [.row 2 zs.length 1 (intD (zI (srt zs)))]) := by
  refine FnS.turner (callFunc_run Try.func90 rfl rfl) fun w b cap cur hb hcap hmax hsz htk => ?_
  rw [map_zI] at htk
  have hlt : b < w.heap.size := (Array.getElem?_eq_some_iff.1 hb).1
  have hcall := AnyG.slices_Sort_int Try.lays53 b 0 cap zs w (holds_of_blockI hb htk) hlt (by omega)
  change Calls Try.prog 90 _ _ _ at hcall
  refine hcall.mono ?_
  rintro e' w' ⟨rfl, n, os, rfl⟩
  have e := srt_len zs
  have h2 := take_putCellsI cur (srt zs) (by omega)
  have h3 := map_zI (srt zs)
  rw [e] at h2 h3
  exact ⟨rfl, grownBy_sortedI _, Nat.le_add_right _ _, _, heap_sortedI _ hb, by simp [Sort.putCells], by rw [h3]; exact h2⟩

theorem slicesReverse_fn (zs : List Int) (hl : zs.length ≤ 65536) : FnS Try.prog 91 [.sl 0 0 zs.length 1] [.row 2 zs.length 1 (intD (zI zs))] (fun r m' => r = .tup 0 (fun _ => .un) ∧ m' = [.row 2 zs.length 1 (intD (zI zs.reverse))]) := by
  refine FnS.turner (callFunc_run Try.func91 rfl rfl) fun w b cap cur hb hcap hmax hsz htk => ?_
  rw [map_zI] at htk
  have hlt : b < w.heap.size := (Array.getElem?_eq_some_iff.1 hb).1
  have hcall := AnyG.slices_Reverse_int Try.lays35 b 0 cap zs w (holds_of_blockI hb htk) (by omega)
  change Calls Try.prog 91 _ _ _ at hcall
  refine hcall.mono ?_
  rintro e' w' ⟨rfl, n, rfl⟩
  have h2 := take_putCellsI cur zs.reverse (by simp; omega)
  have h3 := map_zI zs.reverse
  rw [List.length_reverse] at h2 h3
  have h4 := heap_sortedI (n := n) (os := #[]) zs.reverse.toArray hb
  have h5 := grownBy_sortedI (w := w) (g := b) (n := n) (os := #[]) zs.reverse.toArray
  rw [Sort.grow_empty] at h4 h5
  exact ⟨rfl, h5, Nat.le_add_right _ _, _, h4, by simp [Sort.putCells], by rw [h3]; exact h2⟩

end Go.Proofs.Ytakapfgjdhliaaa

/- Types of permutations: both sides. -/
namespace Go.Proofs.Ytakapfgjdhliaaa
open Go.RowKit DM
set_option linter.unusedSimpArgs false
set_option linter.unusedVariables false
set_option maxRecDepth 100000
set_option maxHeartbeats 1000000

theorem numsF_int (l : List Nat) : intD (zI (l.map fun x : Nat => (x : Int))) = numsF l := by
  funext j
  unfold intD zI numsF
  congr 1
  simp only [List.getD_eq_getElem?_getD, List.getElem?_map]
  cases l[j]? <;> rfl

theorem srt_nat (l : List Nat) : srt (l.map fun x : Nat => (x : Int)) = (srtN l).map fun x : Nat => (x : Int) := by
  unfold srt srtN
  rw [List.map_mergeSort (s := fun x y : Int => decide (x ≤ y))]
  intro a _ b _
  simp

theorem sortN_fn (l : List Nat) (hl : l.length ≤ 65536) : FnS Try.prog 90 [.sl 0 0 l.length 1] [.row 2 l.length 1 (numsF l)] (fun r m' => r = .tup 0 (fun _ => .un) ∧ m' = [.row 2 l.length 1 (numsF (srtN l))]) := by
  have h := slicesSort_fn (l.map fun x : Nat => (x : Int)) (by simpa using hl)
  rw [numsF_int, srt_nat, numsF_int, List.length_map] at h
  exact h

theorem reverseN_fn (l : List Nat) (hl : l.length ≤ 65536) : FnS Try.prog 91 [.sl 0 0 l.length 1] [.row 2 l.length 1 (numsF l)] (fun r m' => r = .tup 0 (fun _ => .un) ∧ m' = [.row 2 l.length 1 (numsF l.reverse)]) := by
  have h := slicesReverse_fn (l.map fun x : Nat => (x : Int)) (by simpa using hl)
  rw [numsF_int, ← List.map_reverse, numsF_int, List.length_map] at h
  exact h

theorem descending_fn (l : List Nat) (hl : l.length ≤ 65536) : FnS Try.prog 76 [.sl 0 0 l.length 1] [.row 2 l.length 1 (numsF l)] (fun r m' => r = .sl 0 0 l.length 1 ∧ m' = [.row 2 l.length 1 (numsF (srtN l).reverse)]) := by
  have h1 := sortN_fn l hl
  have h2 := reverseN_fn (srtN l) (by rw [srtN_len]; exact hl)
  rw [srtN_len] at h2
  generalize (srtN l).reverse = l2 at *
  generalize srtN l = l1 at *
  generalize l.length = n at *
  refine FnS.intoN T tok Try.func76 (by rfl) rfl rfl rfl (by simp) ?_
  refine WP.rs T false tok (by rfl) (by exact byObl) ?_
  refine WP.rw ?_
  refine WPL.run T false 1 tok (by rfl) (by exact byObl) ?_
  refine WPL.callN [0] (.tup 0 (fun _ => .un)) (h1) (LeAll.cons (by rfl) (by first | with_reducible exact Root.Le.refl _ | with_reducible exact le_dead | (skip; done) | exact byLeq) (by exact byCon) (trivial)) (by rfl) (by rfl) (by exact byArgs) (by rfl) (by rfl) (by simp [Sc, sc_pl, sc_ds]) (by exact byAllc) (⟨_, rfl, fun i hi => absurd hi (Nat.not_lt_zero _)⟩) (by exact bySc) rfl ?_
  refine WPL.fin T false tok (by rfl) (by exact byObl) ?_
  refine WP.rw ?_
  refine WPL.run T false 1 tok (by rfl) (by exact byObl) ?_
  refine WPL.callN [0] (.tup 0 (fun _ => .un)) (h2) (LeAll.cons (by rfl) (by first | with_reducible exact Root.Le.refl _ | with_reducible exact le_dead | (skip; done) | exact byLeq) (by exact byCon) (trivial)) (by rfl) (by rfl) (by exact byArgs) (by rfl) (by rfl) (by simp [Sc, sc_pl, sc_ds]) (by exact byAllc) (⟨_, rfl, fun i hi => absurd hi (Nat.not_lt_zero _)⟩) (by exact bySc) rfl ?_
  refine WPL.fin T false tok (by rfl) (by exact byObl) ?_
  refine WP.rs T false tok (by rfl) (by exact byObl) ?_
  exact WP.ret (Ends.new [0] (by rfl) (by exact byObl) (LeAll.cons (by rfl) (by first | with_reducible exact Root.Le.refl _ | with_reducible exact le_dead | (skip; done) | exact byLeq) (by exact byCon) (trivial)) rfl rfl (rfl) (sc_sl rfl))

theorem len_step (L : List (List Nat)) (i : Nat) (hi : i < L.length) : (L.take (i + 1)).map List.length = (L.take i).map List.length ++ [(L.getD i []).length] := by
  rw [List.take_add_one, List.getElem?_eq_getElem hi, List.getD_eq_getElem?_getD, List.getElem?_eq_getElem hi]
  simp only [Option.toList_some, List.map_append, List.map_cons, List.map_nil, Option.getD_some]

theorem typeOf_fn (p : Nat → Nat) (n : Nat) (hn : n ≤ 16) (hp : Perm n p) : FnS Try.prog 54 [pl p, .i .i64 n] [] (fun r m' => r = .sl 0 0 (tyN (cycs p n) n).length 1 ∧ m' = [.row 2 (tyN (cycs p n) n).length 1 (numsF (tyN (cycs p n) n))]) := by
  have hcyc := cycles_fn p n hn hp.lt
  have hlens := cycs_lens hn hp
  have hlen : (cycs p n).length ≤ n := cyTo_len p n
  generalize cycs p n = L at *
  have hd := descending_fn (L.map List.length) (by simp; omega)
  rw [ty_eq hlens, List.length_map] at hd
  have ht := tyN_len hlens
  rw [ht]
  generalize tyN L n = D at *
  refine FnS.intoN T tok Try.func54 (by rfl) rfl rfl rfl (by simp) ?_
  refine WP.rs T false tok (by rfl) (by exact byObl) ?_
  refine WP.rs T false tok (by rfl) (by exact byObl) ?_
  refine WP.seq ?_
  refine WP.rw ?_
  refine WPL.run T false 2 tok (by rfl) (by exact byObl) ?_
  refine WPL.callN [] (.sl 2 0 L.length 1) (hcyc) (trivial) (by rfl) (by rfl) (by exact byArgs) (by rfl) (by rfl) (by simp [Sc, sc_pl, sc_ds]) (by exact byAllc) (rfl) (by exact bySc) rfl ?_
  refine WPL.fin T false tok (by rfl) (by exact byObl) ?_
  refine WP.block ?_
  refine WP.loopH (⟨fun i : Nat => i ≤ L.length, fun i => [(5, .sl 0 0 i 1), (11, .sl 1 0 L.length 1), (12, .i .i64 (L.length : Int)), (13, .i .i64 (i : Int))], fun i => [.row 2 i 1 (numsF ((L.take i).map List.length)), .ro L.length 1 (rowsF L)], fun i => L.length - i⟩) (0) (Nat.zero_le _) (Ghost.cut (Nat.le_refl _) (tauOf [1, 2]) _ _ (Taken.of [1, 2] (LeAll.cons (by rfl) (by first | with_reducible exact Root.Le.refl _ | with_reducible exact le_dead | (exact le_row (Nat.le_refl _) (fun j hj => absurd hj (Nat.not_lt_zero _))) | exact byLeq) (by exact byCon) (LeAll.cons (by rfl) (by first | with_reducible exact Root.Le.refl _ | with_reducible exact le_dead | (exact le_row (Nat.le_refl _) (fun j hj => absurd hj (Nat.not_lt_zero _))) | exact byLeq) (by exact byCon) (trivial))) rfl rfl) (by exact bySlots)) ?_
  intro i hi
  dsimp only at hi
  dsimp only [Hd.at]
  refine WP.rs T false tok (by rfl) (by exact byObl) ?_
  refine WP.seq ?_
  refine WP.cond (by rfl) (fun hc => WP.skip ?_) (fun hc => WP.exit ?_)
  · have hi : i < L.length := by have := of_decide_eq_true hc; omega
    clear hc
    have hst := len_step L i hi
    have hl2 : ((L.take i).map List.length).length = i := by simp; omega
    refine WP.seq (WP.block ?_)
    refine WP.rs T false tok (by rfl) (by exact byObl) ?_
    refine WP.run T false tok (by rfl) (by exact byObl) ?_
    refine WP.run T false tok (by rfl) (by exact byObl) ?_
    refine Again.next (i + 1) (Ghost.cut (Nat.le_refl _) (tauOf [4, 1]) _ _ (Taken.of [4, 1] (LeAll.cons (by rfl) (by first | with_reducible exact Root.Le.refl _ | with_reducible exact le_dead | (exact le_row (Nat.le_refl _) (fun j hj => by rw [hst]; have := ap_nums ((L.take i).map List.length) (L.getD i []).length; rw [hl2] at this; exact this _ j hj)) | exact byLeq) (by exact byCon) (LeAll.cons (by rfl) (by first | with_reducible exact Root.Le.refl _ | with_reducible exact le_dead | (exact le_row (Nat.le_refl _) (fun j hj => by rw [hst]; have := ap_nums ((L.take i).map List.length) (L.getD i []).length; rw [hl2] at this; exact this _ j hj)) | exact byLeq) (by exact byCon) (trivial))) rfl rfl) (by exact bySlots)) (hi) (by dsimp only; omega)
  · have hi : i = L.length := by have := of_decide_eq_false hc; omega
    subst hi
    rw [List.take_length]
    refine WP.rw ?_
    refine WPL.run T false 1 tok (by rfl) (by exact byObl) ?_
    refine WPL.callN [0] (.sl 0 0 L.length 1) (hd) (LeAll.cons (by rfl) (by first | with_reducible exact Root.Le.refl _ | with_reducible exact le_dead | (skip; done) | exact byLeq) (by exact byCon) (trivial)) (by rfl) (by rfl) (by exact byArgs) (by rfl) (by rfl) (by simp [Sc, sc_pl, sc_ds]) (by exact byAllc) (rfl) (by exact bySc) rfl ?_
    refine WPL.fin T false tok (by rfl) (by exact byObl) ?_
    exact WP.ret (Ends.new [0] (by rfl) (by exact byObl) (LeAll.cons (by rfl) (by first | with_reducible exact Root.Le.refl _ | with_reducible exact le_dead | (skip; done) | exact byLeq) (by exact byCon) (trivial)) rfl rfl (rfl) (sc_sl rfl))

end Go.Proofs.Ytakapfgjdhliaaa

/- Types of permutations: the reference's side. -/
namespace Go.Proofs.Ytakapfgjdhliaaa
open Go.RowKit DM
set_option linter.unusedSimpArgs false
set_option linter.unusedVariables false
set_option maxRecDepth 100000
set_option maxHeartbeats 1000000

theorem cTo_le (L : List (List Nat)) (i k : Nat) (hi : i ≤ L.length) : cTo L i k ≤ i := by
  rw [cTo_count L i hi k]
  have := List.count_le_length (a := k) (l := (L.take i).map List.length)
  rw [List.length_map, List.length_take] at this; omega

theorem dTo_len {c : Nat → Nat} (n : Nat) (h : ∀ k, c k ≤ 16) : ∀ m, (dTo c n m).length ≤ 16 * m
  | 0 => by simp [dTo]
  | m + 1 => by
    have h1 := dTo_len n h m
    have h2 := h (n - m)
    simp only [dTo, List.length_append, List.length_replicate]; omega

theorem l01Type_fn (p : Nat → Nat) (n : Nat) (hn : n ≤ 16) (hp : Perm n p) : FnS Try.prog 58 [pl p, .i .i64 n] [] (fun r m' => r = .sl 0 0 (tyN (cycs p n) n).length 1 ∧ m' = [.row 2 (tyN (cycs p n) n).length 1 (numsF (tyN (cycs p n) n))]) := by
  have hcyc := l01Cycles_fn p n hn hp.lt
  have hok := fun j => (cycs_ok (p := p) hn hp.lt (j := j)).1
  have hlen : (cycs p n).length ≤ n := cyTo_len p n
  generalize cycs p n = L at *
  have hcl := cTo_le L
  refine FnS.intoN T tok Try.func58 (by rfl) rfl rfl rfl (by simp) ?_
  refine WP.rs T false tok (by rfl) (by exact byObl) ?_
  refine WP.rw ?_
  refine WPL.run T false 3 tok (by rfl) (by exact byObl) ?_
  refine WPL.callN [] (.sl 1 0 L.length 1) (hcyc) (trivial) (by rfl) (by rfl) (by exact byArgs) (by rfl) (by rfl) (by simp [Sc, sc_pl, sc_ds]) (by exact byAllc) (rfl) (by exact bySc) rfl ?_
  refine WPL.fin T false tok (by rfl) (by exact byObl) ?_
  refine WP.seq ?_
  refine WP.rs T false tok (by rfl) (by exact byObl) ?_
  refine WP.block ?_
  refine WP.loopH (⟨fun i : Nat => i ≤ L.length, fun i => [(1, .i .i64 (n : Int)), (5, .p 0 [] 0), (6, .sl 1 0 L.length 1), (7, .sl 2 0 0 1), (8, .i .i64 (i : Int))], fun i => [.var (.ar 17 1 (nmF (cTo L i))), .ro L.length 1 (rowsF L), .row 2 0 1 (numsF [])], fun i => L.length - i⟩) (0) (Nat.zero_le _) (Ghost.cut (Nat.le_refl _) (tauOf [3, 1, 2]) _ _ (Taken.of [3, 1, 2] (LeAll.cons (by rfl) (by first | with_reducible exact Root.Le.refl _ | with_reducible exact le_dead | (exact le_row (Nat.le_refl _) (fun j hj => absurd hj (Nat.not_lt_zero _))) | exact byLeq) (by exact byCon) (LeAll.cons (by rfl) (by first | with_reducible exact Root.Le.refl _ | with_reducible exact le_dead | (exact le_row (Nat.le_refl _) (fun j hj => absurd hj (Nat.not_lt_zero _))) | exact byLeq) (by exact byCon) (LeAll.cons (by rfl) (by first | with_reducible exact Root.Le.refl _ | with_reducible exact le_dead | (exact le_row (Nat.le_refl _) (fun j hj => absurd hj (Nat.not_lt_zero _))) | exact byLeq) (by exact byCon) (trivial)))) rfl rfl) (by exact bySlots)) ?_
  intro i hi
  dsimp only at hi
  dsimp only [Hd.at]
  refine WP.seq ?_
  refine WP.rs T false tok (by rfl) (by exact byObl) ?_
  refine WP.cond (by rfl) (fun hc => WP.skip ?_) (fun hc => WP.exit ?_)
  · have hi : i < L.length := by have := of_decide_eq_true hc; omega
    clear hc
    have h1 := hok i
    have h2 := hcl i (L.getD i []).length (by omega)
    refine WP.seq (WP.block ?_)
    refine WP.run T false tok (by rfl) (by exact byObl) ?_
    refine WP.run T false tok (by rfl) (by exact byObl) ?_
    refine Again.next (i + 1) (Ghost.cut (Nat.le_refl _) (tauOf [0, 1, 2]) _ _ (Taken.of [0, 1, 2] (LeAll.cons (by rfl) (by first | with_reducible exact Root.Le.refl _ | with_reducible exact le_dead | (exact le_var (by rw [cTo, nm_up]; rfl)) | exact byLeq) (by exact byCon) (LeAll.cons (by rfl) (by first | with_reducible exact Root.Le.refl _ | with_reducible exact le_dead | (exact le_var (by rw [cTo, nm_up]; rfl)) | exact byLeq) (by exact byCon) (LeAll.cons (by rfl) (by first | with_reducible exact Root.Le.refl _ | with_reducible exact le_dead | (exact le_var (by rw [cTo, nm_up]; rfl)) | exact byLeq) (by exact byCon) (trivial)))) rfl rfl) (by exact bySlots)) (hi) (by dsimp only; omega)
  · have hi : i = L.length := by have := of_decide_eq_false hc; omega
    subst hi
    have hc16 : ∀ k, cTo L L.length k ≤ 16 := fun k => by have := hcl L.length k (Nat.le_refl _); omega
    unfold tyN
    generalize cTo L L.length = c at *
    refine WP.seq ?_
    refine WP.rs T false tok (by rfl) (by exact byObl) ?_
    have hLen : (dTo c n (n - n)).length = 0 := by rw [Nat.sub_self]; rfl
    refine WP.block ?_
    refine WP.loopH (⟨fun k : Nat => k ≤ n, fun k => [(5, .p 0 [] 0), (7, .sl 1 0 (dTo c n (n - k)).length 1), (9, .i .i64 (k : Int))], fun k => [.var (.ar 17 1 (nmF c)), .row 2 (dTo c n (n - k)).length 1 (numsF (dTo c n (n - k)))], fun k => k⟩) (n) (Nat.le_refl _) (Ghost.cut (Nat.le_refl _) (tauOf [0, 2]) _ _ (Taken.of [0, 2] (LeAll.cons (by rfl) (by first | with_reducible exact Root.Le.refl _ | with_reducible exact le_dead | ((rw [Nat.sub_self]; exact le_row (Nat.le_refl _) (fun j hj => absurd hj (Nat.not_lt_zero _)))) | exact byLeq) (by exact byCon) (LeAll.cons (by rfl) (by first | with_reducible exact Root.Le.refl _ | with_reducible exact le_dead | ((rw [Nat.sub_self]; exact le_row (Nat.le_refl _) (fun j hj => absurd hj (Nat.not_lt_zero _)))) | exact byLeq) (by exact byCon) (trivial))) rfl rfl) (by exact bySlots)) ?_
    clear hLen
    intro k hk
    dsimp only at hk
    dsimp only [Hd.at]
    have hlk := dTo_len (c := c) n hc16 (n - k)
    refine WP.seq ?_
    refine WP.rs T false tok (by rfl) (by exact byObl) ?_
    refine WP.cond (by rfl) (fun hc => WP.skip ?_) (fun hc => WP.exit ?_)
    · obtain ⟨k, rfl⟩ : ∃ k', k = k' + 1 := ⟨k - 1, by have := of_decide_eq_true hc; omega⟩
      clear hc
      have hck := hc16 (k + 1)
      have hst : dTo c n (n - k) = dTo c n (n - (k + 1)) ++ List.replicate (c (k + 1)) (k + 1) := by
        rw [show n - k = (n - (k + 1)) + 1 by omega, dTo, show n - (n - (k + 1)) = k + 1 by omega]
      generalize dTo c n (n - (k + 1)) = D at *
      refine WP.seq (WP.block ?_)
      refine WP.rs T false tok (by rfl) (by exact byObl) ?_
      refine WP.block ?_
      refine WP.loopH (⟨fun r : Nat => r ≤ c (k + 1), fun r => [(5, .p 0 [] 0), (7, .sl 1 0 (D.length + (c (k + 1) - r)) 1), (9, .i .i64 ((k + 1 : Nat) : Int)), (10, .i .i64 (r : Int))], fun r => [.var (.ar 17 1 (nmF c)), .row 2 (D.length + (c (k + 1) - r)) 1 (numsF (D ++ List.replicate (c (k + 1) - r) (k + 1)))], fun r => r⟩) (c (k + 1)) (Nat.le_refl _) (Ghost.cut (Nat.le_refl _) (tauOf [0, 1]) _ _ (Taken.of [0, 1] (LeAll.cons (by rfl) (by first | with_reducible exact Root.Le.refl _ | with_reducible exact le_dead | (exact le_row (by omega) (fun j hj => by rw [Nat.sub_self]; simp)) | exact byLeq) (by exact byCon) (LeAll.cons (by rfl) (by first | with_reducible exact Root.Le.refl _ | with_reducible exact le_dead | (exact le_row (by omega) (fun j hj => by rw [Nat.sub_self]; simp)) | exact byLeq) (by exact byCon) (trivial))) rfl rfl) (by exact bySlots)) ?_
      intro r hr
      dsimp only at hr
      dsimp only [Hd.at]
      refine WP.seq ?_
      refine WP.rs T false tok (by rfl) (by exact byObl) ?_
      refine WP.cond (by rfl) (fun hc => WP.skip ?_) (fun hc => WP.exit ?_)
      · obtain ⟨r, rfl⟩ : ∃ r', r = r' + 1 := ⟨r - 1, by have := of_decide_eq_true hc; omega⟩
        clear hc
        have hm : c (k + 1) - r = (c (k + 1) - (r + 1)) + 1 := by omega
        have hl2 : (D ++ List.replicate (c (k + 1) - (r + 1)) (k + 1)).length = D.length + (c (k + 1) - (r + 1)) := by simp
        have hLen : D.length + (c (k + 1) - r) = D.length + (c (k + 1) - (r + 1)) + 1 := by omega
        refine WP.seq (WP.block ?_)
        refine WP.run T false tok (by rfl) (by exact byObl) ?_
        refine WP.run T false tok (by rfl) (by exact byObl) ?_
        refine Again.next (r) (Ghost.cut (Nat.le_refl _) (tauOf [0, 3]) _ _ (Taken.of [0, 3] (LeAll.cons (by rfl) (by first | with_reducible exact Root.Le.refl _ | with_reducible exact le_dead | (exact le_row (Nat.le_of_eq hLen) (fun j hj => by rw [hm, List.replicate_succ', ← List.append_assoc]; have := ap_nums (D ++ List.replicate (c (k + 1) - (r + 1)) (k + 1)) (k + 1); rw [hl2] at this; exact this _ j (by omega))) | exact byLeq) (by exact byCon) (LeAll.cons (by rfl) (by first | with_reducible exact Root.Le.refl _ | with_reducible exact le_dead | (exact le_row (Nat.le_of_eq hLen) (fun j hj => by rw [hm, List.replicate_succ', ← List.append_assoc]; have := ap_nums (D ++ List.replicate (c (k + 1) - (r + 1)) (k + 1)) (k + 1); rw [hl2] at this; exact this _ j (by omega))) | exact byLeq) (by exact byCon) (trivial))) rfl rfl) (by exact bySlots)) (by omega) (by dsimp only; omega)
      · have hr : r = 0 := by have := of_decide_eq_false hc; omega
        subst hr
        have hLen : (dTo c n (n - k)).length = D.length + (c (k + 1) - 0) := by rw [hst]; simp
        refine WP.run T false tok (by rfl) (by exact byObl) ?_
        refine Again.next (k) (Ghost.cut (Nat.le_refl _) (tauOf [0, 1]) _ _ (Taken.of [0, 1] (LeAll.cons (by rfl) (by first | with_reducible exact Root.Le.refl _ | with_reducible exact le_dead | (exact le_row (Nat.le_of_eq hLen) (fun j hj => by rw [hst]; rfl)) | exact byLeq) (by exact byCon) (LeAll.cons (by rfl) (by first | with_reducible exact Root.Le.refl _ | with_reducible exact le_dead | (exact le_row (Nat.le_of_eq hLen) (fun j hj => by rw [hst]; rfl)) | exact byLeq) (by exact byCon) (trivial))) rfl rfl) (by exact bySlots)) (by omega) (by dsimp only; omega)
    · have hk : k = 0 := by have := of_decide_eq_false hc; omega
      subst hk
      refine WP.rs T false tok (by rfl) (by exact byObl) ?_
      exact WP.ret (Ends.new [1] (by rfl) (by exact byObl) (LeAll.cons (by rfl) (by first | with_reducible exact Root.Le.refl _ | with_reducible exact le_dead | (skip; done) | exact byLeq) (by exact byCon) (trivial)) rfl rfl (rfl) (sc_sl rfl))

end Go.Proofs.Ytakapfgjdhliaaa
