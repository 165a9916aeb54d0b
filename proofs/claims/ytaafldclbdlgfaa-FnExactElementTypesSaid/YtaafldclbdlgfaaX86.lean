import Derived.Test.YtaafldclbdlgfaaX83
import Derived.Test.YtaafldclbdlgfaaX85
/- Groups, the reference's side: order and membership; the laws. -/
namespace Go.Proofs.Ytaafldclbdlgfaa
open Go.RowKit DM
set_option linter.unusedSimpArgs false
set_option linter.unusedVariables false
set_option maxRecDepth 100000
set_option maxHeartbeats 1000000

theorem take_snoc {L : List (Nat → Nat)} {i : Nat} (h : i < L.length) : L.take (i + 1) = L.take i ++ [L.getD i fun _ => 0] := by
  rw [List.take_add_one, List.getElem?_eq_getElem h]
  simp [List.getD_eq_getElem?_getD, List.getElem?_eq_getElem h]

theorem l03Made_fn (N : Nat) (h1 : 1 ≤ N) (hN : N ≤ 16) (L : List (Nat → Nat)) (hL : ∀ g ∈ L, Np N g) (hl : L.length ≤ 1000) : FnS Try.prog 60 [.sl 0 0 L.length 16, .i .i64 (N : Int)] [.row 25 L.length 16 (rowP L)] fun r m' => r = .p 1 [] 0 ∧ ∃ C, m' = [.row 25 L.length 16 (rowP L), .var (chn N C)] ∧ Chain N L C := by
  refine FnS.intoE T tok Try.func60 (by rfl) rfl rfl rfl (by simp) ?_
  refine WP.rs T false tok (by rfl) (by exact byObl) ?_
  refine WP.rw ?_
  refine WPL.run T false 1 tok (by rfl) (by exact byObl) ?_
  refine WPL.callN [] (.p 1 [] 0) (l03Start_fn N hN) (trivial) (by rfl) (by rfl) (by exact byArgs) (by rfl) (by rfl) (by simp [Sc, sc_pl, sc_ds]) (by exact byAllc) (rfl) (by exact bySc) rfl ?_
  refine WPL.fin T false tok (by rfl) (by exact byObl) ?_
  refine WP.seq ?_
  refine WP.rs T false tok (by rfl) (by exact byObl) ?_
  refine WP.block ?_
  refine WP.loopH (⟨fun z : Nat × Chn => z.1 ≤ L.length ∧ Chain N (L.take z.1) z.2, fun z => [(0, .sl 0 0 L.length 16), (1, .i .i64 (N : Int)), (5, .p 1 [] 0), (6, .i .i64 (z.1 : Int))], fun z => [.row 25 L.length 16 (rowP L), .var (chn N z.2)], fun z => L.length - z.1⟩) ((0, chn0 N)) (⟨Nat.zero_le _, Chain.start N hN⟩) (Ghost.cut (Nat.le_refl _) (tauOf [0, 1]) _ _ (Taken.of [0, 1] (LeAll.cons (by rfl) (by first | with_reducible exact Root.Le.refl _ | with_reducible exact le_dead | (skip; done) | exact byLeq) (by exact byCon) (LeAll.cons (by rfl) (by first | with_reducible exact Root.Le.refl _ | with_reducible exact le_dead | (skip; done) | exact byLeq) (by exact byCon) (trivial))) rfl rfl) (by exact bySlots)) ?_
  rintro ⟨i, C⟩ ⟨hi, hC⟩
  dsimp only at hi hC
  dsimp only [Hd.at]
  refine WP.seq ?_
  refine WP.rs T false tok (by rfl) (by exact byObl) ?_
  refine WP.cond (by rfl) (fun hc => WP.skip ?_) (fun hc => WP.exit ?_)
  · have hi : i < L.length := by have := of_decide_eq_true hc; omega
    clear hc
    have hp : Np N (L.getD i fun _ => 0) := hL _ (getDf_mem hi)
    have hA := l03Add_fn N hN 0 (by omega) (L.getD i fun _ => 0) C (hC.pre hp)
    unfold AddOk at hA
    refine WP.seq (WP.block ?_)
    refine WP.region ?_
    refine WPL.run T false 5 tok (by rfl) (by exact byObl) ?_
    refine WPL.callE [1] (hA) (LeAll.cons (by rfl) (by first | with_reducible exact Root.Le.refl _ | with_reducible exact le_dead | (skip; done) | exact byLeq) (by exact byCon) (trivial)) (by rfl) (by rfl) (by exact byArgs) (by rfl) (by rfl) (by simp [Sc, sc_pl, sc_ds]) ?_
    rintro _ _ ⟨rfl, D, rfl, hD⟩
    refine ⟨by exact byAllc, u0D, ren_u0, sc_u0 _ _, ?_⟩
    refine WPL.mem (by rfl) ?_
    refine WPL.fin T false tok (by rfl) (by exact byObl) ?_
    refine WP.run T false tok (by rfl) (by exact byObl) ?_
    refine Again.next ((i + 1, D)) (Ghost.cut (Nat.le_refl _) (tauOf [0, 1]) _ _ (Taken.of [0, 1] (LeAll.cons (by rfl) (by first | with_reducible exact Root.Le.refl _ | with_reducible exact le_dead | (skip; done) | exact byLeq) (by exact byCon) (LeAll.cons (by rfl) (by first | with_reducible exact Root.Le.refl _ | with_reducible exact le_dead | (skip; done) | exact byLeq) (by exact byCon) (trivial))) rfl rfl) (by exact bySlots)) (⟨hi, by dsimp only; rw [take_snoc hi]; exact hC.add (fun g hg => hL g (List.mem_of_mem_take hg)) hp hD⟩) (by dsimp only; omega)
  · have hi : i = L.length := by have := of_decide_eq_false hc; omega
    subst hi
    rw [List.take_length] at hC
    refine WP.rs T false tok (by rfl) (by exact byObl) ?_
    exact WP.ret (Ends.newE [0, 1] (⟨rfl, C, rfl, hC⟩) (.inl rfl) (by rfl) (by exact byObl) (LeAll.cons (by rfl) (by first | with_reducible exact Root.Le.refl _ | with_reducible exact le_dead | (skip; done) | exact byLeq) (by exact byCon) (LeAll.cons (by rfl) (by first | with_reducible exact Root.Le.refl _ | with_reducible exact le_dead | (skip; done) | exact byLeq) (by exact byCon) (trivial))) rfl rfl (rfl) (sc_p rfl))

theorem l03Of_fn (N : Nat) (b w : Nat → Nat) (h1 : 1 ≤ N) (hN : N ≤ 16) (hb : Np N b) (hw : Np N w) : FnS Try.prog 37 [ds_ N b w] [] fun r m' => r = .p 0 [] 0 ∧ ∃ C, m' = [.var (chn N C)] ∧ Chain N [b, w] C := by
  have hL : ∀ g ∈ [b, w], Np N g := fun g hg => by
    simp only [List.mem_cons, List.not_mem_nil, or_false] at hg
    rcases hg with rfl | rfl
    · exact hb
    · exact hw
  refine FnS.intoE T tok Try.func37 (by rfl) rfl rfl rfl (by simp) ?_
  refine WP.rs T false tok (by rfl) (by exact byObl) ?_
  refine WP.rw ?_
  refine WPL.run T false 7 tok (by rfl) (by exact byObl) ?_
  refine WPL.callE [1] (l03Made_fn N h1 hN [b, w] hL (by simp)) (LeAll.cons (by rfl) (by first | with_reducible exact Root.Le.refl _ | with_reducible exact le_dead | (exact le_row (Nat.le_refl _) row_two) | exact byLeq) (by exact byCon) (trivial)) (by rfl) (by rfl) (by exact byArgs) (by rfl) (by rfl) (by simp [Sc, sc_pl, sc_ds]) ?_
  rintro _ _ ⟨rfl, C, rfl, hok⟩
  refine ⟨by exact byAllc, .p 2 [] 0, rfl, sc_p rfl, ?_⟩
  refine WPL.mem (by rfl) ?_
  refine WPL.fin T false tok (by rfl) (by exact byObl) ?_
  exact WP.ret (Ends.newE [2] (⟨rfl, C, rfl, hok⟩) (.inl rfl) (by rfl) (by exact byObl) (LeAll.cons (by rfl) (by first | with_reducible exact Root.Le.refl _ | with_reducible exact le_dead | (skip; done) | exact byLeq) (by exact byCon) (trivial)) rfl rfl (rfl) (sc_p rfl))

end Go.Proofs.Ytaafldclbdlgfaa
