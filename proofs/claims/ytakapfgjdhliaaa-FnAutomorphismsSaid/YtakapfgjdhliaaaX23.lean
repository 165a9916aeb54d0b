import Derived.Test.YtakapfgjdhliaaaX3
import Derived.Lib.Bytealg
import Derived.Lib.BytesEntry
import Derived.Laws.Externs
import Derived.Deep.QuietTactic
/- Arrays of bytes compared by the library. -/
namespace Go.Proofs.Ytakapfgjdhliaaa
open Go.RowKit DM
set_option linter.unusedSimpArgs false
set_option linter.unusedVariables false
set_option maxRecDepth 100000
set_option maxHeartbeats 1000000

def u8s (p : Nat → Nat) : List Int := (List.range 16).map fun i => ((p i : Nat) : Int)
def bys (p : Nat → Nat) : List UInt8 := (List.range 16).map fun i => (((p i : Nat) : Int).toNat).toUInt8

theorem run_compareSlices {P : Program} {w : World} {a b : Addr} {p q : Nat → Nat} (ha : ∀ j, j < 16 → w.cell? (a.add j) = some (.int .u8 ((p j : Nat) : Int))) (hb : ∀ j, j < 16 → w.cell? (b.add j) = some (.int .u8 ((q j : Nat) : Int))) :
    (Extern.BytealgCompare.compare #[.slice (some a) 16 16, .slice (some b) 16 16]).run P w = .ok (.int .i64 (Lib.compareBytes (bys p) (bys q))) w := by
  change Sem.run P (do pure (goInt (Extern.BytealgCompare.cmp (← Extern.Bytes.bytesOf (.slice (some a) 16 16)) (← Extern.Bytes.bytesOf (.slice (some b) 16 16))))) w = _
  have key : ∀ (r : Nat → Nat) (c : Addr), (∀ j, j < 16 → w.cell? (c.add j) = some (.int .u8 ((r j : Nat) : Int))) → (Extern.Bytes.loadBytes c 16 .empty).run P w = .ok ⟨(bys r).toArray⟩ w := by
    intro r c h
    have h1 := Lib.run_loadBytesX (P := P) w (u8s r) c .empty (fun j x hx => by
      unfold u8s at hx
      obtain ⟨hj, hx⟩ := List.getElem?_eq_some_iff.1 hx
      simp only [List.length_map, List.length_range] at hj
      simp only [List.getElem_map, List.getElem_range] at hx
      rw [← hx]; exact h j hj)
    have e1 : (u8s r).length = 16 := by simp [u8s]
    have e2 : Lib.bytesOf (u8s r) = bys r := by simp [Lib.bytesOf, u8s, bys]
    rw [e1, e2] at h1
    rw [h1]
    rfl
  simp only [Extern.Bytes.bytesOf, Sem.run_bind, Sem.run_pure, Result.andThen, key p a ha, key q b hb, Lib.cmp_eq]
  rfl

theorem bytesCompare_calls {w : World} {a b : Addr} {p q : Nat → Nat} (ha : ∀ j, j < 16 → w.cell? (a.add j) = some (.int .u8 ((p j : Nat) : Int))) (hb : ∀ j, j < 16 → w.cell? (b.add j) = some (.int .u8 ((q j : Nat) : Int))) :
    Calls Try.prog 103 #[.slice (some a) 16 16, .slice (some b) 16 16] w fun e w' => e = .returned (.int .i64 (Lib.compareBytes (bys p) (bys q))) ∧ w' = w := by
  go_enter Try.func103, Try.ntmps103
  go_wp2
  rw [run_callFunc_extern Try.func117 (by kernel_rfl) (by kernel_rfl) (by kernel_rfl) (e := Extern.BytealgCompare.compare) (by kernel_rfl), run_compareSlices ha hb]
  simp only [Result.andThen]
  rw [Oper.upon_value]
  go_wp2
  go_ret
  exact ⟨rfl, rfl⟩

theorem cell_of_heap {w : World} {b j : Nat} {c : Array Value} {t : TypeId} (h : w.heap[b]? = some (.cells c t (0, 0))) : w.cell? ((⟨b, 0, none⟩ : Addr).add j) = c[j]? := by
  have e : ((⟨b, 0, none⟩ : Addr).add j) = ⟨b, j, none⟩ := by
    unfold Addr.add
    split
    · rename_i h; subst h; rfl
    · simp
  rw [e]
  unfold World.cell?
  simp only [h]
  rfl

theorem run_sliceArr (b : Nat) (w : World) : (Instr.sliceAt 25 (.pointer (some ⟨b, 0, none⟩)) none none none).run Try.prog w = .ok (.slice (some ⟨b, 0, none⟩) 16 16) w := by
  unfold Instr.sliceAt
  rw [Sem.run_bind, run_underlying Try.underlying25]
  obtain ⟨ti, hti⟩ := Option.isSome_iff_exists.1 (show (Try.prog.info? 5).isSome = true by kernel_rfl)
  simp [Instr.sureAddr, Instr.sliceBounds, sizeOf, typeInfo, Sem.run_bind, Sem.run_pure, Result.andThen, hti, Addr.add]

theorem comparePlaces_calls (p q : Nat → Nat) (w : World) :
    Calls Try.prog 96 #[DM.enc noR (pl p), DM.enc noR (pl q)] w fun e w' => e = .returned (.int .i64 (Lib.compareBytes (bys p) (bys q))) ∧ BelowD w.heap.size w w' := by
  have hp : DM.enc noR (pl p) = .agg ((List.range 16).map fun i => .int .u8 ((p i : Nat) : Int)).toArray := by show Value.agg (cells noR noA (pl p)).toArray = _; rw [cells_pl]
  have hq : DM.enc noR (pl q) = .agg ((List.range 16).map fun i => .int .u8 ((q i : Nat) : Int)).toArray := by show Value.agg (cells noR noA (pl q)).toArray = _; rw [cells_pl]
  rw [hp, hq]
  generalize hcp : ((List.range 16).map fun i => Value.int .u8 ((p i : Nat) : Int)).toArray = cp
  generalize hcq : ((List.range 16).map fun i => Value.int .u8 ((q i : Nat) : Int)).toArray = cq
  have hp' : ∀ j, j < 16 → cp[j]? = some (.int .u8 ((p j : Nat) : Int)) := fun j hj => by rw [← hcp]; simp [hj]
  have hq' : ∀ j, j < 16 → cq[j]? = some (.int .u8 ((q j : Nat) : Int)) := fun j hj => by rw [← hcq]; simp [hj]
  clear hcp hcq hp hq
  go_enter Try.func96, Try.ntmps96
  go_wp2
  have hA : ∀ a, (((w.alloc (Obj.cells cp 25)).alloc (Obj.cells cq 25)).drewN a).heap[w.heap.size]? = some (.cells cp 25 (0, 0)) := fun a => by
    rw [World.heap_drewN, heap_alloc_old _ _ _ (by simp)]; exact heap_alloc_new w _
  have hB : ∀ a, (((w.alloc (Obj.cells cp 25)).alloc (Obj.cells cq 25)).drewN a).heap[w.heap.size + 1]? = some (.cells cq 25 (0, 0)) := fun a => by
    have := heap_alloc_new (w.alloc (Obj.cells cp 25)) (Obj.cells cq 25)
    rw [World.heap_drewN]
    simpa using this
  have hO : ∀ a k, k < w.heap.size → (((w.alloc (Obj.cells cp 25)).alloc (Obj.cells cq 25)).drewN a).heap[k]? = w.heap[k]? := fun a k hk => by
    rw [World.heap_drewN, heap_alloc_old _ _ _ (by simp; omega), heap_alloc_old _ _ _ hk]
  refine wp_region_quiet_lit (by kernel_rfl) (by kernel_rfl) ?_
  refine wpQuiet_step (fun K hK => ?_)
  go_simp
  refine ⟨.slice (some ⟨w.heap.size, 0, none⟩) 16 16, fun _ => ?_, ?_⟩
  · rw [run_sliceArr]
    exact ⟨rfl, rfl⟩
  refine hK _ ?_
  clear hK K
  refine wpQuiet_step (fun K hK => ?_)
  go_simp
  refine ⟨.slice (some ⟨w.heap.size + 1, 0, none⟩) 16 16, fun _ => ?_, ?_⟩
  · rw [run_sliceArr]
    exact ⟨rfl, rfl⟩
  refine hK _ ?_
  clear hK K
  refine wpQuiet_step (fun K hK => ?_)
  go_simp
  refine ⟨.int .i64 (Lib.compareBytes (bys p) (bys q)), fun a => ?_, ?_⟩
  · refine Calls.quiet_of_same (bytesCompare_calls (fun j hj => ?_) (fun j hj => ?_))
    · rw [cell_of_heap (b := w.heap.size) (c := cp) (hA a)]; exact hp' j hj
    · rw [cell_of_heap (b := w.heap.size + 1) (c := cq) (hB a)]; exact hq' j hj
  refine hK _ ?_
  clear hK K
  quiet_step (skip)
  refine wpQuiet_nil ?_
  intro _ hw'
  obtain ⟨nq, hw''⟩ := hw'
  subst hw''
  go_wp2
  go_ret
  exact ⟨rfl, rfl, rfl, by show w.drawn ≤ _; first | exact Nat.le_refl _ | exact Nat.le_add_right _ _ | (simp [World.drewN]; done) | (simp [World.drewN]; omega), rfl, by show w.heap.size ≤ (((w.alloc (Obj.cells cp 25)).alloc (Obj.cells cq 25)).drewN nq).heap.size; rw [World.heap_drewN]; simp; omega, fun k hk => hO nq k hk⟩

theorem FnP.of_calls {P : Program} {f : FuncId} {xs : List Dat} {r : Dat} (he : ∀ args w, (callFunc f args).run P w = .ok (.enter f args) w) (hs : Sc 0 r) (ho : Ok r) (h : ∀ ρ w, Calls P f (xs.map (DM.enc ρ)).toArray w fun e w' => e = .returned (DM.enc noR r) ∧ BelowD w.heap.size w w') : FnP P f xs r :=
  ⟨he, fun ρ w _ _ => (h ρ w).mono fun e w' ⟨h1, h2⟩ => ⟨r, ρ, [], by rw [h1, enc_congr (n := 0) (ρ := ρ) (ρ' := noR) (fun _ h => absurd h (Nat.not_lt_zero _)) r hs], hs, ho, rep0 ρ w', Tr.of_below h2, rfl, hs⟩⟩

theorem comparePlaces_fn (p q : Nat → Nat) : FnP Try.prog 96 [pl p, pl q] (.i .i64 (Lib.compareBytes (bys p) (bys q))) :=
  FnP.of_calls (callFunc_run Try.func96 (by kernel_rfl) (by kernel_rfl)) trivial ⟨trivial, trivial⟩ fun ρ w => by
    have h : ∀ x : Nat → Nat, DM.enc ρ (pl x) = DM.enc noR (pl x) := fun x => enc_congr (n := 0) (ρ := noR) (ρ' := ρ) (fun _ h => absurd h (Nat.not_lt_zero _)) _ (sc_pl 0 x)
    show Calls _ _ #[DM.enc ρ (pl p), DM.enc ρ (pl q)] _ _
    rw [h, h]
    exact comparePlaces_calls p q w

end Go.Proofs.Ytakapfgjdhliaaa
