/-The law FnBlocks holds of the program for every input. Conditions:none.-/
import Derived.Test.YthjnmlpibafbnaaGreatW0
import Derived.Test.YthjnmlpibafbnaaGreatW4
import Derived.Test.YthjnmlpibafbnaaGreatX164
namespace Go.Proofs.YthjnmlpibafbnaaGreat.fnBlocks
open Go.ChangeShapes Go.WideShapes Go.ChangeAt Go.RowKit DM
set_option linter.unusedVariables false
set_option maxRecDepth 100000 in
theorem lifted(os:Os)(started:os.Started)(H:Type)(enc:TypeId×Value->H):
  ReturnsInHanded {} Tryz.checked os 3 .any (Rows.fnBlocksSpec.pre6 enc Tryz.prog Tryz.f3 Rows.fnBlocksRow.domain false) (Rows.fnBlocksSpec.post enc Tryz.prog Tryz.f3 false true false false):=by
 refine returnsInHanded_of_change_sized (C:=Tryz.checked) own started (by kernel_rfl) Tryz.func3
  (ChangeSpec.witness6 (enc:=enc) (C:=Tryz.checked) false ⟨#[],#[.slice none 0 0],[]⟩ 8 (by kernel_rfl) (by kernel_rfl) (by kernel_rfl) (by kernel_rfl)) ?_
 intro W base args ds gs before hval0 hW hcnd hsz0 _
 have hval:∀(j:Nat) t v,Tryz.f3.params[j]? =some t->args[j]? =some v->Value.okWide Tryz.prog W .any base t v:=hval0
 have hW':=hW
 obtain⟨p,q,hA0,hV,rfl,hfz,hnd⟩:=hW
 have hA:DataW.TrodAll enc Tryz.prog W 0 (λ _=>true) true Tryz.f3.params.toList args.toList ds p:=hA0
 rw[Tryz.params3] at hA hval
 obtain⟨v0,vs0,d0,ds0,p0,q0,hargs0,rfl,rfl,h0,r0⟩:=trodAll_cons hA
 obtain⟨rfl,rfl,rfl⟩:=trodAll_nil r0
 obtain rfl:args=#[v0]:=by cases args;simp_all
 obtain⟨rfl,rfl⟩:=trodVars_none hV
 have k0:=h0
 have lt0:∀x∈p0,x.block<W.heap.size:=by obtain⟨m,hm⟩:=k0;exact DataW.trod_lt m _ _ _ hm
 obtain⟨m0,g0,ρ,rfl,wm0,hg0,hrep⟩:∃(n:Nat) (g:Nat->Nat) (ρ:Rho),v0=DM.enc ρ (.sl 0 0 n 1)/\n<=maxLen/\(∀j,g j<256)/\Rep ρ [.ro n 1 (λ j=>.i .u8 ((g j:Nat):Int))] W:=by
  obtain⟨a,len,cap,rfl⟩:=okWide_slice Tryz.underlying22 (hval 0 22 v0 rfl rfl)
  obtain⟨fuel,hf⟩:=h0
  exact in_bytesR Tryz.underlying22 Tryz.underlying5 (by kernel_rfl) hf
 refine((law_Blocks m0 g0 hg0 wm0).calls rfl hrep (by intro x hx;simp only[List.mem_cons,List.not_mem_nil,or_false] at hx;rcases hx with rfl<;>first|exact⟨Nat.zero_lt_one,trivial,trivial⟩) noR).mono ?_
 rintro e W' ⟨rfl,_,_,bel0⟩
 have bel:=bel0.plain
 exact⟨_,rfl,_,_,_,[],_,[],hW',trodAll_mk1 (shut_bool Tryz.underlying4 _),(trodAll_cons_mk (Below.trod laidOut (by kernel_rfl) (of_decide_eq_true (by kernel_rfl)) k0 bel lt0) trodAll_mk0),rfl,bel.frame _,λ h=>by cases h⟩
theorem over:Rows.fnBlocksRow.holds Tryz.pinned (OpenSpec.ofChange Rows.fnBlocksSpec):=
 OpenClaim.holds_of_wide 3 Tryz.f3 rfl rfl rfl rfl rfl rfl rfl ⟨rfl,rfl,rfl,rfl,rfl⟩ rfl rfl rfl rfl rfl (by kernel_rfl) Tryz.func3 (by kernel_rfl)
  (of_decide_eq_true (by kernel_rfl)) (by unfold Func.isWrapper;first|(rw[if_pos (by decide+kernel)];kernel_rfl)|(rw[if_neg (by decide+kernel)];exact⟨rfl,rfl⟩))
  (λ os started H enc _=>lifted os started H enc)
end Go.Proofs.YthjnmlpibafbnaaGreat.fnBlocks
namespace Go.Proofs.YthjnmlpibafbnaaGreat
/--The law holds.-/
theorem fnBlocks_holds:Rows.FnBlocksSaid:=fnBlocks.over
#print axioms fnBlocks_holds
end Go.Proofs.YthjnmlpibafbnaaGreat
