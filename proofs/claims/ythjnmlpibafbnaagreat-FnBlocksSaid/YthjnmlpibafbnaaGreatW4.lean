import Derived.Test.YthjnmlpibafbnaaGreatW3
/-From the row's own words on a slice of bytes to plain data.-/
namespace Go.Proofs.YthjnmlpibafbnaaGreat
open Go.ChangeShapes Go.WideShapes Go.ChangeAt Go.RowKit DM

theorem in_bytes{H:Type}{enc:TypeId×Value->H}{P:Program}{w:World}{base:Nat}{spare:Nat->Bool}{held:Bool}{t e:TypeId}{fuel:Nat}{v:Value}{x:DataW H×List MemPlace}(ht:P.underlying t=some (.slice e))(he:P.underlying e=some (.int .u8))(hc:P.cellsOf e=1)
  (h:DataW.trod enc P w base spare held fuel t [v]=some x):∃(A:Option Addr) (n c:Nat) (g:Nat->Nat),(∀j,g j<256)/\v=.slice A n c/\InRow w A n c (λ j=>.int .u8 ((g j:Nat):Int)):=by
 rcases open_ints ht he hc h with⟨hcs,_⟩|⟨a,len,cap,zs,hcs,_,hl,hm,hz,_,hcell,hwf⟩
 ·simp only[List.cons.injEq,and_true] at hcs
  subst hcs
  exact⟨none,0,0,λ _=>0,λ _=>Nat.zero_lt_succ _,rfl,λ _=>⟨rfl,rfl⟩,Nat.le_refl _,Nat.zero_le _,λ _ _ j hj=>absurd hj (Nat.not_lt_zero _)⟩
 ·simp only[List.cons.injEq,and_true] at hcs
  subst hcs
  have hl2:len<=zs.length:=by
   rw[hz]
   split
   ·exact hl
   ·exact Nat.le_refl _
  have hr:∀j,0<=zs.getD j 0/\zs.getD j 0<256:=λ j=>by
   by_cases hj:j<zs.length
   ·exact wf_u8 (hwf _ (by rw[List.getD_eq_getElem?_getD,List.getElem?_eq_getElem hj];exact List.getElem_mem hj))
   ·rw[List.getD_eq_getElem?_getD,List.getElem?_eq_none (by omega)];exact⟨by decide,by decide⟩
  refine⟨some a,len,cap,λ j=>(zs.getD j 0).toNat,λ j=>by(have:=hr j;dsimp only;omega),rfl,λ e=>by(cases e),hl,by omega,λ b hb j hj=>?_⟩
  cases hb
  have:=hcell j (by omega)
  rw[this]
  have:=(hr j).1
  rw[Int.toNat_of_nonneg this]

theorem in_bytesR{H:Type}{enc:TypeId×Value->H}{P:Program}{w:World}{base:Nat}{spare:Nat->Bool}{held:Bool}{t e:TypeId}{fuel:Nat}{v:Value}{x:DataW H×List MemPlace}(ht:P.underlying t=some (.slice e))(he:P.underlying e=some (.int .u8))(hc:P.cellsOf e=1)
  (h:DataW.trod enc P w base spare held fuel t [v]=some x):∃(n:Nat) (g:Nat->Nat) (ρ:Rho),v=DM.enc ρ (.sl 0 0 n 1)/\n<=maxLen/\(∀j,g j<256)/\Rep ρ [.ro n 1 (λ j=>.i .u8 ((g j:Nat):Int))] w:=by
 obtain⟨A,n,c,g,hg,hv,hrow⟩:=in_bytes ht he hc h
 let ρ:Rho:=λ _ _=>rvOf n A c
 refine⟨n,g,ρ,?_,hrow.max,hg,?_⟩
 ·rw[hv];exact hrow.slice.symm
 ·have one:∀{r:Nat}{R:Root},[Root.ro n 1 (λ j=>.i .u8 ((g j:Nat):Int))][r]? =some R->r=0/\R=.ro n 1 (λ j=>.i .u8 ((g j:Nat):Int)):=λ{r R} h=>by
   cases r with
   |zero=>simp at h;exact⟨rfl,h.symm⟩
   |succ r=>simp at h
  refine⟨λ r d h=>?_,λ r R d q e n s f h1 h2=>?_,λ r R d q e k s f h1 h2 h3 h4=>?_,λ r R q r' R' q' h1 h2 h3=>?_,λ r R d h1 h2=>?_,λ r b l h=>by obtain⟨_,h⟩:=one h;cases h⟩
  ·obtain⟨_,h⟩:=one h;cases h
  ·obtain⟨_,rfl⟩:=one h1;cases h2
  ·obtain⟨rfl,rfl⟩:=one h1
   cases h3
   cases q with
   |nil=>
    simp only[nav,Option.some.injEq,Dat.ow.injEq] at h4
    obtain⟨_,rfl,rfl,rfl⟩:=h4
    exact hrow.ro λ j hj=>rfl
   |cons j q=>
    simp only[nav] at h4
    split at h4
    ·cases q<;>simp[nav] at h4
    ·cases h4
  ·obtain⟨_,rfl⟩:=one h1;cases h3
  ·obtain⟨_,rfl⟩:=one h1
   cases h2
   exact⟨λ j hj=>⟨rfl,trivial⟩,λ j hj=>trivial⟩

end Go.Proofs.YthjnmlpibafbnaaGreat
