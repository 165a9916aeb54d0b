import Derived.Test.YthjnmlpibafbnaaGreatW0
import Derived.Deep.Slices
import Derived.ChangeSlices
import Derived.Test.YthjnmlpibafbnaaGreatD18
/-From the row's own words on a slice of numbers to plain data (the lines of W2 that need no slices of slices).-/
namespace Go.Proofs.YthjnmlpibafbnaaGreat
open Go.ChangeShapes Go.WideShapes Go.ChangeAt Go.RowKit DM

/--Where a slice that came in lies.-/
def rvOf(n:Nat)(A:Option Addr)(c:Nat):RV:=
 match n,A with
 |0,a=>⟨true,0,0,0,a,c⟩
 |_+1,some a=>⟨false,a.block,a.off,c,none,0⟩
 |_+1,none=>default

theorem rv_zero{A:Option Addr}{c:Nat}(h:A=none->c=0):(rvOf 0 A c).slice 0 0 1=.slice A 0 c:=by
 cases A with
 |none=>rw[h rfl];rfl
 |some a=>rfl
theorem rv_succ{n:Nat}{a:Addr}{c:Nat}(hn:0<n)(hs:a.spot=none):(rvOf n (some a) c).slice 0 n 1=.slice (some a) n c:=by
 obtain⟨k,rfl⟩:∃k,n=k+1:=⟨n-1,by omega⟩
 obtain⟨b,o,s⟩:=a
 cases hs
 show Value.slice (some ⟨b,o+0*1,none⟩) (k+1) (c-0)=_
 simp

theorem cell_spot{w:World}{a:Addr}{v:Value}(h:w.cell? a=some v):a.spot=none:=by
 unfold World.cell? at h
 split at h
 ·split at h
  ·cases h
  ·rename_i hs;simpa using hs
 ·cases h

/--A slice that came in.-/
structure InRow(w:World)(A:Option Addr)(n c:Nat)(V:Nat->Value):Prop where
 nil:A=none->n=0/\c=0
 le:n<=c
 max:n<=maxLen
 cell:∀a,A=some a->∀j,j<n->w.cell? (a.add j)=some (V j)

theorem InRow.slice{w:World}{A:Option Addr}{n c:Nat}{V:Nat->Value}(h:InRow w A n c V):(rvOf n A c).slice 0 n 1=.slice A n c:=by
 cases n with
 |zero=>exact rv_zero λ e=>(h.nil e).2
 |succ k=>
  cases A with
  |none=>exact absurd (h.nil rfl).1 (by omega)
  |some a=>
   have h0:=h.cell a rfl 0 (by omega)
   exact rv_succ (by omega) (cell_spot (a:=a) (by simpa[Addr.add] using h0))

theorem flatV{α:Type}(V:Nat->α):∀l:List Nat,(l.map λ i=>[V i]).flatten=l.map V
 |[]=>rfl
 |i::l=>by rw[List.map_cons,List.map_cons,List.flatten_cons,flatV V l];rfl

theorem InRow.ro{w:World}{A:Option Addr}{n c:Nat}{V:Nat->Value}(h:InRow w A n c V){ρ:Rho}{B:List Nat->RV}{f:Nat->Dat}(hf:∀j,j<n->cells ρ (λ q=>B (j::q)) (f j)=[V j]):RoOK ρ w (rvOf n A c) B n 1 f:=by
 cases n with
 |zero=>exact .inl ⟨rfl,rfl⟩
 |succ k=>
  cases A with
  |none=>exact absurd (h.nil rfl).1 (by omega)
  |some a=>
   have h0:=h.cell a rfl 0 (by omega)
   have hs:=cell_spot (a:=a) (by simpa[Addr.add] using h0)
   have hb:a.block<w.heap.size:=World.block_lt_of_cell? w a (by simpa[Addr.add] using h0)
   refine .inr ⟨rfl,h.le,h.max,hb,λ j u hu=>?_⟩
   have e:cells ρ B (.ar (k+1) 1 f)=(List.range (k+1)).map V:=by
    show(List.range (k+1)).flatMap (λ i=>cells ρ (λ q=>B (i::q)) (f i))=_
    rw[List.flatMap_def]
    have:(List.range (k+1)).map (λ i=>cells ρ (λ q=>B (i::q)) (f i))=(List.range (k+1)).map λ i=>[V i]:=List.map_congr_left λ i hi=>hf i (List.mem_range.1 hi)
    rw[this]
    exact flatV V _
   rw[e] at hu
   obtain⟨hj,hu⟩:=List.getElem?_eq_some_iff.1 hu
   simp only[List.length_map,List.length_range] at hj
   simp only[List.getElem_map,List.getElem_range] at hu
   have h1:=h.cell a rfl j hj
   rw[hu] at h1
   obtain⟨b,o,s⟩:=a
   cases hs
   by_cases e0:j=0
   ·subst e0;simpa[Addr.add,rvOf] using h1
   ·simpa[Addr.add,rvOf,e0] using h1

theorem in_ints{H:Type}{enc:TypeId×Value->H}{P:Program}{w:World}{base:Nat}{spare:Nat->Bool}{held:Bool}{t e:TypeId}{k:IntKind}{fuel:Nat}{v:Value}{x:DataW H×List MemPlace}(ht:P.underlying t=some (.slice e))(he:P.underlying e=some (.int k))(hc:P.cellsOf e=1)
  (h:DataW.trod enc P w base spare held fuel t [v]=some x):∃(A:Option Addr) (n c:Nat) (g:Nat->Int),v=.slice A n c/\InRow w A n c (λ j=>.int k (g j)):=by
 rcases open_ints ht he hc h with⟨hcs,_⟩|⟨a,len,cap,zs,hcs,_,hl,hm,hz,_,hcell,_⟩
 ·simp only[List.cons.injEq,and_true] at hcs
  subst hcs
  exact⟨none,0,0,λ _=>0,rfl,λ _=>⟨rfl,rfl⟩,Nat.le_refl _,Nat.zero_le _,λ _ _ j hj=>absurd hj (Nat.not_lt_zero _)⟩
 ·simp only[List.cons.injEq,and_true] at hcs
  subst hcs
  have hl2:len<=zs.length:=by
   rw[hz]
   split
   ·exact hl
   ·exact Nat.le_refl _
  exact⟨some a,len,cap,λ j=>zs.getD j 0,rfl,λ e=>by(cases e),hl,by omega,λ b hb j hj=>by(cases hb;exact hcell j (by omega))⟩

theorem in_intsR{H:Type}{enc:TypeId×Value->H}{P:Program}{w:World}{base:Nat}{spare:Nat->Bool}{held:Bool}{t e:TypeId}{fuel:Nat}{v:Value}{x:DataW H×List MemPlace}(ht:P.underlying t=some (.slice e))(he:P.underlying e=some (.int .i64))(hc:P.cellsOf e=1)
  (h:DataW.trod enc P w base spare held fuel t [v]=some x):∃(n:Nat) (g:Nat->Int) (ρ:Rho),v=DM.enc ρ (.sl 0 0 n 1)/\n<=maxLen/\Rep ρ [.ro n 1 (λ j=>.i .i64 (g j))] w:=by
 obtain⟨A,n,c,g,hv,hrow⟩:=in_ints ht he hc h
 let ρ:Rho:=λ _ _=>rvOf n A c
 refine⟨n,g,ρ,?_,hrow.max,?_⟩
 ·rw[hv];exact hrow.slice.symm
 ·have one:∀{r:Nat}{R:Root},[Root.ro n 1 (λ j=>.i .i64 (g j))][r]? =some R->r=0/\R=.ro n 1 (λ j=>.i .i64 (g j)):=λ{r R} h=>by
   cases r with
   |zero=>simp at h;exact⟨rfl,h.symm⟩
   |succ r=>simp at h
  refine⟨λ r d h=>?_,λ r R d q e n s f h1 h2=>?_,λ r R d q e k s f h1 h2 h3 h4=>?_,λ r R q r' R' q' h1 h2 h3=>?_,λ r R d h1 h2=>?_,λ r b l h=>by obtain⟨_,h⟩:=one h;cases h⟩
  ·obtain⟨_,h⟩:=one h;cases h
  ·obtain⟨_,rfl⟩:=one h1;cases h2
  ·obtain⟨rfl,rfl⟩:=one h1
   cases h3
   cases q with
   |nil=>
    simp only[nav,Option.some.injEq,Dat.ow.injEq] at h4
    obtain⟨_,rfl,rfl,rfl⟩:=h4
    exact hrow.ro λ j hj=>rfl
   |cons j q=>
    simp only[nav] at h4
    split at h4
    ·cases q<;>simp[nav] at h4
    ·cases h4
  ·obtain⟨_,rfl⟩:=one h1;cases h3
  ·obtain⟨_,rfl⟩:=one h1
   cases h2
   exact⟨λ j hj=>⟨rfl,trivial⟩,λ j hj=>trivial⟩

end Go.Proofs.YthjnmlpibafbnaaGreat
