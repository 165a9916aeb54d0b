import Derived.Test.YthjnmlpibafbnaaGreatL0
import Derived.Test.YthjnmlpibafbnaaGreatRows
import Derived.WalkKit
import Derived.ProofKit
import Derived.OpenShut
import Derived.ShutString
import Derived.ChangeOld
import Derived.SizedLaws
/-From the rows' own words on inputs to plain data.-/
namespace Go.Proofs.YthjnmlpibafbnaaGreat
open Go.ChangeShapes Go.WideShapes Go.ChangeAt Go.RowKit DM

theorem own:ownKnob Tryz.prog.godebug=none:=by kernel_rfl
theorem laidOut:laidOutB Tryz.prog=true:=by kernel_rfl

theorem cell_int{P:Program}{w:World}{r:Reach}{b:Nat}{t:TypeId}{k:IntKind}{v:Value}(ht:P.underlying t=some (.int k))(h:Cell.okWide P w r b t v):∃n,v=.int k n/\(Lit.int k n).wf=true:=by
 have hv:Value.okWide P w r b t v:=by
  unfold Value.okWide;rw[ht];exact h
 obtain⟨n,rfl⟩:=okWide_int ht hv
 refine⟨n,rfl,?_⟩
 simp only[Cell.okWide,ht,Cell.ok] at h
 simpa[Lit.wf,IntKind.has] using h

theorem wf_u8{n:Int}(h:(Lit.int .u8 n).wf=true):0<=n/\n<256:=by
 simp only[Lit.wf,Bool.and_eq_true,decide_eq_true_eq] at h
 have h1:=h.1
 have h2:=h.2
 simp[IntKind.min,IntKind.max,IntKind.signed,IntKind.bits] at h1 h2
 omega

theorem wf_i64{n:Int}(h:(Lit.int .i64 n).wf=true):-9223372036854775808<=n/\n<=9223372036854775807:=by
 simp only[Lit.wf,Bool.and_eq_true,decide_eq_true_eq] at h
 have h1:=h.1
 have h2:=h.2
 simp[IntKind.min,IntKind.max,IntKind.signed,IntKind.bits] at h1 h2
 omega

/--The cells of an aggregate that came in.-/
theorem open_cells{P:Program}{w:World}{r:Reach}{b:Nat}{t:TypeId}{v:Value}{n:Nat}{ts:List TypeId}(hu:(match P.underlying t with|some (.struct _)|some (.array _ _)=>true|_=>false)=true)(hc:P.cellsOf t=n)(hct:P.cellTypes P.depth t=some ts)(hl:ts.length=n)
  (h:Value.okWide P w r b t v):∃cs:Array Value,v=.agg cs/\cs.size=n/\∀i,i<n->∃u x,ts[i]? =some u/\cs[i]? =some x/\Cell.okWide P w r b u x:=by
 have h':∃cs,v=.agg cs/\cs.size=P.cellsOf t/\Row.okWide P w r b t cs:=by
  unfold Value.okWide at h
  split at h
  ·exact h
  ·exact h
  ·simp_all
 obtain⟨cs,rfl,hs,ts',hct',_,hcell⟩:=h'
 rw[hct] at hct'
 cases hct'
 refine⟨cs,rfl,by omega,λ i hi=>?_⟩
 have hi':i<cs.size:=by omega
 obtain⟨u,h1,h2⟩:=hcell i cs[i] (Array.getElem?_eq_getElem hi')
 rw[Nat.mod_eq_of_lt (by omega)] at h1
 exact⟨u,cs[i],h1,Array.getElem?_eq_getElem hi',h2⟩

/--An array of sixteen bytes that came in.-/
theorem open_places{P:Program}{w:World}{r:Reach}{b:Nat}{t e:TypeId}{v:Value}(hu:P.underlying t=some (.array 16 e))(hc:P.cellsOf t=16)(hct:P.cellTypes P.depth t=some (List.replicate 16 e))(he:P.underlying e=some (.int .u8))
  (h:Value.okWide P w r b t v):∃p:Nat->Nat,(∀i,p i<256)/\v=enc noR (pl p):=by
 obtain⟨cs,rfl,hs,hcell⟩:=open_cells (by rw[hu]) hc hct (by simp) h
 have key:∀i,i<16->∃n:Nat,n<256/\cs[i]? =some (.int .u8 n):=by
  intro i hi
  obtain⟨u,x,h1,h2,h3⟩:=hcell i hi
  have:u=e:=by
   rw[List.getElem?_replicate,if_pos hi] at h1;exact(Option.some.inj h1).symm
  subst this
  obtain⟨n,rfl,hn⟩:=cell_int he h3
  have:=wf_u8 hn
  exact⟨n.toNat,by omega,by rw[h2];congr 2;omega⟩
 refine⟨λ i=>if h:i<16 then Classical.choose (key i h) else 0,λ i=>?_,?_⟩
 ·dsimp only
  split
  ·rename_i h;exact(Classical.choose_spec (key i h)).1
  ·omega
 ·show Value.agg cs=Value.agg (cells noR noA (pl _)).toArray
  rw[cells_pl]
  congr 1
  apply Array.ext'
  apply List.ext_getElem?
  intro i
  by_cases hi:i<16
  ·have h1:=(Classical.choose_spec (key i hi)).2
   have h2:cs.toList[i]? =some (.int .u8 (Classical.choose (key i hi):Nat)):=by simpa using h1
   rw[h2]
   simp[hi]
  ·have h1:cs.toList[i]? =none:=by simp;omega
   rw[h1]
   symm
   rw[List.getElem?_eq_none_iff]
   simp;omega

theorem cells_ds(ρ:Rho)(A:List Nat->RV)(n:Int)(b w:Nat->Nat):cells ρ A (ds_ n b w)=.int .i64 n::(((List.range 16).map λ i=>.int .u8 ((b i:Nat):Int))++((List.range 16).map λ i=>.int .u8 ((w i:Nat):Int))):=by
 show(List.range 3).flatMap (λ i=>cells ρ (λ q=>A (i::q)) (dsf n b w i))=_
 have:List.range 3=[0,1,2]:=rfl
 rw[this]
 simp only[List.flatMap_cons,List.flatMap_nil,List.append_nil]
 show[leaf ρ _ (.i .i64 n)]++(cells ρ _ (pl b)++cells ρ _ (pl w))=_
 rw[cells_pl,cells_pl];rfl

/--Two arrays and a number that came in.-/
theorem open_dessin{P:Program}{w:World}{r:Reach}{b:Nat}{t e0 e:TypeId}{v:Value}(hu:(match P.underlying t with|some (.struct _)|some (.array _ _)=>true|_=>false)=true)(hc:P.cellsOf t=33)(hct:P.cellTypes P.depth t=some (e0::List.replicate 32 e))(he0:P.underlying e0=some (.int .i64))(he:P.underlying e=some (.int .u8))
  (h:Value.okWide P w r b t v):∃(n:Int) (p q:Nat->Nat),(-9223372036854775808<=n/\n<=9223372036854775807)/\(∀i,p i<256)/\(∀i,q i<256)/\v=enc noR (ds_ n p q):=by
 obtain⟨cs,rfl,hs,hcell⟩:=open_cells hu hc hct (by simp) h
 obtain⟨n,hn,h0⟩:∃n:Int,(-9223372036854775808<=n/\n<=9223372036854775807)/\cs[0]? =some (.int .i64 n):=by
  obtain⟨u,x,h1,h2,h3⟩:=hcell 0 (by omega)
  simp only[List.getElem?_cons_zero,Option.some.injEq] at h1
  subst h1
  obtain⟨n,rfl,hn⟩:=cell_int he0 h3
  exact⟨n,wf_i64 hn,h2⟩
 have key:∀i,i<32->∃n:Nat,n<256/\cs[i+1]? =some (.int .u8 n):=by
  intro i hi
  obtain⟨u,x,h1,h2,h3⟩:=hcell (i+1) (by omega)
  have:u=e:=by
   rw[List.getElem?_cons_succ,List.getElem?_replicate,if_pos hi] at h1;exact(Option.some.inj h1).symm
  subst this
  obtain⟨n,rfl,hn⟩:=cell_int he h3
  have:=wf_u8 hn
  exact⟨n.toNat,by omega,by rw[h2];congr 2;omega⟩
 let f:Nat->Nat:=λ i=>if h:i<32 then Classical.choose (key i h) else 0
 have hf:∀i,f i<256:=λ i=>by
  dsimp only[f]
  split
  ·rename_i h;exact(Classical.choose_spec (key i h)).1
  ·omega
 have hg:∀i,i<32->cs[i+1]? =some (.int .u8 (f i:Nat)):=λ i hi=>by
  have h1:=(Classical.choose_spec (key i hi)).2
  rw[h1];simp only[f,hi,dif_pos]
 refine⟨n,f,λ i=>f (i+16),hn,hf,λ i=>hf _,?_⟩
 show Value.agg cs=Value.agg (cells noR noA (ds_ _ _ _)).toArray
 rw[cells_ds]
 congr 1
 apply Array.ext'
 apply List.ext_getElem?
 intro i
 rw[List.toList_toArray,Array.getElem?_toList]
 cases i with
 |zero=>rw[h0];rfl
 |succ i=>
  rw[List.getElem?_cons_succ,List.getElem?_append]
  by_cases h1:i<16
  ·rw[hg i (by omega)]
   simp[h1]
  ·by_cases h2:i<32
   ·rw[hg i h2]
    have e1:i-16+16=i:=by omega
    simp[h1,show i-16<16 by omega,e1]
   ·have h3:cs[i+1]? =none:=by simp;omega
    rw[h3]
    symm
    simp[h1];omega

end Go.Proofs.YthjnmlpibafbnaaGreat
