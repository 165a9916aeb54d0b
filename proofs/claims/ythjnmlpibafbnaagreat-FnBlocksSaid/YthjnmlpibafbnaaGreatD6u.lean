import Derived.Test.YthjnmlpibafbnaaGreatD6
import Derived.Test.YthjnmlpibafbnaaGreatD2s
namespace Go.Proofs.YthjnmlpibafbnaaGreat.DM
open Go.RowKit
theorem Root.navL_cell{R:Root}{q:List Nat}{e:TypeId}{n s:Nat}{f:Nat->Dat}(h:R.navL q=some (.ow e n s f))(hq:q≠[]):∃d,R.con=some d/\nav d q=some (.ow e n s f):=by
 cases R with
 |dead=>simp[Root.navL] at h
 |mp=>simp[Root.navL] at h
 |var d=>
  simp only[Root.navL] at h
  exact⟨d,rfl,navL_nav h⟩
 |row e' n' s' f'=>
  cases q with
  |nil=>simp[Root.navL] at h
  |cons i q=>
   simp only[Root.navL] at h
   split at h
   ·rename_i hi;exact⟨_,rfl,by simp only[nav,if_pos hi];exact navL_nav h⟩
   ·cases h
 |ro n' s' f'=>
  cases q with
  |nil=>simp[Root.navL] at h
  |cons i q=>
   simp only[Root.navL] at h
   split at h
   ·rename_i hi;exact⟨_,rfl,by simp only[nav,if_pos hi];exact navL_nav h⟩
   ·cases h
theorem nav_app:∀{q z:List Nat}{d x y:Dat},nav d q=some x->nav x z=some y->nav d (q++z)=some y
 |[],z,d,x,y,h,h'=>by simp only[nav,Option.some.injEq] at h;subst h;exact h'
 |i::q,z,d,x,y,h,h'=>by
  cases d<;>simp only[nav] at h<;>first|(cases h;done)|skip
  all_goals
   split at h
   ·rename_i hi;simp only[List.cons_append,nav,if_pos hi];exact nav_app h h'
   ·cases h
theorem NoOwn_nav:∀{q:List Nat}{d:Dat}{e:TypeId}{n s:Nat}{f:Nat->Dat},NoOwn d->nav d q=some (.ow e n s f)->e=0/\∀i,i<n->NoOwn (f i)
 |[],d,e,n,s,f,h,hq=>by simp only[nav,Option.some.injEq] at hq;subst hq;exact h
 |i::q,d,e,n,s,f,h,hq=>by
  cases d<;>simp only[nav] at hq<;>first|(cases hq;done)|skip
  case ar n s f=>split at hq;(rename_i hi;exact NoOwn_nav (h i hi) hq);cases hq
  case st n f=>split at hq;(rename_i hi;exact NoOwn_nav (h i hi) hq);cases hq
  case ow=>split at hq;(rename_i hi;exact NoOwn_nav (h.2 i hi) hq);cases hq
def strip:List Nat->List Nat->Option (List Nat)
 |[],z=>some z
 |_::_,[]=>none
 |i::q,j::z=>if j=i then strip q z else none
theorem strip_app:∀(q u:List Nat),strip q (q++u)=some u
 |[],u=>rfl
 |i::q,u=>by simp only[List.cons_append,strip,if_true];exact strip_app q u
theorem strip_nil{q:List Nat}(h:q≠[]):strip q []=none:=by
 cases q with
 |nil=>exact absurd rfl h
 |cons i q=>rfl
theorem RowOK.cells{ρ ρ':Rho}{w:World}{v:RV}{A A':List Nat->RV}{e:TypeId}{n s:Nat}{f f':Nat->Dat}(h:RowOK ρ w v A e n s f)(hc:DM.cells ρ' A' (.ar n s f')=DM.cells ρ A (.ar n s f)):RowOK ρ' w v A' e n s f':=by
 obtain⟨blk,h1,h2,h3,h4,h5,h6,h7⟩:=h
 exact⟨blk,h1,h2,h3,h4,h5,h6,by rw[h7,hc]⟩
theorem RoOK.cells{ρ ρ':Rho}{w:World}{v:RV}{A A':List Nat->RV}{n s:Nat}{f f':Nat->Dat}(h:RoOK ρ w v A n s f)(hc:DM.cells ρ' A' (.ar n s f')=DM.cells ρ A (.ar n s f)):RoOK ρ' w v A' n s f':=by
 rcases h with h|⟨h1,h2,h3,h4,h5⟩
 ·exact .inl h
 ·exact .inr ⟨h1,h2,h3,h4,by rw[hc];exact h5⟩
theorem sw_cells{n:Nat}{ρ ρ':Rho}(hρ:∀r,r<n->ρ' r []=ρ r []){x y:Dat}:∀(q:List Nat) (d:Dat) (A A':List Nat->RV),Sc n d->navL d q=some x->(∀z,strip q z=none->A' z=A z)->
  DM.cells ρ' (λ z=>A' (q++z)) y=DM.cells ρ (λ z=>A (q++z)) x->DM.cells ρ' A' (upd d q y)=DM.cells ρ A d
 |[],d,A,A',_,h,_,hc=>by
  simp only[navL,Option.some.injEq] at h
  subst h
  simpa only[upd,List.nil_append] using hc
 |i::q,d,A,A',hs,h,ha,hc=>by
  have key:∀(k:Nat) (f:Nat->Dat),(∀j,j<k->Sc n (f j))->navL (f i) q=some x->
    ((List.range k).flatMap λ j=>DM.cells ρ' (λ z=>A' (j::z)) (fup f i (upd (f i) q y) j))=(List.range k).flatMap λ j=>DM.cells ρ (λ z=>A (j::z)) (f j):=by
   intro k f hs h
   refine flatMap_congr λ j hj=>?_
   have hj:=List.mem_range.1 hj
   by_cases e:j=i
   ·subst e
    rw[fup_same]
    refine sw_cells hρ q (f j) (λ z=>A (j::z)) (λ z=>A' (j::z)) (hs j hj) h (λ z hz=>ha _ ?_) hc
    simp only[strip,if_true];exact hz
   ·rw[fup_ne _ _ e]
    have:(λ z=>A' (j::z))=λ z=>A (j::z):=funext λ z=>ha _ (by simp only[strip,if_neg e])
    rw[this]
    exact cells_congr hρ _ _ (hs j hj)
  cases d
  case ar k t f=>
   simp only[navL] at h
   split at h
   ·exact key k f hs h
   ·cases h
  case st k f=>
   simp only[navL] at h
   split at h
   ·exact key k f hs h
   ·cases h
  all_goals (simp only[navL] at h;cases h)
theorem sw_nav{x y:Dat}{e:TypeId}{n s:Nat}{f:Nat->Dat}:∀{q:List Nat}{d:Dat}{z:List Nat},navL d q=some x->nav (upd d q y) z=some (.ow e n s f)->
  (strip q z=none/\nav d z=some (.ow e n s f)/\∀u,strip q (z++u)=none)\/∃u,z=q++u/\nav y u=some (.ow e n s f)
 |[],d,z,_,h=>.inr ⟨z,rfl,by simpa only[upd] using h⟩
 |i::q,d,z,hx,h=>by
  have key:∀(k:Nat) (g:Nat->Dat) (j:Nat) (z:List Nat),j<k->navL (g i) q=some x->nav (fup g i (upd (g i) q y) j) z=some (.ow e n s f)->
    (strip (i::q) (j::z)=none/\nav (g j) z=some (.ow e n s f)/\∀u,strip (i::q) (j::z++u)=none)\/∃u,j::z=i::q++u/\nav y u=some (.ow e n s f):=by
   intro k g j z hj hx h
   by_cases e1:j=i
   ·subst e1
    rw[fup_same] at h
    rcases sw_nav hx h with⟨h1,h2,h3⟩|⟨u,h1,h2⟩
    ·refine .inl ⟨by simp only[strip,if_true];exact h1,h2,λ u=>?_⟩
     simp only[List.cons_append,strip,if_true];exact h3 u
    ·exact .inr ⟨u,by rw[h1];rfl,h2⟩
   ·rw[fup_ne _ _ e1] at h
    exact .inl ⟨by simp only[strip,if_neg e1],h,λ u=>by simp only[List.cons_append,strip,if_neg e1]⟩
  cases d
  case ar k t g=>
   simp only[upd] at h
   simp only[navL] at hx
   split at hx
   ·cases z with
    |nil=>simp[nav] at h
    |cons j z=>
     simp only[nav] at h ⊢
     split at h
     ·rename_i hj
      rw[if_pos hj]
      exact key k g j z hj hx h
     ·cases h
   ·cases hx
  case st k g=>
   simp only[upd] at h
   simp only[navL] at hx
   split at hx
   ·cases z with
    |nil=>simp[nav] at h
    |cons j z=>
     simp only[nav] at h ⊢
     split at h
     ·rename_i hj
      rw[if_pos hj]
      exact key k g j z hj hx h
     ·cases h
   ·cases hx
  all_goals (simp only[navL] at hx;cases hx)
theorem nav_con{R:Root}{c D:Dat}(hc:R.con=some c)(hD:R.flat=some D){z:List Nat}(hz:z≠[]):nav c z=nav D z:=by
 obtain⟨i,z,rfl⟩:∃i z',z=i::z':=by cases z with|nil=>exact absurd rfl hz|cons i z=>exact⟨i,z,rfl⟩
 cases R<;>first|(cases hc;done)|(cases hD;done)|(cases hc;cases hD;rfl)
theorem mine_cases{R:Root}(hm:R.mine=true){D:Dat}(hD:R.flat=some D):(∃d,R=.var d)\/∃e n s f,R=.row e n s f:=by
 cases R<;>first|exact .inl ⟨_,rfl⟩|exact .inr ⟨_,_,_,_,rfl⟩|(cases hm;done)|cases hD
def foldR(ρ:Rho)(k:Nat)(q:List Nat)(r:Nat):Rho:=λ a z=>if a=k then(match strip q z with
 |some u=>ρ r u
 |none=>ρ a z) else ρ a z
section
variable {ρ:Rho}{m:List Root}{w:World}{k r:Nat}{R Rr:Root}{q:List Nat}{e len n' s:Nat}{g:Nat->Dat}
def FoldOK(m:List Root)(k r e len n' s:Nat)(g:Nat->Dat):Prop:=
 len<=n'/\((e=0/\m[r]? =some (.ro n' s g)/\∀j,j<len->NoOwn (g j))\/(e≠0/\r≠k/\m[r]? =some (.row e n' s g)))
def foldM(m:List Root)(k r e len s:Nat)(R:Root)(q:List Nat)(g:Nat->Dat):List Root:=
 (match e with
  |0=>m
  |_+1=>m.set r .dead).set k (R.upd q (.ow e len s g))
theorem foldM_len:(foldM m k r e len s R q g).length=m.length:=by
 unfold foldM;split<;>simp
theorem foldM_get{a:Nat}{X:Root}(h:(foldM m k r e len s R q g)[a]? =some X):(a=k/\X=R.upd q (.ow e len s g)/\k<m.length)\/(a≠k/\(X=.dead\/(m[a]? =some X/\(e≠0->a≠r)))):=by
 unfold foldM at h
 rcases set_get h with⟨h1,h2,h3⟩|⟨h1,h2⟩
 ·refine .inl ⟨h1,h2,?_⟩
  split at h3<;>simpa using h3
 ·refine .inr ⟨h1,?_⟩
  split at h2
  ·exact .inr ⟨h2,λ h=>absurd rfl h⟩
  ·rcases set_get h2 with⟨_,h3,_⟩|⟨h3,h4⟩
   ·exact .inl h3
   ·exact .inr ⟨h4,λ _=>h3⟩
theorem upd_mine(hm:R.mine=true){y:Dat}:(R.upd q y).mine=true:=by
 cases R<;>first|(cases hm;done)|rfl|(cases q<;>rfl)
theorem Rep.fold(h:Rep ρ m w)(hk:m[k]? =some R)(hm:R.mine=true)(hq:q≠[])(hn:R.navL q=some (.sl r 0 len s))(hok:FoldOK m k r e len n' s g):
  Rep (foldR ρ k q r) (foldM m k r e len s R q g) w/\∀K,TrK K ρ m w (foldR ρ k q r) (foldM m k r e len s R q g) w:=by
 obtain⟨hlen,hkind⟩:=hok
 obtain⟨D,hD,hnD,_,hup⟩:=Root.flat_nav hn
 have hup:=hup hm (.ow e len s g)
 have hm':(R.upd q (.ow e len s g)).mine=true:=upd_mine hm
 obtain⟨c,hc⟩:=con_of_flat hD
 obtain⟨c',hc'⟩:=con_of_flat hup
 have h0:∀a,foldR ρ k q r a []=ρ a []:=λ a=>by unfold foldR;rw[strip_nil hq];split<;>rfl
 have hne:∀{a:Nat},a≠k->foldR ρ k q r a=ρ a:=λ{a} ha=>by funext z;unfold foldR;rw[if_neg ha]
 have hin:∀u,foldR ρ k q r k (q++u)=ρ r u:=λ u=>by unfold foldR;rw[if_pos rfl,strip_app]
 have hout:∀z,strip q z=none->foldR ρ k q r k z=ρ k z:=λ z hz=>by unfold foldR;rw[if_pos rfl,hz]
 have hrR:∃X d,m[r]? =some X/\X.con=some d/\∃e1,d=.ow e1 n' s g/\(e≠0->X.mine=true/\e1=e/\r≠k)/\(e=0->X.mine=false/\(∀j,j<len->NoOwn (g j))):=by
  rcases hkind with⟨h1,h2,h3⟩|⟨h1,h2,h3⟩
  ·exact⟨_,_,h2,rfl,0,rfl,λ h=>absurd h1 h,λ _=>⟨rfl,h3⟩⟩
  ·exact⟨_,_,h3,rfl,e,rfl,λ _=>⟨rfl,rfl,h2⟩,λ h=>absurd h h1⟩
 obtain⟨X,d,hX,hXc,e1,rfl,hown,hrd⟩:=hrR
 have hscD:Sc m.length D:=by
  have:=(h.wf k R c hk hc).2
  cases R<;>first|(cases hc;done)|(cases hD;done)|(cases hc;cases hD;exact this)
 have hwX:=h.wf r X _ hX hXc
 have scow:∀{a:Nat}{Y:Root}{d:Dat}{z:List Nat}{e':TypeId}{n1 s1:Nat}{f1:Nat->Dat},m[a]? =some Y->Y.con=some d->nav d z=some (.ow e' n1 s1 f1)->Sc m.length (.ar n1 s1 f1):=
  λ{_ _ _ _ e' n1 s1 f1} h1 h2 h3=>show Sc m.length (.ow e' n1 s1 f1) from sc_nav h3 (h.wf _ _ _ h1 h2).2
 have hρ:∀a,a<m.length->foldR ρ k q r a []=ρ a []:=λ a _=>h0 a
 have hcells:DM.cells (foldR ρ k q r) (foldR ρ k q r k) (DM.upd D q (.ow e len s g))=DM.cells ρ (ρ k) D:=by
  refine sw_cells hρ q D (ρ k) (foldR ρ k q r k) hscD hnD hout ?_
  simp only[DM.cells,leaf]
  rw[hin []]
 --rows inside what was put at q
 have inRow:∀{u:List Nat}{e':TypeId}{n1 s1:Nat}{f1:Nat->Dat},nav (.ow e len s g) u=some (.ow e' n1 s1 f1)->e'≠0->RowOK (foldR ρ k q r) w (foldR ρ k q r k (q++u)) (λ z=>foldR ρ k q r k ((q++u)++z)) e' n1 s1 f1:=by
  intro u e' n1 s1 f1 hu he'
  have e3:(λ z=>foldR ρ k q r k ((q++u)++z))=λ z=>ρ r (u++z):=funext λ z=>by rw[List.append_assoc,hin]
  rw[e3,hin]
  have he:e≠0:=by
   intro he
   cases u with
   |nil=>simp only[nav,Option.some.injEq,Dat.ow.injEq] at hu;exact he' (hu.1▸he)
   |cons j u=>
    simp only[nav] at hu
    split at hu
    ·rename_i hj;exact he' (NoOwn_nav ((hrd he).2 j hj) hu).1
    ·cases hu
  obtain⟨hXm,hee,_⟩:=hown he
  cases u with
  |nil=>
   simp only[nav,Option.some.injEq,Dat.ow.injEq] at hu
   obtain⟨rfl,rfl,rfl,rfl⟩:=hu
   have:=h.row r X _ [] e1 n' s g hX hXm hXc rfl (.inl rfl)
   rw[hee] at this
   exact(this.pre hwX.1 hlen (λ _ _=>rfl)).rho hρ (λ i hi=>hwX.2 i (by omega))
  |cons j u=>
   have hu':nav (.ow e1 n' s g) (j::u)=some (.ow e' n1 s1 f1):=by
    simp only[nav] at hu ⊢
    split at hu
    ·rename_i hj;rw[if_pos (by omega)];exact hu
    ·cases hu
   exact(h.row r X _ (j::u) e' n1 s1 f1 hX hXm hXc hu' (.inr he')).rho hρ (scow hX hXc hu')
 have inRo:∀{u:List Nat}{n1 s1:Nat}{f1:Nat->Dat},nav (.ow e len s g) u=some (.ow 0 n1 s1 f1)->RoOK (foldR ρ k q r) w (foldR ρ k q r k (q++u)) (λ z=>foldR ρ k q r k ((q++u)++z)) n1 s1 f1:=by
  intro u n1 s1 f1 hu
  have e3:(λ z=>foldR ρ k q r k ((q++u)++z))=λ z=>ρ r (u++z):=funext λ z=>by rw[List.append_assoc,hin]
  rw[e3,hin]
  cases u with
  |nil=>
   simp only[nav,Option.some.injEq,Dat.ow.injEq] at hu
   obtain⟨rfl,rfl,rfl,rfl⟩:=hu
   exact((h.ro r X _ [] e1 n' s g hX (.inl (hrd rfl).1) hXc rfl).pre hwX.1 hlen (λ _ _=>rfl)).rho hρ (λ i hi=>hwX.2 i (by omega))
  |cons j u=>
   have hu':nav (.ow e1 n' s g) (j::u)=some (.ow 0 n1 s1 f1):=by
    simp only[nav] at hu ⊢
    split at hu
    ·rename_i hj;rw[if_pos (by omega)];exact hu
    ·cases hu
   exact(h.ro r X _ (j::u) 0 n1 s1 f1 hX (.inr ⟨by simp,rfl⟩) hXc hu').rho hρ (scow hX hXc hu')
 --where a place of the new root lay
 have src:∀{z:List Nat},At (R.upd q (.ow e len s g)) z->(strip q z=none/\At R z/\foldR ρ k q r k z=ρ k z)\/∃u,z=q++u/\At X u/\foldR ρ k q r k z=ρ r u:=by
  intro z ha
  by_cases hz:z=[]
  ·subst hz
   exact .inl ⟨strip_nil hq,.inl ⟨rfl,by rw[hc];rfl⟩,h0 k⟩
  ·rcases ha with⟨h1,_⟩|⟨d,e',n1,s1,f1,h1,h2⟩
   ·exact absurd h1 hz
   ·rw[nav_con h1 hup hz] at h2
    rcases sw_nav hnD h2 with⟨g1,g2,g3⟩|⟨u,g1,g2⟩
    ·refine .inl ⟨g1,.inr ⟨c,e',n1,s1,f1,hc,?_⟩,hout z g1⟩
     rw[nav_con hc hD hz];exact g2
    ·refine .inr ⟨u,g1,?_,by rw[g1,hin]⟩
     cases u with
     |nil=>exact .inl ⟨rfl,by rw[hXc];rfl⟩
     |cons j u=>
      refine .inr ⟨_,e',n1,s1,f1,hXc,?_⟩
      simp only[nav] at g2 ⊢
      split at g2
      ·rename_i hj;rw[if_pos (by omega)];exact g2
      ·cases g2
 have srcO:∀{z:List Nat},AtO (R.upd q (.ow e len s g)) z->(strip q z=none/\AtO R z/\foldR ρ k q r k z=ρ k z)\/∃u,z=q++u/\AtO X u/\X.mine=true/\r≠k/\e≠0/\foldR ρ k q r k z=ρ r u:=by
  intro z ha
  by_cases hz:z=[]
  ·subst hz
   exact .inl ⟨strip_nil hq,.inl ⟨rfl,by rw[hc];rfl⟩,h0 k⟩
  ·rcases ha with⟨h1,_⟩|⟨d,e',n1,s1,f1,h1,h2,h3⟩
   ·exact absurd h1 hz
   ·rw[nav_con h1 hup hz] at h2
    rcases sw_nav hnD h2 with⟨g1,g2,g3⟩|⟨u,g1,g2⟩
    ·refine .inl ⟨g1,.inr ⟨c,e',n1,s1,f1,hc,?_,h3⟩,hout z g1⟩
     rw[nav_con hc hD hz];exact g2
    ·have he:e≠0:=by
      intro he
      cases u with
      |nil=>simp only[nav,Option.some.injEq,Dat.ow.injEq] at g2;exact h3 (g2.1▸he)
      |cons j u=>
       simp only[nav] at g2
       split at g2
       ·rename_i hj;exact h3 (NoOwn_nav ((hrd he).2 j hj) g2).1
       ·cases g2
     obtain⟨hXm,_,hrk⟩:=hown he
     refine .inr ⟨u,g1,?_,hXm,hrk,he,by rw[g1,hin]⟩
     cases u with
     |nil=>exact .inl ⟨rfl,by rw[hXc];rfl⟩
     |cons j u=>
      refine .inr ⟨_,e',n1,s1,f1,hXc,?_,h3⟩
      simp only[nav] at g2 ⊢
      split at g2
      ·rename_i hj;rw[if_pos (by omega)];exact g2
      ·cases g2
 --every place of the new memory
 have place:∀{a:Nat}{Y:Root}{z:List Nat},(foldM m k r e len s R q g)[a]? =some Y->At Y z->∃(a0:Nat) (Y0:Root) (z0:List Nat),m[a0]? =some Y0/\At Y0 z0/\foldR ρ k q r a z=ρ a0 z0/\((a≠k/\a0=a/\z0=z/\(e≠0->a≠r))\/(a=k/\a0=k/\z0=z/\strip q z=none)\/(a=k/\a0=r/\z=q++z0)):=by
  intro a Y z ha hz
  rcases foldM_get ha with⟨rfl,rfl,_⟩|⟨h1,rfl|⟨h2,h3⟩⟩
  ·rcases src hz with⟨g1,g2,g3⟩|⟨u,g1,g2,g3⟩
   ·exact⟨a,R,z,hk,g2,g3,.inr (.inl ⟨rfl,rfl,rfl,g1⟩)⟩
   ·exact⟨r,X,u,hX,g2,g3,.inr (.inr ⟨rfl,rfl,g1⟩)⟩
  ·exact absurd rfl hz.ne
  ·exact⟨a,Y,z,h2,hz,by rw[hne h1],.inl ⟨h1,rfl,rfl,h3⟩⟩
 have placeO:∀{a:Nat}{Y:Root}{z:List Nat},(foldM m k r e len s R q g)[a]? =some Y->Y.mine=true->AtO Y z->∃(a0:Nat) (Y0:Root) (z0:List Nat),m[a0]? =some Y0/\Y0.mine=true/\AtO Y0 z0/\foldR ρ k q r a z=ρ a0 z0/\((a≠k/\a0=a/\z0=z/\(e≠0->a≠r))\/(a=k/\a0=k/\z0=z/\strip q z=none)\/(a=k/\a0=r/\z=q++z0/\r≠k/\e≠0)):=by
  intro a Y z ha hY hz
  rcases foldM_get ha with⟨rfl,rfl,_⟩|⟨h1,rfl|⟨h2,h3⟩⟩
  ·rcases srcO hz with⟨g1,g2,g3⟩|⟨u,g1,g2,g4,g5,g6,g3⟩
   ·exact⟨a,R,z,hk,hm,g2,g3,.inr (.inl ⟨rfl,rfl,rfl,g1⟩)⟩
   ·exact⟨r,X,u,hX,g4,g2,g3,.inr (.inr ⟨rfl,rfl,g1,g5,g6⟩)⟩
  ·cases hY
  ·exact⟨a,Y,z,h2,hY,hz,by rw[hne h1],.inl ⟨h1,rfl,rfl,h3⟩⟩
 refine⟨⟨λ a d ha=>?_,λ a Y d z e' n1 s1 f1 ha h2 h3 h4 h5=>?_,λ a Y d z e' n1 s1 f1 ha h2 h3 h4=>?_,λ a Y z a' Y' z' ha ha' h3 h4 h5 h6 h7=>?_,λ a Y d ha h2=>?_,λ a b l ha=>by
  rcases foldM_get ha with⟨rfl,h1,_⟩|⟨h1,h2|⟨h2,_⟩⟩
  ·rcases mine_cases hm hD with⟨d0,rfl⟩|⟨_,_,_,_,rfl⟩
   ·cases h1
   ·cases q<;>cases h1
  ·cases h2
  ·rw[hne h1];exact h.mp a b l h2⟩,λ K=>⟨rfl,rfl,Nat.le_refl _,rfl,Nat.le_refl _,λ a _=>h0 a,λ _ _ _=>rfl,λ a Y z ha h2 h3=>?_,λ a Y z ha h2 h3=>?_⟩⟩
 ·rcases foldM_get ha with⟨rfl,h1,_⟩|⟨h1,h2|⟨h2,_⟩⟩
  ·rcases mine_cases hm hD with⟨d0,rfl⟩|⟨_,_,_,_,rfl⟩
   ·cases hD
    cases h1
    rw[h0]
    obtain⟨blk,t,g1,g2,g3,g4⟩:=h.var a D hk
    exact⟨blk,t,g1,g2,g3,by rw[g4];exact hcells.symm⟩
   ·cases q<;>cases h1
  ·cases h2
  ·rw[hne h1]
   exact(h.var a d h2).rho hρ (h.wf a _ d h2 rfl).2
 ·rcases foldM_get ha with⟨rfl,rfl,_⟩|⟨h1,h6|⟨h6,_⟩⟩
  ·by_cases hz:z=[]
   ·subst hz
    rcases mine_cases hm hD with⟨d0,rfl⟩|⟨e0,n0,s0,f0,rfl⟩
    ·cases hD
     cases h3
     exfalso
     obtain⟨i,q',rfl⟩:∃i z',q=i::z':=by cases q with|nil=>exact absurd rfl hq|cons i z=>exact⟨i,z,rfl⟩
     cases D<;>first|(simp only[navL] at hnD;cases hnD;done)|(simp[DM.upd,nav] at h4)
    ·cases hD
     obtain⟨i,q',rfl⟩:∃i z',q=i::z':=by cases q with|nil=>exact absurd rfl hq|cons i z=>exact⟨i,z,rfl⟩
     cases h3
     simp only[nav,Option.some.injEq,Dat.ow.injEq] at h4
     obtain⟨rfl,rfl,rfl,rfl⟩:=h4
     rw[h0]
     exact(h.row a _ _ [] _ _ _ _ hk rfl rfl rfl (.inl rfl)).cells hcells
   ·rw[nav_con h3 hup hz] at h4
    rcases sw_nav hnD h4 with⟨g1,g2,g3⟩|⟨u,rfl,g2⟩
    ·have e3:(λ y=>foldR ρ a q r a (z++y))=λ y=>ρ a (z++y):=funext λ y=>hout _ (g3 y)
     rw[e3,hout z g1]
     rw[<-nav_con hc hD hz] at g2
     exact(h.row a R c z e' n1 s1 f1 hk hm hc g2 h5).rho hρ (scow hk hc g2)
    ·exact inRow g2 (h5.resolve_left hz)
  ·rw[h6] at h2;cases h2
  ·rw[hne h1]
   exact(h.row a Y d z e' n1 s1 f1 h6 h2 h3 h4 h5).rho hρ (scow h6 h3 h4)
 ·rcases foldM_get ha with⟨rfl,rfl,_⟩|⟨h1,h6|⟨h6,_⟩⟩
  ·obtain⟨hz,rfl⟩:=h2.resolve_left (λ h=>by rw[hm'] at h;cases h)
   rw[nav_con h3 hup hz] at h4
   rcases sw_nav hnD h4 with⟨g1,g2,g3⟩|⟨u,rfl,g2⟩
   ·have e3:(λ y=>foldR ρ a q r a (z++y))=λ y=>ρ a (z++y):=funext λ y=>hout _ (g3 y)
    rw[e3,hout z g1]
    rw[<-nav_con hc hD hz] at g2
    exact(h.ro a R c z 0 n1 s1 f1 hk (.inr ⟨hz,rfl⟩) hc g2).rho hρ (scow hk hc g2)
   ·exact inRo g2
  ·rw[h6] at h3;cases h3
  ·rw[hne h1]
   exact(h.ro a Y d z e' n1 s1 f1 h6 h2 h3 h4).rho hρ (scow h6 h3 h4)
 ·obtain⟨a0,Y0,z0,g1,g2,g3,g4,g5⟩:=placeO ha h3 h4
  obtain⟨a1,Y1,z1,k1,k2,k3,k4⟩:=place ha' h5
  rw[g4,k3]
  rw[k3] at h6
  refine h.sep a0 Y0 z0 a1 Y1 z1 g1 k1 g2 g3 k2 h6 (λ e5 e6=>?_)
  subst e5 e6
  rcases g5 with⟨x1,x2,x3,x4⟩|⟨x1,x2,x3,x4⟩|⟨x1,x2,x3,x4,x5⟩<;>rcases k4 with⟨y1,y2,y3,y4⟩|⟨y1,y2,y3,y4⟩|⟨y1,y2,y3⟩
  ·exact h7 (x2.symm.trans y2) (x3.symm.trans y3)
  ·exact x1 (x2.symm.trans y2)
  ·have e7:a0=r:=y2
   by_cases he:e=0
   ·rw[e7,hX] at g1
    rw[<-Option.some.inj g1,(hrd he).1] at g2;cases g2
   ·exact x4 he (x2.symm.trans e7)
  ·exact y1 (y2.symm.trans x2)
  ·exact h7 (x1.trans y1.symm) (x3.symm.trans y3)
  ·have e7:r=k:=y2.symm.trans x2
   by_cases he:e=0
   ·rw[x2, <-e7,hX] at g1
    rw[<-Option.some.inj g1,(hrd he).1] at g2;cases g2
   ·exact(hown he).2.2 e7
  ·exact y4 x5 (y2.symm.trans x2)
  ·exact x4 (x2.symm.trans y2)
  ·exact h7 (x1.trans y1.symm) (x3.trans y3.symm)
 ·rw[foldM_len]
  rcases foldM_get ha with⟨rfl,rfl,_⟩|⟨h1,rfl|⟨h3,_⟩⟩
  ·have hwc:=h.wf a R c hk hc
   have hwD:WF D:=wf_flat hc hD hwc.1
   obtain⟨_,_,_,_,_,_,hu⟩:=focus_cells ρ (A:=ρ a) hwD hnD
   have hwy:WF (.ow e len s g):=λ j hj=>hwX.1 j (by omega)
   have hscy:Sc m.length (.ow e len s g):=λ j hj=>hwX.2 j (by omega)
   obtain⟨u1,u2⟩:=hu _ hwy rfl
   have u3:Sc m.length (DM.upd D q (.ow e len s g)):=sc_upd hscy hscD
   rcases mine_cases hm hD with⟨d0,rfl⟩|⟨e0,n0,s0,f0,rfl⟩
   ·cases hD;cases h2;exact⟨u1,u3⟩
   ·obtain⟨i,q',rfl⟩:∃i z',q=i::z':=by cases q with|nil=>exact absurd rfl hq|cons i z=>exact⟨i,z,rfl⟩
    cases hD;cases h2;exact⟨u1,u3⟩
  ·cases h2
  ·exact h.wf a Y d h3 h2
 ·obtain⟨a0,Y0,z0,g1,g2,g3,g4,_⟩:=placeO ha h2 h3
  exact .inr ⟨a0,Y0,z0,g1,g2,g3,by rw[g4]⟩
 ·obtain⟨a0,Y0,z0,g1,g2,g3,_⟩:=place ha h2
  rw[g3] at h3 ⊢
  exact .inr ⟨a0,Y0,z0,g1,g2,h3,rfl⟩
end
section
variable {ρ:Rho}{m:List Root}{w:World}{k:Nat}{R:Root}{q:List Nat}{e len s:Nat}{g:Nat->Dat}
def unfoldM(m:List Root)(k e len s:Nat)(R:Root)(q:List Nat)(g:Nat->Dat):List Root:=m.set k (R.upd q (.sl m.length 0 len s))++[.row e len s g]
theorem Rep.unfold(h:Rep ρ m w)(hk:m[k]? =some R)(hm:R.mine=true)(hq:q≠[])(hn:R.navL q=some (.ow e len s g))(he:e≠0):
  Rep (ext ρ m.length (λ z=>ρ k (q++z))) (unfoldM m k e len s R q g) w/\∀K,K<=m.length->TrK K ρ m w (ext ρ m.length (λ z=>ρ k (q++z))) (unfoldM m k e len s R q g) w:=by
 obtain⟨D,hD,hnD,_,hup⟩:=Root.flat_nav hn
 have hup:=hup hm (.sl m.length 0 len s)
 have hm':(R.upd q (.sl m.length 0 len s)).mine=true:=upd_mine hm
 obtain⟨c,hc⟩:=con_of_flat hD
 obtain⟨c',hc'⟩:=con_of_flat hup
 have hkl:k<m.length:=(List.getElem?_eq_some_iff.1 hk).1
 have hne:∀{a:Nat},a<m.length->ext ρ m.length (λ z=>ρ k (q++z)) a=ρ a:=λ{a} ha=>ext_ne ρ _ (by omega)
 have hnw:ext ρ m.length (λ z=>ρ k (q++z)) m.length=λ z=>ρ k (q++z):=ext_same ρ _ _
 generalize hρ':ext ρ m.length (λ z=>ρ k (q++z))=ρ' at hne hnw
 have hρ:∀a,a<m.length->ρ' a []=ρ a []:=λ a ha=>by rw[hne ha]
 have hwc:=h.wf k R c hk hc
 have hscD:Sc m.length D:=by
  cases R<;>first|(cases hc;done)|(cases hD;done)|(cases hc;cases hD;exact hwc.2)
 have hwD:WF D:=wf_flat hc hD hwc.1
 have hcq:nav c q=some (.ow e len s g):=by rw[nav_con hc hD hq];exact navL_nav hnD
 have hcells:DM.cells ρ' (ρ' k) (DM.upd D q (.sl m.length 0 len s))=DM.cells ρ (ρ k) D:=by
  refine sw_cells hρ q D (ρ k) (ρ' k) hscD hnD (λ z _=>by rw[hne hkl]) ?_
  simp only[DM.cells,leaf]
  rw[hnw]
 have scow:∀{a:Nat}{Y:Root}{d:Dat}{z:List Nat}{e':TypeId}{n1 s1:Nat}{f1:Nat->Dat},m[a]? =some Y->Y.con=some d->nav d z=some (.ow e' n1 s1 f1)->Sc m.length (.ar n1 s1 f1):=
  λ{_ _ _ _ e' n1 s1 f1} h1 h2 h3=>show Sc m.length (.ow e' n1 s1 f1) from sc_nav h3 (h.wf _ _ _ h1 h2).2
 have get:∀{a:Nat}{Y:Root},(unfoldM m k e len s R q g)[a]? =some Y->(a=m.length/\Y=.row e len s g)\/(a=k/\Y=R.upd q (.sl m.length 0 len s))\/(a≠k/\a<m.length/\m[a]? =some Y):=by
  intro a Y ha
  unfold unfoldM at ha
  rcases snoc_get ha with⟨h1,h2⟩|⟨h1,h2⟩
  ·rcases set_get h2 with⟨h3,h4,_⟩|⟨h3,h4⟩
   ·exact .inr (.inl ⟨h3,h4⟩)
   ·exact .inr (.inr ⟨h3,by simpa using h1,h4⟩)
  ·exact .inl ⟨by simpa using h1,h2⟩
 have inr:∀{z:List Nat}{e':TypeId}{n1 s1:Nat}{f1:Nat->Dat},z≠[]->nav c' z=some (.ow e' n1 s1 f1)->strip q z=none/\nav c z=some (.ow e' n1 s1 f1):=by
  intro z e' n1 s1 f1 hz hz2
  rw[nav_con hc' hup hz] at hz2
  rcases sw_nav hnD hz2 with⟨g1,g2,_⟩|⟨u,g1,g2⟩
  ·exact⟨g1,by rw[nav_con hc hD hz];exact g2⟩
  ·cases u<;>simp[nav] at g2
 have innew:∀{u:List Nat}{e':TypeId}{n1 s1:Nat}{f1:Nat->Dat},nav (.ow e len s g) u=some (.ow e' n1 s1 f1)->nav c (q++u)=some (.ow e' n1 s1 f1):=λ hu=>nav_app hcq hu
 have place:∀{a:Nat}{Y:Root}{z:List Nat},(unfoldM m k e len s R q g)[a]? =some Y->At Y z->∃(a0:Nat) (Y0:Root) (z0:List Nat),m[a0]? =some Y0/\At Y0 z0/\ρ' a z=ρ a0 z0/\((a=m.length/\a0=k/\z0=q++z)\/(a=k/\a0=k/\z0=z/\strip q z=none)\/(a≠k/\a<m.length/\a0=a/\z0=z)):=by
  intro a Y z ha hz
  rcases get ha with⟨rfl,rfl⟩|⟨rfl,rfl⟩|⟨h1,h2,h3⟩
  ·refine⟨k,R,q++z,hk,?_,by rw[hnw],.inl ⟨rfl,rfl,rfl⟩⟩
   rcases hz with⟨rfl,_⟩|⟨d,e',n1,s1,f1,g1,g2⟩
   ·exact .inr ⟨c,e,len,s,g,hc,by rw[List.append_nil];exact hcq⟩
   ·cases g1;exact .inr ⟨c,e',n1,s1,f1,hc,innew g2⟩
  ·refine⟨a,R,z,hk,?_,by rw[hne hkl],.inr (.inl ⟨rfl,rfl,rfl,?_⟩)⟩
   ·rcases hz with⟨rfl,_⟩|⟨d,e',n1,s1,f1,g1,g2⟩
    ·exact .inl ⟨rfl,by rw[hc];rfl⟩
    ·rw[hc'] at g1;cases g1
     by_cases hz:z=[]
     ·subst hz;exact .inl ⟨rfl,by rw[hc];rfl⟩
     ·exact .inr ⟨c,e',n1,s1,f1,hc,(inr hz g2).2⟩
   ·by_cases hz':z=[]
    ·subst hz';exact strip_nil hq
    ·rcases hz with⟨g0,_⟩|⟨d,e',n1,s1,f1,g1,g2⟩
     ·exact absurd g0 hz'
     ·rw[hc'] at g1;cases g1
      exact(inr hz' g2).1
  ·exact⟨a,Y,z,h3,hz,by rw[hne h2],.inr (.inr ⟨h1,h2,rfl,rfl⟩)⟩
 have placeO:∀{a:Nat}{Y:Root}{z:List Nat},(unfoldM m k e len s R q g)[a]? =some Y->Y.mine=true->AtO Y z->∃(a0:Nat) (Y0:Root) (z0:List Nat),m[a0]? =some Y0/\Y0.mine=true/\AtO Y0 z0/\ρ' a z=ρ a0 z0/\((a=m.length/\a0=k/\z0=q++z)\/(a=k/\a0=k/\z0=z/\strip q z=none)\/(a≠k/\a<m.length/\a0=a/\z0=z)):=by
  intro a Y z ha hY hz
  rcases get ha with⟨rfl,rfl⟩|⟨rfl,rfl⟩|⟨h1,h2,h3⟩
  ·refine⟨k,R,q++z,hk,hm,?_,by rw[hnw],.inl ⟨rfl,rfl,rfl⟩⟩
   rcases hz with⟨rfl,_⟩|⟨d,e',n1,s1,f1,g1,g2,g3⟩
   ·exact .inr ⟨c,e,len,s,g,hc,by rw[List.append_nil];exact hcq,he⟩
   ·cases g1;exact .inr ⟨c,e',n1,s1,f1,hc,innew g2,g3⟩
  ·refine⟨a,R,z,hk,hm,?_,by rw[hne hkl],.inr (.inl ⟨rfl,rfl,rfl,?_⟩)⟩
   ·rcases hz with⟨rfl,_⟩|⟨d,e',n1,s1,f1,g1,g2,g3⟩
    ·exact .inl ⟨rfl,by rw[hc];rfl⟩
    ·rw[hc'] at g1;cases g1
     by_cases hz:z=[]
     ·subst hz;exact .inl ⟨rfl,by rw[hc];rfl⟩
     ·exact .inr ⟨c,e',n1,s1,f1,hc,(inr hz g2).2,g3⟩
   ·by_cases hz':z=[]
    ·subst hz';exact strip_nil hq
    ·rcases hz with⟨g0,_⟩|⟨d,e',n1,s1,f1,g1,g2,_⟩
     ·exact absurd g0 hz'
     ·rw[hc'] at g1;cases g1
      exact(inr hz' g2).1
  ·exact⟨a,Y,z,h3,hY,hz,by rw[hne h2],.inr (.inr ⟨h1,h2,rfl,rfl⟩)⟩
 refine⟨⟨λ a d ha=>?_,λ a Y d z e' n1 s1 f1 ha h2 h3 h4 h5=>?_,λ a Y d z e' n1 s1 f1 ha h2 h3 h4=>?_,λ a Y z a' Y' z' ha ha' h3 h4 h5 h6 h7=>?_,λ a Y d ha h2=>?_,λ a b l ha=>by
  rcases get ha with⟨_,h1⟩|⟨rfl,h1⟩|⟨h1,h2,h3⟩
  ·cases h1
  ·rcases mine_cases hm hD with⟨d0,rfl⟩|⟨_,_,_,_,rfl⟩
   ·cases h1
   ·cases q<;>cases h1
  ·rw[hne h2];exact h.mp a b l h3⟩,λ K hK=>⟨rfl,rfl,Nat.le_refl _,rfl,Nat.le_refl _,λ a ha=>hρ a (by omega),λ _ _ _=>rfl,λ a Y z ha h2 h3=>?_,λ a Y z ha h2 h3=>?_⟩⟩
 ·rcases get ha with⟨_,h1⟩|⟨rfl,h1⟩|⟨h1,h2,h3⟩
  ·cases h1
  ·rcases mine_cases hm hD with⟨d0,rfl⟩|⟨_,_,_,_,rfl⟩
   ·cases hD
    cases h1
    rw[hne hkl] at hcells ⊢
    obtain⟨blk,t,g1,g2,g3,g4⟩:=h.var a D hk
    exact⟨blk,t,g1,g2,g3,by rw[g4];exact hcells.symm⟩
   ·cases q<;>cases h1
  ·rw[hne h2]
   exact(h.var a d h3).rho hρ (h.wf a _ d h3 rfl).2
 ·rcases get ha with⟨rfl,rfl⟩|⟨rfl,rfl⟩|⟨h1,h6,h7⟩
  ·cases h3
   have h8:=innew h4
   have e3:(λ y=>ρ' m.length (z++y))=λ y=>ρ k ((q++z)++y):=funext λ y=>by rw[hnw,List.append_assoc]
   have e4:ρ' m.length z=ρ k (q++z):=by rw[hnw]
   rw[e3,e4]
   refine(h.row k R c (q++z) e' n1 s1 f1 hk hm hc h8 (.inr ?_)).rho hρ (scow hk hc h8)
   rcases h5 with rfl|h5
   ·simp only[nav,Option.some.injEq,Dat.ow.injEq] at h4
    rw[<-h4.1];exact he
   ·exact h5
  ·rw[hc'] at h3;cases h3
   by_cases hz:z=[]
   ·subst hz
    rcases mine_cases hm hD with⟨d0,rfl⟩|⟨e0,n0,s0,f0,rfl⟩
    ·cases hD
     cases hc'
     exfalso
     obtain⟨i,q',rfl⟩:∃i z',q=i::z':=by cases q with|nil=>exact absurd rfl hq|cons i z=>exact⟨i,z,rfl⟩
     cases D<;>first|(simp only[navL] at hnD;cases hnD;done)|(simp[DM.upd,nav] at h4)
    ·cases hD
     obtain⟨i,q',rfl⟩:∃i z',q=i::z':=by cases q with|nil=>exact absurd rfl hq|cons i z=>exact⟨i,z,rfl⟩
     cases hc'
     simp only[nav,Option.some.injEq,Dat.ow.injEq] at h4
     obtain⟨rfl,rfl,rfl,rfl⟩:=h4
     rw[hne hkl] at hcells ⊢
     exact(h.row a _ _ [] _ _ _ _ hk rfl rfl rfl (.inl rfl)).cells hcells
   ·obtain⟨g1,g2⟩:=inr hz h4
    rw[hne hkl]
    exact(h.row a R c z e' n1 s1 f1 hk hm hc g2 h5).rho hρ (scow hk hc g2)
  ·rw[hne h6]
   exact(h.row a Y d z e' n1 s1 f1 h7 h2 h3 h4 h5).rho hρ (scow h7 h3 h4)
 ·rcases get ha with⟨rfl,rfl⟩|⟨rfl,rfl⟩|⟨h1,h6,h7⟩
  ·obtain⟨hz,rfl⟩:=h2.resolve_left (λ h=>by cases h)
   cases h3
   have h8:=innew h4
   have e3:(λ y=>ρ' m.length (z++y))=λ y=>ρ k ((q++z)++y):=funext λ y=>by rw[hnw,List.append_assoc]
   have e4:ρ' m.length z=ρ k (q++z):=by rw[hnw]
   rw[e3,e4]
   exact(h.ro k R c (q++z) 0 n1 s1 f1 hk (.inr ⟨by simp[hq],rfl⟩) hc h8).rho hρ (scow hk hc h8)
  ·obtain⟨hz,rfl⟩:=h2.resolve_left (λ h=>by rw[hm'] at h;cases h)
   rw[hc'] at h3;cases h3
   obtain⟨g1,g2⟩:=inr hz h4
   rw[hne hkl]
   exact(h.ro a R c z 0 n1 s1 f1 hk (.inr ⟨hz,rfl⟩) hc g2).rho hρ (scow hk hc g2)
  ·rw[hne h6]
   exact(h.ro a Y d z e' n1 s1 f1 h7 h2 h3 h4).rho hρ (scow h7 h3 h4)
 ·obtain⟨a0,Y0,z0,g1,g2,g3,g4,g5⟩:=placeO ha h3 h4
  obtain⟨a1,Y1,z1,k1,k2,k3,k4⟩:=place ha' h5
  rw[g4,k3]
  rw[k3] at h6
  refine h.sep a0 Y0 z0 a1 Y1 z1 g1 k1 g2 g3 k2 h6 (λ e5 e6=>?_)
  subst e5 e6
  rcases g5 with⟨x1,x2,x3⟩|⟨x1,x2,x3,x4⟩|⟨x1,x2,x3,x4⟩<;>rcases k4 with⟨y1,y2,y3⟩|⟨y1,y2,y3,y4⟩|⟨y1,y2,y3,y4⟩
  ·exact h7 (x1.trans y1.symm) (List.append_cancel_left (x3.symm.trans y3))
  ·rw[<-y3,x3,strip_app] at y4;cases y4
  ·exact y1 (y3.symm.trans x2)
  ·rw[<-x3,y3,strip_app] at x4;cases x4
  ·exact h7 (x1.trans y1.symm) (x3.symm.trans y3)
  ·exact y1 (y3.symm.trans x2)
  ·exact x1 (x3.symm.trans y2)
  ·exact x1 (x3.symm.trans y2)
  ·exact h7 (x3.symm.trans y3) (x4.symm.trans y4)
 ·have hlen:(unfoldM m k e len s R q g).length=m.length+1:=by unfold unfoldM;simp
  rw[hlen]
  rcases get ha with⟨rfl,rfl⟩|⟨rfl,rfl⟩|⟨h1,h6,h7⟩
  ·cases h2
   exact⟨wf_nav hcq hwc.1,(sc_nav hcq hwc.2).mono (by omega)⟩
  ·obtain⟨_,_,_,_,_,_,hu⟩:=focus_cells ρ (A:=ρ a) hwD hnD
   have hwy:WF (.sl m.length 0 len s):=trivial
   obtain⟨u1,u2⟩:=hu _ hwy rfl
   have u3:Sc (m.length+1) (DM.upd D q (.sl m.length 0 len s)):=sc_upd (show Sc (m.length+1) (.sl m.length 0 len s) from Nat.lt_succ_self _) (hscD.mono (by omega))
   rcases mine_cases hm hD with⟨d0,rfl⟩|⟨e0,n0,s0,f0,rfl⟩
   ·cases hD;cases h2;exact⟨u1,u3⟩
   ·obtain⟨i,q',rfl⟩:∃i z',q=i::z':=by cases q with|nil=>exact absurd rfl hq|cons i z=>exact⟨i,z,rfl⟩
    cases hD;cases h2;exact⟨u1,u3⟩
  ·have:=h.wf a Y d h7 h2
   exact⟨this.1,this.2.mono (by omega)⟩
 ·obtain⟨a0,Y0,z0,g1,g2,g3,g4,_⟩:=placeO ha h2 h3
  exact .inr ⟨a0,Y0,z0,g1,g2,g3,by rw[g4]⟩
 ·obtain⟨a0,Y0,z0,g1,g2,g3,_⟩:=place ha h2
  rw[g3] at h3 ⊢
  exact .inr ⟨a0,Y0,z0,g1,g2,h3,rfl⟩
end
end Go.Proofs.YthjnmlpibafbnaaGreat.DM
