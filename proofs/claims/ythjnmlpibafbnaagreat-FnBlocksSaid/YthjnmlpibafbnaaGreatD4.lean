import Derived.Test.YthjnmlpibafbnaaGreatD1
namespace Go.Proofs.YthjnmlpibafbnaaGreat.DM
open Go.RowKit
theorem VarOK.rho{n:Nat}{ρ ρ':Rho}(hρ:∀r,r<n->ρ' r []=ρ r []){w:World}{v:RV}{A:List Nat->RV}{d:Dat}(hs:Sc n d)(h:VarOK ρ w v A d):VarOK ρ' w v A d:=by
 obtain⟨blk,t,h1,h2,h3,h4⟩:=h
 exact⟨blk,t,h1,h2,h3,by rw[h4,cells_congr hρ d A hs]⟩
theorem RowOK.rho{n:Nat}{ρ ρ':Rho}(hρ:∀r,r<n->ρ' r []=ρ r []){w:World}{v:RV}{A:List Nat->RV}{e:TypeId}{k s:Nat}{f:Nat->Dat}(hs:Sc n (.ar k s f))(h:RowOK ρ w v A e k s f):RowOK ρ' w v A e k s f:=by
 obtain⟨blk,h1,h2,h3,h4,h5,h6,h7⟩:=h
 exact⟨blk,h1,h2,h3,h4,h5,h6,by rw[h7,cells_congr hρ _ A hs]⟩
theorem RoOK.rho{n:Nat}{ρ ρ':Rho}(hρ:∀r,r<n->ρ' r []=ρ r []){w:World}{v:RV}{A:List Nat->RV}{k s:Nat}{f:Nat->Dat}(hs:Sc n (.ar k s f))(h:RoOK ρ w v A k s f):RoOK ρ' w v A k s f:=by
 rcases h with h|⟨h1,h2,h3,h4,h5⟩
 ·exact .inl h
 ·exact .inr ⟨h1,h2,h3,h4,by rw[cells_congr hρ _ A hs];exact h5⟩
theorem sc_nav{n:Nat}:∀{q:List Nat}{d x:Dat},nav d q=some x->Sc n d->Sc n x
 |[],d,x,h,hs=>by simp only[nav,Option.some.injEq] at h;exact h▸hs
 |i::q,d,x,h,hs=>by
  cases d<;>simp only[nav] at h<;>first|(cases h;done)|skip
  all_goals
   split at h
   ·rename_i hi;exact sc_nav h (hs i hi)
   ·cases h
theorem wf_nav:∀{q:List Nat}{d x:Dat},nav d q=some x->WF d->WF x
 |[],d,x,h,hs=>by simp only[nav,Option.some.injEq] at h;exact h▸hs
 |i::q,d,x,h,hs=>by
  cases d<;>simp only[nav] at h<;>first|(cases h;done)|skip
  case ar n s f=>split at h;(rename_i hi;exact wf_nav h (hs i hi).2);cases h
  case st n f=>split at h;(rename_i hi;exact wf_nav h (hs i hi));cases h
  case ow e n s f=>split at h;(rename_i hi;exact wf_nav h (hs i hi).2);cases h
theorem Pl_nav:∀{q:List Nat}{d:Dat}{e:TypeId}{n s:Nat}{f:Nat->Dat},Pl d->nav d q≠some (.ow e n s f)
 |[],d,e,n,s,f,h,hq=>by simp only[nav,Option.some.injEq] at hq;subst hq;exact h
 |i::q,d,e,n,s,f,h,hq=>by
  cases d<;>simp only[nav] at hq<;>first|(cases hq;done)|skip
  case ar n s f=>split at hq;(rename_i hi;exact Pl_nav (h i hi) hq);cases hq
  case st n f=>split at hq;(rename_i hi;exact Pl_nav (h i hi) hq);cases hq
  case ow=>exact h
theorem Rep.rho{ρ ρ':Rho}{m:List Root}{w:World}(h:Rep ρ m w)(hρ:∀r,r<m.length->ρ' r=ρ r):Rep ρ' m w:=by
 have lt:∀{r:Nat}{R:Root},m[r]? =some R->r<m.length:=λ h=>(List.getElem?_eq_some_iff.1 h).1
 have hρ':∀r,r<m.length->ρ' r []=ρ r []:=λ r hr=>by rw[hρ r hr]
 have scow:∀{r:Nat}{R:Root}{d:Dat}{q:List Nat}{e:TypeId}{n s:Nat}{f:Nat->Dat},m[r]? =some R->R.con=some d->nav d q=some (.ow e n s f)->Sc m.length (.ar n s f):=
  λ{_ _ _ _ e n s f} h1 h2 h3=>show Sc m.length (.ow e n s f) from sc_nav h3 (h.wf _ _ _ h1 h2).2
 refine⟨λ r d hr=>?_,λ r R d q e n s f h1 h2 h3 h4 h5=>?_,λ r R d q e n s f h1 h2 h3 h4=>?_,λ r R q r' R' q' h1 h2 h3 h4 h5 h6 h7=>?_,h.wf,λ r b l hr=>by rw[hρ r (lt hr)];exact h.mp r b l hr⟩
 ·rw[hρ r (lt hr)];exact(h.var r d hr).rho hρ' (h.wf r _ d hr rfl).2
 ·rw[hρ r (lt h1)];exact(h.row r R d q e n s f h1 h2 h3 h4 h5).rho hρ' (scow h1 h3 h4)
 ·rw[hρ r (lt h1)];exact(h.ro r R d q e n s f h1 h2 h3 h4).rho hρ' (scow h1 h3 h4)
 ·rw[hρ r (lt h1),hρ r' (lt h2)];rw[hρ r' (lt h2)] at h6;exact h.sep r R q r' R' q' h1 h2 h3 h4 h5 h6 h7
theorem snoc_get{m:List Root}{R X:Root}{r:Nat}(h:(m++[R])[r]? =some X):(r<m.length/\m[r]? =some X)\/(r=m.length/\X=R):=by
 rw[List.getElem?_append] at h
 split at h
 ·exact .inl ⟨by assumption,h⟩
 ·have:r-m.length=0:=by
   have:=(List.getElem?_eq_some_iff.1 h).1
   simp at this;exact this
  rw[this] at h
  simp at h
  exact .inr ⟨by omega,h.symm⟩
theorem Rep.push{ρ:Rho}{m:List Root}{w:World}{R:Root}(h:Rep ρ m w)
  (hv:∀d,R=.var d->VarOK ρ w (ρ m.length []) (ρ m.length) d)
  (hr:∀d q e n s f,R.mine=true->R.con=some d->nav d q=some (.ow e n s f)->(q=[]\/e≠0)->RowOK ρ w (ρ m.length q) (λ z=>ρ m.length (q++z)) e n s f)
  (ho:∀d q e n s f,(R.mine=false\/(q≠[]/\e=0))->R.con=some d->nav d q=some (.ow e n s f)->RoOK ρ w (ρ m.length q) (λ z=>ρ m.length (q++z)) n s f)
  (hs1:∀q (r':Nat) (R':Root) q',At R q->m[r']? =some R'->At R' q'->((R.mine=true/\AtO R q)\/(R'.mine=true/\AtO R' q'))->(ρ m.length q).nil=false->(ρ r' q').nil=false->(ρ m.length q).b≠(ρ r' q').b)
  (hs2:∀q q',R.mine=true->AtO R q->At R q'->q≠q'->(ρ m.length q').nil=false->(ρ m.length q).b≠(ρ m.length q').b)
  (hn:∀q,R.mine=true->AtO R q->(ρ m.length q).nil=false)
  (hw:∀d,R.con=some d->WF d/\Sc (m.length+1) d) (hmp:∀b l,R=.mp b l->MapOK w (ρ m.length []) b l):Rep ρ (m++[R]) w where
 var:=λ r d hx=>by
  rcases snoc_get hx with⟨_,h1⟩|⟨rfl,h1⟩
  ·exact h.var r d h1
  ·exact hv d h1.symm
 row:=λ r X d q e n s f hx h2 h3 h4 h5=>by
  rcases snoc_get hx with⟨_,h1⟩|⟨rfl,rfl⟩
  ·exact h.row r X d q e n s f h1 h2 h3 h4 h5
  ·exact hr d q e n s f h2 h3 h4 h5
 ro:=λ r X d q e n s f hx h2 h3 h4=>by
  rcases snoc_get hx with⟨_,h1⟩|⟨rfl,rfl⟩
  ·exact h.ro r X d q e n s f h1 h2 h3 h4
  ·exact ho d q e n s f h2 h3 h4
 sep:=λ r X q r' X' q' hx hx' h3 h4 h5 h6 h7=>by
  rcases snoc_get hx with⟨_,h1⟩|⟨rfl,rfl⟩
  ·rcases snoc_get hx' with⟨_,h1'⟩|⟨rfl,rfl⟩
   ·exact h.sep r X q r' X' q' h1 h1' h3 h4 h5 h6 h7
   ·exact λ e=>hs1 q' r X q h5 h1 h4.at (.inr ⟨h3,h4⟩) h6 (h.mine_nil h1 h3 h4) e.symm
  ·rcases snoc_get hx' with⟨_,h1'⟩|⟨rfl,rfl⟩
   ·exact hs1 q r' X' q' h4.at h1' h5 (.inl ⟨h3,h4⟩) (hn q h3 h4) h6
   ·exact hs2 q q' h3 h4 h5 (h7 rfl) h6
 wf:=λ r X d hx h2=>by
  rw[List.length_append]
  rcases snoc_get hx with⟨_,h1⟩|⟨rfl,rfl⟩
  ·have:=h.wf r X d h1 h2
   exact⟨this.1,this.2.mono (by simp)⟩
  ·exact hw d h2
 mp:=λ r b l hx=>by
  rcases snoc_get hx with⟨_,h1⟩|⟨rfl,h1⟩
  ·exact h.mp r b l h1
  ·exact hmp b l h1.symm
def ext(ρ:Rho)(n:Nat)(A:List Nat->RV):Rho:=λ r=>bif Nat.beq r n then A else ρ r
theorem ext_same(ρ:Rho)(n:Nat)(A:List Nat->RV):ext ρ n A n=A:=by simp[ext]
theorem ext_ne(ρ:Rho){n r:Nat}(A:List Nat->RV)(h:r≠n):ext ρ n A r=ρ r:=by
 unfold ext;rw[show Nat.beq r n=false from by cases e:Nat.beq r n with|false=>rfl|true=>exact absurd (Nat.eq_of_beq_eq_true e) h];rfl
theorem at_plain{d:Dat}(hp:Pl d){q:List Nat}(h:At (.var d) q):q=[]:=by
 rcases h with⟨h,_⟩|⟨d',e,n,s,f,h1,h2⟩
 ·exact h
 ·cases h1;exact absurd h2 (Pl_nav hp)
theorem Rep.newVar{ρ:Rho}{m:List Root}{w:World}(h:Rep ρ m w)(d:Dat)(t:TypeId)(hp:Pl d)(hw:WF d)(hs:Sc m.length d):
  let ρ':=ext ρ m.length (λ _=>⟨false,w.heap.size,0,0,none,0⟩)
  let w':=w.alloc (.cells (cells ρ noA d).toArray t)
  Rep ρ' (m++[.var d]) w'/\Tr ρ m w ρ' (m++[.var d]) w':=by
 intro ρ' w'
 have hρ:∀r,r<m.length->ρ' r=ρ r:=λ r hr=>ext_ne ρ _ (by omega)
 have hn:ρ' m.length=λ _=>⟨false,w.heap.size,0,0,none,0⟩:=ext_same ρ _ _
 have hb:∀k,k<w.heap.size->w'.heap[k]? =w.heap[k]? :=λ k hk=>heap_alloc_old w _ k hk
 have h1:Rep ρ' m w':=(h.move (by simp[w']) hb).rho hρ
 have hlt:∀{r:Nat}{R:Root}{q:List Nat},m[r]? =some R->At R q->(ρ' r q).nil=false->(ρ' r q).b<w.heap.size:=by
  intro r R q hr ha hz
  have hr':r<m.length:=(List.getElem?_eq_some_iff.1 hr).1
  rw[hρ r hr'] at hz ⊢
  exact h.at_lt hr ha hz
 refine⟨h1.push ?_ ?_ ?_ ?_ ?_ ?_ ?_ (λ b l hh=>by cases hh),?_⟩
 ·intro d' e
  cases e
  refine⟨(cells ρ noA d).toArray,t,?_,?_,?_,?_⟩
  ·rw[hn];exact heap_alloc_new w _
  ·rw[hn]
  ·rw[hn]
  ·show cells ρ noA d=_
   rw[cells_congr (n:=m.length) (ρ:=ρ) (ρ':=ρ') (λ r hr=>by rw[hρ r hr]) d (ρ' m.length) hs]
   exact cells_plain d _ _ hp
 ·intro d' q e n s f _ h2 h3
  cases h2;exact absurd h3 (Pl_nav hp)
 ·intro d' q e n s f _ h2 h3
  cases h2;exact absurd h3 (Pl_nav hp)
 ·intro q r' R' q' ha hr' ha' _ _ hz
  have:=hlt hr' ha' hz
  have e:q=[]:=at_plain hp ha
  subst e
  rw[hn];show w.heap.size≠_
  omega
 ·intro q q' _ ha ha' hne _
  exact absurd ((at_plain hp ha.at).trans (at_plain hp ha').symm) hne
 ·intro q _ _;rw[hn]
 ·intro d' e;cases e;exact⟨hw,hs.mono (by omega)⟩
 ·refine⟨rfl,rfl,Nat.le_refl _,rfl,by simp[w'],λ r hr=>by rw[hρ r hr],by simp,λ k hk _=>hb k hk,λ r R q hr hm ha=>?_,λ r R q hr hm ha=>?_⟩
  ·rcases snoc_get hr with⟨hr',h2⟩|⟨rfl,rfl⟩
   ·rw[hρ r hr'];exact .inr ⟨r,R,q,h2,hm,ha,rfl⟩
   ·rw[hn];exact .inl (Nat.le_refl _)
  ·rcases snoc_get hr with⟨hr',h2⟩|⟨rfl,rfl⟩
   ·rw[hρ r hr'] at ha ⊢;exact .inr ⟨r,R,q,h2,hm,ha,rfl⟩
   ·rw[hn];exact .inl (Nat.le_refl _)
theorem nav_upd{y:Dat}(hy:Pl y):∀{q:List Nat}{d x:Dat}{z:List Nat}{e:TypeId}{n s:Nat}{f:Nat->Dat},navL d q=some x->nav (upd d q y) z=some (.ow e n s f)->nav d z=some (.ow e n s f)
 |[],d,x,z,e,n,s,f,_,h=>by simp only[upd] at h;exact absurd h (Pl_nav hy)
 |i::q,d,x,z,e,n,s,f,hx,h=>by
  cases d
  case ar k t g=>
   simp only[upd] at h
   simp only[navL] at hx
   split at hx
   ·cases z with
    |nil=>simp[nav] at h
    |cons j z=>
     simp only[nav] at h ⊢
     split at h
     ·rename_i hj
      rw[if_pos hj]
      by_cases e1:j=i
      ·subst e1;rw[fup_same] at h
       exact nav_upd hy hx h
      ·rw[fup_ne _ _ e1] at h;exact h
     ·cases h
   ·cases hx
  case st k g=>
   simp only[upd] at h
   simp only[navL] at hx
   split at hx
   ·cases z with
    |nil=>simp[nav] at h
    |cons j z=>
     simp only[nav] at h ⊢
     split at h
     ·rename_i hj
      rw[if_pos hj]
      by_cases e1:j=i
      ·subst e1;rw[fup_same] at h
       exact nav_upd hy hx h
      ·rw[fup_ne _ _ e1] at h;exact h
     ·cases h
   ·cases hx
  all_goals (simp only[navL] at hx;cases hx)
theorem sc_upd{n:Nat}{y:Dat}(hy:Sc n y):∀{q:List Nat}{d:Dat},Sc n d->Sc n (upd d q y)
 |[],d,_=>by simpa only[upd] using hy
 |i::q,d,h=>by
  cases d
  case ar k t g=>
   intro j hj
   by_cases e:j=i
   ·subst e;rw[fup_same];exact sc_upd hy (h j hj)
   ·rw[fup_ne _ _ e];exact h j hj
  case st k g=>
   intro j hj
   by_cases e:j=i
   ·subst e;rw[fup_same];exact sc_upd hy (h j hj)
   ·rw[fup_ne _ _ e];exact h j hj
  all_goals simpa only[upd] using h
def Root.upd(R:Root)(q:List Nat)(y:Dat):Root:=
 match R with
 | .var d=>.var (DM.upd d q y)
 | .row e n s f=>match q with
  |[]=>R
  |i::q=>.row e n s (fup f i (DM.upd (f i) q y))
 |_=>R
def Root.navL(R:Root)(q:List Nat):Option Dat:=
 match R with
 | .var d=>DM.navL d q
 | .row _ n _ f=>match q with
  |[]=>none
  |i::q=>if i<n then DM.navL (f i) q else none
 | .ro n _ f=>match q with
  |[]=>none
  |i::q=>if i<n then DM.navL (f i) q else none
 | .dead=>none
 | .mp _ _=>none
def Root.offs(R:Root)(q:List Nat):Nat:=
 match R with
 | .var d=>DM.offs d q
 | .row _ _ s f=>match q with
  |[]=>0
  |i::q=>i*s+DM.offs (f i) q
 | .ro _ s f=>match q with
  |[]=>0
  |i::q=>i*s+DM.offs (f i) q
 | .dead=>0
 | .mp _ _=>0
theorem set_get{m:List Root}{r r':Nat}{R X:Root}(h:(m.set r R)[r']? =some X):(r'=r/\X=R/\r<m.length)\/(r'≠r/\m[r']? =some X):=by
 by_cases e:r'=r
 ·subst e
  have hl:r'<m.length:=by
   have:=(List.getElem?_eq_some_iff.1 h).1;simpa using this
  rw[List.getElem?_set_self hl] at h
  exact .inl ⟨rfl,(Option.some.inj h).symm,hl⟩
 ·rw[List.getElem?_set_ne (Ne.symm e)] at h
  exact .inr ⟨e,h⟩
theorem Rep.replace{ρ:Rho}{m:List Root}{w w':World}(h:Rep ρ m w){r:Nat}{R R':Root}(hr:m[r]? =some R)(hm:R.mine=true)(hm':R'.mine=true)
  (hz:w'.heap.size=w.heap.size) (hk:∀k,k≠(ρ r []).b->w'.heap[k]? =w.heap[k]?)
  (hv:∀d,R'=.var d->VarOK ρ w' (ρ r []) (ρ r) d)
  (hrow:∀e n s f,R'=.row e n s f->RowOK ρ w' (ρ r []) (ρ r) e n s f)
  (hin:∀d d' q e n s f,R.con=some d->R'.con=some d'->q≠[]->nav d' q=some (.ow e n s f)->nav d q=some (.ow e n s f))
  (hvar:∀d' e n s f,R'=.var d'->nav d' []≠some (.ow e n s f))
  (hw:∀d,R'.con=some d->WF d/\Sc m.length d) (hmp:∀b l,R'=.mp b l->MapOK w' (ρ r []) b l):Rep ρ (m.set r R') w':=by
 have hcon:∃d,R.con=some d:=by cases R<;>first|exact⟨_,rfl⟩|cases hm
 obtain⟨dR,hdR⟩:=hcon
 have atR:AtO R []:=.inl ⟨rfl,by rw[hdR];rfl⟩
 have at':∀q,At R' q->At R q:=by
  intro q ha
  rcases ha with⟨rfl,_⟩|⟨d',e,n,s,f,h1,h2⟩
  ·exact atR.at
  ·by_cases e:q=[]
   ·subst e;exact atR.at
   ·exact .inr ⟨dR,_,_,_,_,hdR,hin dR d' q _ _ _ _ hdR h1 e h2⟩
 have atO':∀q,AtO R' q->AtO R q:=by
  intro q ha
  rcases ha with⟨rfl,_⟩|⟨d',e,n,s,f,h1,h2,h3⟩
  ·exact atR
  ·by_cases e:q=[]
   ·subst e;exact atR
   ·exact .inr ⟨dR,_,_,_,_,hdR,hin dR d' q _ _ _ _ hdR h1 e h2,h3⟩
 have hkeep:∀{r':Nat}{X:Root}{q:List Nat},m[r']? =some X->At X q->(ρ r' q).nil=false->(r'=r->q≠[])->w'.heap[(ρ r' q).b]? =w.heap[(ρ r' q).b]? :=by
  intro r' X q hx ha hn hne
  exact hk _ (λ e=>h.sep r R [] r' X q hr hx hm atR ha hn (λ e2 e3=>hne e2.symm e3.symm) e.symm)
 refine⟨λ r' d hx=>?_,λ r' X d q e n s f hx h2 h3 h4 h8=>?_,λ r' X d q e n s f hx h2 h3 h4=>?_,λ r1 X1 q1 r2 X2 q2 hx1 hx2 h3 h4 h5 h6 h7=>?_,λ r' X d hx h2=>?_,λ r' b l hx=>?_⟩
 ·rcases set_get hx with⟨rfl,h1,_⟩|⟨hne,h1⟩
  ·exact hv d h1.symm
  ·exact(h.var r' d h1).keep (hkeep h1 (.inl ⟨rfl,rfl⟩) (h.mine_nil h1 rfl (.inl ⟨rfl,rfl⟩)) (λ e=>absurd e hne))
 ·rcases set_get hx with⟨rfl,rfl,_⟩|⟨hne,h1⟩
  ·by_cases e1:q=[]
   ·subst e1
    cases X with
    |var d'=>cases h3;exact absurd h4 (hvar _ _ _ _ _ rfl)
    |row e' n' s' f'=>
     cases h3
     simp only[nav,Option.some.injEq,Dat.ow.injEq] at h4
     obtain⟨rfl,rfl,rfl,rfl⟩:=h4
     exact hrow _ _ _ _ rfl
    |dead=>cases hm'
    |ro=>cases hm'
    |mp=>cases h3;simp[nav] at h4
   ·have h5:=hin dR d q e n s f hdR h3 e1 h4
    have h6:e≠0:=h8.resolve_left e1
    exact(h.row r' R dR q e n s f hr hm hdR h5 h8).keep (hkeep hr (.inr ⟨dR,e,n,s,f,hdR,h5⟩) (h.mine_nil hr hm (.inr ⟨dR,e,n,s,f,hdR,h5,h6⟩)) (λ _=>e1))
  ·have g:(ρ r' q).nil=false:=by
    obtain⟨_,_,_,h3',_⟩:=h.row r' X d q e n s f h1 h2 h3 h4 h8
    exact h3'
   exact(h.row r' X d q e n s f h1 h2 h3 h4 h8).keep (hkeep h1 (.inr ⟨d,e,n,s,f,h3,h4⟩) g (λ e=>absurd e hne))
 ·rcases set_get hx with⟨rfl,rfl,_⟩|⟨hne,h1⟩
  ·rw[hm'] at h2
   have e1:q≠[]:=(h2.resolve_left (λ h=>by cases h)).1
   have h5:=hin dR d q e n s f hdR h3 e1 h4
   exact(h.ro r' R dR q e n s f hr (.inr (h2.resolve_left (λ h=>by cases h))) hdR h5).keep (by omega) (λ hn=>hkeep hr (.inr ⟨dR,e,n,s,f,hdR,h5⟩) hn (λ _=>e1))
  ·exact(h.ro r' X d q e n s f h1 h2 h3 h4).keep (by omega) (λ hn=>hkeep h1 (.inr ⟨d,e,n,s,f,h3,h4⟩) hn (λ e=>absurd e hne))
 ·rcases set_get hx1 with⟨rfl,rfl,_⟩|⟨hne1,g1⟩
  ·rcases set_get hx2 with⟨rfl,rfl,_⟩|⟨hne2,g2⟩
   ·exact h.sep _ R q1 _ R q2 hr hr hm (atO' _ h4) (at' _ h5) h6 h7
   ·exact h.sep _ R q1 _ X2 q2 hr g2 hm (atO' _ h4) h5 h6 h7
  ·rcases set_get hx2 with⟨rfl,rfl,_⟩|⟨hne2,g2⟩
   ·exact h.sep _ X1 q1 _ R q2 g1 hr h3 h4 (at' _ h5) h6 h7
   ·exact h.sep _ X1 q1 _ X2 q2 g1 g2 h3 h4 h5 h6 h7
 ·rw[List.length_set]
  rcases set_get hx with⟨rfl,rfl,_⟩|⟨hne,h1⟩
  ·exact hw d h2
  ·exact h.wf r' X d h1 h2
 ·rcases set_get hx with⟨rfl,h1,_⟩|⟨hne,h1⟩
  ·exact hmp b l h1.symm
  ·exact(h.mp r' b l h1).keep (hkeep h1 (.inl ⟨rfl,rfl⟩) (h.mp r' b l h1).2.1 (λ e=>absurd e hne))
end Go.Proofs.YthjnmlpibafbnaaGreat.DM

namespace Go.Proofs.YthjnmlpibafbnaaGreat.DM
open Go.RowKit
inductive Ty where
 |int (k:IntKind)
 |bool
 |str
 |arr (n:Nat) (e:TypeId)
 |st (fs:List (TypeId×Nat))
 |slice (e:TypeId)
 |ptr (e:TypeId)
 |other
structure TI where
 ty:Ty
 sz:Nat
 bytes:Nat
 z:Dat
abbrev TyEnv:=TypeId->Option TI
def noR:Rho:=λ _ _=>default
def Ty.fits(P:Program)(t:TypeId):Ty->Prop
 | .int k=>P.underlying t=some (.int k)
 | .bool=>P.underlying t=some .bool
 | .str=>P.underlying t=some .string
 | .arr n e=>P.underlying t=some (.array n e)
 | .st fs=>∃fields,P.underlying t=some (.struct fields)/\fields.toList.map (λ f=>(f.type,f.offset))=fs
 | .slice e=>P.underlying t=some (.slice e)
 | .ptr e=>P.underlying t=some (.pointer e)
 | .other=>∃d,P.underlying t=some d/\(match d with| .struct _| .array _ _=>true|_=>false)=false
def Ty.agg:Ty->Bool
 | .arr _ _=>true
 | .st _=>true
 |_=>false
def isScalar:Dat->Bool
 | .ar _ _ _=>false
 | .st _ _=>false
 | .ow _ _ _ _=>false
 | .tup _ _=>false
 | .un=>false
 |_=>true
def fit(i:TI)(v:Dat):Bool:=
 match i.ty.agg,v with
 |true,.ar n s _=>Nat.beq (n*s) i.sz
 |true,.st n f=>Nat.beq (DM.sz (.st n f)) i.sz
 |false,v=>isScalar v&&Nat.beq i.sz 1
 |_,_=>false
def eqOK(P:Program)(t:TypeId):Bool:=(!P.eqGuardType P.depth t)&&((!P.stoodInHeld t)&&(match P.underlying t with
 |some (.struct fs)=>fs.toList.all (λ f=>f.name != "_")
 |_=>true))
structure TI.ok(P:Program)(t:TypeId)(i:TI):Prop where
 fits:i.ty.fits P t
 info:(P.info? t).map (λ x=>(x.zero,x.size,x.bytes))=some (some (enc noR i.z),i.sz,i.bytes)
 wf:WF i.z
 pl:Pl i.z
 sc:Sc 0 i.z
 szz:DM.sz i.z=i.sz
 pos:0<i.sz
 fitz:fit i i.z=true
 eqg:i.ty.agg=true->eqOK P t=true
def TOK(P:Program)(T:TyEnv):Prop:=∀t i,T t=some i->i.ok P t
def AllP:List Prop->Prop
 |[]=>True
 |[p]=>p
 |p::q::l=>p/\AllP (q::l)
theorem AllP.cons{p:Prop}{l:List Prop}(h:AllP (p::l)):p/\AllP l:=by
 cases l with
 |nil=>exact⟨h,trivial⟩
 |cons q l=>exact h
theorem AllP.app:∀{l k:List Prop},AllP (l++k)->AllP l/\AllP k
 |[],k,h=>⟨trivial,h⟩
 |p::l,k,h=>by
  obtain⟨h1,h2⟩:=AllP.cons (l:=l++k) h
  obtain⟨h3,h4⟩:=AllP.app h2
  refine⟨?_,h4⟩
  cases l with
  |nil=>exact h1
  |cons q l=>exact⟨h1,h3⟩
def InR:IntKind->Int->Prop
 | .i8,x=>-128<=x/\x<=127
 | .i16,x=>-32768<=x/\x<=32767
 | .i32,x=>-2147483648<=x/\x<=2147483647
 | .i64,x=>-9223372036854775808<=x/\x<=9223372036854775807
 | .u8,x=>0<=x/\x<=255
 | .u16,x=>0<=x/\x<=65535
 | .u32,x=>0<=x/\x<=4294967295
 | .u64,x=>0<=x/\x<=18446744073709551615
def ofV:Value->Dat
 | .int k x=>.i k x
 | .bool b=>.b b
 | .string s=>.s s
 | .pointer none=>.np
 | .slice none 0 0=>.ns
 |_=>.un
def ev(fr:Nat->Dat):Operand->Dat
 | .tmp t=>fr t
 | .const v=>ofV v
 | .func f=>.fn f 0 (λ _=>.un)
 |_=>.un
def num(wm:Bool)(k:IntKind)(x:Int):List Prop×Dat:=
 match wm with
 |true=>([],.i k (k.wrap x))
 |false=>([InR k x],.i k x)
def binI(wm:Bool)(op:BinOp)(k:IntKind)(a b:Int):Option (List Prop×Dat):=
 match op with
 | .add=>some (num wm k (a+b))
 | .sub=>some (num wm k (a-b))
 | .mul=>some (num wm k (a*b))
 | .quo=>some ((b≠0)::(num wm k (a.tdiv b)).1,(num wm k (a.tdiv b)).2)
 | .rem=>some ([b≠0],.i k (a.tmod b))
 | .eql=>some ([],.b (decide (a=b)))
 | .neq=>some ([],.b (!decide (a=b)))
 | .lss=>some ([],.b (decide (a<b)))
 | .leq=>some ([],.b (decide (a<=b)))
 | .gtr=>some ([],.b (decide (b<a)))
 | .geq=>some ([],.b (decide (b<=a)))
 | .and=>some ([],.i k (k.wrap (BitVec.ofInt k.bits a&&& BitVec.ofInt k.bits b).toNat))
 | .or=>some ([],.i k (k.wrap (BitVec.ofInt k.bits a|||BitVec.ofInt k.bits b).toNat))
 | .xor=>some ([],.i k (k.wrap (BitVec.ofInt k.bits a ^^^ BitVec.ofInt k.bits b).toNat))
 | .shl=>some ([0<=b],.i k (k.wrap (a*2 ^ (min b.toNat k.bits))))
 | .shr=>some ([0<=b],.i k (a.fdiv (2 ^ (min b.toNat k.bits))))
 |_=>none
def kEq:IntKind->IntKind->Bool
 | .i8,.i8=>true| .i16,.i16=>true| .i32,.i32=>true| .i64,.i64=>true
 | .u8,.u8=>true| .u16,.u16=>true| .u32,.u32=>true| .u64,.u64=>true
 |_,_=>false
def isSh:BinOp->Bool
 | .shl=>true
 | .shr=>true
 |_=>false
def bin(T:TyEnv)(wm:Bool)(op:BinOp)(t:TypeId)(x y:Dat):Option (List Prop×Dat):=
 match x,y with
 | .i k a,.i k' b=>bif kEq k k'||isSh op then binI wm op k a b else none
 | .b a,.b b=>match T t,op with
  |some ⟨.bool,_,_,_⟩,.eql=>some ([],.b (a==b))
  |some ⟨.bool,_,_,_⟩,.neq=>some ([],.b (!(a==b)))
  |_,_=>none
 |_,_=>none
def navE(d:Dat)(q:List Nat):Option (List Prop×Dat):=match q with
 |[]=>some ([],d)
 |i::q=>match d with
  | .ar n _ f=>match navE (f i) q with
   |some (ps,x)=>some ((i<n)::ps,x)
   |none=>none
  | .st n f=>match navE (f i) q with
   |some (ps,x)=>some ((i<n)::ps,x)
   |none=>none
  |_=>none
termination_by structural q
def offA(d:Dat)(q:List Nat)(acc:Nat):Nat:=match q with
 |[]=>acc
 |i::q=>match d with
  | .ar _ s f=>offA (f i) q (acc+i*s)
  | .st _ f=>offA (f i) q (acc+sumN i (λ j=>DM.sz (f j)))
  |_=>acc
termination_by structural q
theorem navE_ok:∀{q:List Nat}{d x:Dat}{ps:List Prop},navE d q=some (ps,x)->AllP ps->navL d q=some x
 |[],d,x,ps,h,_=>by simp only[navE,Option.some.injEq,Prod.mk.injEq] at h;simp[navL,h.2]
 |i::q,d,x,ps,h,hp=>by
  cases d<;>simp only[navE] at h<;>first|(cases h;done)|skip
  all_goals
   split at h
   ·rename_i hq
    simp only[Option.some.injEq,Prod.mk.injEq] at h
    obtain⟨rfl,rfl⟩:=h
    obtain⟨h1,h2⟩:=hp.cons
    simp only[navL,if_pos h1]
    exact navE_ok hq h2
   ·cases h
theorem offA_eq:∀(q:List Nat) (d x:Dat) (acc:Nat),navL d q=some x->offA d q acc=acc+offs d q
 |[],d,x,acc,_=>by simp[offA,offs]
 |i::q,d,x,acc,h=>by
  cases d<;>simp only[navL] at h<;>first|(cases h;done)|skip
  all_goals
   split at h
   ·simp only[offA,offs]
    rw[offA_eq q _ x _ h];omega
   ·cases h
def Root.navE(R:Root)(q:List Nat):Option (List Prop×Dat):=
 match R with
 | .var d=>DM.navE d q
 | .row _ n _ f=>match q with
  |[]=>none
  |i::q=>match DM.navE (f i) q with
   |some (ps,x)=>some ((i<n)::ps,x)
   |none=>none
 | .ro n _ f=>match q with
  |[]=>none
  |i::q=>match DM.navE (f i) q with
   |some (ps,x)=>some ((i<n)::ps,x)
   |none=>none
 | .dead=>none
 | .mp _ _=>none
def Root.offA(R:Root)(q:List Nat):Nat:=
 match R with
 | .var d=>DM.offA d q 0
 | .row _ _ s f=>match q with
  |[]=>0
  |i::q=>DM.offA (f i) q (0+i*s)
 | .ro _ s f=>match q with
  |[]=>0
  |i::q=>DM.offA (f i) q (0+i*s)
 | .dead=>0
 | .mp _ _=>0
def plE:Dat->List Prop
 | .ar n s f=>[Pl (.ar n s f)]
 | .st n f=>[Pl (.st n f)]
 |_=>[]
def loadE(T:TyEnv)(t:TypeId)(x:Dat)(m:List Root):Option (List Prop×Dat):=
 match x,T t with
 | .p r q o,some i=>match m[r]? with
  |some R=>match R.navE q with
   |some (ps,v)=>bif fit i v then some (ps++(R.offA q=o)::plE v,v) else none
   |none=>none
  |none=>none
 |_,_=>none
def Root.rowS(R:Root)(q:List Nat)(k:Nat):Bool:=
 match R,q with
 | .row _ _ s _,[_]=>Nat.beq s k
 |_,_=>false
def storeE(T:TyEnv)(t:TypeId)(x v:Dat)(m:List Root):Option (List Prop×List Root):=
 match x,T t with
 | .p r q o,some i=>match m[r]? with
  |some R=>bif R.mine then match R.navE q with
    |some (ps,old)=>bif fit i v&&(R.rowS q i.sz||fit i old) then some (ps++[R.offA q=o],m.set r (R.upd q v)) else none
    |none=>none
   else none
  |none=>none
 |_,_=>none
end Go.Proofs.YthjnmlpibafbnaaGreat.DM
namespace Go.Proofs.YthjnmlpibafbnaaGreat.DM
open Go.RowKit
theorem isAgg_run{P:Program}{t:TypeId}{i:TI}(h:i.ok P t)(w:World):(isAgg t).run P w=.ok i.ty.agg w:=by
 have hf:=h.fits
 unfold isAgg
 rw[Sem.run_bind]
 cases ht:i.ty<;>rw[ht] at hf<;>simp only[Ty.fits] at hf
 case st fs=>obtain⟨fields,hf,_⟩:=hf;rw[run_underlying hf w];rfl
 case other=>
  obtain⟨d,hf,hd⟩:=hf
  rw[run_underlying hf w]
  cases d<;>first|rfl|(simp at hd)
 all_goals (rw[run_underlying hf w];rfl)
theorem sizeOf_run{P:Program}{t:TypeId}{i:TI}(h:i.ok P t)(w:World):(sizeOf t).run P w=.ok i.sz w:=by
 have hi:=h.info
 cases hq:P.info? t with
 |none=>rw[hq] at hi;cases hi
 |some x=>
  rw[hq] at hi
  simp only[Option.map_some,Option.some.injEq,Prod.mk.injEq] at hi
  simp[sizeOf,typeInfo,hq,hi.2.1]
theorem info_size{P:Program}{t:TypeId}{i:TI}(h:i.ok P t):(P.info? t).map (·.size)=some i.sz:=by
 have hi:=h.info
 cases hq:P.info? t with
 |none=>rw[hq] at hi;cases hi
 |some x=>
  rw[hq] at hi
  simp only[Option.map_some,Option.some.injEq,Prod.mk.injEq] at hi
  simp[hi.2.1]
theorem zeroValue_run{P:Program}{t:TypeId}{i:TI}(h:i.ok P t)(w:World):(zeroValue t).run P w=.ok (enc noR i.z) w:=by
 have hi:=h.info
 cases hq:P.info? t with
 |none=>rw[hq] at hi;cases hi
 |some x=>
  rw[hq] at hi
  simp only[Option.map_some,Option.some.injEq,Prod.mk.injEq] at hi
  simp[zeroValue,typeInfo,hq,hi.1]
theorem enc_cells{ρ:Rho}:∀(d:Dat),WF d->(enc ρ d).cells=(cells ρ noA d).toArray:=by
 intro d h
 cases d<;>first|rfl|exact h.elim|skip
 case sl r a b c=>simp only[enc,cells,leaf,RV.slice];(repeat' split)<;>rfl
 case sa x a b c=>simp only[enc,cells,leaf,RV.slice];(repeat' split)<;>rfl
theorem addr_add(b o j:Nat):(⟨b,o,none⟩:Addr).add j=⟨b,o+j,none⟩:=by
 unfold Addr.add;split<;>simp_all
theorem Root.navE_ok{R:Root}{q:List Nat}{ps:List Prop}{x:Dat}(h:R.navE q=some (ps,x))(hp:AllP ps):R.navL q=some x/\R.offA q=R.offs q:=by
 cases R with
 |dead=>simp[Root.navE] at h
 |mp=>simp[Root.navE] at h
 |var d=>
  have h1:=DM.navE_ok (q:=q) h hp
  refine⟨h1,?_⟩
  simp only[Root.offA,Root.offs]
  rw[offA_eq q d x 0 h1];omega
 |row e n s f=>
  cases q with
  |nil=>simp[Root.navE] at h
  |cons i q=>
   simp only[Root.navE] at h
   split at h
   ·rename_i hq
    simp only[Option.some.injEq,Prod.mk.injEq] at h
    obtain⟨rfl,rfl⟩:=h
    obtain⟨h1,h2⟩:=hp.cons
    have h3:=DM.navE_ok hq h2
    refine⟨by simp only[Root.navL,if_pos h1];exact h3,?_⟩
    simp only[Root.offA,Root.offs]
    rw[offA_eq q _ _ _ h3];omega
   ·cases h
 |ro n s f=>
  cases q with
  |nil=>simp[Root.navE] at h
  |cons i q=>
   simp only[Root.navE] at h
   split at h
   ·rename_i hq
    simp only[Option.some.injEq,Prod.mk.injEq] at h
    obtain⟨rfl,rfl⟩:=h
    obtain⟨h1,h2⟩:=hp.cons
    have h3:=DM.navE_ok hq h2
    refine⟨by simp only[Root.navL,if_pos h1];exact h3,?_⟩
    simp only[Root.offA,Root.offs]
    rw[offA_eq q _ _ _ h3];omega
   ·cases h
theorem Root.flat_nav{R:Root}{q:List Nat}{x:Dat}(h:R.navL q=some x):∃d,R.flat=some d/\DM.navL d q=some x/\R.offs q=DM.offs d q/\(R.mine=true->∀y,(R.upd q y).flat=some (DM.upd d q y)):=by
 cases R with
 |dead=>simp[Root.navL] at h
 |mp=>simp[Root.navL] at h
 |var d=>exact⟨d,rfl,h,rfl,λ _ _=>rfl⟩
 |row e n s f=>
  cases q with
  |nil=>simp[Root.navL] at h
  |cons i q=>exact⟨.ar n s f,rfl,by simpa only[Root.navL,DM.navL] using h,rfl,λ _ _=>rfl⟩
 |ro n s f=>
  cases q with
  |nil=>simp[Root.navL] at h
  |cons i q=>exact⟨.ar n s f,rfl,by simpa only[Root.navL,DM.navL] using h,rfl,λ h=>by cases h⟩
theorem wf_flat{R:Root}{c d:Dat}(hc:R.con=some c)(hf:R.flat=some d)(h:WF c):WF d:=by
 cases R<;>simp only[Root.con,Root.flat,Option.some.injEq] at hc hf<;>first|(cases hc;done)|(cases hf;done)|(subst hc;subst hf;exact h)
theorem con_of_flat{R:Root}{d:Dat}(hf:R.flat=some d):∃c,R.con=some c:=by
 cases R<;>first|exact⟨_,rfl⟩|cases hf
theorem append_get{pre xs post:List Value}{j:Nat}{u:Value}(h:xs[j]? =some u):(pre++xs++post)[pre.length+j]? =some u:=by
 have hj:j<xs.length:=(List.getElem?_eq_some_iff.1 h).1
 rw[List.append_assoc,List.getElem?_append_right (by omega),show pre.length+j-pre.length=j by omega,List.getElem?_append_left hj]
 exact h
theorem Rep.part{ρ:Rho}{m:List Root}{w:World}(h:Rep ρ m w){r:Nat}{R:Root}{q:List Nat}{x:Dat}(hr:m[r]? =some R)(hq:R.navL q=some x):
  WF x/\(ρ r []).nil=false/\∀j u,(cells ρ (λ z=>ρ r (q++z)) x)[j]? =some u->w.cell? ⟨(ρ r []).b,(ρ r []).o+R.offs q+j,none⟩=some u:=by
 obtain⟨d,hf,hn,ho,_⟩:=Root.flat_nav hq
 obtain⟨c,hc⟩:=con_of_flat hf
 have hw:WF d:=wf_flat hc hf (h.wf r R c hr hc).1
 obtain⟨hx,pre,post,hl,hcs,_⟩:=focus_cells ρ (A:=ρ r) hw hn
 have hget:∀j u,(cells ρ (λ z=>ρ r (q++z)) x)[j]? =some u->(cells ρ (ρ r) d)[R.offs q+j]? =some u:=by
  intro j u hu
  rw[hcs,ho, <-hl]
  exact append_get hu
 cases R with
 |dead=>cases hf
 |mp=>cases hf
 |var d'=>
  cases hf
  obtain⟨blk,t,h1,h2,h3,h4⟩:=h.var r d hr
  refine⟨hx,h3,λ j u hu=>?_⟩
  have:=hget j u hu
  rw[<-h4] at this
  rw[h2,Nat.zero_add,cell_of_row w _ _ blk t (0,0) h1]
  simpa using this
 |row e n s f=>
  cases hf
  obtain⟨blk,h1,h2,h3,_,_,_,h4⟩:=h.row r _ _ [] e n s f hr rfl hc (by cases hc;rfl) (.inl rfl)
  refine⟨hx,h3,λ j u hu=>?_⟩
  have:=hget j u hu
  have h4':blk.toList.take (n*s)=cells ρ (ρ r) (.ar n s f):=h4
  rw[<-h4',List.getElem?_take] at this
  rw[h2,Nat.zero_add,cell_of_row w _ _ blk e (0,0) h1]
  split at this
  ·simpa using this
  ·cases this
 |ro n s f=>
  cases hf
  cases hc
  rcases h.ro r _ _ [] 0 n s f hr (.inl rfl) rfl rfl with⟨_,hz⟩|⟨h1,_,_,_,h5⟩
  ·subst hz
   cases q with
   |nil=>simp[Root.navL] at hq
   |cons i q=>simp[Root.navL] at hq
  ·refine⟨hx,h1,λ j u hu=>?_⟩
   have:=h5 _ u (hget j u hu)
   rwa [<-Nat.add_assoc] at this
theorem fit_sz{i:TI}{v:Dat}(h:fit i v=true):DM.sz v=i.sz/\(i.ty.agg=false->isScalar v=true)/\(i.ty.agg=true->(∃n s f,v=.ar n s f)\/(∃n f,v=.st n f)):=by
 unfold fit at h
 split at h
 ·rename_i n s f hag
  exact⟨Nat.eq_of_beq_eq_true h,(λ e=>by rw[hag] at e;cases e),λ _=>.inl ⟨_,_,_,rfl⟩⟩
 ·rename_i n f hag
  exact⟨Nat.eq_of_beq_eq_true h,(λ e=>by rw[hag] at e;cases e),λ _=>.inr ⟨_,_,rfl⟩⟩
 ·rename_i v0 _ v1 hag
  simp only[Bool.and_eq_true] at h
  refine⟨?_,λ _=>h.1,(λ e=>by rw[hag] at e;cases e)⟩
  rw[Nat.eq_of_beq_eq_true h.2]
  have hs:=h.1
  cases v0<;>first|rfl|cases hs
 ·cases h
theorem navL_nav:∀{q:List Nat}{d x:Dat},DM.navL d q=some x->nav d q=some x:=by
 intro q
 induction q with
 |nil=>intro d x h;simpa[DM.navL,nav] using h
 |cons i q ih=>
  intro d x h
  cases d<;>simp only[DM.navL] at h<;>first|(cases h;done)|skip
  all_goals
   split at h
   ·rename_i hi;simp only[nav,if_pos hi];exact ih h
   ·cases h
theorem Rep.part_sc{ρ:Rho}{m:List Root}{w:World}(hrep:Rep ρ m w){r:Nat}{R:Root}{q:List Nat}{x:Dat}(hR:m[r]? =some R)(hnl:R.navL q=some x):Sc m.length x:=by
 obtain⟨d,hf,hn,_,_⟩:=Root.flat_nav hnl
 obtain⟨c,hc⟩:=con_of_flat hf
 have hs:=(hrep.wf r R c hR hc).2
 have hsd:Sc m.length d:=by cases R<;>simp only[Root.con,Root.flat,Option.some.injEq] at hc hf<;>first|(cases hc;done)|(cases hf;done)|(subst hc;subst hf;exact hs)
 exact sc_nav (navL_nav hn) hsd
theorem plE_ok{v:Dat}(hs:isScalar v=true\/(∃n s f,v=.ar n s f)\/(∃n f,v=.st n f))(h:AllP (plE v)):Pl v:=by
 rcases hs with hs|⟨n,s,f,rfl⟩|⟨n,f,rfl⟩
 ·cases v<;>first|trivial|cases hs
 ·exact h
 ·exact h
theorem ok_of{v:Dat}(h1:WF v)(h2:Pl v):Ok v:=by
 cases v<;>first|exact⟨h1,h2⟩|exact h1.elim
theorem loadE_ok{P:Program}{T:TyEnv}(hT:TOK P T){t:TypeId}{x v:Dat}{m:List Root}{ps:List Prop}(h:loadE T t x m=some (ps,v))(hp:AllP ps)
  {ρ:Rho}{w:World}(hrep:Rep ρ m w):(Instr.loadAt t (enc ρ x)).run P w=.ok (enc ρ v) w/\Sc m.length v/\Ok v:=by
 unfold loadE at h
 split at h
 case h_2=>cases h
 rename_i r q o i hti
 split at h
 case h_2=>cases h
 rename_i R hR
 split at h
 case h_2=>cases h
 rename_i ps0 v0 hnav
 cases hfit:fit i v0 with
 |false=>rw[hfit] at h;cases h
 |true=>
 rw[hfit] at h
 simp only[cond_true,Option.some.injEq,Prod.mk.injEq] at h
 obtain⟨rfl,rfl⟩:=h
 obtain⟨hp1,hp2⟩:=hp.app
 obtain⟨hoff,hp3⟩:=hp2.cons
 obtain⟨hnl,hoo⟩:=Root.navE_ok hnav hp1
 obtain⟨hwx,hnil,hcell⟩:=hrep.part hR hnl
 have hti':=hT t i hti
 obtain⟨hsz,hf1,hf2⟩:=fit_sz hfit
 have hpl:Pl v0:=plE_ok (by cases hag:i.ty.agg with|false=>exact .inl (hf1 hag)|true=>exact .inr (hf2 hag)) hp3
 refine⟨?_,hrep.part_sc hR hnl,ok_of hwx hpl⟩
 have hadr:enc ρ (.p r q o)=.pointer (some ⟨(ρ r []).b,(ρ r []).o+R.offs q,none⟩):=by
  rw[<-hoo,hoff];rfl
 rw[hadr]
 unfold Instr.loadAt
 simp only[Instr.sureAddr,Sem.run_bind,Sem.run_pure,Result.andThen_ok]
 unfold loadVar
 rw[Sem.run_bind,isAgg_run hti' w]
 cases hag:i.ty.agg with
 |true=>
  have hlen:(cells ρ noA v0).length=i.sz:=by rw[cells_length ρ _ _ hwx];exact hsz
  have hl:=run_loadCells_list (P:=P) w ⟨(ρ r []).b,(ρ r []).o+R.offs q,none⟩ (cells ρ noA v0) (λ j u hu=>by
   rw[addr_add]
   exact hcell j u (by rw[cells_plain _ _ noA hpl];exact hu))
  rw[hlen] at hl
  simp only[Result.andThen_ok,if_true,Sem.run_bind,sizeOf_run hti' w,hl,Sem.run_pure]
  rcases hf2 hag with⟨n,s,f,rfl⟩|⟨n,f,rfl⟩<;>rfl
 |false=>
  have hsca:=hf1 hag
  have h1:cells ρ (λ z=>ρ r (q++z)) v0=[enc ρ v0]:=by cases v0<;>first|rfl|cases hsca
  have h2:=hcell 0 (enc ρ v0) (by rw[h1];rfl)
  rw[Nat.add_zero] at h2
  simp only[Result.andThen_ok,Bool.false_eq_true,if_false]
  show(load _ _).run P w=_
  simp[load,Sem.run,h2]
end Go.Proofs.YthjnmlpibafbnaaGreat.DM
