import Derived.Test.YthjnmlpibafbnaaGreatD4
namespace Go.Proofs.YthjnmlpibafbnaaGreat.DM
open Go.RowKit
def Root.Le:Root->Root->Prop
 |_,.dead=>True
 | .var d,.var d'=>d'=d
 | .row e n s f,.row e' n' s' f'=>(e'=e/\s'=s)/\n'<=n/\∀i,i<n'->f' i=f i
 | .row _ n s f,.ro n' s' f'=>s'=s/\n'<=n/\∀i,i<n'->f' i=f i
 | .ro n s f,.ro n' s' f'=>s'=s/\n'<=n/\∀i,i<n'->f' i=f i
 | .mp b l,.mp b' l'=>b'=b/\l'=l
 |_,_=>False
theorem Root.Le.refl(R:Root):R.Le R:=by
 cases R<;>simp[Root.Le]
theorem cells_pre{ρ:Rho}{A:List Nat->RV}{n n' s:Nat}{f f':Nat->Dat}(hw:WF (.ar n s f))(hn:n'<=n)(hf:∀i,i<n'->f' i=f i):cells ρ A (.ar n' s f')=(cells ρ A (.ar n s f)).take (n'*s):=by
 have e1:cells ρ A (.ar n' s f')=cells ρ A (.ar n' s f):=flatMap_congr λ i hi=>by rw[hf i (List.mem_range.1 hi)]
 have hl:(cells ρ A (.ar n' s f)).length=n'*s:=cells_length ρ (.ar n' s f) A (λ i hi=>hw i (by omega))
 rw[e1]
 have e2:cells ρ A (.ar n s f)=cells ρ A (.ar n' s f)++((List.range (n-n')).map (n'+·)).flatMap λ i=>cells ρ (λ q=>A (i::q)) (f i):=by
  simp only[cells]
  rw[<-List.flatMap_append]
  congr 1
  rw[show n=n'+(n-n') by omega,List.range_add,show n'+(n-n')-n'=n-n' by omega]
 rw[e2, <-hl,List.take_left]
theorem RowOK.pre{ρ:Rho}{w:World}{v:RV}{A:List Nat->RV}{e:TypeId}{n n' s:Nat}{f f':Nat->Dat}(hw:WF (.ar n s f))(hn:n'<=n)(hf:∀i,i<n'->f' i=f i)(h:RowOK ρ w v A e n s f):RowOK ρ w v A e n' s f':=by
 obtain⟨blk,h1,h2,h3,h4,h5,h6,h7⟩:=h
 refine⟨blk,h1,h2,h3,by omega,h5,h6,?_⟩
 rw[cells_pre hw hn hf, <-h7,List.take_take,Nat.min_eq_left (Nat.mul_le_mul_right s hn)]
theorem RoOK.pre{ρ:Rho}{w:World}{v:RV}{A:List Nat->RV}{n n' s:Nat}{f f':Nat->Dat}(hw:WF (.ar n s f))(hn:n'<=n)(hf:∀i,i<n'->f' i=f i)(h:RoOK ρ w v A n s f):RoOK ρ w v A n' s f':=by
 rcases h with⟨h1,h2⟩|⟨h1,h2,h3,h4,h5⟩
 ·exact .inl ⟨h1,by omega⟩
 ·refine .inr ⟨h1,by omega,by omega,h4,λ j u hu=>h5 j u ?_⟩
  rw[cells_pre hw hn hf,List.getElem?_take] at hu
  split at hu
  ·exact hu
  ·cases hu
theorem RowOK.ro{ρ:Rho}{w:World}{v:RV}{A:List Nat->RV}{e:TypeId}{n s:Nat}{f:Nat->Dat}(h:RowOK ρ w v A e n s f):RoOK ρ w v A n s f:=by
 have hlt:=h.lt
 obtain⟨blk,h1,h2,h3,h4,h5,h6,h7⟩:=h
 refine .inr ⟨h3,h4,by omega,hlt,λ j u hu=>?_⟩
 rw[<-h7,List.getElem?_take] at hu
 rw[h2,Nat.zero_add,cell_of_row w _ _ blk e (0,0) h1]
 split at hu
 ·simpa using hu
 ·cases hu
theorem Root.Le.mine{R0 R:Root}(h:R0.Le R)(hm:R.mine=true):R0.mine=true:=by
 cases R0<;>cases R<;>first|rfl|exact h.elim|(cases hm;done)
theorem Root.Le.nav{R0 R:Root}(h:R0.Le R){d:Dat}(hd:R.con=some d){q:List Nat}(hq:q≠[]){e:TypeId}{n s:Nat}{f:Nat->Dat}(hn:DM.nav d q=some (.ow e n s f)):∃d0,R0.con=some d0/\DM.nav d0 q=some (.ow e n s f):=by
 obtain⟨i,q,rfl⟩:∃i z,q=i::z:=by cases q with|nil=>exact absurd rfl hq|cons i z=>exact⟨i,z,rfl⟩
 cases R0<;>cases R<;>first|(cases hd;done)|exact h.elim|(cases hd;simp[DM.nav] at hn;done)|skip
 ·cases hd;cases h;exact⟨_,rfl,hn⟩
 all_goals
  cases hd
  simp only[DM.nav] at hn
  split at hn
  ·rename_i hi
   refine⟨_,rfl,?_⟩
   simp only[DM.nav]
   first
    |(rw[if_pos (by have:=h.2.1;omega), <-h.2.2 i hi];exact hn)
  ·cases hn
theorem Root.Le.at{R0 R:Root}(h:R0.Le R){q:List Nat}(ha:At R q):At R0 q:=by
 by_cases hq:q=[]
 ·subst hq
  refine .inl ⟨rfl,?_⟩
  rcases ha with⟨_,ha⟩|⟨d,e,n,s,f,h1,h2⟩
  ·cases R0<;>cases R<;>first|rfl|(cases ha;done)|exact h.elim
  ·cases R0<;>cases R<;>first|rfl|(cases h1;done)|exact h.elim
 ·rcases ha with⟨e,_⟩|⟨d,e,n,s,f,h1,h2⟩
  ·exact absurd e hq
  ·obtain⟨d0,g1,g2⟩:=h.nav h1 hq h2
   exact .inr ⟨d0,e,n,s,f,g1,g2⟩
theorem Root.Le.atO{R0 R:Root}(h:R0.Le R){q:List Nat}(ha:AtO R q):AtO R0 q:=by
 by_cases hq:q=[]
 ·subst hq
  rcases h.at ha.at with⟨_,g⟩|⟨d,e,n,s,f,h1,h2⟩
  ·exact .inl ⟨rfl,g⟩
  ·exact .inl ⟨rfl,by rw[h1];rfl⟩
 ·rcases ha with⟨e,_⟩|⟨d,e,n,s,f,h1,h2,h3⟩
  ·exact absurd e hq
  ·obtain⟨d0,g1,g2⟩:=h.nav h1 hq h2
   exact .inr ⟨d0,e,n,s,f,g1,g2,h3⟩
theorem Rep.le_row{ρ:Rho}{m:List Root}{w:World}(h:Rep ρ m w){r:Nat}{R0 R:Root}(hr:m[r]? =some R0)(hl:R0.Le R){d:Dat}{q:List Nat}{e:TypeId}{n s:Nat}{f:Nat->Dat}(hm:R.mine=true)(hd:R.con=some d)(hn:nav d q=some (.ow e n s f))(hc:q=[]\/e≠0):RowOK ρ w (ρ r q) (λ z=>ρ r (q++z)) e n s f:=by
 by_cases hq:q=[]
 ·subst hq
  cases R0<;>cases R<;>first|(cases hm;done)|exact hl.elim|(cases hd;simp[DM.nav] at hn;done)|skip
  ·rename_i d0 d1
   cases hd
   have e1:d=d0:=hl
   subst e1
   exact h.row r _ _ [] e n s f hr rfl rfl hn (.inl rfl)
  ·cases hd
   simp only[nav,Option.some.injEq,Dat.ow.injEq] at hn
   obtain⟨rfl,rfl,rfl,rfl⟩:=hn
   obtain⟨⟨rfl,rfl⟩,h2,h3⟩:=hl
   exact(h.row r _ _ [] _ _ _ _ hr rfl rfl rfl (.inl rfl)).pre (h.wf r _ _ hr rfl).1 h2 h3
 ·obtain⟨d0,g1,g2⟩:=hl.nav hd hq hn
  exact h.row r R0 d0 q e n s f hr (hl.mine hm) g1 g2 hc
theorem Rep.le_ro{ρ:Rho}{m:List Root}{w:World}(h:Rep ρ m w){r:Nat}{R0 R:Root}(hr:m[r]? =some R0)(hl:R0.Le R){d:Dat}{q:List Nat}{e:TypeId}{n s:Nat}{f:Nat->Dat}(hc:R.mine=false\/(q≠[]/\e=0))(hd:R.con=some d)(hn:nav d q=some (.ow e n s f)):RoOK ρ w (ρ r q) (λ z=>ρ r (q++z)) n s f:=by
 by_cases hq:q=[]
 ·subst hq
  have hm:R.mine=false:=hc.resolve_right (λ h=>h.1 rfl)
  cases R0<;>cases R<;>first|(cases hm;done)|(cases hd;done)|exact hl.elim|(cases hd;simp[DM.nav] at hn;done)|skip
  ·cases hd
   simp only[nav,Option.some.injEq,Dat.ow.injEq] at hn
   obtain⟨_,rfl,rfl,rfl⟩:=hn
   obtain⟨rfl,h2,h3⟩:=hl
   exact(h.row r _ _ [] _ _ _ _ hr rfl rfl rfl (.inl rfl)).ro.pre (h.wf r _ _ hr rfl).1 h2 h3
  ·cases hd
   simp only[nav,Option.some.injEq,Dat.ow.injEq] at hn
   obtain⟨_,rfl,rfl,rfl⟩:=hn
   obtain⟨rfl,h2,h3⟩:=hl
   exact(h.ro r _ _ [] _ _ _ _ hr (.inl rfl) rfl rfl).pre (h.wf r _ _ hr rfl).1 h2 h3
 ·obtain⟨d0,g1,g2⟩:=hl.nav hd hq hn
  cases hm0:R0.mine with
  |false=>exact h.ro r R0 d0 q e n s f hr (.inl hm0) g1 g2
  |true=>
   by_cases he:e=0
   ·exact h.ro r R0 d0 q e n s f hr (.inr ⟨hq,he⟩) g1 g2
   ·exact(h.row r R0 d0 q e n s f hr hm0 g1 g2 (.inr he)).ro
theorem Root.Le.wf{R0 R:Root}(h:R0.Le R){d:Dat}(hd:R.con=some d){k:Nat}(h0:∀d0,R0.con=some d0->WF d0):WF d/\((∀d0,R0.con=some d0->Sc k d0)->Sc k d):=by
 cases R0<;>cases R<;>first|(cases hd;done)|exact h.elim|(cases hd;exact⟨trivial,λ _=>trivial⟩)|skip
 ·cases hd;cases h;exact⟨h0 _ rfl,λ g=>g _ rfl⟩
 all_goals
  cases hd
  refine⟨λ i hi=>?_,λ g i hi=>?_⟩
  ·have e:=h.2.2 i hi
   have:=h0 _ rfl i (by have:=h.2.1;omega)
   rw[e]
   first
    |exact⟨this.1.trans h.1.2.symm,this.2⟩
    |exact⟨this.1.trans h.1.symm,this.2⟩
  ·have e:=h.2.2 i hi
   rw[e]
   exact g _ rfl i (by have:=h.2.1;omega)
structure Taken(τ:Nat->Nat)(k:Nat)(m m':List Root):Prop where
 get:∀(j:Nat) (R:Root),m'[j]? =some R->R=.dead\/∃R0,m[τ j]? =some R0/\R0.Le R/\∀d,R.con=some d->Sc k d
 inj:∀(i j:Nat) (R R':Root),m'[i]? =some R->m'[j]? =some R'->R.mine=true->R'≠.dead->τ i=τ j->i=j
 fix:∀r,r<k->τ r=r
 len:k<=m'.length
theorem Rep.taken{τ:Nat->Nat}{k:Nat}{ρ:Rho}{m m':List Root}{w:World}(h:Rep ρ m w)(ht:Taken τ k m m'):Rep (λ r=>ρ (τ r)) m' w:=by
 have hρ:∀r,r<k->(λ r=>ρ (τ r)) r []=ρ r []:=λ r hr=>by simp only[ht.fix r hr]
 have old:∀{j:Nat}{R:Root}{d:Dat},m'[j]? =some R->R.con=some d->∃R0,m[τ j]? =some R0/\R0.Le R/\Sc k d:=by
  intro j R d h1 h2
  rcases ht.get j R h1 with rfl|⟨R0,h3,h4,h5⟩
  ·cases h2
  ·exact⟨R0,h3,h4,h5 d h2⟩
 refine⟨λ r d hr=>?_,λ r R d q e n s f h1 h2 h3 h4 h5=>?_,λ r R d q e n s f h1 h2 h3 h4=>?_,λ r R q r' R' q' h1 h2 h3 h4 h5 h6 h7=>?_,λ r R d h1 h2=>?_,λ r b l hr=>by
  rcases ht.get r _ hr with h0|⟨R0,h1,h2,_⟩
  ·cases h0
  ·have:R0=.mp b l:=by
    cases R0<;>first|exact h2.elim|skip
    obtain⟨rfl,rfl⟩:=h2;rfl
   subst this
   exact h.mp _ b l h1⟩
 ·obtain⟨R0,h1,h2,h3⟩:=old hr rfl
  have:R0=.var d:=by
   cases R0<;>first|exact h2.elim|skip
   exact congrArg _ (show d=_ from h2).symm
  subst this
  exact(h.var _ d h1).rho hρ h3
 ·obtain⟨R0,g1,g2,g3⟩:=old h1 h3
  exact(h.le_row g1 g2 h2 h3 h4 h5).rho hρ (show Sc k (.ow e n s f) from sc_nav h4 g3)
 ·obtain⟨R0,g1,g2,g3⟩:=old h1 h3
  exact(h.le_ro g1 g2 h2 h3 h4).rho hρ (show Sc k (.ow e n s f) from sc_nav h4 g3)
 ·have live:∀{j:Nat}{X:Root}{z:List Nat},m'[j]? =some X->At X z->(∃R0,m[τ j]? =some R0/\R0.Le X)/\X≠.dead:=by
   intro j X z hx hz
   rcases ht.get j X hx with rfl|⟨R0,h8,h9,_⟩
   ·rcases hz with⟨_,hz⟩|⟨_,_,_,_,_,hz,_⟩<;>cases hz
   ·refine⟨⟨R0,h8,h9⟩,?_⟩
    rintro rfl
    rcases hz with⟨_,hz⟩|⟨_,_,_,_,_,hz,_⟩<;>cases hz
  obtain⟨⟨R0,g1,g2⟩,g3⟩:=live h1 h4.at
  obtain⟨⟨R1,f1,f2⟩,f3⟩:=live h2 h5
  exact h.sep _ R0 q _ R1 q' g1 f1 (g2.mine h3) (g2.atO h4) (f2.at h5) h6 (λ e=>h7 (ht.inj r r' R R' h1 h2 h3 f3 e))
 ·obtain⟨R0,g1,g2,g3⟩:=old h1 h2
  exact⟨(g2.wf h2 (k:=k) (λ d0 hd0=>(h.wf _ R0 d0 g1 hd0).1)).1,g3.mono ht.len⟩
theorem At.ne{R:Root}{q:List Nat}(h:At R q):R≠.dead:=by
 rintro rfl
 rcases h with⟨_,h⟩|⟨_,_,_,_,_,h,_⟩<;>cases h
theorem Rep.moveOff{ρ:Rho}{m:List Root}{w w':World}(h:Rep ρ m w)(hz:w.heap.size<=w'.heap.size)(hb:∀(r:Nat) (R:Root) q,m[r]? =some R->At R q->(ρ r q).nil=false->w'.heap[(ρ r q).b]? =w.heap[(ρ r q).b]?):Rep ρ m w' where
 var:=λ r d hr=>(h.var r d hr).keep (hb r _ [] hr (.inl ⟨rfl,rfl⟩) (h.mine_nil hr rfl (.inl ⟨rfl,rfl⟩)))
 row:=λ r R d q e n s f h1 h2 h3 h4 h5=>(h.row r R d q e n s f h1 h2 h3 h4 h5).keep (hb r R q h1 (.inr ⟨d,e,n,s,f,h3,h4⟩) (by
  obtain⟨_,_,_,hn,_⟩:=h.row r R d q e n s f h1 h2 h3 h4 h5
  exact hn))
 ro:=λ r R d q e n s f h1 h2 h3 h4=>(h.ro r R d q e n s f h1 h2 h3 h4).keep hz λ hn=>hb r R q h1 (.inr ⟨d,e,n,s,f,h3,h4⟩) hn
 sep:=h.sep
 wf:=h.wf
 mp:=λ r b l hr=>(h.mp r b l hr).keep (hb r _ [] hr (.inl ⟨rfl,rfl⟩) (h.mp r b l hr).2.1)
theorem Rep.forgot{ρ:Rho}{m m1:List Root}{w:World}(h:Rep ρ m w)(hl:m1.length=m.length)(hm:∀(j:Nat) (R:Root),m1[j]? =some R->R=.dead\/m[j]? =some R):Rep ρ m1 w:=
 h.taken (τ:=λ r=>r) (k:=m.length) ⟨λ j R hj=>(hm j R hj).imp id λ h1=>⟨R,h1,Root.Le.refl R,λ d hd=>(h.wf j R d h1 hd).2⟩,λ _ _ _ _ _ _ _ _ e=>e,λ _ _=>rfl,by omega⟩
theorem Rep.pushRow{ρ:Rho}{m m1:List Root}{w w':World}(h:Rep ρ m w)(hl:m1.length=m.length)(hm:∀(j:Nat) (R:Root),m1[j]? =some R->R=.dead\/m[j]? =some R)
  {kb:Option Nat}(hg:w.grownBy w' kb) (hdn:w.drawn<=w'.drawn) (hkb:∀b,kb=some b->∃(r:Nat) (R:Root),m[r]? =some R/\R.mine=true/\R.con.isSome=true/\(ρ r []).b=b/\∀X,m1[r]? =some X->X=.dead)
  (A:List Nat->RV) {e:TypeId}{n s:Nat}{f:Nat->Dat}(hrow:RowOK ρ w' (A []) A e n s f) (hblk:(A []).b=w.heap.size\/kb=some (A []).b)
  (src:List Nat->Nat×List Nat)
  (hsrc:∀q e' n' s' f',q≠[]->nav (.ow e n s f) q=some (.ow e' n' s' f')->(∃R d,m[(src q).1]? =some R/\R.con=some d/\nav d (src q).2=some (.ow e' n' s' f')/\(src q).2≠[]/\(∀z,A (q++z)=ρ (src q).1 ((src q).2++z))/\
   (e'≠0->R.mine=true/\∀X,m1[(src q).1]? =some X->X=.dead)))
  (hinj:∀q q' e' n' s' f' d',q≠[]->q'≠[]->nav (.ow e n s f) q=some (.ow e' n' s' f')->e'≠0->nav (.ow e n s f) q'=some d'->src q=src q'->q=q')
  (hw:WF (.ow e n s f)) (hsc:Sc m.length (.ow e n s f)):
  Rep (ext ρ m.length A) (m1++[.row e n s f]) w'/\Tr ρ m w (ext ρ m.length A) (m1++[.row e n s f]) w':=by
 have hne:∀{r:Nat}{R:Root}{q:List Nat},m1[r]? =some R->At R q->m[r]? =some R:=λ h1 h2=>(hm _ _ h1).resolve_left h2.ne
 --the changed block is none of the places that stay
 have hoff:∀{r:Nat}{R:Root}{q:List Nat},m1[r]? =some R->At R q->(ρ r q).nil=false->some (ρ r q).b≠kb:=by
  intro r R q h1 h2 h3 e1
  obtain⟨r0,R0,g1,g2,g3,g4,g5⟩:=hkb _ e1.symm
  refine h.sep r0 R0 [] r R q g1 (hne h1 h2) g2 (.inl ⟨rfl,g3⟩) h2 h3 (λ e2=>?_) g4
  subst e2
  exact absurd (g5 _ h1) h2.ne
 have h1:Rep ρ m1 w':=(h.forgot hl hm).moveOff hg.size λ r R q h1 h2 h3=>hg.block _ (h.at_lt (hne h1 h2) h2 h3) (hoff h1 h2 h3)
 have hρ:∀r,r<m.length->ext ρ m.length A r=ρ r:=λ r hr=>ext_ne ρ A (by omega)
 have hn:ext ρ m1.length A m1.length=A:=ext_same ρ _ _
 have h2:Rep (ext ρ m1.length A) m1 w':=h1.rho λ r hr=>ext_ne ρ A (by omega)
 have hρ0:∀r,r<m.length->ext ρ m.length A r []=ρ r []:=λ r hr=>by rw[hρ r hr]
 rw[<-hl] at hρ hρ0 ⊢
 have hlt:∀{r:Nat}{R:Root},m[r]? =some R->r<m1.length:=λ hx=>by rw[hl];exact(List.getElem?_eq_some_iff.1 hx).1
 --a place inside the row
 have inner:∀{q:List Nat}{e':TypeId}{n' s':Nat}{f':Nat->Dat},q≠[]->nav (.ow e n s f) q=some (.ow e' n' s' f')->∃R d,m[(src q).1]? =some R/\R.con=some d/\nav d (src q).2=some (.ow e' n' s' f')/\(src q).2≠[]/\(∀z,A (q++z)=ρ (src q).1 ((src q).2++z))/\
   (e'≠0->R.mine=true/\∀X,m1[(src q).1]? =some X->X=.dead)/\A q=ρ (src q).1 (src q).2/\At R (src q).2:=by
  intro q e' n' s' f' hq hx
  obtain⟨R,d,g1,g2,g3,g4,g5,g6⟩:=hsrc q e' n' s' f' hq hx
  exact⟨R,d,g1,g2,g3,g4,g5,g6,by have:=g5 [];rwa [List.append_nil,List.append_nil] at this,.inr ⟨d,e',n',s',f',g2,g3⟩⟩
 --its block is not the one that changed
 have inOff:∀{q:List Nat}{e':TypeId}{n' s':Nat}{f':Nat->Dat},q≠[]->nav (.ow e n s f) q=some (.ow e' n' s' f')->(A q).nil=false->(A q).b<w.heap.size/\some (A q).b≠kb:=by
  intro q e' n' s' f' hq hx hz
  obtain⟨R,d,g1,g2,g3,g4,g5,g6,g7,g8⟩:=inner hq hx
  rw[g7] at hz ⊢
  refine⟨h.at_lt g1 g8 hz,λ e1=>?_⟩
  obtain⟨r0,R0,f1,f2,f3,f4,f5⟩:=hkb _ e1.symm
  exact h.sep r0 R0 [] _ R _ f1 g1 f2 (.inl ⟨rfl,f3⟩) g8 hz (λ _ e2=>g4 e2.symm) f4
 have atNil:(A []).nil=false:=by
  obtain⟨_,_,_,hx,_⟩:=hrow
  exact hx
 have atIn:∀{q:List Nat},At (.row e n s f) q->q=[]\/(q≠[]/\∃e' n' s' f',nav (.ow e n s f) q=some (.ow e' n' s' f')):=by
  intro q ha
  by_cases hq:q=[]
  ·exact .inl hq
  ·rcases ha with⟨h,_⟩|⟨d,e',n',s',f',g1,g2⟩
   ·exact absurd h hq
   ·cases g1;exact .inr ⟨hq,e',n',s',f',g2⟩
 have atOIn:∀{q:List Nat},AtO (.row e n s f) q->q=[]\/(q≠[]/\∃e' n' s' f',nav (.ow e n s f) q=some (.ow e' n' s' f')/\e'≠0):=by
  intro q ha
  by_cases hq:q=[]
  ·exact .inl hq
  ·rcases ha with⟨h,_⟩|⟨d,e',n',s',f',g1,g2,g3⟩
   ·exact absurd h hq
   ·cases g1;exact .inr ⟨hq,e',n',s',f',g2,g3⟩
 have own:∀{q:List Nat}{e':TypeId}{n' s':Nat}{f':Nat->Dat},q≠[]->nav (.ow e n s f) q=some (.ow e' n' s' f')->e'≠0->RowOK ρ w' (A q) (λ z=>A (q++z)) e' n' s' f':=by
  intro q e' n' s' f' hq hx he
  obtain⟨R,d,g1,g2,g3,g4,g5,g6,g7,g8⟩:=inner hq hx
  have hrw:=h.row _ R d _ e' n' s' f' g1 (g6 he).1 g2 g3 (.inr he)
  have hz:(A q).nil=false:=by
   obtain⟨_,_,_,hz,_⟩:=hrw
   rw[g7];exact hz
  have hb:=inOff hq hx hz
  have:=hrw.keep (w':=w') (by rw[<-g7];exact hg.block _ hb.1 hb.2)
  rw[show(λ z=>A (q++z))=λ z=>ρ (src q).1 ((src q).2++z) from funext g5,g7]
  exact this
 have cross:∀{q q':List Nat}{e':TypeId}{n' s':Nat}{f':Nat->Dat}{e2:TypeId}{n2 s2:Nat}{f2:Nat->Dat},q≠[]->q'≠[]->nav (.ow e n s f) q=some (.ow e' n' s' f')->e'≠0->nav (.ow e n s f) q'=some (.ow e2 n2 s2 f2)->q≠q'->(A q').nil=false->(A q).b≠(A q').b:=by
  intro q q' e' n' s' f' e2 n2 s2 f2 hq hq' hx he hx' hne hz
  obtain⟨R,d,g1,g2,g3,g4,g5,g6,g7,g8⟩:=inner hq hx
  obtain⟨R',d',k1,k2,k3,k4,k5,k6,k7,k8⟩:=inner hq' hx'
  rw[g7,k7]
  rw[k7] at hz
  refine h.sep _ R _ _ R' _ g1 k1 (g6 he).1 (.inr ⟨d,e',n',s',f',g2,g3,he⟩) k8 hz (λ e3 e4=>hne ?_)
  exact hinj q q' e' n' s' f' _ hq hq' hx he hx' (Prod.ext e3 e4)
 refine⟨h2.push ?_ ?_ ?_ ?_ ?_ ?_ ?_ (λ b l hh=>by cases hh),?_⟩
 ·intro d hd;cases hd
 ·intro d q e' n' s' f' _ hd hx hc
  cases hd
  rw[hn]
  by_cases hq:q=[]
  ·subst hq
   simp only[nav,Option.some.injEq,Dat.ow.injEq] at hx
   obtain⟨rfl,rfl,rfl,rfl⟩:=hx
   exact hrow.rho (n:=m.length) (λ r hr=>hρ0 r (by omega)) hsc
  ·exact(own hq hx (hc.resolve_left hq)).rho (n:=m.length) (λ r hr=>hρ0 r (by omega)) (show Sc m.length (.ow e' n' s' f') from sc_nav hx hsc)
 ·intro d q e' n' s' f' hc hd hx
  cases hd
  obtain⟨hq,rfl⟩:=hc.resolve_left (λ h=>by cases h)
  obtain⟨R,d,g1,g2,g3,g4,g5,g6,g7,g8⟩:=inner hq hx
  have hro:=h.ro _ R d _ 0 n' s' f' g1 (.inr ⟨g4,rfl⟩) g2 g3
  rw[hn]
  have:=hro.keep (w':=w') hg.size (λ hz=>by
   have hz':(A q).nil=false:=by rw[g7];exact hz
   have hb:=inOff hq hx hz'
   rw[<-g7];exact hg.block _ hb.1 hb.2)
  rw[show(λ z=>A (q++z))=λ z=>ρ (src q).1 ((src q).2++z) from funext g5,g7]
  exact this.rho (n:=m.length) (λ r hr=>hρ0 r (by omega)) (show Sc m.length (.ow 0 n' s' f') from sc_nav hx hsc)
 ·intro q r' R' q' ha hr' ha' hor hz hz'
  have hr0:=hne hr' ha'
  rw[hρ r' (hlt hr0)] at hz' ⊢
  rw[hn] at hz ⊢
  have hb':=h.at_lt hr0 ha' hz'
  rcases atIn ha with rfl|⟨hq,e',n',s',f',hx⟩
  ·rcases hblk with hx|hx
   ·omega
   ·intro e1;exact hoff hr' ha' hz' (by rw[<-e1,hx])
  ·obtain⟨R,d,g1,g2,g3,g4,g5,g6,g7,g8⟩:=inner hq hx
   rw[g7] at hz ⊢
   rcases hor with⟨hm1,hao⟩|⟨hm1,hao⟩
   ·rcases atOIn hao with e1|⟨_,e2,n2,s2,f2,hx2,he2⟩
    ·exact absurd e1 hq
    ·rw[hx] at hx2
     cases hx2
     refine h.sep _ R _ _ R' _ g1 hr0 (g6 he2).1 (.inr ⟨d,e',n',s',f',g2,g3,he2⟩) ha' hz' (λ e3=>?_)
     rw[<-e3] at hr'
     exact absurd ((g6 he2).2 _ hr') ha'.ne
   ·refine λ e1=>h.sep _ R' _ _ R _ hr0 g1 hm1 hao g8 hz (λ e3 e4=>?_) e1.symm
    --the same place:it is one's own,so its root is forgotten
    have hRR:R'=R:=by rw[<-e3,hr0] at g1;exact Option.some.inj g1
    have he':e'≠0:=by
     rcases hao with⟨h0,_⟩|⟨d2,e2,n2,s2,f2,k1,k2,k3⟩
     ·exact absurd (h0.symm.trans e4).symm g4
     ·rw[hRR,g2] at k1
      cases k1
      rw[e4,g3] at k2
      cases k2
      exact k3
    rw[e3] at hr'
    exact absurd ((g6 he').2 _ hr') ha'.ne
 ·intro q q' _ ha ha' hne hz'
  rw[hn] at hz' ⊢
  rcases atOIn ha with rfl|⟨hq,e',n',s',f',hx,he⟩
  ·rcases atIn ha' with rfl|⟨hq',e2,n2,s2,f2,hx'⟩
   ·exact absurd rfl hne
   ·have hb:=inOff hq' hx' hz'
    rcases hblk with hk|hk
    ·omega
    ·intro e1;exact hb.2 (by rw[<-e1,hk])
  ·rcases atIn ha' with rfl|⟨hq',e2,n2,s2,f2,hx'⟩
   ·have hz:(A q).nil=false:=by
     obtain⟨_,_,_,hz,_⟩:=own hq hx he
     exact hz
    have hb:=inOff hq hx hz
    rcases hblk with hk|hk
    ·omega
    ·intro e1;exact hb.2 (by rw[e1,hk])
   ·exact cross hq hq' hx he hx' hne hz'
 ·intro q _ ha
  rw[hn]
  rcases atOIn ha with rfl|⟨hq,e',n',s',f',hx,he⟩
  ·exact atNil
  ·obtain⟨_,_,_,hz,_⟩:=own hq hx he
   exact hz
 ·intro d hd;cases hd;exact⟨hw,hsc.mono (by omega)⟩
 ·refine⟨hg.os,hg.tape,hdn,hg.output,hg.size,λ r hr=>hρ0 r (by omega),by simp;omega,λ k hk hfree=>?_,λ r R q hr hmine ha=>?_,λ r R q hr ha hz=>?_⟩
  ·refine hg.block k hk λ e1=>?_
   obtain⟨r0,R0,g1,g2,g3,g4,_⟩:=hkb k e1.symm
   exact hfree r0 R0 [] g1 g2 (.inl ⟨rfl,g3⟩) g4
  ·rcases snoc_get hr with⟨hr',h3⟩|⟨rfl,rfl⟩
   ·have h4:=hne h3 ha.at
    rw[hρ r (hlt h4)]
    exact .inr ⟨r,R,q,h4,hmine,ha,rfl⟩
   ·rw[hn]
    rcases atOIn ha with rfl|⟨hq,e',n',s',f',hx,he⟩
    ·rcases hblk with hk|hk
     ·left;omega
     ·obtain⟨r0,R0,g1,g2,g3,g4,_⟩:=hkb _ hk
      exact .inr ⟨r0,R0,[],g1,g2,.inl ⟨rfl,g3⟩,g4⟩
    ·obtain⟨R,d,g1,g2,g3,g4,g5,g6,g7,g8⟩:=inner hq hx
     rw[g7]
     exact .inr ⟨_,R,_,g1,(g6 he).1,.inr ⟨d,e',n',s',f',g2,g3,he⟩,rfl⟩
  ·rcases snoc_get hr with⟨hr',h3⟩|⟨rfl,rfl⟩
   ·have h4:=hne h3 ha
    rw[hρ r (hlt h4)] at hz ⊢
    exact .inr ⟨r,R,q,h4,ha,hz,rfl⟩
   ·rw[hn] at hz ⊢
    rcases atIn ha with rfl|⟨hq,e',n',s',f',hx⟩
    ·rcases hblk with hk|hk
     ·left;omega
     ·obtain⟨r0,R0,g1,g2,g3,g4,_⟩:=hkb _ hk
      exact .inr ⟨r0,R0,[],g1,.inl ⟨rfl,g3⟩,h.mine_nil g1 g2 (.inl ⟨rfl,g3⟩),g4⟩
    ·obtain⟨R,d,g1,g2,g3,g4,g5,g6,g7,g8⟩:=inner hq hx
     rw[g7] at hz ⊢
     exact .inr ⟨_,R,_,g1,g8,hz,rfl⟩
end Go.Proofs.YthjnmlpibafbnaaGreat.DM
