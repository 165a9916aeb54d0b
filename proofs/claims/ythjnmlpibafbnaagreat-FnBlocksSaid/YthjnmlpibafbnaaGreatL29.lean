import Derived.Test.YthjnmlpibafbnaaGreatL22
import Derived.Test.YthjnmlpibafbnaaGreatD34
namespace Go.Proofs.YthjnmlpibafbnaaGreat
open Go.RowKit DM
set_option linter.unusedVariables false
set_option linter.unusedSimpArgs false
structure Chn where
 gens:Nat->List (Nat->Nat)
 has:Nat->Nat->Bool
 tab:Nat->Nat->Nat->Nat
structure CI(n:Nat)(C:Chn):Prop where
 T:TblOk n C.has C.tab
 lvl:∀i k,i<n->C.has i k=true->Grp n (C.gens i) (C.tab i k)
 gnp:∀i,i<n->∀g∈C.gens i,Np n g/\∀j,j<i->g j=j
 sub:∀i,i+1<n->∀g∈C.gens (i+1),Grp n (C.gens i) g
def InS(n:Nat)(C:Chn)(k:Nat)(r:Nat->Nat):Prop:=InT n C.has C.tab (n-k) r
def Clo(n:Nat)(C:Chn)(k:Nat):Prop:=∀y,C.has k y=true->∀g∈C.gens k,InS n C k (mulF n (C.tab k y) g)
abbrev ExtC(n:Nat)(C D:Chn):Prop:=Ext n C.has C.tab D.has D.tab
theorem Ext.refl{n:Nat}{has:Nat->Nat->Bool}{tab:Nat->Nat->Nat->Nat}:Ext n has tab has tab:=⟨λ _ _ _ h=>h,λ _ _ _ _=>rfl⟩
theorem Ext.trans{n:Nat}{h1 h2 h3:Nat->Nat->Bool}{t1 t2 t3:Nat->Nat->Nat->Nat}(a:Ext n h1 t1 h2 t2)(b:Ext n h2 t2 h3 t3):Ext n h1 t1 h3 t3:=
 ⟨λ i k hi h=>b.hs i k hi (a.hs i k hi h),λ i k hi h=>(b.tb i k hi (a.hs i k hi h)).trans (a.tb i k hi h)⟩
theorem InS.ext{n:Nat}{C D:Chn}(h:ExtC n C D){k:Nat}{r:Nat->Nat}(hr:InS n C k r):InS n D k r:=InT.ext h (Nat.sub_le _ _) hr
theorem cnt_mono{a b:Nat->Bool}:∀m,(∀k,k<m->a k=true->b k=true)->cntU m b<=cntU m a
 |0,_=>Nat.le_refl _
 |m+1,h=>by
  have ih:=cnt_mono m λ k hk=>h k (by omega)
  have hm:=h m (by omega)
  simp only[cntU]
  cases ha:a m<;>cases hb:b m<;>simp_all<;>omega
theorem cnt_less{a b:Nat->Bool}{y:Nat}:∀m,(∀k,k<m->a k=true->b k=true)->y<m->a y=false->b y=true->cntU m b+1<=cntU m a
 |0,_,h,_,_=>absurd h (Nat.not_lt_zero _)
 |m+1,h,hy,h1,h2=>by
  have ih:=cnt_mono m λ k hk=>h k (by omega)
  simp only[cntU]
  by_cases e:y=m
  ·subst e;rw[h1,h2];simp;omega
  ·have ih2:=cnt_less m (λ k hk=>h k (by omega)) (by omega) h1 h2
   have hm:=h m (by omega)
   cases ha:a m<;>cases hb:b m<;>simp_all<;>omega
theorem free_ext{n:Nat}{has has':Nat->Nat->Bool}:∀m,m<=n->(∀i k,i<n->has i k=true->has' i k=true)->freeF has' m<=freeF has m
 |0,_,_=>Nat.le_refl _
 |m+1,hm,h=>by
  have ih:=free_ext m (by omega) h
  have:=cnt_mono (a:=has m) (b:=has' m) 16 λ k _=>h m k (by omega)
  simp only[freeF];omega
theorem free_more{n:Nat}{has has':Nat->Nat->Bool}{l y:Nat}(hy:y<16)(h1:has l y=false)(h2:has' l y=true):∀m,m<=n->(∀i k,i<n->has i k=true->has' i k=true)->l<m->freeF has' m+1<=freeF has m
 |0,_,_,h=>absurd h (Nat.not_lt_zero _)
 |m+1,hm,h,hl=>by
  have ih:=free_ext m (by omega) h
  simp only[freeF]
  by_cases e:l=m
  ·subst e
   have:=cnt_less (a:=has l) (b:=has' l) 16 (λ k _=>h l k (by omega)) hy h1 h2
   omega
  ·have ih2:=free_more hy h1 h2 m (by omega) h (by omega)
   have:=cnt_mono (a:=has m) (b:=has' m) 16 λ k _=>h m k (by omega)
   omega
theorem InT.less{n:Nat}{has has':Nat->Nat->Bool}{tab tab':Nat->Nat->Nat->Nat}(he:Ext n has tab has' tab')(hs:∀i k,i<n->has' i k=true->has i k=true):∀{d:Nat}{r:Nat->Nat},d<=n->InT n has' tab' d r->InT n has tab d r
 |0,_,_,h=>h
 |d+1,r,hd,⟨k,hk,g,hh,e⟩=>by
  have hlt:n-(d+1)<n:=by omega
  have h1:=hs _ k hlt hk
  exact⟨k,h1,g,InT.less he hs (by omega) hh,by rw[<-he.tb _ k hlt h1];exact e⟩
theorem free_new{n:Nat}(hn:n<=16){C D:Chn}(hT:TblOk n D.has D.tab)(he:ExtC n C D){k:Nat}{p:Nat->Nat}(h1:¬InS n C k p)(h2:InS n D k p):freeF D.has n+1<=freeF C.has n:=by
 refine Classical.byContradiction λ hno=>h1 (InT.less he (λ i y hi hy=>?_) (Nat.sub_le _ _) h2)
 cases hc:C.has i y with
 |true=>rfl
 |false=>exact absurd (free_more (has:=C.has) (has':=D.has) (l:=i) (y:=y) (by have:=hT.lt i y hi hy;omega) hc hy n (Nat.le_refl _) he.hs hi) hno
theorem Grp.mono{n:Nat}{L L':List (Nat->Nat)}(h:∀g∈L,g∈L'){p:Nat->Nat}(hp:Grp n L p):Grp n L' p:=by
 induction hp with
 |one=>exact .one
 |mul _ hm ih=>exact .mul ih (h _ hm)
theorem Grp.sub{n:Nat}{L L':List (Nat->Nat)}(hg:∀g∈L',Np n g)(h:∀g∈L,Grp n L' g){p:Nat->Nat}(hp:Grp n L p):Grp n L' p:=by
 induction hp with
 |one=>exact .one
 |mul _ hm ih=>exact ih.comp hg (h _ hm)
theorem CI.gn{n:Nat}{C:Chn}(h:CI n C){k:Nat}(hk:k<n):∀g∈C.gens k,Np n g:=λ g hg=>(h.gnp k hk g hg).1
theorem CI.fix{n:Nat}{C:Chn}(h:CI n C){k:Nat}(hk:k<n){p:Nat->Nat}(hp:Grp n (C.gens k) p):∀j,j<k->p j=j:=by
 induction hp with
 |one=>exact λ j hj=>one_at (by omega)
 |mul h1 hm ih=>
  intro j hj
  rw[mul_at (by omega),ih j hj]
  exact(h.gnp k hk _ hm).2 j hj
theorem InS.peel{n:Nat}(hn:n<=16){C:Chn}(hT:TblOk n C.has C.tab){k:Nat}(hk:k<n){r:Nat->Nat}:InS n C k r↔Np n r/\C.has k (r k)=true/\InS n C (k+1) (mulF n r (backTo (C.tab k (r k)) n)):=by
 have h:=InT.peel hn hT (d:=n-k-1) (r:=r) (by omega)
 rw[show n-(n-k-1+1)=k by omega] at h
 unfold InS
 rw[show n-k=n-k-1+1 by omega,show n-(k+1)=n-k-1 by omega]
 exact h
theorem InS.entry{n:Nat}(hn:n<=16){C:Chn}(hT:TblOk n C.has C.tab){k y:Nat}(hk:k<n)(hy:C.has k y=true):InS n C k (C.tab k y):=by
 have h:=InT.entry hn hT (d:=n-k-1) (k:=y) (by omega) (by rw[show n-(n-k-1+1)=k by omega];exact hy)
 rw[show n-(n-k-1+1)=k by omega] at h
 unfold InS
 rw[show n-k=n-k-1+1 by omega]
 exact h
theorem InS.lift{n:Nat}(hn:n<=16){C:Chn}(hT:TblOk n C.has C.tab){k:Nat}(hk:k<n){p:Nat->Nat}(hp:Np n p)(hh:C.has k (p k)=true)(h:InS n C (k+1) (mulF n p (backTo (C.tab k (p k)) n))):InS n C k p:=(InS.peel hn hT hk).2 ⟨hp,hh,h⟩
theorem left_fix{n:Nat}(hn:n<=16){has:Nat->Nat->Bool}{tab:Nat->Nat->Nat->Nat}(hT:TblOk n has tab){k:Nat}(hk:k<n){p:Nat->Nat}(hp:Np n p)(hf:∀j,j<k->p j=j)(hh:has k (p k)=true):Np n (mulF n p (backTo (tab k (p k)) n))/\∀j,j<k+1->mulF n p (backTo (tab k (p k)) n) j=j:=by
 have ht:=hT.np _ _ hk hh
 refine⟨mul_np hp (inv_np hn ht),λ j hj=>?_⟩
 have hjn:j<n:=by omega
 rw[mul_at hjn]
 by_cases e:j<k
 ·rw[hf j e]
  have h1:=hT.fix _ _ hk hh j e
  have h2:=inv_back ht hjn
  rwa [h1] at h2
 ·have e:j=k:=by omega
  subst e
  have h1:=hT.at_ _ _ hk hh
  have h2:=inv_back ht hk
  rwa [h1] at h2
structure AddPre(n k:Nat)(p:Nat->Nat)(C:Chn):Prop where
 ci:CI n C
 np:Np n p
 fix:∀j,j<k->p j=j
 up:∀i,i+1=k->Grp n (C.gens i) p
 clo:∀j,k<=j->j<n->Clo n C j
 room:∀i,k<=i->i<n->(C.gens i).length+freeF C.has n<=256
structure AddPost(n k:Nat)(p:Nat->Nat)(C D:Chn):Prop where
 ci:CI n D
 ext:ExtC n C D
 low:∀i,i<k->D.has i=C.has i/\D.tab i=C.tab i/\D.gens i=C.gens i
 gen:D.gens k=C.gens k\/D.gens k=C.gens k++[p]
 clo:∀j,k<=j->j<n->Clo n D j
 room:∀i,k<=i->i<n->(D.gens i).length+freeF D.has n<=256
 ins:InS n D k p
structure StepPre(n k:Nat)(p:Nat->Nat)(C:Chn):Prop where
 ci:CI n C
 grp:Grp n (C.gens k) p
 clo:∀j,k<j->j<n->Clo n C j
 room:∀i,k<i->i<n->(C.gens i).length+freeF C.has n<=256
 len:(C.gens k).length<=257
structure StepPost(n k:Nat)(p:Nat->Nat)(C D:Chn):Prop where
 ci:CI n D
 ext:ExtC n C D
 low:∀i,i<k->D.has i=C.has i/\D.tab i=C.tab i
 gen:∀i,i<=k->D.gens i=C.gens i
 clo:∀j,k<j->j<n->Clo n D j
 room:∀i,k<i->i<n->(D.gens i).length+freeF D.has n<=256
 ins:InS n D k p
 new:∀y,D.has k y=true->C.has k y=false->∀g∈C.gens k,InS n D k (mulF n (D.tab k y) g)
theorem AddPost.stay{n k:Nat}{p:Nat->Nat}{C:Chn}(h:AddPre n k p C)(hi:InS n C k p):AddPost n k p C C:=
 ⟨h.ci,.refl,λ i _=>⟨rfl,rfl,rfl⟩,.inl rfl,h.clo,h.room,hi⟩
structure AddInv(n k:Nat)(p:Nat->Nat)(C:Chn)(x:Nat)(D:Chn):Prop where
 ci:CI n D
 ext:ExtC n C D
 low:∀i,i<k->D.has i=C.has i/\D.tab i=C.tab i/\D.gens i=C.gens i
 gen:D.gens k=C.gens k++[p]
 clo:∀j,k<j->j<n->Clo n D j
 room:∀i,k<i->i<n->(D.gens i).length+freeF D.has n<=256
 old:∀y,D.has k y=true->(∀g∈C.gens k,InS n D k (mulF n (D.tab k y) g))/\(InS n D k (mulF n (D.tab k y) p)\/x<=y)
def Chn.addG(C:Chn)(k:Nat)(p:Nat->Nat):Chn:=⟨λ i=>if i=k then C.gens k++[p] else C.gens i,C.has,C.tab⟩
theorem Chn.addG_same(C:Chn)(k:Nat)(p:Nat->Nat):(C.addG k p).gens k=C.gens k++[p]:=by simp[Chn.addG]
theorem Chn.addG_ne(C:Chn){k i:Nat}(p:Nat->Nat)(h:i≠k):(C.addG k p).gens i=C.gens i:=by simp[Chn.addG,h]
theorem Chn.addG_mem(C:Chn){k i:Nat}(p:Nat->Nat){g:Nat->Nat}(h:g∈C.gens i):g∈(C.addG k p).gens i:=by
 by_cases e:i=k
 ·subst e;rw[addG_same];simp[h]
 ·rw[addG_ne _ _ e];exact h
theorem AddInv.start{n k:Nat}(hk:k<n){p:Nat->Nat}{C:Chn}(h:AddPre n k p C):AddInv n k p C 0 (C.addG k p) where
 ci:=⟨h.ci.T,λ i y hi hy=>(h.ci.lvl i y hi hy).mono λ g hg=>C.addG_mem p hg,λ i hi g hg=>by
   by_cases e:i=k
   ·subst e
    rw[Chn.addG_same] at hg
    rcases List.mem_append.1 hg with hg|hg
    ·exact h.ci.gnp _ hi g hg
    ·simp only[List.mem_singleton] at hg
     subst hg;exact⟨h.np,h.fix⟩
   ·rw[Chn.addG_ne _ _ e] at hg;exact h.ci.gnp i hi g hg,λ i hi g hg=>by
   by_cases e:i+1=k
   ·have hg:g∈C.gens k++[p]:=by rw[<-Chn.addG_same, <-e];rw[<-e] at hg;exact hg
    have e2:i≠k:=by omega
    rw[Chn.addG_ne _ _ e2]
    rcases List.mem_append.1 hg with hg|hg
    ·exact h.ci.sub i hi g (by rw[e];exact hg)
    ·simp only[List.mem_singleton] at hg
     subst hg;exact h.up i e
   ·rw[Chn.addG_ne _ _ e] at hg
    exact(h.ci.sub i hi g hg).mono λ g hg=>C.addG_mem p hg⟩
 ext:=.refl
 low i hi:=⟨rfl,rfl,Chn.addG_ne _ _ (by omega)⟩
 gen:=Chn.addG_same _ _ _
 clo j hj hjn:=λ y hy g hg=>by
  rw[Chn.addG_ne _ _ (by omega)] at hg
  exact h.clo j (by omega) hjn y hy g hg
 room i hi hin:=by rw[Chn.addG_ne _ _ (by omega)];exact h.room i (by omega) hin
 old y hy:=⟨λ g hg=>h.clo k (Nat.le_refl _) hk y hy g hg,.inr (Nat.zero_le _)⟩
theorem AddInv.pre{n k:Nat}(hk:k<n){p:Nat->Nat}{C D:Chn}{x:Nat}(hA:AddPre n k p C)(h:AddInv n k p C x D)(hx:D.has k x=true):StepPre n k (mulF n (D.tab k x) p) D:=
 ⟨h.ci,(h.ci.lvl k x hk hx).mul (by rw[h.gen];simp),h.clo,h.room,by
  have:=hA.room k (Nat.le_refl _) hk
  rw[h.gen,List.length_append,List.length_singleton];omega⟩
theorem AddInv.step{n k:Nat}{p:Nat->Nat}{C D E:Chn}{x:Nat}(hk:k<n)(h:AddInv n k p C x D)(hx:D.has k x=true)(hs:StepPost n k (mulF n (D.tab k x) p) D E):AddInv n k p C (x+1) E where
 ci:=hs.ci
 ext:=h.ext.trans hs.ext
 low i hi:=by
  obtain⟨a,b,c⟩:=h.low i hi
  obtain⟨a',b'⟩:=hs.low i hi
  exact⟨a'.trans a,b'.trans b,(hs.gen i (by omega)).trans c⟩
 gen:=(hs.gen k (Nat.le_refl _)).trans h.gen
 clo:=hs.clo
 room:=hs.room
 old y hy:=by
  cases hD:D.has k y with
  |true=>
   obtain⟨h1,h2⟩:=h.old y hD
   rw[hs.ext.tb k y hk hD]
   refine⟨λ g hg=>(h1 g hg).ext hs.ext,?_⟩
   by_cases e:y=x
   ·subst e;exact .inl hs.ins
   ·rcases h2 with h2|h2
    ·exact .inl (h2.ext hs.ext)
    ·exact .inr (by omega)
  |false=>
   have h1:=hs.new y hy hD
   rw[h.gen] at h1
   exact⟨λ g hg=>h1 g (by simp[hg]),.inl (h1 p (by simp))⟩
theorem AddInv.skip{n k:Nat}{p:Nat->Nat}{C D:Chn}{x:Nat}(h:AddInv n k p C x D)(hx:D.has k x=false):AddInv n k p C (x+1) D:=
 ⟨h.ci,h.ext,h.low,h.gen,h.clo,h.room,λ y hy=>by
  obtain⟨h1,h2⟩:=h.old y hy
  refine⟨h1,h2.imp id λ h2=>?_⟩
  by_cases e:y=x
  ·subst e;rw[hx] at hy;cases hy
  ·omega⟩
theorem AddInv.done{n k:Nat}(hn:n<=16){p:Nat->Nat}{C D:Chn}(hk:k<n)(hp:AddPre n k p C)(h:AddInv n k p C n D)(hno:¬InS n C k p):AddPost n k p C D:=by
 have all:∀y,D.has k y=true->InS n D k (mulF n (D.tab k y) p):=λ y hy=>by
  rcases(h.old y hy).2 with h1|h1
  ·exact h1
  ·have:=h.ci.T.lt k y hk hy;omega
 have ins:InS n D k p:=by
  obtain⟨h1,h2⟩:=h.ci.T.diag k hk
  have:=all k h1
  rwa [h2,one_mul hp.np] at this
 have hfr:=free_new hn h.ci.T h.ext hno ins
 refine⟨h.ci,h.ext,h.low,.inr h.gen,λ j hj hjn=>?_,λ i hi hin=>?_,ins⟩
 ·by_cases e:j=k
  ·subst e
   intro y hy g hg
   rw[h.gen] at hg
   rcases List.mem_append.1 hg with hg|hg
   ·exact(h.old y hy).1 g hg
   ·simp only[List.mem_singleton] at hg
    subst hg;exact all y hy
  ·exact h.clo j (by omega) hjn
 ·by_cases e:i=k
  ·subst e
   have:=hp.room i (Nat.le_refl _) hin
   rw[h.gen,List.length_append,List.length_singleton];omega
  ·exact h.room i (by omega) hin
theorem StepPre.left{n k:Nat}(hn:n<=16)(hk:k+1<n){p:Nat->Nat}{C:Chn}(h:StepPre n k p C)(hh:C.has k (p k)=true):AddPre n (k+1) (mulF n p (backTo (C.tab k (p k)) n)) C:=by
 have hp:=h.grp.np (h.ci.gn (show k<n by omega))
 obtain⟨h1,h2⟩:=left_fix hn h.ci.T (show k<n by omega) hp (h.ci.fix (by omega) h.grp) hh
 refine⟨h.ci,h1,h2,λ i hi=>?_,λ j hj hjn=>h.clo j (by omega) hjn,λ i hi hin=>h.room i (by omega) hin⟩
 obtain rfl:i=k:=by omega
 exact h.grp.comp (h.ci.gn (by omega)) ((h.ci.lvl i _ (by omega) hh).inv hn (h.ci.gn (by omega)))
theorem StepPost.left{n k:Nat}(hn:n<=16)(hk:k+1<n){p:Nat->Nat}{C D:Chn}(h:StepPre n k p C)(hh:C.has k (p k)=true)(ha:AddPost n (k+1) (mulF n p (backTo (C.tab k (p k)) n)) C D):StepPost n k p C D:=by
 have hp:=h.grp.np (h.ci.gn (show k<n by omega))
 refine⟨ha.ci,ha.ext,λ i hi=>⟨(ha.low i (by omega)).1,(ha.low i (by omega)).2.1⟩,λ i hi=>(ha.low i (by omega)).2.2,λ j hj hjn=>ha.clo j (by omega) hjn,λ i hi hin=>ha.room i (by omega) hin,?_,λ y hy hno=>?_⟩
 ·refine InS.lift hn ha.ci.T (by omega) hp (ha.ext.hs k _ (by omega) hh) ?_
  rw[ha.ext.tb k _ (by omega) hh];exact ha.ins
 ·rw[(ha.low k (by omega)).1,hno] at hy;cases hy
theorem StepPost.last{n k:Nat}(hn:n<=16)(hk:k+1=n){p:Nat->Nat}{C:Chn}(h:StepPre n k p C)(hh:C.has k (p k)=true):StepPost n k p C C:=by
 have hp:=h.grp.np (h.ci.gn (show k<n by omega))
 obtain⟨h1,h2⟩:=left_fix hn h.ci.T (show k<n by omega) hp (h.ci.fix (by omega) h.grp) hh
 refine⟨h.ci,.refl,λ i hi=>⟨rfl,rfl⟩,λ i hi=>rfl,h.clo,h.room,?_,λ y hy hno=>?_⟩
 ·refine InS.lift hn h.ci.T (by omega) hp hh ?_
  unfold InS
  rw[show n-(k+1)=0 by omega]
  exact np_ext h1 (one_np n) λ i hi=>by rw[h2 i (by omega),one_at hi]
 ·rw[hno] at hy;cases hy
structure StepInv(n k:Nat)(p:Nat->Nat)(C:Chn)(i:Nat)(D:Chn):Prop where
 ci:CI n D
 ext:ExtC n C D
 low:∀i,i<k->D.has i=C.has i/\D.tab i=C.tab i
 gen:∀i,i<=k->D.gens i=C.gens i
 clo:∀j,k<j->j<n->Clo n D j
 room:∀i,k<i->i<n->(D.gens i).length+freeF D.has n<=256
 here:D.has k (p k)=true/\D.tab k (p k)=p
 mine:∀l,l<i->InS n D k (mulF n p ((C.gens k).getD l λ _=>0))
 new:∀y,D.has k y=true->C.has k y=false->y≠p k->∀g∈C.gens k,InS n D k (mulF n (D.tab k y) g)
 free:freeF D.has n+1<=freeF C.has n
def Chn.put(C:Chn)(k:Nat)(p:Nat->Nat):Chn:=⟨C.gens,up2 C.has k (p k) true,up2 C.tab k (p k) p⟩
theorem StepInv.start{n k:Nat}(hn:n<=16)(hk:k<n){p:Nat->Nat}{C:Chn}(h:StepPre n k p C)(hh:C.has k (p k)=false):StepInv n k p C 0 (C.put k p):=by
 have hp:=h.grp.np (h.ci.gn hk)
 obtain⟨h1,h2⟩:=tbl_add h.ci.T hk hp (h.ci.fix hk h.grp) hh
 have hfr:=free_up (has:=C.has) (l:=k) (y:=p k) (by have:=hp.perm.lt k hk;omega) hh n hk
 have row:∀i,i≠k->up2 C.has k (p k) true i=C.has i/\up2 C.tab k (p k) p i=C.tab i:=λ i hi=>⟨by funext y;exact up2_ne _ _ λ e=>hi e.1,by funext y;exact up2_ne _ _ λ e=>hi e.1⟩
 refine⟨⟨h1,λ i y hi hy=>?_,h.ci.gnp,h.ci.sub⟩,h2,λ i hi=>row i (by omega),λ i hi=>rfl,λ j hj hjn y hy g hg=>?_,λ i hi hin=>?_,⟨up2_same _ _ _ _,up2_same _ _ _ _⟩,λ l hl=>absurd hl (Nat.not_lt_zero _),λ y hy hno hne=>?_,?_⟩
 ·simp only[Chn.put] at hy ⊢
  by_cases e:i=k/\y=p k
  ·obtain⟨rfl,rfl⟩:=e;rw[up2_same];exact h.grp
  ·rw[up2_ne _ _ e] at hy ⊢;exact h.ci.lvl i y hi hy
 ·have hy':C.has j y=true:=by have:=(row j (by omega)).1;simp only[Chn.put] at hy;rw[this] at hy;exact hy
  have h3:=h.clo j hj hjn y hy' g hg
  have h4:(C.put k p).tab j y=C.tab j y:=by simp only[Chn.put];rw[(row j (by omega)).2]
  rw[h4];exact InS.ext (D:=C.put k p) h2 h3
 ·have:=h.room i hi hin
  simp only[Chn.put];omega
 ·simp only[Chn.put] at hy
  rw[up2_ne _ _ λ e=>hne e.2,hno] at hy;cases hy
 ·simp only[Chn.put];omega
theorem StepInv.pre{n k:Nat}(hk:k<n){p:Nat->Nat}{C D:Chn}{i:Nat}(hC:StepPre n k p C)(h:StepInv n k p C i D)(hi:i<(C.gens k).length):StepPre n k (mulF n p ((C.gens k).getD i λ _=>0)) D:=by
 refine⟨h.ci,?_,h.clo,h.room,by rw[h.gen k (Nat.le_refl _)];exact hC.len⟩
 rw[h.gen k (Nat.le_refl _)]
 exact hC.grp.mul (getDf_mem hi)
theorem StepInv.step{n k:Nat}(hk:k<n){p:Nat->Nat}{C D E:Chn}{i:Nat}(hC:StepPre n k p C)(h:StepInv n k p C i D)(hs:StepPost n k (mulF n p ((C.gens k).getD i λ _=>0)) D E):StepInv n k p C (i+1) E where
 ci:=hs.ci
 ext:=h.ext.trans hs.ext
 low i hi:=⟨(hs.low i hi).1.trans (h.low i hi).1,(hs.low i hi).2.trans (h.low i hi).2⟩
 gen i hi:=(hs.gen i hi).trans (h.gen i hi)
 clo:=hs.clo
 room:=hs.room
 here:=⟨hs.ext.hs k _ hk h.here.1,(hs.ext.tb k _ hk h.here.1).trans h.here.2⟩
 mine l hl:=by
  by_cases e:l=i
  ·subst e;exact hs.ins
  ·exact(h.mine l (by omega)).ext hs.ext
 new y hy hno hne g hg:=by
  cases hD:D.has k y with
  |true=>rw[hs.ext.tb k y hk hD];exact(h.new y hD hno hne g hg).ext hs.ext
  |false=>exact hs.new y hy hD g (by rw[h.gen k (Nat.le_refl _)];exact hg)
 free:=by
  have:=free_ext (has:=D.has) (has':=E.has) n (Nat.le_refl _) hs.ext.hs
  have:=h.free
  omega
theorem StepInv.done{n k:Nat}(hn:n<=16)(hk:k<n){p:Nat->Nat}{C D:Chn}(hC:StepPre n k p C)(h:StepInv n k p C (C.gens k).length D):StepPost n k p C D:=by
 refine⟨h.ci,h.ext,h.low,h.gen,h.clo,h.room,?_,λ y hy hno g hg=>?_⟩
 ·have:=InS.entry hn h.ci.T hk h.here.1
  rwa [h.here.2] at this
 ·by_cases e:y=p k
  ·subst e
   rw[h.here.2]
   obtain⟨j,hj,rfl⟩:=mem_getDf hg
   exact h.mine j hj
  ·exact h.new y hy hno e g hg
theorem clo_all{n:Nat}(hn:n<=16){C:Chn}(h:CI n C)(hc:∀j,j<n->Clo n C j):∀d,d<=n->(∀r s,InT n C.has C.tab d r->InT n C.has C.tab d s->InT n C.has C.tab d (mulF n r s))/\(∀g,1<=d->(InT n C.has C.tab d g↔Grp n (C.gens (n-d)) g))
 |0,_=>by
  refine⟨λ r s hr hs=>?_,λ g hg=>by omega⟩
  have hr:r=sameF n:=hr
  have hs:s=sameF n:=hs
  subst hr;subst hs;exact mul_one (one_np n)
 |d+1,hd=>by
  obtain⟨ih,ih2⟩:=clo_all hn h hc d (by omega)
  have hlt:n-(d+1)<n:=by omega
  have hgn:=h.gn hlt
  have right:∀r g,InT n C.has C.tab (d+1) r->g∈C.gens (n-(d+1))->InT n C.has C.tab (d+1) (mulF n r g):=by
   rintro r g ⟨k,hk,u,hu,rfl⟩ hg
   have h1:=hc _ hlt k hk g hg
   unfold InS at h1
   rw[show n-(n-(d+1))=d+1 by omega] at h1
   obtain⟨k',hk',u',hu',e⟩:=h1
   have nu:=(InT.np h.T (by omega) hu).1
   have nu':=(InT.np h.T (by omega) hu').1
   have nk:=h.T.np _ k hlt hk
   have nk':=h.T.np _ k' hlt hk'
   refine⟨k',hk',mulF n u u',ih _ _ hu hu',?_⟩
   rw[mul_assoc nu nk (hgn g hg),e,mul_assoc nu nu' nk']
  have sub:∀g,Grp n (C.gens (n-(d+1))) g->InT n C.has C.tab (d+1) g:=by
   intro g hg
   induction hg with
   |one=>exact InT.one hn h.T hd
   |mul _ hm ih=>exact right _ _ ih hm
  have sup:∀g,InT n C.has C.tab (d+1) g->Grp n (C.gens (n-(d+1))) g:=by
   rintro g ⟨k,hk,u,hu,rfl⟩
   refine Grp.comp hgn ?_ (h.lvl _ k hlt hk)
   by_cases e:d=0
   ·subst e
    have hu:u=sameF n:=hu
    subst hu;exact .one
   ·have h1:=(ih2 u (by omega)).1 hu
    refine h1.sub hgn λ g hg=>?_
    have h2:=h.sub (n-(d+1)) (by omega) g
    rw[show n-(d+1)+1=n-d by omega] at h2
    exact h2 hg
  exact⟨λ r s hr hs=>sub _ ((sup r hr).comp hgn (sup s hs)),λ g _=>⟨sup g,sub g⟩⟩
structure Chain(n:Nat)(L:List (Nat->Nat))(C:Chn):Prop where
 ci:CI n C
 clo:∀j,j<n->Clo n C j
 room:∀i,i<n->(C.gens i).length+freeF C.has n<=256
 gen:∀g∈L,InS n C 0 g
 sub:∀g∈C.gens 0,Grp n L g
def chn0(n:Nat):Chn:=⟨λ _=>[],has0 n,tab0 n⟩
theorem Chain.start(n:Nat)(hn:n<=16):Chain n [] (chn0 n) where
 ci:=⟨tbl0 n,λ i k hi h=>by simp only[chn0] at h ⊢;unfold tab0;rw[if_pos (has0_t h)];exact .one,λ i hi g hg=>absurd hg List.not_mem_nil,λ i hi g hg=>absurd hg List.not_mem_nil⟩
 clo j hj y hy g hg:=by cases hg
 room i hi:=by have:=free_le (has0 n) n;simp only[chn0,List.length_nil];omega
 gen g hg:=by cases hg
 sub g hg:=by cases hg
theorem Chain.pre{n:Nat}{L:List (Nat->Nat)}{C:Chn}(h:Chain n L C){p:Nat->Nat}(hp:Np n p):AddPre n 0 p C:=
 ⟨h.ci,hp,λ j hj=>absurd hj (Nat.not_lt_zero _),λ i hi=>by omega,λ j _ hj=>h.clo j hj,λ i _ hi=>h.room i hi⟩
theorem Chain.add{n:Nat}{L:List (Nat->Nat)}(hL:∀g∈L,Np n g){C D:Chn}(h:Chain n L C){p:Nat->Nat}(hp:Np n p)(ha:AddPost n 0 p C D):Chain n (L++[p]) D where
 ci:=ha.ci
 clo j hj:=ha.clo j (Nat.zero_le _) hj
 room i hi:=ha.room i (Nat.zero_le _) hi
 gen g hg:=by
  rcases List.mem_append.1 hg with hg|hg
  ·exact(h.gen g hg).ext ha.ext
  ·simp only[List.mem_singleton] at hg
   subst hg;exact ha.ins
 sub g hg:=by
  have hall:∀g∈L++[p],Np n g:=λ g hg=>by
   rcases List.mem_append.1 hg with hg|hg
   ·exact hL g hg
   ·simp only[List.mem_singleton] at hg
    subst hg;exact hp
  have hold:g∈C.gens 0->Grp n (L++[p]) g:=λ hg=>(h.sub g hg).mono λ g hg=>by simp[hg]
  rcases ha.gen with e|e
  ·rw[e] at hg;exact hold hg
  ·rw[e] at hg
   rcases List.mem_append.1 hg with hg|hg
   ·exact hold hg
   ·simp only[List.mem_singleton] at hg
    subst hg;exact Grp.gen hall (by simp)
theorem Chain.done{n:Nat}(hn:n<=16)(h1:1<=n){L:List (Nat->Nat)}(hL:∀g∈L,Np n g){C:Chn}(h:Chain n L C):Tells n L C.has/\∀g,InS n C 0 g↔Grp n L g:=by
 obtain⟨c1,c2⟩:=clo_all hn h.ci h.clo n (Nat.le_refl _)
 have c2:∀g,InS n C 0 g↔Grp n (C.gens 0) g:=λ g=>by
  have:=c2 g h1
  rwa [show n-n=0 by omega] at this
 have up:∀g,Grp n (C.gens 0) g->Grp n L g:=λ g hg=>hg.sub hL h.sub
 have down:∀g,Grp n L g->InS n C 0 g:=λ g hg=>by
  refine(c2 g).2 (hg.sub (h.ci.gn (by omega)) λ g hg=>(c2 g).1 (h.gen g hg))
 have lv:∀i,i<n->∀g,Grp n (C.gens i) g->Grp n L g:=λ i=>by
  induction i with
  |zero=>exact λ _=>up
  |succ i ih=>exact λ hi g hg=>ih (by omega) g (hg.sub (h.ci.gn (by omega)) λ g hg=>h.ci.sub i hi g hg)
 exact⟨tells_of hn h.ci.T hL (λ i k hi hk=>lv i hi _ (h.ci.lvl i k hi hk)) down,λ g=>⟨λ hg=>up g ((c2 g).1 hg),down g⟩⟩
end Go.Proofs.YthjnmlpibafbnaaGreat
namespace Go.Proofs.YthjnmlpibafbnaaGreat
open Go.RowKit DM
set_option linter.unusedVariables false
set_option linter.unusedSimpArgs false
def cntB(f:Nat->Bool):Nat->Nat
 |0=>0
 |k+1=>bif f k then cntB f k+1 else cntB f k
theorem cntB_le(f:Nat->Bool):∀k,cntB f k<=k
 |0=>Nat.le_refl _
 |k+1=>by have:=cntB_le f k;simp only[cntB];cases f k<;>simp<;>omega
theorem cntB_congr{f g:Nat->Bool}:∀k,(∀j,j<k->f j=g j)->cntB f k=cntB g k
 |0,_=>rfl
 |k+1,h=>by simp only[cntB];rw[h k (by omega),cntB_congr k λ j hj=>h j (by omega)]
theorem cntB_pos{f:Nat->Bool}{j:Nat}:∀k,j<k->f j=true->1<=cntB f k
 |0,h,_=>absurd h (Nat.not_lt_zero _)
 |k+1,h,hf=>by
  simp only[cntB]
  by_cases e:j=k
  ·subst e;rw[hf];simp
  ·have:=cntB_pos k (by omega) hf;cases f k<;>simp<;>omega
theorem cntB_from{f:Nat->Bool}{i:Nat}(h:∀j,j<i->f j=false):∀k,cntB f k<=k-i
 |0=>by simp[cntB]
 |k+1=>by
  have ih:=cntB_from h k
  simp only[cntB]
  by_cases e:k<i
  ·rw[h k e];simp;omega
  ·cases f k<;>simp<;>omega
theorem cntB_over{f:Nat->Bool}{n:Nat}(h:∀j,n<=j->f j=false):∀k,n<=k->cntB f k=cntB f n
 |0,hk=>by rw[show n=0 by omega]
 |k+1,hk=>by
  by_cases e:n=k+1
  ·subst e;rfl
  ·simp only[cntB];rw[h k (by omega),cond_false];exact cntB_over h k (by omega)
def ordF(m:Nat)(has:Nat->Nat->Bool):Nat->Nat
 |0=>1
 |i+1=>ordF m has i*cntB (has i) m
theorem ord_congr{m:Nat}{a b:Nat->Nat->Bool}:∀i,(∀l,l<i->cntB (a l) m=cntB (b l) m)->ordF m a i=ordF m b i
 |0,_=>rfl
 |i+1,h=>by simp only[ordF];rw[ord_congr i λ l hl=>h l (by omega),h i (by omega)]
theorem ord_pos{m:Nat}{a:Nat->Nat->Bool}:∀i,(∀l,l<i->1<=cntB (a l) m)->1<=ordF m a i
 |0,_=>Nat.le_refl _
 |i+1,h=>by simp only[ordF];exact Nat.mul_pos (ord_pos i λ l hl=>h l (by omega)) (h i (by omega))
def fallF:Nat->Nat
 |0=>1
 |i+1=>fallF i*(16-i)
theorem fall_le:∀i,i<=16->fallF i<=20922789888000:=by decide
theorem ord_fall{m:Nat}{a:Nat->Nat->Bool}:∀i,(∀l,l<i->cntB (a l) m<=16-l)->ordF m a i<=fallF i
 |0,_=>Nat.le_refl _
 |i+1,h=>by simp only[ordF,fallF];exact Nat.mul_le_mul (ord_fall i λ l hl=>h l (by omega)) (h i (by omega))
theorem TblOk.ge{n:Nat}{has:Nat->Nat->Bool}{tab:Nat->Nat->Nat->Nat}(hT:TblOk n has tab){i k:Nat}(hi:i<n)(h:has i k=true):i<=k:=by
 refine Classical.byContradiction λ hno=>?_
 have h1:=hT.at_ i k hi h
 have h2:=hT.fix i k hi h k (by omega)
 have:=(hT.np i k hi h).perm.inj k i (by omega) hi (by rw[h1,h2])
 omega
theorem TblOk.cnt{n:Nat}{has:Nat->Nat->Bool}{tab:Nat->Nat->Nat->Nat}(hT:TblOk n has tab){i:Nat}(hi:i<n)(m:Nat):cntB (has i) m<=m-i:=
 cntB_from (λ j hj=>by cases h:has i j with|false=>rfl|true=>have:=hT.ge hi h;omega) m
theorem TblOk.ord{n:Nat}(hn:n<=16){has:Nat->Nat->Bool}{tab:Nat->Nat->Nat->Nat}(hT:TblOk n has tab){m:Nat}(hm:m<=16){i:Nat}(hi:i<=n):ordF m has i<=20922789888000:=
 Nat.le_trans (ord_fall i λ l hl=>by have:=hT.cnt (i:=l) (by omega) m;omega) (fall_le i (by omega))
theorem TblOk.ord16{n:Nat}(hn:n<=16){has:Nat->Nat->Bool}{tab:Nat->Nat->Nat->Nat}(hT:TblOk n has tab):ordF 16 has n=ordF n has n:=by
 have:∀i,i<=n->ordF 16 has i=ordF n has i:=λ i=>by
  induction i with
  |zero=>intro _;rfl
  |succ i ih=>
   intro hi
   simp only[ordF]
   rw[ih (by omega),cntB_over (n:=n) (λ j hj=>by
    cases h:has i j with
    |false=>rfl
    |true=>have:=hT.lt i j (by omega) h;omega) 16 hn]
 exact this n (Nat.le_refl _)
end Go.Proofs.YthjnmlpibafbnaaGreat
namespace Go.Proofs.YthjnmlpibafbnaaGreat
open Go.RowKit DM
set_option linter.unusedVariables false
set_option linter.unusedSimpArgs false
def rowP(L:List (Nat->Nat))(i:Nat):Dat:=pl (L.getD i λ _=>0)
theorem getDp_lt(L M:List (Nat->Nat)){j:Nat}(h:j<L.length):(L++M).getD j (λ _=>0)=L.getD j λ _=>0:=by
 simp only[List.getD_eq_getElem?_getD,List.getElem?_append_left h]
theorem getDp_ge(L M:List (Nat->Nat)){j:Nat}(h:L.length<=j):(L++M).getD j (λ _=>0)=M.getD (j-L.length) λ _=>0:=by
 simp only[List.getD_eq_getElem?_getD,List.getElem?_append_right h]
theorem ap_row{L M:List (Nat->Nat)}{n:Nat}(hn:L.length=n){g:Nat->Dat}(hg:∀j,j<M.length->g j=pl (M.getD j λ _=>0))(j:Nat)(hj:j<n+M.length):rowP (L++M) j=apF n (rowP L) 0 g j:=by
 subst hn
 unfold apF rowP
 by_cases h:j<L.length
 ·rw[show Nat.blt j L.length=true by rw[Nat.blt_eq];exact h,cond_true,getDp_lt _ _ h]
 ·rw[show Nat.blt j L.length=false from by cases hh:Nat.blt j L.length with|false=>rfl|true=>rw[Nat.blt_eq] at hh;exact absurd hh h,cond_false,getDp_ge _ _ (by omega),hg _ (by omega),Nat.zero_add]
theorem ap_row1{L:List (Nat->Nat)}{n:Nat}(hn:L.length=n)(p:Nat->Nat)(z:Nat->Dat)(j:Nat)(hj:j<n+1):rowP (L++[p]) j=apF n (rowP L) 0 (fup z 0 (pl p)) j:=
 ap_row hn (λ j hj=>by simp only[List.length_singleton] at hj;obtain rfl:j=0:=(by omega);rw[fup_same];rfl) j hj
theorem ap_row2{L:List (Nat->Nat)}{n:Nat}(hn:L.length=n)(p q:Nat->Nat)(z:Nat->Dat)(j:Nat)(hj:j<n+2):rowP (L++[p,q]) j=apF n (rowP L) 0 (fup (fup z 0 (pl p)) 1 (pl q)) j:=
 ap_row hn (λ j hj=>by
  simp only[List.length_cons,List.length_nil] at hj
  rcases j with _|_|j
  ·rfl
  ·rfl
  ·omega) j hj
theorem pl_row(L:List (Nat->Nat))(j:Nat):Pl (rowP L j):=pl_pl _
theorem sc_row(k:Nat)(L:List (Nat->Nat))(j:Nat):Sc k (rowP L j):=sc_pl k _
def tabP(n i:Nat)(a b:Nat):Nat->Nat:=if a=b/\a<i then sameF n else λ _=>0
theorem tabP_zero(n:Nat):tabP n 0=λ _ _ _=>0:=by
 funext a b;unfold tabP;rw[if_neg (by omega)]
theorem tabP_step(n i:Nat):tabP n (i+1)=up2 (tabP n i) i i (sameF n):=by
 funext a b
 unfold tabP up2
 by_cases h:a=i/\b=i
 ·obtain⟨rfl,rfl⟩:=h;rw[if_pos ⟨rfl,by omega⟩,if_pos ⟨rfl,rfl⟩]
 ·rw[if_neg h]
  show(if a=b/\a<i+1 then sameF n else λ _=>0)=(if a=b/\a<i then sameF n else λ _=>0)
  by_cases h2:a=b/\a<i
  ·rw[if_pos h2,if_pos ⟨h2.1,by omega⟩]
  ·rw[if_neg h2,if_neg λ h3=>h2 ⟨h3.1,by
    have:a≠i:=λ e=>h ⟨e,by omega⟩
    omega⟩]
theorem has0_zero:has0 0=λ _ _=>false:=by funext a b;simp[has0]
theorem has0_step(i:Nat):has0 (i+1)=up2 (has0 i) i i true:=by
 funext a b
 unfold up2
 by_cases h:a=i/\b=i
 ·obtain⟨rfl,rfl⟩:=h;simp[has0]
 ·rw[if_neg h]
  unfold has0
  by_cases h2:a=b
  ·subst h2
   have:a≠i:=λ e=>h ⟨e,e⟩
   simp;omega
  ·simp[h2]
def tabD(tab:Nat->Nat->Nat->Nat)(i:Nat):Dat:=.ar 16 16 λ k=>pl (tab i k)
def hasD(has:Nat->Nat->Bool)(i:Nat):Dat:=.ar 16 1 λ k=>.b (has i k)
theorem tabD_up(tab:Nat->Nat->Nat->Nat)(i k:Nat)(p:Nat->Nat):tabD (up2 tab i k p)=fup (tabD tab) i (.ar 16 16 (fup (λ k=>pl (tab i k)) k (pl p))):=by
 funext a
 by_cases h:a=i
 ·subst h
  rw[fup_same]
  unfold tabD
  congr 1
  funext b
  by_cases h2:b=k
  ·subst h2;rw[fup_same,up2_same]
  ·rw[fup_ne _ _ h2,up2_ne _ _ λ e=>h2 e.2]
 ·rw[fup_ne _ _ h]
  unfold tabD
  congr 1
  funext b
  rw[up2_ne _ _ λ e=>h e.1]
theorem hasD_up(has:Nat->Nat->Bool)(i k:Nat)(v:Bool):hasD (up2 has i k v)=fup (hasD has) i (.ar 16 1 (fup (λ k=>.b (has i k)) k (.b v))):=by
 funext a
 by_cases h:a=i
 ·subst h
  rw[fup_same]
  unfold hasD
  congr 1
  funext b
  by_cases h2:b=k
  ·subst h2;rw[fup_same,up2_same]
  ·rw[fup_ne _ _ h2,up2_ne _ _ λ e=>h2 e.2]
 ·rw[fup_ne _ _ h]
  unfold hasD
  congr 1
  funext b
  rw[up2_ne _ _ λ e=>h e.1]
def gsf(N:Nat)(has:Nat->Nat->Bool)(tab:Nat->Nat->Nat->Nat):Nat->Dat
 |0=>.i .i64 (N:Int)
 |1=>.ar 16 256 (tabD tab)
 |2=>.ar 16 16 (hasD has)
 |_=>.un
def grD(N:Nat)(has:Nat->Nat->Bool)(tab:Nat->Nat->Nat->Nat):Dat:=.st 3 (gsf N has tab)
theorem sc_gr(n N:Nat)(has:Nat->Nat->Bool)(tab:Nat->Nat->Nat->Nat):Sc n (grD N has tab):=by
 intro i _
 rcases i with _|_|_|i
 ·trivial
 ·exact λ _ _ _ _=>sc_pl _ _
 ·exact λ _ _ _ _=>trivial
 ·trivial
theorem gr_up(N:Nat)(has:Nat->Nat->Bool)(tab:Nat->Nat->Nat->Nat)(i k:Nat)(p:Nat->Nat):(Dat.st 3 (fup (fup (gsf N has tab) 1 (.ar 16 256 (fup (tabD tab) i (.ar 16 16 (fup (λ k=>pl (tab i k)) k (pl p)))))) 2 (.ar 16 16 (fup (hasD has) i (.ar 16 1 (fup (λ k=>.b (has i k)) k (.b true)))))))=grD N (up2 has i k true) (up2 tab i k p):=by
 unfold grD
 congr 1
 funext j
 rcases j with _|_|_|j
 ·rfl
 ·show Dat.ar 16 256 _=Dat.ar 16 256 _;rw[tabD_up]
 ·show Dat.ar 16 16 _=Dat.ar 16 16 _;rw[hasD_up]
 ·rfl
end Go.Proofs.YthjnmlpibafbnaaGreat
namespace Go.Proofs.YthjnmlpibafbnaaGreat
open Go.RowKit DM
set_option linter.unusedVariables false
set_option linter.unusedSimpArgs false
noncomputable def tellB (N:Nat)(L:List (Nat->Nat))(i k:Nat):Bool:=@decide (∃g,Grp N L g/\(∀j,j<i->g j=j)/\g i=k) (Classical.propDecidable _)
noncomputable def ordG (N:Nat)(L:List (Nat->Nat)):Nat:=ordF N (tellB N L) N
def GrOk(N:Nat)(L:List (Nat->Nat))(has:Nat->Nat->Bool)(tab:Nat->Nat->Nat->Nat):Prop:=
 TblOk N has tab/\Tells N L has/\(∀i k,i<N->has i k=true->Grp N L (tab i k))/\∀g,Np N g->(InT N has tab N g↔Grp N L g)
theorem Fill.ok{N:Nat}(hN:N<=16){L:List (Nat->Nat)}(hL:∀g∈L,Np N g){has:Nat->Nat->Bool}{tab:Nat->Nat->Nat->Nat}{E:List (Nat->Nat)}(h:Fill N L has tab E []):GrOk N L has tab:=
 ⟨h.T,(h.done hN hL).1,h.inG,(h.done hN hL).2⟩
theorem Tells.tb{N:Nat}{L:List (Nat->Nat)}{has:Nat->Nat->Bool}(h:Tells N L has){i:Nat}(hi:i<N)(k:Nat):has i k=tellB N L i k:=by
 have h1:=h i k hi
 have h2:tellB N L i k=true↔_:=@decide_eq_true_iff _ (Classical.propDecidable _)
 cases e:has i k<;>cases e':tellB N L i k
 ·rfl
 ·rw[h1.2 (h2.1 e')] at e;cases e
 ·rw[h2.2 (h1.1 e)] at e';cases e'
 ·rfl
theorem Tells.ord{N:Nat}{L:List (Nat->Nat)}{has:Nat->Nat->Bool}(h:Tells N L has):ordF N has N=ordG N L:=
 ord_congr N λ l hl=>cntB_congr N λ j _=>h.tb hl j
theorem ordG_le{N:Nat}(hN:N<=16){L:List (Nat->Nat)}(hL:∀g∈L,Np N g):ordG N L<=20922789888000:=by
 refine Nat.le_trans (ord_fall N λ l hl=>?_) (fall_le N hN)
 have h1:cntB (tellB N L l) N<=N-l:=cntB_from (λ j hj=>by
  cases h:tellB N L l j with
  |false=>rfl
  |true=>
   obtain⟨g,hg,hf,he⟩:=(@decide_eq_true_iff _ (Classical.propDecidable _)).1 h
   have:=(hg.np hL).perm.inj j l (by omega) hl (by rw[hf j hj,he])
   omega) N
 omega
theorem GrOk.ord{N:Nat}(hN:N<=16){L:List (Nat->Nat)}{has:Nat->Nat->Bool}{tab:Nat->Nat->Nat->Nat}(h:GrOk N L has tab):ordF 16 has N=ordG N L:=(h.1.ord16 hN).trans h.2.1.ord
theorem GrOk.le{N:Nat}(hN:N<=16){L:List (Nat->Nat)}{has:Nat->Nat->Bool}{tab:Nat->Nat->Nat->Nat}(h:GrOk N L has tab):ordG N L<=20922789888000:=by
 rw[<-h.2.1.ord];exact h.1.ord hN hN (Nat.le_refl _)
end Go.Proofs.YthjnmlpibafbnaaGreat
namespace Go.Proofs.YthjnmlpibafbnaaGreat
open Go.RowKit DM
set_option linter.unusedVariables false
set_option linter.unusedSimpArgs false
def gnD:List (Nat->Nat)->Dat
 |[]=>.ns
 |p::L=>.ow 25 (L.length+1) 16 (rowP (p::L))
theorem gnD_of{L:List (Nat->Nat)}(h:L≠[]):gnD L=.ow 25 L.length 16 (rowP L):=by
 cases L with
 |nil=>exact absurd rfl h
 |cons p L=>rfl
def chf(N:Nat)(G:Nat->Dat)(has:Nat->Nat->Bool)(tab:Nat->Nat->Nat->Nat):Nat->Dat
 |0=>.i .i64 (N:Int)
 |1=>.ar 16 1 G
 |2=>.ar 16 16 (hasD has)
 |3=>.ar 16 256 (tabD tab)
 |_=>.un
def chD(N:Nat)(G:Nat->Dat)(has:Nat->Nat->Bool)(tab:Nat->Nat->Nat->Nat):Dat:=.st 4 (chf N G has tab)
def gnF(g:Nat->List (Nat->Nat))(i:Nat):Dat:=gnD (g i)
def chn(N:Nat)(C:Chn):Dat:=chD N (gnF C.gens) C.has C.tab
theorem sc_gn(k:Nat)(L:List (Nat->Nat)):Sc k (gnD L):=by
 cases L with
 |nil=>trivial
 |cons p L=>exact λ j _=>sc_row k _ j
theorem sc_chD(k N:Nat){G:Nat->Dat}(hG:∀i,Sc k (G i))(has:Nat->Nat->Bool)(tab:Nat->Nat->Nat->Nat):Sc k (chD N G has tab):=by
 intro i _
 rcases i with _|_|_|_|i
 ·trivial
 ·exact λ j _=>hG j
 ·exact λ _ _ _ _=>trivial
 ·exact λ _ _ _ _=>sc_pl _ _
 ·trivial
theorem sc_ch(k N:Nat)(C:Chn):Sc k (chn N C):=sc_chD k N (λ i=>sc_gn k _) _ _
theorem ch_zero{N:Nat}{f:Nat->Dat}(h0:f 0=.i .i64 (N:Int))(h1:f 1=.ar 16 1 λ _=>.ns)(h2:f 2=.ar 16 16 λ _=>.ar 16 1 λ _=>.b false)(h3:f 3=.ar 16 256 λ _=>.ar 16 16 λ _=>pl λ _=>0)(h4:∀j,f (j+4)=.un):Dat.st 4 f=chn N ⟨λ _=>[],has0 0,tabP N 0⟩:=by
 rw[has0_zero,tabP_zero]
 unfold chn chD
 congr 1
 funext j
 rcases j with _|_|_|_|j
 ·exact h0
 ·exact h1
 ·exact h2
 ·exact h3
 ·exact h4 j
theorem ch_up(N:Nat)(G:Nat->Dat)(has:Nat->Nat->Bool)(tab:Nat->Nat->Nat->Nat)(i k:Nat)(p:Nat->Nat):(Dat.st 4 (fup (fup (chf N G has tab) 2 (.ar 16 16 (fup (hasD has) i (.ar 16 1 (fup (λ k=>.b (has i k)) k (.b true)))))) 3 (.ar 16 256 (fup (tabD tab) i (.ar 16 16 (fup (λ k=>pl (tab i k)) k (pl p)))))))=chD N G (up2 has i k true) (up2 tab i k p):=by
 unfold chD
 congr 1
 funext j
 rcases j with _|_|_|_|j
 ·rfl
 ·rfl
 ·show Dat.ar 16 16 _=Dat.ar 16 16 _;rw[hasD_up]
 ·show Dat.ar 16 256 _=Dat.ar 16 256 _;rw[tabD_up]
 ·rfl
theorem ch_gen(N:Nat)(G:Nat->Dat)(has:Nat->Nat->Bool)(tab:Nat->Nat->Nat->Nat)(i:Nat)(v:Dat):Dat.st 4 (fup (chf N G has tab) 1 (.ar 16 1 (fup G i v)))=chD N (fup G i v) has tab:=by
 unfold chD
 congr 1
 funext j
 rcases j with _|_|_|_|j<;>rfl
theorem gn_add(C:Chn)(k:Nat)(p:Nat->Nat):gnF (C.addG k p).gens=fup (gnF C.gens) k (.ow 25 (C.gens k++[p]).length 16 (rowP (C.gens k++[p]))):=by
 funext j
 by_cases h:j=k
 ·subst h
  rw[fup_same]
  unfold gnF
  rw[Chn.addG_same,gnD_of (by simp)]
 ·rw[fup_ne _ _ h]
  unfold gnF
  rw[Chn.addG_ne _ _ h]
section
variable {P:Go.Program}{T:TyEnv}{K:Nat}{fr:Nat->Dat}{rest:List Root}{N k:Nat}{G:Nat->Dat}{has:Nat->Nat->Bool}{tab:Nat->Nat->Nat->Nat}
theorem load_gen(hT:TOK P T){o:Oper}{t:TypeId}{x:Operand}{off e0 by0 e n:Nat}{z0:Dat}{f:Nat->Dat}(ho:o.op=.load t x)(hx:ev fr x=.p 0 [1,k] off)(ht:T t=some ⟨.slice e0,1,by0,z0⟩)(hk:k<16)(hG:G k=.ow e n 16 f)(he:Nat.beq e 0=false)(hoff:off=1+k){r:Nat}(hr:r=rest.length+1){m:List Root}(hm:m=.var (chD N G has tab)::rest):
  QOK P o fr m (.sl r 0 n 16) (.var (chD N (fup G k (.sl r 0 n 16)) has tab)::rest++[.row e n 16 f]):=by
 subst hr;subst hm
 have h:=load_own (m:=.var (chD N G has tab)::rest) (R:=.var (chD N G has tab)) (ps:=[1<4,k<16]) hT ho hx ht rfl rfl (by
  show some ([1<4,k<16],G k)=_
  rw[hG]) he ⟨by omega,hk⟩ (by
  subst hoff
  show 0+(0+1)+k*1=1+k
  omega)
 have e2:(Root.var (chD N G has tab)).upd [1,k] (.sl (Root.var (chD N G has tab)::rest).length 0 n 16)=.var (chD N (fup G k (.sl (rest.length+1) 0 n 16)) has tab):=by
  rw[<-ch_gen];rfl
 rw[e2] at h
 exact h
theorem load_gen0(hT:TOK P T){o:Oper}{t:TypeId}{x:Operand}{off e0 by0:Nat}{z0:Dat}(ho:o.op=.load t x)(hx:ev fr x=.p 0 [1,k] off)(ht:T t=some ⟨.slice e0,1,by0,z0⟩)(hk:k<16)(hG:G k=.ns)(hoff:off=1+k){m:List Root}(hm:m=.var (chD N G has tab)::rest):
  QOK P o fr m .ns m:=by
 subst hm
 exact load_nil (m:=.var (chD N G has tab)::rest) (R:=.var (chD N G has tab)) (ps:=[1<4,k<16]) hT ho hx ht rfl (by
  show some ([1<4,k<16],G k)=_
  rw[hG]) ⟨by omega,hk⟩ (by
  subst hoff
  show 0+(0+1)+k*1=1+k
  omega)
theorem store_gen(hT:TOK P T){o:Oper}{t:TypeId}{x y:Operand}{off e0 by0:Nat}{z0 v:Dat}(ho:o.op=.store t x y)(hx:ev fr x=.p 0 [1,k] off)(hy:ev fr y=v)(ht:T t=some ⟨.slice e0,1,by0,z0⟩)(hk:k<16)(hG:isScalar (G k)=true)(hv:isScalar v=true)(hoff:off=1+k){m:List Root}(hm:m=.var (chD N G has tab)::rest):
  OpOK P o fr m .un (.var (chD N (fup G k v) has tab)::rest):=by
 subst hm
 have h:=store_slot (m:=.var (chD N G has tab)::rest) (R:=.var (chD N G has tab)) (ps:=[1<4,k<16]) (old:=G k) hT ho hx hy ht rfl rfl rfl hG hv ⟨by omega,hk⟩ (by
  subst hoff
  show 0+(0+1)+k*1=1+k
  omega)
 have e2:(Root.var (chD N G has tab)).upd [1,k] v=.var (chD N (fup G k v) has tab):=by
  rw[<-ch_gen];rfl
 rw[e2] at h
 exact h
theorem Ghost.giveGen{e len n' r:Nat}{g:Nat->Dat}(hk:k<16)(hG:G k=.sl (r+1) 0 len 16)(he:Nat.beq e 0=false)(hr:rest[r]? =some (.row e n' 16 g))(hlen:len<=n'):Ghost K ⟨fr,.var (chD N G has tab)::rest⟩ ⟨fr,.var (chD N (fup G k (.ow e len 16 g)) has tab)::rest.set r .dead⟩:=by
 have he':e≠0:=λ h=>by subst h;cases he
 refine Ghost.fold (m:=.var (chD N G has tab)::rest) 0 [1,k] (r+1) e (R:=.var (chD N G has tab)) rfl rfl (by simp) ?_ ⟨hlen,.inr ⟨he',by omega,by simpa using hr⟩⟩ ?_
 ·show(if 1<4 then(if k<16 then some (G k) else none) else none)=_
  rw[if_pos (by omega),if_pos hk,hG]
 ·unfold foldM
  cases e with
  |zero=>exact absurd rfl he'
  |succ e=>
   have e2:(Root.var (chD N G has tab)).upd [1,k] (.ow (e+1) len 16 g)=.var (chD N (fup G k (.ow (e+1) len 16 g)) has tab):=by
    rw[<-ch_gen];rfl
   rw[e2]
   rfl
end
noncomputable def inSB (N:Nat)(C:Chn)(k:Nat)(p:Nat->Nat):Bool:=@decide (InS N C k p) (Classical.propDecidable _)
theorem inSB_iff{N:Nat}{C:Chn}{k:Nat}{p:Nat->Nat}:inSB N C k p=true↔InS N C k p:=by
 unfold inSB
 exact @decide_eq_true_iff _ (Classical.propDecidable _)
theorem inSB_no{N:Nat}{C:Chn}{k:Nat}{p:Nat->Nat}(h:¬InS N C k p):inSB N C k p=false:=by
 cases e:inSB N C k p with
 |false=>rfl
 |true=>exact absurd (inSB_iff.1 e) h
end Go.Proofs.YthjnmlpibafbnaaGreat
namespace Go.Proofs.YthjnmlpibafbnaaGreat
open Go.RowKit DM
set_option linter.unusedVariables false
set_option linter.unusedSimpArgs false
end Go.Proofs.YthjnmlpibafbnaaGreat
