import Derived.Test.YthjnmlpibafbnaaGreatX6
namespace Go.Proofs.YthjnmlpibafbnaaGreat
open Go.RowKit DM
set_option linter.unusedVariables false
structure WInv(n:Nat)(p:Nat->Nat)(i:Nat)(M:Nat->Bool)(k:Nat)(l:List Nat)(met:Nat->Bool):Prop where
 met:∀x,met x=true↔(M x=true\/x∈l)
 out:∀x∈l,M x=false/\x<n
 nodup:l.Nodup
 chain:∀t,t+1<l.length->l.getD (t+1) 0=p (l.getD t 0)
 here:(l.length=0/\k=i)\/(0<l.length/\k=p (l.getD (l.length-1) 0))
 head:0<l.length->l.getD 0 0=i
 lt:k<n
theorem getD_mem{l:List Nat}{t:Nat}(h:t<l.length):l.getD t 0∈l:=by
 rw[List.getD_eq_getElem?_getD,List.getElem?_eq_getElem h];exact List.getElem_mem h
theorem mem_getD{l:List Nat}{x:Nat}(h:x∈l):∃t,t<l.length/\l.getD t 0=x:=by
 obtain⟨t,ht,e⟩:=List.mem_iff_getElem.1 h
 exact⟨t,ht,by rw[List.getD_eq_getElem?_getD,List.getElem?_eq_getElem ht];exact e⟩
theorem nodup_getD{l:List Nat}(h:l.Nodup){s t:Nat}(hs:s<l.length)(ht:t<l.length)(e:l.getD s 0=l.getD t 0):s=t:=by
 rw[List.getD_eq_getElem?_getD,List.getD_eq_getElem?_getD,List.getElem?_eq_getElem hs,List.getElem?_eq_getElem ht] at e
 have hp:=List.pairwise_iff_getElem.1 h
 rcases Nat.lt_trichotomy s t with c|c|c
 ·exact absurd e (hp s t hs ht c)
 ·exact c
 ·exact absurd e.symm (hp t s ht hs c)
theorem WInv.step{n:Nat}{p:Nat->Nat}(hp:∀i,i<n->p i<n){i:Nat}{M:Nat->Bool}{k:Nat}{l:List Nat}{met:Nat->Bool}(h:WInv n p i M k l met)(hm:met k=false):WInv n p i M (p k) (l++[k]) (up met k true):=by
 have hk:M k≠true/\k∉l:=by
  have:=(h.met k).2
  constructor
  ·intro e;rw[this (.inl e)] at hm;cases hm
  ·intro e;rw[this (.inr e)] at hm;cases hm
 refine⟨λ x=>?_,λ x hx=>?_,?_,λ t ht=>?_,.inr ⟨by simp,by simp⟩,λ _=>?_,hp _ h.lt⟩
 ·unfold up
  by_cases e:x=k
  ·subst e;simp
  ·rw[if_neg e,h.met x];simp[e]
 ·simp only[List.mem_append,List.mem_singleton] at hx
  rcases hx with hx|rfl
  ·exact h.out x hx
  ·exact⟨by simpa using hk.1,h.lt⟩
 ·rw[List.nodup_append]
  refine⟨h.nodup,by simp,λ a ha b hb=>?_⟩
  simp only[List.mem_singleton] at hb
  subst hb
  intro e;subst e;exact hk.2 ha
 ·simp only[List.length_append,List.length_singleton] at ht
  by_cases e:t+1<l.length
  ·rw[getD_snoc_lt _ _ _ e,getD_snoc_lt _ _ _ (by omega)];exact h.chain t e
  ·have e:l.length=t+1:=by omega
   rw[<-e,getD_snoc,getD_snoc_lt _ _ _ (by omega)]
   rcases h.here with⟨h1,_⟩|⟨_,h2⟩
   ·omega
   ·rw[h2,e];rfl
 ·by_cases e:0<l.length
  ·rw[getD_snoc_lt _ _ _ e];exact h.head e
  ·rcases h.here with⟨h1,h2⟩|⟨h1,_⟩
   ·have:l=[]:=List.eq_nil_of_length_eq_zero h1
    subst this;rw[h2];rfl
   ·omega
theorem cyc_end{n:Nat}(hn:n<=16){p:Nat->Nat}(hp:∀i,i<n->p i<n){i:Nat}{M:Nat->Bool}:∀(c k:Nat) (l:List Nat) (met:Nat->Bool),cntU 16 met=c->WInv n p i M k l met->∃k',WInv n p i M k' (cyc p k l met).1 (cyc p k l met).2/\(cyc p k l met).2 k'=true
 |c,k,l,met,hc,h=>by
  have hk:=h.lt
  cases hm:met k
  ·rw[cyc_new (by omega) hm]
   have hcu:=cntU_up (met:=met) (y:=k) (by omega) hm
   exact cyc_end hn hp (c-1) (p k) (l++[k]) (up met k true) (by omega) (h.step hp hm)
  ·rw[cyc_old hm];exact⟨k,h,hm⟩
termination_by c=>c
decreasing_by omega
structure OInv(n:Nat)(p:Nat->Nat)(i:Nat)(L:List (List Nat))(M:Nat->Bool):Prop where
 met:∀x,M x=true↔∃j,j<L.length/\x∈L.getD j []
 lt:∀j x,x∈L.getD j []->x<n
 uniq:∀j j' x,x∈L.getD j []->x∈L.getD j' []->j=j'
 nodup:∀j,(L.getD j []).Nodup
 fwd:∀j x,x∈L.getD j []->p x∈L.getD j []
 bwd:∀j x,x∈L.getD j []->∃y,y∈L.getD j []/\p y=x
 chain:∀j t,t+1<(L.getD j []).length->(L.getD j []).getD (t+1) 0=p ((L.getD j []).getD t 0)
 pos:∀j,j<L.length->0<(L.getD j []).length
 all:∀x,x<i->M x=true
theorem getD_mem_lt{L:List (List Nat)}{j x:Nat}(h:x∈L.getD j []):j<L.length:=by
 refine Classical.byContradiction λ hj=>?_
 rw[List.getD_eq_getElem?_getD,List.getElem?_eq_none (by omega)] at h
 simp at h
theorem OInv.step{n:Nat}(hn:n<=16){p:Nat->Nat}(hp:Perm n p){i:Nat}(hi:i<n){L:List (List Nat)}{M:Nat->Bool}(h:OInv n p i L M)(hm:M i=false):OInv n p (i+1) (L++[(cyc p i [] M).1]) (cyc p i [] M).2:=by
 have h0:WInv n p i M i [] M:=⟨λ x=>by simp,λ x hx=>by simp at hx,List.nodup_nil,λ t ht=>by simp at ht,.inl ⟨rfl,rfl⟩,λ h=>by simp at h,hi⟩
 have hpos:=cyc_pos (p:=p) (k:=i) (by omega) hm
 obtain⟨k,hw,hk⟩:=cyc_end hn hp.lt _ i [] M rfl h0
 generalize (cyc p i [] M).1=l at*
 generalize (cyc p i [] M).2=met at*
 have hhead:=hw.head (by omega)
 have hlast:=getD_mem (l:=l) (t:=l.length-1) (by omega)
 --it ends where it began
 have hki:k=i:=by
  rcases hw.here with⟨h1,_⟩|⟨_,h2⟩
  ·omega
  ·rcases(hw.met k).1 hk with h3|h3
   ·exfalso
    obtain⟨j,hj,hx⟩:=(h.met k).1 h3
    obtain⟨y,hy,e⟩:=h.bwd j k hx
    have:=hp.inj y (l.getD (l.length-1) 0) (h.lt j y hy) (hw.out _ hlast).2 (e.trans h2)
    rw[<-this] at hlast
    have h4:=(hw.out _ hlast).1
    rw[(h.met y).2 ⟨j,hj,hy⟩] at h4
    cases h4
   ·obtain⟨t,ht,e⟩:=mem_getD h3
    rcases t with _|t
    ·rw[<-e,hhead]
    ·have h4:=hw.chain t ht
     rw[e,h2] at h4
     have:=hp.inj _ _ (hw.out _ hlast).2 (hw.out _ (getD_mem (by omega))).2 h4
     have:=nodup_getD hw.nodup (by omega) (by omega) this
     omega
 have old:∀{j:Nat},j<L.length->(L++[l]).getD j []=L.getD j []:=λ hj=>getD_snoc_lt L l [] hj
 have new:(L++[l]).getD L.length []=l:=getD_snoc L l []
 have cas:∀{j x:Nat},x∈(L++[l]).getD j []->(j<L.length/\x∈L.getD j [])\/(j=L.length/\x∈l):=by
  intro j x hx
  have hj:=getD_mem_lt hx
  simp only[List.length_append,List.length_singleton] at hj
  by_cases e:j<L.length
  ·rw[old e] at hx;exact .inl ⟨e,hx⟩
  ·have e:j=L.length:=by omega
   subst e;rw[new] at hx;exact .inr ⟨rfl,hx⟩
 refine⟨λ x=>?_,λ j x hx=>?_,λ j j' x hx hx'=>?_,λ j=>?_,λ j x hx=>?_,λ j x hx=>?_,λ j t ht=>?_,λ j hj=>?_,λ x hx=>?_⟩
 ·rw[hw.met x,h.met x]
  constructor
  ·rintro(⟨j,hj,h1⟩|h1)
   ·exact⟨j,by simp;omega,by rw[old hj];exact h1⟩
   ·exact⟨L.length,by simp,by rw[new];exact h1⟩
  ·rintro⟨j,hj,h1⟩
   rcases cas h1 with⟨h2,h3⟩|⟨h2,h3⟩
   ·exact .inl ⟨j,h2,h3⟩
   ·exact .inr h3
 ·rcases cas hx with⟨_,h3⟩|⟨_,h3⟩
  ·exact h.lt j x h3
  ·exact(hw.out x h3).2
 ·have no:∀{j:Nat},x∈L.getD j []->x∈l->False:=λ h1 h2=>by
   have h4:=(hw.out x h2).1
   rw[(h.met x).2 ⟨_,getD_mem_lt h1,h1⟩] at h4
   cases h4
  rcases cas hx with⟨_,h3⟩|⟨rfl,h3⟩<;>rcases cas hx' with⟨_,h4⟩|⟨rfl,h4⟩
  ·exact h.uniq j j' x h3 h4
  ·exact(no h3 h4).elim
  ·exact(no h4 h3).elim
  ·rfl
 ·by_cases e:j<L.length
  ·rw[old e];exact h.nodup j
  ·by_cases e2:j=L.length
   ·subst e2;rw[new];exact hw.nodup
   ·rw[List.getD_eq_getElem?_getD,List.getElem?_eq_none (by simp;omega)];simp
 ·rcases cas hx with⟨h2,h3⟩|⟨rfl,h3⟩
  ·rw[old h2];exact h.fwd j x h3
  ·rw[new]
   obtain⟨t,ht,rfl⟩:=mem_getD h3
   by_cases e:t+1<l.length
   ·rw[<-hw.chain t e];exact getD_mem e
   ·have e:t=l.length-1:=by omega
    rcases hw.here with⟨h1,_⟩|⟨_,h2⟩
    ·omega
    ·rw[e, <-h2,hki, <-hhead];exact getD_mem (by omega)
 ·rcases cas hx with⟨h2,h3⟩|⟨rfl,h3⟩
  ·rw[old h2];exact h.bwd j x h3
  ·rw[new]
   obtain⟨t,ht,rfl⟩:=mem_getD h3
   rcases t with _|t
   ·refine⟨_,hlast,?_⟩
    rcases hw.here with⟨h1,_⟩|⟨_,h2⟩
    ·omega
    ·rw[<-h2,hki,hhead]
   ·exact⟨l.getD t 0,getD_mem (by omega),(hw.chain t ht).symm⟩
 ·by_cases e:j<L.length
  ·rw[old e] at ht ⊢;exact h.chain j t ht
  ·by_cases e2:j=L.length
   ·subst e2;rw[new] at ht ⊢;exact hw.chain t ht
   ·rw[List.getD_eq_getElem?_getD,List.getElem?_eq_none (by simp;omega)] at ht;simp at ht
 ·by_cases e:j<L.length
  ·rw[old e];exact h.pos j e
  ·have e2:j=L.length:=by simp at hj;omega
   subst e2;rw[new];omega
 ·rw[hw.met x]
  by_cases e:x<i
  ·exact .inl (h.all x e)
  ·have:x=i:=by omega
   subst this
   exact .inr (by rw[<-hhead];exact getD_mem (by omega))
theorem cyTo_inv{n:Nat}(hn:n<=16){p:Nat->Nat}(hp:Perm n p):∀i,i<=n->OInv n p i (cyTo p i).1 (cyTo p i).2
 |0,_=>⟨λ x=>by simp[cyTo],λ j x hx=>by simp[cyTo] at hx,λ j j' x hx=>by simp[cyTo] at hx,λ j=>by simp[cyTo],λ j x hx=>by simp[cyTo] at hx,λ j x hx=>by simp[cyTo] at hx,λ j t ht=>by simp[cyTo] at ht,λ j hj=>by simp[cyTo] at hj,λ x hx=>by omega⟩
 |i+1,hi=>by
  have ih:=cyTo_inv hn hp i (by omega)
  cases hm:(cyTo p i).2 i
  ·rw[cyTo_new hm];exact ih.step hn hp (by omega) hm
  ·rw[cyTo_old hm]
   exact⟨ih.met,ih.lt,ih.uniq,ih.nodup,ih.fwd,ih.bwd,ih.chain,ih.pos,λ x hx=>by
    by_cases e:x<i
    ·exact ih.all x e
    ·have:x=i:=by omega
     subst this;exact hm⟩
def clsF(L:List (List Nat))(x:Nat):Nat:=L.findIdx λ l=>decide (x∈l)
theorem cls_of{L:List (List Nat)}(hu:∀j j' x,x∈L.getD j []->x∈L.getD j' []->j=j'){j x:Nat}(h:x∈L.getD j []):clsF L x=j:=by
 have hj:=getD_mem_lt h
 have hlt:clsF L x<L.length:=by
  unfold clsF
  rw[List.findIdx_lt_length]
  refine⟨L.getD j [],?_,by simpa using h⟩
  rw[List.getD_eq_getElem?_getD,List.getElem?_eq_getElem hj];exact List.getElem_mem hj
 refine hu _ _ x ?_ h
 have:=List.findIdx_getElem (xs:=L) (p:=λ l=>decide (x∈l)) (w:=hlt)
 rw[List.getD_eq_getElem?_getD,List.getElem?_eq_getElem hlt]
 exact of_decide_eq_true this
theorem mem_take_succ{l:List Nat}{t x:Nat}(h:t<l.length):x∈l.take (t+1)↔(x∈l.take t\/x=l.getD t 0):=by
 rw[List.take_add_one,List.getElem?_eq_getElem h,List.getD_eq_getElem?_getD,List.getElem?_eq_getElem h]
 simp only[List.mem_append,Option.toList_some,List.mem_singleton,Option.getD_some]
theorem perm_surj{n:Nat}(hn:n<=16){p:Nat->Nat}(hp:Perm n p){x:Nat}(hx:x<n):∃y,y<n/\p y=x:=by
 have h:=cyTo_inv hn hp n (Nat.le_refl _)
 obtain⟨j,_,hm⟩:=(h.met x).1 (h.all x hx)
 obtain⟨y,hy,e⟩:=h.bwd j x hm
 exact⟨y,h.lt j y hy,e⟩
theorem backTo_at{n:Nat}{p:Nat->Nat}(hp:Perm n p):∀k,k<=n->∀x,x<k->backTo p k (p x)=x
 |0,_,x,h=>absurd h (Nat.not_lt_zero _)
 |k+1,hk,x,h=>by
  simp only[backTo,up]
  by_cases e:x=k
  ·subst e;rw[if_pos rfl]
  ·rw[if_neg λ e2=>e (hp.inj x k (by omega) (by omega) e2)]
   exact backTo_at hp k (by omega) x (by omega)
theorem perm_back{n:Nat}(hn:n<=16){p:Nat->Nat}(hp:Perm n p):Perm n (backTo p n):=by
 have at_:=λ x (hx:x<n)=>backTo_at hp n (Nat.le_refl _) x hx
 refine⟨λ i hi=>?_,λ i j hi hj e=>?_⟩
 ·obtain⟨x,hx,rfl⟩:=perm_surj hn hp hi
  rw[at_ x hx];exact hx
 ·obtain⟨x,hx,rfl⟩:=perm_surj hn hp hi
  obtain⟨y,hy,rfl⟩:=perm_surj hn hp hj
  rw[at_ x hx,at_ y hy] at e
  rw[e]
end Go.Proofs.YthjnmlpibafbnaaGreat

namespace Go.Proofs.YthjnmlpibafbnaaGreat
open Go.RowKit DM
set_option linter.unusedVariables false
set_option linter.unusedSimpArgs false
structure Np(n:Nat)(p:Nat->Nat):Prop where
 perm:Perm n p
 out:∀i,n<=i->p i=0
def mulF(n:Nat)(p q:Nat->Nat):Nat->Nat:=fillF (λ i=>q (p i)) n
theorem mul_at{n:Nat}{p q:Nat->Nat}{i:Nat}(h:i<n):mulF n p q i=q (p i):=by simp only[mulF,fillF,if_pos h]
theorem mul_out{n:Nat}{p q:Nat->Nat}{i:Nat}(h:n<=i):mulF n p q i=0:=by simp only[mulF,fillF,if_neg (Nat.not_lt.2 h)]
theorem one_at{n i:Nat}(h:i<n):sameF n i=i:=by simp only[sameF,if_pos h]
theorem one_out{n i:Nat}(h:n<=i):sameF n i=0:=by simp only[sameF,if_neg (Nat.not_lt.2 h)]
theorem np_ext{n:Nat}{p q:Nat->Nat}(hp:Np n p)(hq:Np n q)(h:∀i,i<n->p i=q i):p=q:=by
 funext i
 by_cases hi:i<n
 ·exact h i hi
 ·rw[hp.out i (by omega),hq.out i (by omega)]
theorem one_np(n:Nat):Np n (sameF n):=⟨perm_same n,λ i hi=>one_out hi⟩
theorem mul_np{n:Nat}{p q:Nat->Nat}(hp:Np n p)(hq:Np n q):Np n (mulF n p q):=
 ⟨⟨λ i hi=>by rw[mul_at hi];exact hq.perm.lt _ (hp.perm.lt i hi),λ i j hi hj e=>by
  rw[mul_at hi,mul_at hj] at e
  exact hp.perm.inj i j hi hj (hq.perm.inj _ _ (hp.perm.lt i hi) (hp.perm.lt j hj) e)⟩,λ i hi=>mul_out hi⟩
theorem back_out{p:Nat->Nat}{n:Nat}(hp:Perm n p):∀k,k<=n->∀j,n<=j->backTo p k j=0
 |0,_,_,_=>rfl
 |k+1,hk,j,hj=>by
  simp only[backTo,up]
  have:=hp.lt k (by omega)
  rw[if_neg (by omega)]
  exact back_out hp k (by omega) j hj
theorem inv_np{n:Nat}(hn:n<=16){p:Nat->Nat}(hp:Np n p):Np n (backTo p n):=⟨perm_back hn hp.perm,λ i hi=>back_out hp.perm n (Nat.le_refl _) i hi⟩
theorem mul_assoc{n:Nat}{p q r:Nat->Nat}(hp:Np n p)(hq:Np n q)(hr:Np n r):mulF n (mulF n p q) r=mulF n p (mulF n q r):=
 np_ext (mul_np (mul_np hp hq) hr) (mul_np hp (mul_np hq hr)) λ i hi=>by rw[mul_at hi,mul_at hi,mul_at hi,mul_at (hp.perm.lt i hi)]
theorem mul_one{n:Nat}{p:Nat->Nat}(hp:Np n p):mulF n p (sameF n)=p:=
 np_ext (mul_np hp (one_np n)) hp λ i hi=>by rw[mul_at hi,one_at (hp.perm.lt i hi)]
theorem one_mul{n:Nat}{p:Nat->Nat}(hp:Np n p):mulF n (sameF n) p=p:=
 np_ext (mul_np (one_np n) hp) hp λ i hi=>by rw[mul_at hi,one_at hi]
theorem mul_inv{n:Nat}(hn:n<=16){p:Nat->Nat}(hp:Np n p):mulF n p (backTo p n)=sameF n:=
 np_ext (mul_np hp (inv_np hn hp)) (one_np n) λ i hi=>by rw[mul_at hi,one_at hi];exact backTo_at hp.perm n (Nat.le_refl _) i hi
theorem inv_mul{n:Nat}(hn:n<=16){p:Nat->Nat}(hp:Np n p):mulF n (backTo p n) p=sameF n:=
 np_ext (mul_np (inv_np hn hp) hp) (one_np n) λ i hi=>by
  rw[mul_at hi,one_at hi]
  obtain⟨x,hx,rfl⟩:=perm_surj hn hp.perm hi
  rw[backTo_at hp.perm n (Nat.le_refl _) x hx]
theorem inv_one{n:Nat}(hn:n<=16):backTo (sameF n) n=sameF n:=by
 have h:=mul_inv hn (one_np n)
 rwa [one_mul (inv_np hn (one_np n))] at h
theorem inv_back{n:Nat}{p:Nat->Nat}(hp:Np n p){x:Nat}(hx:x<n):backTo p n (p x)=x:=backTo_at hp.perm n (Nat.le_refl _) x hx
inductive Grp(n:Nat)(gens:List (Nat->Nat)):(Nat->Nat)->Prop
 |one:Grp n gens (sameF n)
 |mul {p g:Nat->Nat}:Grp n gens p->g∈gens->Grp n gens (mulF n p g)
theorem Grp.np{n:Nat}{gens:List (Nat->Nat)}(hg:∀g∈gens,Np n g){p:Nat->Nat}(h:Grp n gens p):Np n p:=by
 induction h with
 |one=>exact one_np n
 |mul _ hm ih=>exact mul_np ih (hg _ hm)
theorem Grp.gen{n:Nat}{gens:List (Nat->Nat)}(hg:∀g∈gens,Np n g){g:Nat->Nat}(h:g∈gens):Grp n gens g:=by
 have:=Grp.mul (Grp.one (n:=n) (gens:=gens)) h
 rwa [one_mul (hg g h)] at this
theorem Grp.comp{n:Nat}{gens:List (Nat->Nat)}(hg:∀g∈gens,Np n g){p q:Nat->Nat}(hp:Grp n gens p)(hq:Grp n gens q):Grp n gens (mulF n p q):=by
 induction hq with
 |one=>rw[mul_one (hp.np hg)];exact hp
 |mul h1 h2 ih=>
  rw[<-mul_assoc (hp.np hg) (h1.np hg) (hg _ h2)]
  exact .mul ih h2
structure TblOk(n:Nat)(has:Nat->Nat->Bool)(tab:Nat->Nat->Nat->Nat):Prop where
 diag:∀i,i<n->has i i=true/\tab i i=sameF n
 lt:∀i k,i<n->has i k=true->k<n
 np:∀i k,i<n->has i k=true->Np n (tab i k)
 fix:∀i k,i<n->has i k=true->∀j,j<i->tab i k j=j
 at_:∀i k,i<n->has i k=true->tab i k i=k
def InT(n:Nat)(has:Nat->Nat->Bool)(tab:Nat->Nat->Nat->Nat):Nat->(Nat->Nat)->Prop
 |0,r=>r=sameF n
 |d+1,r=>∃k,has (n-(d+1)) k=true/\∃h,InT n has tab d h/\r=mulF n h (tab (n-(d+1)) k)
theorem InT.np{n:Nat}{has:Nat->Nat->Bool}{tab:Nat->Nat->Nat->Nat}(hT:TblOk n has tab):∀{d:Nat}{r:Nat->Nat},d<=n->InT n has tab d r->Np n r/\∀j,j<n-d->r j=j
 |0,r,_,h=>by
  have h:r=sameF n:=h
  subst h;exact⟨one_np n,λ j hj=>one_at (by omega)⟩
 |d+1,r,hd,⟨k,hk,h,hh,e⟩=>by
  obtain⟨h1,h2⟩:=InT.np hT (d:=d) (by omega) hh
  have h3:=hT.np _ k (by omega) hk
  subst e
  refine⟨mul_np h1 h3,λ j hj=>?_⟩
  rw[mul_at (by omega),h2 j (by omega)]
  exact hT.fix _ k (by omega) hk j hj
theorem InT.peel{n:Nat}(hn:n<=16){has:Nat->Nat->Bool}{tab:Nat->Nat->Nat->Nat}(hT:TblOk n has tab){d:Nat}{r:Nat->Nat}(hd:d+1<=n):InT n has tab (d+1) r↔Np n r/\has (n-(d+1)) (r (n-(d+1)))=true/\InT n has tab d (mulF n r (backTo (tab (n-(d+1)) (r (n-(d+1)))) n)):=by
 constructor
 ·rintro⟨k,hk,h,hh,rfl⟩
  obtain⟨h1,h2⟩:=InT.np hT (by omega) hh
  have h3:=hT.np _ k (by omega) hk
  have hlt:n-(d+1)<n:=by omega
  have e:mulF n h (tab (n-(d+1)) k) (n-(d+1))=k:=by
   rw[mul_at hlt,h2 _ (by omega)];exact hT.at_ _ k hlt hk
  refine⟨mul_np h1 h3,by rw[e];exact hk,?_⟩
  rw[e,mul_assoc h1 h3 (inv_np hn h3),mul_inv hn h3,mul_one h1]
  exact hh
 ·rintro⟨h1,h2,h3⟩
  have hlt:n-(d+1)<n:=by omega
  have h4:=hT.np _ _ hlt h2
  refine⟨_,h2,_,h3,?_⟩
  rw[mul_assoc h1 (inv_np hn h4) h4,inv_mul hn h4,mul_one h1]
theorem InT.one{n:Nat}(hn:n<=16){has:Nat->Nat->Bool}{tab:Nat->Nat->Nat->Nat}(hT:TblOk n has tab):∀{d:Nat},d<=n->InT n has tab d (sameF n)
 |0,_=>rfl
 |d+1,hd=>by
  have h:=hT.diag (n-(d+1)) (by omega)
  refine⟨_,h.1,sameF n,InT.one hn hT (by omega),?_⟩
  rw[h.2,mul_one (one_np n)]
theorem InT.down{n:Nat}(hn:n<=16){has:Nat->Nat->Bool}{tab:Nat->Nat->Nat->Nat}(hT:TblOk n has tab){d:Nat}{r:Nat->Nat}(hd:d+1<=n)(h:InT n has tab (d+1) r)(hf:r (n-(d+1))=n-(d+1)):InT n has tab d r:=by
 obtain⟨h1,h2,h3⟩:=(InT.peel hn hT hd).1 h
 rw[hf,(hT.diag _ (by omega)).2,inv_one hn,mul_one h1] at h3
 exact h3
theorem InT.up{n:Nat}(hn:n<=16){has:Nat->Nat->Bool}{tab:Nat->Nat->Nat->Nat}(hT:TblOk n has tab){d:Nat}{r:Nat->Nat}(hd:d+1<=n)(h:InT n has tab d r):InT n has tab (d+1) r:=by
 have h1:=InT.np hT (by omega) h
 refine⟨_,(hT.diag (n-(d+1)) (by omega)).1,r,h,?_⟩
 rw[(hT.diag _ (by omega)).2,mul_one h1.1]
theorem InT.downs{n:Nat}(hn:n<=16){has:Nat->Nat->Bool}{tab:Nat->Nat->Nat->Nat}(hT:TblOk n has tab):∀{e d:Nat}{r:Nat->Nat},d+e<=n->InT n has tab (d+e) r->(∀j,j<n-d->r j=j)->InT n has tab d r
 |0,_,_,_,h,_=>h
 |e+1,d,r,hd,h,hf=>InT.downs hn hT (by omega) (InT.down hn hT (by omega) h (hf _ (by omega))) hf
theorem InT.entry{n:Nat}(hn:n<=16){has:Nat->Nat->Bool}{tab:Nat->Nat->Nat->Nat}(hT:TblOk n has tab){d k:Nat}(hd:d+1<=n)(hk:has (n-(d+1)) k=true):InT n has tab (d+1) (tab (n-(d+1)) k):=
 ⟨k,hk,sameF n,InT.one hn hT (by omega),(one_mul (hT.np _ k (by omega) hk)).symm⟩
theorem InT.closed{n:Nat}(hn:n<=16){has:Nat->Nat->Bool}{tab:Nat->Nat->Nat->Nat}(hT:TblOk n has tab)(hp:∀i k j l,i<n->j<n->has i k=true->has j l=true->InT n has tab n (mulF n (tab i k) (tab j l))):∀d,d<=n->∀r s,InT n has tab d r->InT n has tab d s->InT n has tab d (mulF n r s)
 |0,_,r,s,hr,hs=>by
  have hr:r=sameF n:=hr
  have hs:s=sameF n:=hs
  subst hr;subst hs;exact mul_one (one_np n)
 |d+1,hd,r,s,hr,hs=>by
  have ih:=InT.closed hn hT hp d (by omega)
  obtain⟨k,hk,h,hh,rfl⟩:=hr
  have hlt:n-(d+1)<n:=by omega
  have nh:=(InT.np hT (by omega) hh).1
  have nk:=hT.np _ k hlt hk
  --an entry of this level,then something later
  have key:∀c,c<=d->∀s',InT n has tab c s'->∀k,has (n-(d+1)) k=true->∃h' k',InT n has tab d h'/\has (n-(d+1)) k'=true/\mulF n (tab (n-(d+1)) k) s'=mulF n h' (tab (n-(d+1)) k'):=by
   intro c
   induction c with
   |zero=>
    intro _ s' hs' k hk
    have hs':s'=sameF n:=hs'
    subst hs'
    refine⟨sameF n,k,InT.one hn hT (by omega),hk,?_⟩
    rw[mul_one (hT.np _ k hlt hk),one_mul (hT.np _ k hlt hk)]
   |succ c ihc=>
    intro hc s' hs' k hk
    obtain⟨l,hl,g,hg,rfl⟩:=hs'
    have hlt2:n-(c+1)<n:=by omega
    have nk:=hT.np _ k hlt hk
    have ng:=(InT.np hT (by omega) hg).1
    have nl:=hT.np _ l hlt2 hl
    obtain⟨h1,k1,i1,i2,e1⟩:=ihc (by omega) g hg k hk
    have nh1:=(InT.np hT (by omega) i1).1
    have nk1:=hT.np _ k1 hlt i2
    have hpr:=hp _ k1 _ l hlt hlt2 i2 hl
    have hpr2:InT n has tab (d+1) (mulF n (tab (n-(d+1)) k1) (tab (n-(c+1)) l)):=by
     refine InT.downs hn hT (e:=n-(d+1)) (by omega) (by rw[show d+1+(n-(d+1))=n by omega];exact hpr) λ j hj=>?_
     rw[mul_at (by omega),hT.fix _ k1 hlt i2 j (by omega)]
     exact hT.fix _ l hlt2 hl j (by omega)
    obtain⟨k2,i3,h2,i4,e2⟩:=hpr2
    have nh2:=(InT.np hT (by omega) i4).1
    refine⟨mulF n h1 h2,k2,ih h1 h2 i1 i4,i3,?_⟩
    rw[<-mul_assoc nk ng nl,e1,mul_assoc nh1 nk1 nl,e2,mul_assoc nh1 nh2 (hT.np _ k2 hlt i3)]
  obtain⟨k',hk',h',hh',rfl⟩:=hs
  have nh':=(InT.np hT (by omega) hh').1
  have nk':=hT.np _ k' hlt hk'
  obtain⟨h1,k1,i1,i2,e1⟩:=key d (Nat.le_refl _) h' hh' k hk
  have nh1:=(InT.np hT (by omega) i1).1
  have nk1:=hT.np _ k1 hlt i2
  have hpr2:InT n has tab (d+1) (mulF n (tab (n-(d+1)) k1) (tab (n-(d+1)) k')):=by
   refine InT.downs hn hT (e:=n-(d+1)) (by omega) (by rw[show d+1+(n-(d+1))=n by omega];exact hp _ k1 _ k' hlt hlt i2 hk') λ j hj=>?_
   rw[mul_at (by omega),hT.fix _ k1 hlt i2 j hj]
   exact hT.fix _ k' hlt hk' j hj
  obtain⟨k2,i3,h2,i4,e2⟩:=hpr2
  have nh2:=(InT.np hT (by omega) i4).1
  refine⟨k2,i3,mulF n (mulF n h h1) h2,ih _ _ (ih _ _ hh i1) i4,?_⟩
  have nk2:=hT.np _ k2 hlt i3
  rw[mul_assoc nh nk (mul_np nh' nk'), <-mul_assoc nk nh' nk',e1,mul_assoc nh1 nk1 nk',e2, <-mul_assoc nh nh1 (mul_np nh2 nk2), <-mul_assoc (mul_np nh nh1) nh2 nk2]
def Tells(n:Nat)(gens:List (Nat->Nat))(has:Nat->Nat->Bool):Prop:=∀i k,i<n->(has i k=true↔∃g,Grp n gens g/\(∀j,j<i->g j=j)/\g i=k)
theorem InT.grp{n:Nat}{has:Nat->Nat->Bool}{tab:Nat->Nat->Nat->Nat}(hT:TblOk n has tab){gens:List (Nat->Nat)}(hg:∀g∈gens,Np n g)(hin:∀i k,i<n->has i k=true->Grp n gens (tab i k)):∀{d:Nat}{r:Nat->Nat},d<=n->InT n has tab d r->Grp n gens r
 |0,r,_,h=>by
  have h:r=sameF n:=h
  subst h;exact .one
 |d+1,r,hd,⟨k,hk,h,hh,e⟩=>by
  subst e
  exact(InT.grp hT hg hin (by omega) hh).comp hg (hin _ k (by omega) hk)
theorem tells_of{n:Nat}(hn:n<=16){has:Nat->Nat->Bool}{tab:Nat->Nat->Nat->Nat}(hT:TblOk n has tab){gens:List (Nat->Nat)}(hg:∀g∈gens,Np n g)(hin:∀i k,i<n->has i k=true->Grp n gens (tab i k))(hall:∀g,Grp n gens g->InT n has tab n g):Tells n gens has:=by
 intro i k hi
 constructor
 ·intro h
  exact⟨tab i k,hin i k hi h,hT.fix i k hi h,hT.at_ i k hi h⟩
 ·rintro⟨g,h1,h2,rfl⟩
  have h3:=hall g h1
  have h4:InT n has tab (n-i-1+1) g:=InT.downs hn hT (e:=i) (by omega) (by rw[show n-i-1+1+i=n by omega];exact h3) λ j hj=>h2 j (by omega)
  have h5:=((InT.peel hn hT (by omega)).1 h4).2.1
  rw[show n-(n-i-1+1)=i by omega] at h5
  exact h5
theorem tbl_all{n:Nat}(hn:n<=16){has:Nat->Nat->Bool}{tab:Nat->Nat->Nat->Nat}(hT:TblOk n has tab){gens:List (Nat->Nat)}(hp:∀i k j l,i<n->j<n->has i k=true->has j l=true->InT n has tab n (mulF n (tab i k) (tab j l)))(hgi:∀g∈gens,InT n has tab n g):∀g,Grp n gens g->InT n has tab n g:=by
 intro g h
 induction h with
 |one=>exact InT.one hn hT (Nat.le_refl _)
 |mul _ hm ih=>exact InT.closed hn hT hp n (Nat.le_refl _) _ _ ih (hgi _ hm)
end Go.Proofs.YthjnmlpibafbnaaGreat
