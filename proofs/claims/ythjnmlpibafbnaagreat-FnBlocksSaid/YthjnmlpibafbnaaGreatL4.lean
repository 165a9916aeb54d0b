import Derived.Test.YthjnmlpibafbnaaGreatL20
import Derived.Test.YthjnmlpibafbnaaGreatX6
namespace Go.Proofs.YthjnmlpibafbnaaGreat
open Go.RowKit DM
set_option linter.unusedVariables false
set_option linter.unusedSimpArgs false
def rmF(n:Nat)(p:Nat->Nat)(x:Nat):Nat:=if p x=n then p n else p x
def sgF:Nat->(Nat->Nat)->Nat
 |0,_=>0
 |n+1,p=>sgF n (rmF n p)+if p n=n then 0 else 1
def trF(a b x:Nat):Nat:=if x=a then b else if x=b then a else x
theorem sg_congr:∀n {p q:Nat->Nat},(∀x,x<n->p x=q x)->sgF n p=sgF n q
 |0,_,_,_=>rfl
 |n+1,p,q,h=>by
  have hn:=h n (Nat.lt_succ_self _)
  simp only[sgF,hn]
  rw[sg_congr n (p:=rmF n p) (q:=rmF n q) λ x hx=>by unfold rmF;rw[h x (by omega),hn]]
theorem rm_perm{n:Nat}{p:Nat->Nat}(hp:Perm (n+1) p):Perm n (rmF n p):=by
 refine⟨λ i hi=>?_,λ i j hi hj e=>?_⟩
 ·have h1:=hp.lt i (by omega)
  have h2:=hp.lt n (by omega)
  have h3:p i≠p n:=λ e=>by have:=hp.inj i n (by omega) (by omega) e;omega
  unfold rmF;split<;>omega
 ·have h1:p i≠p n:=λ e=>by have:=hp.inj i n (by omega) (by omega) e;omega
  have h2:p j≠p n:=λ e=>by have:=hp.inj j n (by omega) (by omega) e;omega
  unfold rmF at e
  refine hp.inj i j (by omega) (by omega) ?_
  split at e<;>split at e<;>omega
theorem tr_a(a b:Nat):trF a b a=b:=by unfold trF;rw[if_pos rfl]
theorem tr_b(a b:Nat):trF a b b=a:=by
 unfold trF
 by_cases h:b=a
 ·rw[if_pos h,h]
 ·rw[if_neg h,if_pos rfl]
theorem tr_o{a b x:Nat}(h1:x≠a)(h2:x≠b):trF a b x=x:=by unfold trF;rw[if_neg h1,if_neg h2]
theorem tr_comm{a b:Nat}(h:a≠b)(x:Nat):trF a b x=trF b a x:=by
 unfold trF
 by_cases h1:x=a<;>by_cases h2:x=b<;>simp[h1,h2]<;>omega
theorem tr_perm{n a b:Nat}(ha:a<n)(hb:b<n){p:Nat->Nat}(hp:Perm n p):Perm n (λ x=>trF a b (p x)):=by
 refine⟨λ i hi=>?_,λ i j hi hj e=>?_⟩
 ·have:=hp.lt i hi
  show trF a b (p i)<n
  unfold trF;split
  ·exact hb
  ·split<;>omega
 ·refine hp.inj i j hi hj ?_
  have e:trF a b (p i)=trF a b (p j):=e
  unfold trF at e
  split at e<;>split at e<;>(try split at e)<;>(try split at e)<;>omega
theorem sg_tr:∀(n:Nat) (p:Nat->Nat) (a b:Nat),Perm n p->a<n->b<n->a≠b->(sgF n (λ x=>trF a b (p x))+sgF n p) % 2=1
 |0,_,_,_,_,h,_,_=>absurd h (Nat.not_lt_zero _)
 |n+1,p,a,b,hp,ha,hb,hab=>by
  have hr:=rm_perm hp
  have hnx:∀x,x<n->p x≠p n:=λ x hx e=>by have:=hp.inj x n (by omega) (by omega) e;omega
  have hlt:∀x,x<n+1->p x<n+1:=hp.lt
  have hpn:=hlt n (by omega)
  have main:∀a,a<n->(sgF (n+1) (λ x=>trF a n (p x))+sgF (n+1) p) % 2=1:=by
   intro a ha
   show(sgF n (rmF n λ x=>trF a n (p x))+(if trF a n (p n)=n then 0 else 1)+(sgF n (rmF n p)+if p n=n then 0 else 1)) % 2=1
   by_cases c1:p n=n
   ·have hc:sgF n (rmF n λ x=>trF a n (p x))=sgF n (rmF n p):=sg_congr n λ x hx=>by
     have h1:=hnx x hx
     have h2:=hlt x (by omega)
     show(if trF a n (p x)=n then trF a n (p n) else trF a n (p x))=if p x=n then p n else p x
     by_cases e:p x=a
     ·rw[e,tr_a,if_pos rfl,c1,tr_b,if_neg (by omega)]
     ·rw[tr_o e (by omega),if_neg (by omega),if_neg (by omega)]
    rw[hc,c1,tr_b,if_neg (show a≠n by omega),if_pos rfl]
    omega
   ·by_cases c2:p n=a
    ·have hc:sgF n (rmF n λ x=>trF a n (p x))=sgF n (rmF n p):=sg_congr n λ x hx=>by
      have h1:=hnx x hx
      have h2:=hlt x (by omega)
      show(if trF a n (p x)=n then trF a n (p n) else trF a n (p x))=if p x=n then p n else p x
      by_cases e:p x=n
      ·rw[e,tr_b,if_neg (by omega),if_pos rfl,c2]
      ·rw[tr_o (by omega) e,if_neg e,if_neg e]
     rw[hc,c2,tr_a,if_pos rfl,if_neg (show a≠n by omega)]
     omega
    ·have ih:=sg_tr n (rmF n p) a (p n) hr ha (by omega) (λ e=>c2 e.symm)
     have hc:sgF n (rmF n λ x=>trF a n (p x))=sgF n (λ x=>trF a (p n) (rmF n p x)):=sg_congr n λ x hx=>by
      have h1:=hnx x hx
      have h2:=hlt x (by omega)
      show(if trF a n (p x)=n then trF a n (p n) else trF a n (p x))=trF a (p n) (if p x=n then p n else p x)
      by_cases e:p x=n
      ·rw[e,tr_b,if_neg (show a≠n by omega),if_pos rfl,tr_b]
      ·by_cases e2:p x=a
       ·rw[e2,tr_a,if_pos rfl,if_neg (show a≠n by omega),tr_a,tr_o c2 c1]
       ·rw[tr_o e2 e,if_neg e,if_neg e,tr_o e2 h1]
     rw[hc,tr_o c2 c1,if_neg c1]
     omega
  by_cases hbn:b=n
  ·subst hbn;exact main a (by omega)
  ·by_cases han:a=n
   ·subst han
    rw[sg_congr (a+1) (q:=λ x=>trF b a (p x)) λ x _=>tr_comm hab _]
    exact main b (by omega)
   ·have ih:=sg_tr n (rmF n p) a b hr (by omega) (by omega) hab
    have hc:sgF n (rmF n λ x=>trF a b (p x))=sgF n (λ x=>trF a b (rmF n p x)):=sg_congr n λ x hx=>by
     have h2:=hlt x (by omega)
     show(if trF a b (p x)=n then trF a b (p n) else trF a b (p x))=trF a b (if p x=n then p n else p x)
     by_cases e:p x=n
     ·rw[e,tr_o (by omega) (by omega),if_pos rfl,if_pos rfl]
     ·have:trF a b (p x)≠n:=by
       unfold trF
       split
       ·exact hbn
       ·split
        ·exact han
        ·exact e
      rw[if_neg this,if_neg e]
    have hf:(trF a b (p n)=n)=(p n=n):=propext ⟨λ h=>by
     unfold trF at h
     split at h
     ·omega
     ·split at h
      ·omega
      ·exact h,λ h=>by unfold trF;rw[if_neg (by omega),if_neg (by omega)];exact h⟩
    show(sgF n (rmF n λ x=>trF a b (p x))+(if trF a b (p n)=n then 0 else 1)+(sgF n (rmF n p)+if p n=n then 0 else 1)) % 2=1
    rw[hc]
    by_cases c:p n=n
    ·rw[if_pos (hf▸c),if_pos c];omega
    ·rw[if_neg (λ h=>c (hf▸h)),if_neg c];omega
theorem rm_id(n:Nat){p:Nat->Nat}(h:∀x,x<n+1->p x=x):∀x,x<n->rmF n p x=x:=λ x hx=>by
 unfold rmF;rw[h x (by omega),if_neg (by omega)]
theorem sg_id:∀n {p:Nat->Nat},(∀x,x<n->p x=x)->sgF n p=0
 |0,_,_=>rfl
 |n+1,p,h=>by
  simp only[sgF]
  rw[sg_id n (rm_id n h),if_pos (h n (Nat.lt_succ_self _))]
theorem tr_tr(a b x:Nat):trF a b (trF a b x)=x:=by
 unfold trF
 by_cases h1:x=a
 ·rw[if_pos h1]
  by_cases h2:b=a
  ·rw[if_pos h2,h2,h1]
  ·rw[if_neg h2,if_pos rfl,h1]
 ·rw[if_neg h1]
  by_cases h2:x=b
  ·rw[if_pos h2,if_pos rfl,h2]
  ·rw[if_neg h2,if_neg h1,if_neg h2]
theorem perm_comp{n:Nat}{p q:Nat->Nat}(hp:Perm n p)(hq:Perm n q):Perm n (λ x=>p (q x)):=
 ⟨λ i hi=>hp.lt _ (hq.lt i hi),λ i j hi hj e=>hq.inj i j hi hj (hp.inj _ _ (hq.lt i hi) (hq.lt j hj) e)⟩
theorem sg_mul{n:Nat}{q:Nat->Nat}(hq:Perm n q):∀(m:Nat),m<=n->∀p:Nat->Nat,Perm n p->(∀x,m<=x->x<n->p x=x)->(sgF n (λ x=>p (q x))+sgF n p+sgF n q) % 2=0
 |0,_,p,hp,h=>by
  rw[sg_id n (p:=p) λ x hx=>h x (Nat.zero_le _) hx,sg_congr n (p:=λ x=>p (q x)) (q:=q) λ x hx=>h _ (Nat.zero_le _) (hq.lt x hx)]
  omega
 |m+1,hm,p,hp,h=>by
  by_cases e:p m=m
  ·refine sg_mul hq m (by omega) p hp λ x h1 h2=>?_
   by_cases ex:x=m
   ·subst ex;exact e
   ·exact h x (by omega) h2
  ·have hpm:=hp.lt m (by omega)
   have hlt:p m<m:=by
    refine Classical.byContradiction λ hn=>?_
    have h1:=h (p m) (by omega) hpm
    have:=hp.inj _ _ hpm (by omega) h1
    omega
   have hp':=tr_perm (a:=p m) (b:=m) hpm (by omega) hp
   have ih:(sgF n (λ x=>trF (p m) m (p (q x)))+sgF n (λ x=>trF (p m) m (p x))+sgF n q) % 2=0:=sg_mul hq m (by omega) (λ x=>trF (p m) m (p x)) hp' λ x h1 h2=>by
    by_cases ex:x=m
    ·subst ex;show trF (p x) x (p x)=x;unfold trF;rw[if_pos rfl]
    ·have hx:=h x (by omega) h2
     show trF (p m) m (p x)=x
     unfold trF
     rw[hx,if_neg (by omega),if_neg ex]
   have t1:=sg_tr n p (p m) m hp hpm (by omega) (by omega)
   have t2:(sgF n (λ x=>trF (p m) m (p (q x)))+sgF n (λ x=>p (q x))) % 2=1:=sg_tr n (λ x=>p (q x)) (p m) m (perm_comp hp hq) hpm (by omega) (by omega)
   omega
def itF(p:Nat->Nat):Nat->Nat->Nat
 |0,x=>x
 |k+1,x=>p (itF p k x)
def Ldr(p:Nat->Nat)(x:Nat):Prop:=∀k,x<=itF p k x
noncomputable def ldF (p:Nat->Nat):Nat->Nat
 |0=>0
 |n+1=>ldF p n+(@ite Nat (Ldr p n) (Classical.propDecidable _) 1 0)
theorem it_lt{n:Nat}{p:Nat->Nat}(hp:∀i,i<n->p i<n){x:Nat}(hx:x<n):∀k,itF p k x<n
 |0=>hx
 |k+1=>hp _ (it_lt hp hx k)
theorem it_add(p:Nat->Nat)(x:Nat)(j:Nat):∀k,itF p (j+k) x=itF p k (itF p j x)
 |0=>rfl
 |k+1=>congrArg p (it_add p x j k)
theorem ldr_rm{n:Nat}{p:Nat->Nat}(hp:Perm (n+1) p){i:Nat}(hi:i<n):Ldr p i↔Ldr (rmF n p) i:=by
 have hr:=rm_perm hp
 have hne:∀x,x<n->p x≠p n:=λ x hx e=>by have:=hp.inj x n (by omega) (by omega) e;omega
 have A:∀k,∃k',itF (rmF n p) k i=itF p k' i:=by
  intro k
  induction k with
  |zero=>exact⟨0,rfl⟩
  |succ k ih=>
   obtain⟨k',e⟩:=ih
   by_cases c:p (itF (rmF n p) k i)=n
   ·refine⟨k'+2,?_⟩
    show rmF n p (itF (rmF n p) k i)=p (p (itF p k' i))
    rw[<-e]
    generalize itF (rmF n p) k i=z at*
    unfold rmF;rw[if_pos c,c]
   ·refine⟨k'+1,?_⟩
    show rmF n p (itF (rmF n p) k i)=p (itF p k' i)
    rw[<-e]
    generalize itF (rmF n p) k i=z at*
    unfold rmF;rw[if_neg c]
 have B:∀k,(∃k',itF p k i=itF (rmF n p) k' i)\/(itF p k i=n/\∃k',p (itF (rmF n p) k' i)=n):=by
  intro k
  induction k with
  |zero=>exact .inl ⟨0,rfl⟩
  |succ k ih=>
   rcases ih with⟨k',e⟩|⟨e,k',e'⟩
   ·by_cases c:p (itF p k i)=n
    ·exact .inr ⟨c,k',by rw[<-e];exact c⟩
    ·refine .inl ⟨k'+1,?_⟩
     show p (itF p k i)=rmF n p (itF (rmF n p) k' i)
     rw[<-e]
     generalize itF p k i=z at*
     unfold rmF;rw[if_neg c]
   ·refine .inl ⟨k'+1,?_⟩
    show p (itF p k i)=rmF n p (itF (rmF n p) k' i)
    rw[e]
    generalize itF (rmF n p) k' i=z at*
    unfold rmF;rw[if_pos e']
 constructor
 ·intro h k
  obtain⟨k',e⟩:=A k
  rw[e];exact h k'
 ·intro h k
  rcases B k with⟨k',e⟩|⟨e,_⟩
  ·rw[e];exact h k'
  ·rw[e];omega
theorem ldr_top{n:Nat}{p:Nat->Nat}(hp:Perm (n+1) p):Ldr p n↔p n=n:=by
 constructor
 ·intro h
  have h1:=h 1
  have h2:=hp.lt n (by omega)
  have h3:itF p 1 n=p n:=rfl
  omega
 ·intro h k
  have:itF p k n=n:=by
   induction k with
   |zero=>rfl
   |succ k ih=>show p (itF p k n)=n;rw[ih,h]
  omega
theorem ld_congr{p q:Nat->Nat}:∀n,(∀i,i<n->(Ldr p i↔Ldr q i))->ldF p n=ldF q n
 |0,_=>rfl
 |n+1,h=>by
  simp only[ldF]
  rw[ld_congr n λ i hi=>h i (by omega),propext (h n (Nat.lt_succ_self _))]
theorem sg_ld:∀n {p:Nat->Nat},Perm n p->sgF n p+ldF p n=n
 |0,_,_=>rfl
 |n+1,p,hp=>by
  have ih:=sg_ld n (rm_perm hp)
  rw[<-ld_congr n λ i hi=>ldr_rm hp hi] at ih
  simp only[sgF,ldF]
  by_cases c:p n=n
  ·rw[if_pos c,if_pos ((ldr_top hp).2 c)];omega
  ·rw[if_neg c,if_neg λ h=>c ((ldr_top hp).1 h)];omega
theorem cyc_head{n:Nat}(hn:n<=16){p:Nat->Nat}(hp:Perm n p){i:Nat}(hi:i<n){M:Nat->Bool}(hm:M i=false):(cyc p i [] M).1.getD 0 0=i:=by
 have h0:WInv n p i M i [] M:=⟨λ x=>by simp,λ x hx=>by simp at hx,List.nodup_nil,λ t ht=>by simp at ht,.inl ⟨rfl,rfl⟩,λ h=>by simp at h,hi⟩
 have hpos:=cyc_pos (p:=p) (k:=i) (by omega) hm
 obtain⟨k,hw,hk⟩:=cyc_end hn hp.lt _ i [] M rfl h0
 exact hw.head (by omega)
theorem cyTo_heads{n:Nat}(hn:n<=16){p:Nat->Nat}(hp:Perm n p):∀i,i<=n->∀j,j<(cyTo p i).1.length->((cyTo p i).1.getD j []).getD 0 0<i
 |0,_,j,hj=>by simp[cyTo] at hj
 |i+1,hi,j,hj=>by
  cases hm:(cyTo p i).2 i
  ·rw[cyTo_new hm] at hj ⊢
   simp only[List.length_append,List.length_singleton] at hj ⊢
   by_cases e:j<(cyTo p i).1.length
   ·rw[getD_snoc_lt _ _ _ e]
    have:=cyTo_heads hn hp i (by omega) j e
    omega
   ·have e:j=(cyTo p i).1.length:=by omega
    subst e
    rw[getD_snoc,cyc_head hn hp (by omega) hm]
    omega
  ·rw[cyTo_old hm] at hj ⊢
   have:=cyTo_heads hn hp i (by omega) j hj
   omega
theorem met_ldr{n:Nat}(hn:n<=16){p:Nat->Nat}(hp:Perm n p){i:Nat}(hi:i<n):(cyTo p i).2 i=false↔Ldr p i:=by
 have h:=cyTo_inv hn hp i (by omega)
 have hh:=cyTo_heads hn hp i (by omega)
 generalize (cyTo p i).1=L at*
 generalize (cyTo p i).2=M at*
 constructor
 ·intro hm k
  refine Classical.byContradiction λ hlt=>?_
  have hy:M (itF p k i)=true:=h.all _ (by omega)
  obtain⟨j,hj,hx⟩:=(h.met _).1 hy
  have back:∀k,itF p k i∈L.getD j []->i∈L.getD j []:=by
   intro k
   induction k with
   |zero=>exact λ h=>h
   |succ k ih=>
    intro hk
    obtain⟨y,hy,e⟩:=h.bwd j _ hk
    have:=hp.inj y (itF p k i) (h.lt j y hy) (it_lt hp.lt hi k) e
    exact ih (this▸hy)
  rw[(h.met i).2 ⟨j,hj,back k hx⟩] at hm
  cases hm
 ·intro hl
  cases hm:M i with
  |false=>rfl
  |true=>
   exfalso
   obtain⟨j,hj,hx⟩:=(h.met i).1 hm
   have hpos:=h.pos j hj
   have hd:=h.nodup j
   have hfirst:=hh j hj
   obtain⟨t,ht,e⟩:=mem_getD hx
   --the list is walked to its end,and then comes its beginning
   have walk:∀s,t+s<(L.getD j []).length->itF p s i=(L.getD j []).getD (t+s) 0:=by
    intro s
    induction s with
    |zero=>intro _;exact e.symm
    |succ s ih=>
     intro hs
     show p (itF p s i)=_
     rw[ih (by omega), <-h.chain j (t+s) hs];rfl
   obtain⟨y,hy,ey⟩:=h.bwd j _ (getD_mem hpos)
   obtain⟨s,hs,rfl⟩:=mem_getD hy
   have hlast:s+1=(L.getD j []).length:=by
    refine Classical.byContradiction λ hne=>?_
    have h1:=h.chain j s (by omega)
    rw[ey] at h1
    have:=nodup_getD hd (by omega) hpos h1
    omega
   have h2:=walk (s-t) (by omega)
   rw[show t+(s-t)=s by omega] at h2
   have h3:=hl (s-t+1)
   have h4:itF p (s-t+1) i=(L.getD j []).getD 0 0:=by show p (itF p (s-t) i)=_;rw[h2,ey]
   omega
theorem cyc_count{n:Nat}(hn:n<=16){p:Nat->Nat}(hp:Perm n p):∀i,i<=n->(cyTo p i).1.length=ldF p i
 |0,_=>rfl
 |i+1,hi=>by
  have ih:=cyc_count hn hp i (by omega)
  have hm:=met_ldr hn hp (show i<n by omega)
  simp only[ldF]
  cases c:(cyTo p i).2 i
  ·rw[cyTo_new c,if_pos (hm.1 c)]
   simp only[List.length_append,List.length_singleton,ih]
  ·rw[cyTo_old c,if_neg λ h=>by rw[hm.2 h] at c;cases c]
   exact ih
theorem cyc_parity{n:Nat}(hn:n<=16){b w f:Nat->Nat}(hb:Perm n b)(hw:Perm n w)(hf:Perm n f)(h:∀x,x<n->f (w (b x))=x):((cycs b n).length+(cycs w n).length+(cycs f n).length+n) % 2=0:=by
 have s1:=sg_ld n hb
 have s2:=sg_ld n hw
 have s3:=sg_ld n hf
 have m1:=sg_mul hb n (Nat.le_refl _) w hw λ x h1 h2=>absurd h1 (by omega)
 have m2:=sg_mul (perm_comp hw hb) n (Nat.le_refl _) f hf λ x h1 h2=>absurd h1 (by omega)
 rw[sg_id n (p:=λ x=>f ((λ x=>w (b x)) x)) h] at m2
 unfold cycs
 rw[cyc_count hn hb n (Nat.le_refl _),cyc_count hn hw n (Nat.le_refl _),cyc_count hn hf n (Nat.le_refl _)]
 omega
end Go.Proofs.YthjnmlpibafbnaaGreat

namespace Go.Proofs.YthjnmlpibafbnaaGreat
open Go.RowKit DM
set_option linter.unusedVariables false
def srtN(l:List Nat):List Nat:=l.mergeSort λ x y=>decide (x<=y)
theorem srtN_len(l:List Nat):(srtN l).length=l.length:=(List.mergeSort_perm _ _).length_eq
def cTo(L:List (List Nat)):Nat->Nat->Nat
 |0=>λ _=>0
 |i+1=>up (cTo L i) (L.getD i []).length (cTo L i (L.getD i []).length+1)
theorem cTo_count(L:List (List Nat)):∀i,i<=L.length->∀k,cTo L i k=((L.take i).map List.length).count k
 |0,_,k=>by simp[cTo]
 |i+1,h,k=>by
  have e:L.getD i []=L[i]:=by rw[List.getD_eq_getElem?_getD,List.getElem?_eq_getElem (by omega)];rfl
  rw[List.take_add_one,List.getElem?_eq_getElem (by omega:i<L.length)]
  simp only[cTo,up,Option.toList_some,List.map_append,List.map_cons,List.map_nil,List.count_append,List.count_singleton]
  rw[e]
  have ih:=λ k=>cTo_count L i (by omega) k
  by_cases c:k=L[i].length
  ·rw[if_pos c,if_pos (by simpa using c.symm), <-c,ih]
  ·rw[if_neg c,if_neg (by simpa using λ h=>c h.symm),ih];rfl
def dTo(c:Nat->Nat)(n:Nat):Nat->List Nat
 |0=>[]
 |m+1=>dTo c n m++List.replicate (c (n-m)) (n-m)
theorem dTo_count(c:Nat->Nat)(n:Nat):∀m,m<=n->∀k,(dTo c n m).count k=if n-m<k/\k<=n then c k else 0
 |0,_,k=>by
  simp only[dTo,List.count_nil]
  rw[if_neg (by omega)]
 |m+1,h,k=>by
  simp only[dTo,List.count_append,dTo_count c n m (by omega) k,List.count_replicate]
  by_cases e:n-m=k
  ·subst e
   rw[if_neg (by omega),if_pos (by simp),if_pos (by omega)];omega
  ·rw[if_neg (show¬(n-m==k)=true by simpa using e)]
   by_cases e2:n-m<k/\k<=n
   ·rw[if_pos e2,if_pos (by omega)];rfl
   ·rw[if_neg e2,if_neg (by omega)]
theorem dTo_mem(c:Nat->Nat)(n:Nat):∀m,m<=n->∀x∈dTo c n m,n-m<x/\x<=n
 |0,_,x,hx=>by simp[dTo] at hx
 |m+1,h,x,hx=>by
  simp only[dTo,List.mem_append,List.mem_replicate] at hx
  rcases hx with hx|⟨_,rfl⟩
  ·have:=dTo_mem c n m (by omega) x hx;omega
  ·omega
theorem dTo_sorted(c:Nat->Nat)(n:Nat):∀m,m<=n->(dTo c n m).Pairwise (λ x y=>y<=x)
 |0,_=>List.Pairwise.nil
 |m+1,h=>by
  simp only[dTo]
  rw[List.pairwise_append]
  refine⟨dTo_sorted c n m (by omega),?_,λ x hx y hy=>?_⟩
  ·rw[List.pairwise_replicate];exact .inr (Nat.le_refl _)
  ·have:=dTo_mem c n m (by omega) x hx
   have:=List.eq_of_mem_replicate hy
   omega
def tyN(L:List (List Nat))(n:Nat):List Nat:=dTo (cTo L L.length) n n
theorem ty_eq{L:List (List Nat)}{n:Nat}(h:∀l∈L,1<=l.length/\l.length<=n):(srtN (L.map List.length)).reverse=tyN L n:=by
 refine List.Perm.eq_of_pairwise (le:=λ x y=>y<=x) (λ a b _ _ h1 h2=>Nat.le_antisymm h2 h1) ?_ (dTo_sorted _ _ _ (Nat.le_refl _)) ?_
 ·rw[List.pairwise_reverse]
  have:=List.pairwise_mergeSort (le:=λ x y:Nat=>decide (x<=y)) (λ a b c h1 h2=>by simp at*;omega) (λ a b=>by simp;omega) (L.map List.length)
  exact this.imp λ h=>of_decide_eq_true h
 ·refine((List.reverse_perm _).trans (List.mergeSort_perm _ _)).trans ?_
  rw[List.perm_iff_count]
  intro k
  unfold tyN
  rw[dTo_count _ _ _ (Nat.le_refl _),cTo_count L _ (Nat.le_refl _),List.take_length]
  by_cases e:n-n<k/\k<=n
  ·rw[if_pos e]
  ·rw[if_neg e,List.count_eq_zero]
   intro hk
   obtain⟨l,hl,rfl⟩:=List.mem_map.1 hk
   have:=h l hl
   omega
theorem tyN_len{L:List (List Nat)}{n:Nat}(h:∀l∈L,1<=l.length/\l.length<=n):(tyN L n).length=L.length:=by
 rw[<-ty_eq h,List.length_reverse,srtN_len,List.length_map]
theorem nodup_len:∀(n:Nat) (l:List Nat),l.Nodup->(∀x∈l,x<n)->l.length<=n
 |0,l,_,h=>by
  cases l with
  |nil=>simp
  |cons a l=>exact absurd (h a (by simp)) (Nat.not_lt_zero _)
 |n+1,l,hd,h=>by
  by_cases hn:n∈l
  ·have h1:=nodup_len n (l.erase n) (hd.erase n) λ x hx=>by
    have h2:=h x (List.mem_of_mem_erase hx)
    have h3:x≠n:=λ e=>by subst e;exact hd.not_mem_erase hx
    omega
   have h2:=List.length_erase_of_mem hn
   omega
  ·have:=nodup_len n l hd λ x hx=>by
    have h2:=h x hx
    have h3:x≠n:=λ e=>by subst e;exact hn hx
    omega
   omega
theorem cycs_lens{n:Nat}(hn:n<=16){p:Nat->Nat}(hp:Perm n p):∀l∈cycs p n,1<=l.length/\l.length<=n:=by
 have h:=cyTo_inv hn hp n (Nat.le_refl _)
 intro l hl
 obtain⟨j,hj,e⟩:=List.mem_iff_getElem.1 hl
 have e2:(cycs p n).getD j []=l:=by rw[List.getD_eq_getElem?_getD,List.getElem?_eq_getElem hj];exact e
 have h1:=h.pos j hj
 have h2:=h.nodup j
 have h3:=h.lt j
 change 0<((cycs p n).getD j []).length at h1
 change ((cycs p n).getD j []).Nodup at h2
 change∀x,x∈(cycs p n).getD j []->x<n at h3
 rw[e2] at h1 h2 h3
 refine⟨h1,?_⟩
 exact nodup_len n l h2 h3
end Go.Proofs.YthjnmlpibafbnaaGreat

namespace Go.Proofs.YthjnmlpibafbnaaGreat
open Go.RowKit DM
set_option linter.unusedVariables false
set_option linter.unusedSimpArgs false
theorem it_inj{n:Nat}{p:Nat->Nat}(hp:Perm n p){x y:Nat}(hx:x<n)(hy:y<n):∀k,itF p k x=itF p k y->x=y
 |0,h=>h
 |k+1,h=>it_inj hp hx hy k (hp.inj _ _ (it_lt hp.lt hx k) (it_lt hp.lt hy k) h)
theorem it_period{n:Nat}{p:Nat->Nat}(hp:Perm n p){x:Nat}(hx:x<n):∃k,1<=k/\k<=n/\itF p k x=x:=by
 refine Classical.byContradiction λ hno=>?_
 have hd:∀i j,i<=n->j<=n->i<j->itF p i x≠itF p j x:=λ i j hi hj hij e=>by
  refine hno ⟨j-i,by omega,by omega,?_⟩
  have h1:=it_add p x (j-i) i
  rw[show j-i+i=j by omega, <-e] at h1
  exact(it_inj hp hx (it_lt hp.lt hx _) i h1).symm
 have hl:=nodup_len n ((List.range (n+1)).map λ k=>itF p k x) (by
  unfold List.Nodup
  rw[List.pairwise_map]
  refine List.Pairwise.imp_of_mem ?_ List.pairwise_lt_range
  intro a b ha hb hab
  exact hd a b (by have:=List.mem_range.1 ha;omega) (by have:=List.mem_range.1 hb;omega) hab) λ y hy=>by
   obtain⟨k,_,rfl⟩:=List.mem_map.1 hy
   exact it_lt hp.lt hx k
 simp at hl
 omega
theorem it_mul{p:Nat->Nat}{x k:Nat}(h:itF p k x=x):∀m,itF p (k*m) x=x
 |0=>rfl
 |m+1=>by
  rw[Nat.mul_succ,it_add,it_mul h m];exact h
theorem dvd_all:∀k,k<=16->1<=k->k∣720720:=by decide
theorem it_big{n:Nat}(hn:n<=16){p:Nat->Nat}(hp:Perm n p){x:Nat}(hx:x<n):itF p 720720 x=x:=by
 obtain⟨k,h1,h2,h3⟩:=it_period hp hx
 obtain⟨m,e⟩:=dvd_all k (by omega) h1
 rw[e];exact it_mul h3 m
def powF(n:Nat)(p:Nat->Nat):Nat->Nat->Nat
 |0=>sameF n
 |k+1=>mulF n (powF n p k) p
theorem pow_np{n:Nat}{p:Nat->Nat}(hp:Np n p):∀k,Np n (powF n p k)
 |0=>one_np n
 |k+1=>mul_np (pow_np hp k) hp
theorem pow_it{n:Nat}{p:Nat->Nat}{x:Nat}(hx:x<n):∀k,powF n p k x=itF p k x
 |0=>one_at hx
 |k+1=>by simp only[powF];rw[mul_at hx,pow_it hx k];rfl
theorem Grp.inv{n:Nat}(hn:n<=16){gens:List (Nat->Nat)}(hg:∀g∈gens,Np n g){p:Nat->Nat}(h:Grp n gens p):Grp n gens (backTo p n):=by
 have hp:=h.np hg
 have hpow:∀k,Grp n gens (powF n p k):=λ k=>by
  induction k with
  |zero=>exact .one
  |succ k ih=>exact ih.comp hg h
 have e:backTo p n=powF n p 720719:=by
  refine np_ext (inv_np hn hp) (pow_np hp _) λ i hi=>?_
  obtain⟨x,hx,rfl⟩:=perm_surj hn hp.perm hi
  rw[inv_back hp hx,pow_it (hp.perm.lt x hx)]
  have h1:=it_big hn hp.perm hx
  have h2:=it_add p x 1 720719
  rw[show 1+720719=720720 from rfl,h1] at h2
  exact h2
 rw[e];exact hpow _
def siftF(n:Nat)(has:Nat->Nat->Bool)(tab:Nat->Nat->Nat->Nat):Nat->(Nat->Nat)->(Nat->Nat)×Nat
 |0,p=>(p,n)
 |d+1,p=>bif has (n-(d+1)) (p (n-(d+1))) then siftF n has tab d (if p (n-(d+1))=n-(d+1) then p else mulF n p (backTo (tab (n-(d+1)) (p (n-(d+1)))) n)) else(p,n-(d+1))
structure Ext(n:Nat)(has:Nat->Nat->Bool)(tab:Nat->Nat->Nat->Nat)(has':Nat->Nat->Bool)(tab':Nat->Nat->Nat->Nat):Prop where
 hs:∀i k,i<n->has i k=true->has' i k=true
 tb:∀i k,i<n->has i k=true->tab' i k=tab i k
theorem InT.ext{n:Nat}{has has':Nat->Nat->Bool}{tab tab':Nat->Nat->Nat->Nat}(h:Ext n has tab has' tab'):∀{d:Nat}{r:Nat->Nat},d<=n->InT n has tab d r->InT n has' tab' d r
 |0,_,_,h=>h
 |d+1,r,hd,⟨k,hk,g,hh,e⟩=>by
  have hlt:n-(d+1)<n:=by omega
  exact⟨k,h.hs _ k hlt hk,g,InT.ext h (by omega) hh,by rw[h.tb _ k hlt hk];exact e⟩
theorem sift_next{n:Nat}(hn:n<=16){has:Nat->Nat->Bool}{tab:Nat->Nat->Nat->Nat}(hT:TblOk n has tab){i:Nat}(hi:i<n){p:Nat->Nat}(hp:Np n p):(if p i=i then p else mulF n p (backTo (tab i (p i)) n))=mulF n p (backTo (tab i (p i)) n):=by
 by_cases e:p i=i
 ·rw[if_pos e,e,(hT.diag i hi).2,inv_one hn,mul_one hp]
 ·rw[if_neg e]
structure Left(n:Nat)(has:Nat->Nat->Bool)(tab:Nat->Nat->Nat->Nat)(d:Nat)(p r:Nat->Nat)(l:Nat):Prop where
 lt:l<n
 np:Np n r
 fix:∀j,j<l->r j=j
 no:has l (r l)=false
 grp:∀gens:List (Nat->Nat),(∀g∈gens,Np n g)->(∀i k,i<n->has i k=true->Grp n gens (tab i k))->Grp n gens p->Grp n gens r
 new:∀has' tab',TblOk n has' tab'->Ext n has tab has' tab'->has' l (r l)=true->tab' l (r l)=r->InT n has' tab' d p
theorem sift_ok{n:Nat}(hn:n<=16){has:Nat->Nat->Bool}{tab:Nat->Nat->Nat->Nat}(hT:TblOk n has tab):∀d,d<=n->∀p,Np n p->(∀j,j<n-d->p j=j)->
  ((siftF n has tab d p).2=n/\InT n has tab d p)\/Left n has tab d p (siftF n has tab d p).1 (siftF n has tab d p).2
 |0,_,p,hp,hf=>.inl ⟨rfl,np_ext hp (one_np n) λ i hi=>by rw[hf i (by omega),one_at hi]⟩
 |d+1,hd,p,hp,hf=>by
  have hlt:n-(d+1)<n:=by omega
  simp only[siftF]
  cases hh:has (n-(d+1)) (p (n-(d+1))) with
  |false=>
   simp only[cond_false]
   refine .inr ⟨hlt,hp,hf,hh,λ gens _ _ h=>h,λ has' tab' hT' hE h1 h2=>?_⟩
   exact⟨p (n-(d+1)),h1,sameF n,InT.one hn hT' (by omega),by rw[h2,one_mul hp]⟩
  |true=>
   simp only[cond_true]
   rw[sift_next hn hT hlt hp]
   have hk:=hT.np _ _ hlt hh
   have hm:=mul_np hp (inv_np hn hk)
   have hf':∀j,j<n-d->mulF n p (backTo (tab (n-(d+1)) (p (n-(d+1)))) n) j=j:=λ j hj=>by
    have hjn:j<n:=by omega
    rw[mul_at hjn]
    by_cases e:j<n-(d+1)
    ·rw[hf j e]
     have h1:=hT.fix _ _ hlt hh j e
     have h2:=inv_back hk hjn
     rwa [h1] at h2
    ·have e:j=n-(d+1):=by omega
     subst e
     have h1:=hT.at_ _ _ hlt hh
     have h2:=inv_back hk hlt
     rwa [h1] at h2
   rcases sift_ok hn hT d (by omega) _ hm hf' with⟨h1,h2⟩|h
   ·exact .inl ⟨h1,(InT.peel hn hT hd).2 ⟨hp,hh,h2⟩⟩
   ·refine .inr ⟨h.lt,h.np,h.fix,h.no,λ gens hg hin hG=>h.grp gens hg hin (hG.comp hg ((hin _ _ hlt hh).inv hn hg)),λ has' tab' hT' hE h1 h2=>?_⟩
    refine(InT.peel hn hT' hd).2 ⟨hp,hE.hs _ _ hlt hh,?_⟩
    rw[hE.tb _ _ hlt hh]
    exact h.new has' tab' hT' hE h1 h2
def up2{α:Type}(f:Nat->Nat->α)(i k:Nat)(v:α):Nat->Nat->α:=λ a b=>if a=i/\b=k then v else f a b
theorem up2_same{α:Type}(f:Nat->Nat->α)(i k:Nat)(v:α):up2 f i k v i k=v:=by unfold up2;rw[if_pos ⟨rfl,rfl⟩]
theorem up2_ne{α:Type}(f:Nat->Nat->α){i k a b:Nat}(v:α)(h:¬(a=i/\b=k)):up2 f i k v a b=f a b:=by unfold up2;rw[if_neg h]
theorem tbl_add{n:Nat}{has:Nat->Nat->Bool}{tab:Nat->Nat->Nat->Nat}(hT:TblOk n has tab){l:Nat}{r:Nat->Nat}(hl:l<n)(hr:Np n r)(hf:∀j,j<l->r j=j)(hno:has l (r l)=false):
  TblOk n (up2 has l (r l) true) (up2 tab l (r l) r)/\Ext n has tab (up2 has l (r l) true) (up2 tab l (r l) r):=by
 have hne:∀i k,has i k=true->¬(i=l/\k=r l):=λ i k h e=>by rw[e.1,e.2,hno] at h;cases h
 refine⟨⟨λ i hi=>?_,λ i k hi h=>?_,λ i k hi h=>?_,λ i k hi h=>?_,λ i k hi h=>?_⟩,λ i k _ h=>by rw[up2_ne _ _ (hne i k h)];exact h,λ i k _ h=>up2_ne _ _ (hne i k h)⟩
 ·obtain⟨h1,h2⟩:=hT.diag i hi
  rw[up2_ne _ _ (hne i i h1),up2_ne _ _ (hne i i h1)]
  exact⟨h1,h2⟩
 ·by_cases e:i=l/\k=r l
  ·obtain⟨rfl,rfl⟩:=e;exact hr.perm.lt i hi
  ·rw[up2_ne _ _ e] at h;exact hT.lt i k hi h
 ·by_cases e:i=l/\k=r l
  ·obtain⟨rfl,rfl⟩:=e;rw[up2_same];exact hr
  ·rw[up2_ne _ _ e] at h ⊢;exact hT.np i k hi h
 ·by_cases e:i=l/\k=r l
  ·obtain⟨rfl,rfl⟩:=e;rw[up2_same];exact hf
  ·rw[up2_ne _ _ e] at h ⊢;exact hT.fix i k hi h
 ·by_cases e:i=l/\k=r l
  ·obtain⟨rfl,rfl⟩:=e;rw[up2_same]
  ·rw[up2_ne _ _ e] at h ⊢;exact hT.at_ i k hi h
end Go.Proofs.YthjnmlpibafbnaaGreat

namespace Go.Proofs.YthjnmlpibafbnaaGreat
open Go.RowKit DM
def bx(x:Nat):List Nat×(Nat->Bool):=([x],up (λ _=>false) x true)
theorem bx_inv{n x:Nat}(hx:x<n)(hn:n<=16):BInv n (bx x):=⟨λ y hy=>by simp[bx] at hy;omega,by
 have h1:=cntU_up (met:=λ _=>false) (y:=x) (by omega) rfl
 have h2:=cntU_le 16 (λ _=>false)
 show 1+cntU 16 (up (λ _=>false) x true)<=16
 omega⟩
def bfsF(p q:Nat->Nat)(x:Nat):List Nat:=(bres p q 0 (bx x)).1
theorem bst_pre(y:Nat)(s:List Nat×(Nat->Bool)):s.1<+:(bst y s).1:=by
 unfold bst
 cases s.2 y
 ·exact List.prefix_append _ _
 ·exact List.prefix_refl _
theorem brun_pre(p q:Nat->Nat):∀(k i:Nat) (s:List Nat×(Nat->Bool)),s.1<+:(brun p q k i s).1
 |0,_,_=>List.prefix_refl _
 |k+1,i,s=>by
  simp only[brun]
  split
  ·exact((bst_pre _ s).trans (bst_pre _ _)).trans (brun_pre p q k (i+1) _)
  ·exact List.prefix_refl _
theorem pre_getD{l k:List Nat}(h:l<+:k){i:Nat}(hi:i<l.length):k.getD i 0=l.getD i 0:=by
 obtain⟨t,rfl⟩:=h
 simp only[List.getD_eq_getElem?_getD]
 rw[List.getElem?_append_left hi]
theorem brun_inv{n:Nat}(hn:n<=16){p q:Nat->Nat}(hp:∀i,i<n->p i<n)(hq:∀i,i<n->q i<n):∀(k i:Nat) (s:List Nat×(Nat->Bool)),BInv n s->BInv n (brun p q k i s)
 |0,_,_,h=>h
 |k+1,i,s,h=>by
  simp only[brun]
  split
  ·rename_i hi
   exact brun_inv hn hp hq k (i+1) _ (bmu_round hn hp hq h hi).1
  ·exact h
def nmTo(F:List Nat):Nat->Nat->Nat
 |0=>λ _=>0
 |k+1=>up (nmTo F k) (F.getD k 0) k
def nameF(p q:Nat->Nat)(x:Nat):Nat->Nat:=nmTo (bfsF p q x) (bfsF p q x).length
theorem bfsF_inv{n:Nat}(hn:n<=16){p q:Nat->Nat}(hp:∀i,i<n->p i<n)(hq:∀i,i<n->q i<n){x:Nat}(hx:x<n):BInv n (bres p q 0 (bx x)):=brun_inv hn hp hq _ _ _ (bx_inv hx hn)
end Go.Proofs.YthjnmlpibafbnaaGreat
