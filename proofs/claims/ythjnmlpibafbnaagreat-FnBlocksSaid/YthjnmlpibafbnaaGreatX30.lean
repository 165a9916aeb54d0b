import Derived.Test.YthjnmlpibafbnaaGreatX6
import Derived.Test.YthjnmlpibafbnaaGreatD31
namespace Go.Proofs.YthjnmlpibafbnaaGreat
open Go.RowKit DM
set_option linter.unusedVariables false
inductive Gen(b w:Nat->Nat)(x y:Nat):Nat->Nat->Prop where
 |base:Gen b w x y x y
 |refl (i:Nat):Gen b w x y i i
 |symm {i j:Nat}:Gen b w x y i j->Gen b w x y j i
 |trans {i j k:Nat}:Gen b w x y i j->Gen b w x y j k->Gen b w x y i k
 |stepB {i j:Nat}:Gen b w x y i j->Gen b w x y (b i) (b j)
 |stepW {i j:Nat}:Gen b w x y i j->Gen b w x y (w i) (w j)
inductive Cls(f:Nat->Nat)(P:List (Nat×Nat)):Nat->Nat->Prop where
 |cls {i j:Nat}:f i=f j->Cls f P i j
 |pend {i j:Nat}:(i,j)∈P->Cls f P i j
 |symm {i j:Nat}:Cls f P i j->Cls f P j i
 |trans {i j k:Nat}:Cls f P i j->Cls f P j k->Cls f P i k
theorem Cls.mono{f f':Nat->Nat}{P P':List (Nat×Nat)}(h1:∀i j,f i=f j->Cls f' P' i j)(h2:∀i j,(i,j)∈P->Cls f' P' i j){i j:Nat}(h:Cls f P i j):Cls f' P' i j:=by
 induction h with
 |cls h=>exact h1 _ _ h
 |pend h=>exact h2 _ _ h
 |symm _ ih=>exact .symm ih
 |trans _ _ h3 h4=>exact .trans h3 h4
theorem Cls.nil{f:Nat->Nat}{i j:Nat}(h:Cls f [] i j):f i=f j:=by
 induction h with
 |cls h=>exact h
 |pend h=>simp at h
 |symm _ ih=>exact ih.symm
 |trans _ _ h3 h4=>exact h3.trans h4
def joinF(f:Nat->Nat)(s t:Nat):Nat->Nat:=λ i=>if f i=s then t else f i
theorem joinF_cls{f:Nat->Nat}{a b:Nat}{P:List (Nat×Nat)}{s t:Nat}(h:(s=f a/\t=f b)\/(s=f b/\t=f a)):∀i j,f i=f j->Cls (joinF f s t) P i j:=by
 intro i j h
 refine .cls ?_
 unfold joinF
 rw[h]
theorem joinF_pair{f:Nat->Nat}{a b s t:Nat}(h:(s=f a/\t=f b)\/(s=f b/\t=f a)):joinF f s t a=joinF f s t b:=by
 unfold joinF
 rcases h with⟨rfl,rfl⟩|⟨rfl,rfl⟩
 ·rw[if_pos rfl];split<;>rfl
 ·rw[if_pos rfl];split<;>rfl
theorem joinF_split{f:Nat->Nat}{a b s t:Nat}(h:(s=f a/\t=f b)\/(s=f b/\t=f a)){i j:Nat}(e:joinF f s t i=joinF f s t j):f i=f j\/(f i=f a/\f j=f b)\/(f i=f b/\f j=f a):=by
 unfold joinF at e
 by_cases h1:f i=s<;>by_cases h2:f j=s
 ·exact .inl (h1.trans h2.symm)
 ·rw[if_pos h1,if_neg h2] at e
  rcases h with⟨h3,h4⟩|⟨h3,h4⟩
  ·exact .inr (.inl ⟨h1.trans h3,by omega⟩)
  ·exact .inr (.inr ⟨h1.trans h3,by omega⟩)
 ·rw[if_neg h1,if_pos h2] at e
  rcases h with⟨h3,h4⟩|⟨h3,h4⟩
  ·exact .inr (.inr ⟨by omega,h2.trans h3⟩)
  ·exact .inr (.inl ⟨by omega,h2.trans h3⟩)
 ·rw[if_neg h1,if_neg h2] at e
  exact .inl e
structure BlkInv(n:Nat)(b w:Nat->Nat)(x y:Nat)(f:Nat->Nat)(P:List (Nat×Nat)):Prop where
 gen:∀i j,f i=f j->Gen b w x y i j
 pgen:∀i j,(i,j)∈P->Gen b w x y i j
 lt:∀i j,(i,j)∈P->i<n/\j<n
 base:Cls f P x y
 keepB:∀i j,f i=f j->Cls f P (b i) (b j)
 keepW:∀i j,f i=f j->Cls f P (w i) (w j)
 rep:∀i,i<n->f i<n/\f (f i)=f i
 out:∀i,n<=i->f i=i
theorem BlkInv.done{n:Nat}{b w:Nat->Nat}{x y:Nat}{f:Nat->Nat}(h:BlkInv n b w x y f [])(i j:Nat):f i=f j↔Gen b w x y i j:=by
 refine⟨h.gen i j,λ g=>?_⟩
 induction g with
 |base=>exact h.base.nil
 |refl=>rfl
 |symm _ ih=>exact ih.symm
 |trans _ _ h1 h2=>exact h1.trans h2
 |stepB _ ih=>exact(h.keepB _ _ ih).nil
 |stepW _ ih=>exact(h.keepW _ _ ih).nil
theorem BlkInv.start{n:Nat}{b w:Nat->Nat}{x y:Nat}(hx:x<n)(hy:y<n):BlkInv n b w x y (λ i=>i) [(x,y)] where
 gen:=λ i j h=>by
  have h:i=j:=h
  subst h;exact .refl _
 pgen:=λ i j h=>by simp at h;obtain⟨rfl,rfl⟩:=h;exact .base
 lt:=λ i j h=>by simp at h;obtain⟨rfl,rfl⟩:=h;exact⟨hx,hy⟩
 base:=.pend (by simp)
 keepB:=λ i j h=>by
  have h:i=j:=h
  subst h;exact .cls rfl
 keepW:=λ i j h=>by
  have h:i=j:=h
  subst h;exact .cls rfl
 rep:=λ i hi=>⟨hi,rfl⟩
 out:=λ i _=>rfl
theorem BlkInv.perm{n:Nat}{b w:Nat->Nat}{x y:Nat}{f:Nat->Nat}{P P':List (Nat×Nat)}(h:BlkInv n b w x y f P)(hp:∀p,p∈P↔p∈P'):BlkInv n b w x y f P' where
 gen:=h.gen
 pgen:=λ i j hi=>h.pgen i j ((hp _).2 hi)
 lt:=λ i j hi=>h.lt i j ((hp _).2 hi)
 base:=h.base.mono (λ _ _ e=>.cls e) (λ _ _ e=>.pend ((hp _).1 e))
 keepB:=λ i j e=>(h.keepB i j e).mono (λ _ _ e=>.cls e) (λ _ _ e=>.pend ((hp _).1 e))
 keepW:=λ i j e=>(h.keepW i j e).mono (λ _ _ e=>.cls e) (λ _ _ e=>.pend ((hp _).1 e))
 rep:=h.rep
 out:=h.out
theorem BlkInv.skip{n:Nat}{b w:Nat->Nat}{x y:Nat}{f:Nat->Nat}{P:List (Nat×Nat)}{i0 j0:Nat}(h:BlkInv n b w x y f ((i0,j0)::P))(e:f i0=f j0):BlkInv n b w x y f P:=by
 have key:∀i j,(i,j)∈(i0,j0)::P->Cls f P i j:=λ i j hi=>by
  simp only[List.mem_cons,Prod.mk.injEq] at hi
  rcases hi with⟨rfl,rfl⟩|hi
  ·exact .cls e
  ·exact .pend hi
 exact⟨h.gen,λ i j hi=>h.pgen i j (List.mem_cons_of_mem _ hi),λ i j hi=>h.lt i j (List.mem_cons_of_mem _ hi),h.base.mono (λ _ _ e=>.cls e) key,λ i j e=>(h.keepB i j e).mono (λ _ _ e=>.cls e) key,λ i j e=>(h.keepW i j e).mono (λ _ _ e=>.cls e) key,h.rep,h.out⟩
theorem BlkInv.join{n:Nat}{b w:Nat->Nat}{x y:Nat}{f:Nat->Nat}{P:List (Nat×Nat)}{i0 j0 s t:Nat}(h:BlkInv n b w x y f ((i0,j0)::P))(hb:∀i,i<n->b i<n)(hw:∀i,i<n->w i<n)(hst:(s=f i0/\t=f j0)\/(s=f j0/\t=f i0)):
  BlkInv n b w x y (joinF f s t) ((b i0,b j0)::(w i0,w j0)::P):=by
 obtain⟨li,lj⟩:=h.lt i0 j0 (List.mem_cons_self ..)
 have g0:=h.pgen i0 j0 (List.mem_cons_self ..)
 have old:∀i j,(i,j)∈(i0,j0)::P->Cls (joinF f s t) ((b i0,b j0)::(w i0,w j0)::P) i j:=λ i j hi=>by
  simp only[List.mem_cons,Prod.mk.injEq] at hi
  rcases hi with⟨rfl,rfl⟩|hi
  ·exact .cls (joinF_pair hst)
  ·exact .pend (List.mem_cons_of_mem _ (List.mem_cons_of_mem _ hi))
 have up:∀{i j},Cls f ((i0,j0)::P) i j->Cls (joinF f s t) ((b i0,b j0)::(w i0,w j0)::P) i j:=λ{i j} c=>c.mono (joinF_cls hst) old
 refine⟨λ i j e=>?_,λ i j hi=>?_,λ i j hi=>?_,up h.base,λ i j e=>?_,λ i j e=>?_,λ i hi=>?_,λ i hi=>?_⟩
 ·rcases joinF_split hst e with e|⟨e1,e2⟩|⟨e1,e2⟩
  ·exact h.gen i j e
  ·exact .trans (h.gen _ _ e1) (.trans g0 (.symm (h.gen _ _ e2)))
  ·exact .trans (h.gen _ _ e1) (.trans (.symm g0) (.symm (h.gen _ _ e2)))
 ·simp only[List.mem_cons,Prod.mk.injEq] at hi
  rcases hi with⟨rfl,rfl⟩|⟨rfl,rfl⟩|hi
  ·exact .stepB g0
  ·exact .stepW g0
  ·exact h.pgen i j (List.mem_cons_of_mem _ hi)
 ·simp only[List.mem_cons,Prod.mk.injEq] at hi
  rcases hi with⟨rfl,rfl⟩|⟨rfl,rfl⟩|hi
  ·exact⟨hb _ li,hb _ lj⟩
  ·exact⟨hw _ li,hw _ lj⟩
  ·exact h.lt i j (List.mem_cons_of_mem _ hi)
 ·have p0:Cls (joinF f s t) ((b i0,b j0)::(w i0,w j0)::P) (b i0) (b j0):=.pend (List.mem_cons_self ..)
  rcases joinF_split hst e with e|⟨e1,e2⟩|⟨e1,e2⟩
  ·exact up (h.keepB i j e)
  ·exact .trans (up (h.keepB _ _ e1)) (.trans p0 (.symm (up (h.keepB _ _ e2))))
  ·exact .trans (up (h.keepB _ _ e1)) (.trans (.symm p0) (.symm (up (h.keepB _ _ e2))))
 ·have p0:Cls (joinF f s t) ((b i0,b j0)::(w i0,w j0)::P) (w i0) (w j0):=.pend (List.mem_cons_of_mem _ (List.mem_cons_self ..))
  rcases joinF_split hst e with e|⟨e1,e2⟩|⟨e1,e2⟩
  ·exact up (h.keepW i j e)
  ·exact .trans (up (h.keepW _ _ e1)) (.trans p0 (.symm (up (h.keepW _ _ e2))))
  ·exact .trans (up (h.keepW _ _ e1)) (.trans (.symm p0) (.symm (up (h.keepW _ _ e2))))
 ·obtain⟨r1,r2⟩:=h.rep i hi
  have ri:=h.rep i0 li
  have rj:=h.rep j0 lj
  have ht:t<n/\f t=t:=by
   rcases hst with⟨_,rfl⟩|⟨_,rfl⟩
   ·exact rj
   ·exact ri
  unfold joinF
  by_cases c:f i=s
  ·rw[if_pos c]
   refine⟨ht.1,?_⟩
   split
   ·rfl
   ·exact ht.2
  ·rw[if_neg c,r2,if_neg c]
   exact⟨r1,rfl⟩
 ·have e:=h.out i hi
  unfold joinF
  have r1:=(h.rep i0 li).1
  have r2:=(h.rep j0 lj).1
  rw[e,if_neg (by rcases hst with⟨rfl,_⟩|⟨rfl,_⟩<;>omega)]
def reps(n:Nat)(f:Nat->Nat):Nat:=cntU n λ i=>decide (f i≠i)
theorem joinF_same{f:Nat->Nat}{s t:Nat}(h:s=t):joinF f s t=f:=by
 subst h
 funext i
 unfold joinF
 split
 ·rename_i h;exact h.symm
 ·rfl
theorem BlkInv.reps{n:Nat}{b w:Nat->Nat}{x y:Nat}{f:Nat->Nat}{P:List (Nat×Nat)}{i0 j0 s t:Nat}(h:BlkInv n b w x y f ((i0,j0)::P))(hst:(s=f i0/\t=f j0)\/(s=f j0/\t=f i0))(hne:s≠t):reps n f=reps n (joinF f s t)+1:=by
 obtain⟨li,lj⟩:=h.lt i0 j0 (List.mem_cons_self ..)
 have ri:=h.rep i0 li
 have rj:=h.rep j0 lj
 have hs:s<n/\f s=s:=by
  rcases hst with⟨rfl,_⟩|⟨rfl,_⟩
  ·exact ri
  ·exact rj
 have ht:t<n/\f t=t:=by
  rcases hst with⟨_,rfl⟩|⟨_,rfl⟩
  ·exact rj
  ·exact ri
 unfold Proofs.YthjnmlpibafbnaaGreat.reps
 refine(cntU_set (i:=s) (f:=λ i=>decide (f i≠i)) (g:=λ i=>decide (joinF f s t i≠i)) ?_ ?_ ?_ (n:=n)).1 hs.1
 ·simp[hs.2]
 ·simp only[joinF,hs.2,if_true,decide_eq_true_eq];exact λ e=>hne e.symm
 ·intro j hj
  by_cases c:f j=s
  ·have h1:f j≠j:=λ e=>hj (e.symm.trans c)
   have h2:t≠j:=λ e=>by subst e;exact hne (c.symm.trans ht.2)
   have h3:joinF f s t j=t:=by unfold joinF;rw[if_pos c]
   simp[h1,h2,h3]
  ·have h3:joinF f s t j=f j:=by unfold joinF;rw[if_neg c]
   simp[h3]
theorem reps_le(n:Nat)(f:Nat->Nat):reps n f<=n:=by
 unfold reps
 have key:∀(g:Nat->Bool) (n:Nat),cntU n g<=n:=by
  intro g n
  induction n with
  |zero=>exact Nat.le_refl _
  |succ n ih=>
   simp only[cntU]
   cases g n<;>simp<;>omega
 exact key _ n
def pj(f:Nat->Nat)(s t k:Nat):Nat->Nat:=λ j=>if j<k then joinF f s t j else f j
theorem pj_zero(f:Nat->Nat)(s t:Nat):pj f s t 0=f:=by funext j;simp[pj]
theorem pj_at(f:Nat->Nat)(s t k:Nat):pj f s t k k=f k:=by simp[pj]
theorem pj_hit{f:Nat->Nat}{s t k:Nat}(h:f k=s):up (pj f s t k) k t=pj f s t (k+1):=by
 funext j
 unfold up pj
 by_cases e:j=k
 ·subst e;simp[joinF,h]
 ·rw[if_neg e]
  by_cases e2:j<k
  ·simp[e2,show j<k+1 by omega]
  ·simp[e2,show¬j<k+1 by omega]
theorem pj_miss{f:Nat->Nat}{s t k:Nat}(h:f k≠s):pj f s t k=pj f s t (k+1):=by
 funext j
 unfold pj
 by_cases e:j=k
 ·subst e;simp[joinF,h]
 ·by_cases e2:j<k
  ·simp[e2,show j<k+1 by omega]
  ·simp[e2,show¬j<k+1 by omega]
theorem pj_lt{f:Nat->Nat}{s t k j:Nat}(h:j<k):pj f s t k j=joinF f s t j:=by simp[pj,h]
noncomputable def blkL (n:Nat)(b w:Nat->Nat)(x y:Nat):List Nat:=(List.range n).filter λ i=>@decide (Gen b w x y i x) (Classical.propDecidable _)
def fltL(f:Nat->Nat)(c k:Nat):List Nat:=(List.range k).filter λ i=>decide (f i=c)
theorem flt_hit{f:Nat->Nat}{c k:Nat}(h:f k=c):fltL f c (k+1)=fltL f c k++[k]:=by
 unfold fltL;rw[List.range_succ,List.filter_append];simp[h]
theorem flt_miss{f:Nat->Nat}{c k:Nat}(h:f k≠c):fltL f c (k+1)=fltL f c k:=by
 unfold fltL;rw[List.range_succ,List.filter_append];simp[h]
theorem flt_len(f:Nat->Nat)(c k:Nat):(fltL f c k).length<=k:=by
 unfold fltL
 have:=List.length_filter_le (λ i=>decide (f i=c)) (List.range k)
 simpa using this
theorem BlkInv.list{n:Nat}{b w:Nat->Nat}{x y:Nat}{f:Nat->Nat}(h:BlkInv n b w x y f []):fltL f (f x) n=blkL n b w x y:=by
 unfold fltL blkL
 refine List.filter_congr λ i _=>?_
 have:=h.done i x
 by_cases c:f i=f x
 ·simp[c,this.1 c]
 ·have:¬Gen b w x y i x:=λ g=>c (this.2 g)
  simp[c,this]
theorem BlkInv.last{n:Nat}{b w:Nat->Nat}{x y:Nat}{f:Nat->Nat}{P:List (Nat×Nat)}{p:Nat×Nat}(h:BlkInv n b w x y f (P++[p])):BlkInv n b w x y f (p::P):=h.perm λ q=>by simp;exact or_comm
def prI(p:Nat×Nat):Nat->Dat:=fup (fup (λ _=>.i .i64 0) 0 (.i .i64 (p.1:Int))) 1 (.i .i64 (p.2:Int))
def prF(P:List (Nat×Nat))(j:Nat):Dat:=.ar 2 1 (prI (P.getD j (0,0)))
theorem sc_prI(k:Nat)(p:Nat×Nat)(i:Nat):Sc k (prI p i):=by
 unfold prI fup
 cases Nat.beq i 1
 ·cases Nat.beq i 0<;>trivial
 ·trivial
theorem sc_prv(k:Nat)(p:Nat×Nat):Sc k (.ar 2 1 (prI p)):=λ i _=>sc_prI k p i
theorem sc_prow(k n:Nat)(e:Go.TypeId)(P:List (Nat×Nat)):Sc k (.ow e n 2 (prF P)):=λ i _=>sc_prv k _
theorem pl_prI(p:Nat×Nat)(i:Nat):Pl (prI p i):=by
 unfold prI fup
 cases Nat.beq i 1
 ·cases Nat.beq i 0<;>trivial
 ·trivial
theorem pl_prv(p:Nat×Nat):Pl (.ar 2 1 (prI p)):=λ i _=>pl_prI p i
theorem ap_prs(l:List (Nat×Nat))(y:Nat×Nat)(z:Nat->Dat)(j:Nat)(hj:j<l.length+1):prF (l++[y]) j=apF l.length (prF l) 0 (fup z 0 (.ar 2 1 (prI y))) j:=by
 unfold apF prF
 by_cases h:j<l.length
 ·rw[blt_true h,getD_snoc_lt l y _ h];rfl
 ·have e:j=l.length:=by omega
  subst e
  rw[blt_false (Nat.lt_irrefl _),getD_snoc]
  simp[fup]
theorem ap_prs'{l:List (Nat×Nat)}{n:Nat}(hn:l.length=n)(y:Nat×Nat)(z:Nat->Dat)(j:Nat)(hj:j<n+1):prF (l++[y]) j=apF n (prF l) 0 (fup z 0 (.ar 2 1 (prI y))) j:=by
 subst hn;exact ap_prs l y z j hj
def nmF(f:Nat->Nat)(j:Nat):Dat:=.i .i64 ((f j:Nat):Int)
theorem nm_up(f:Nat->Nat)(k v:Nat):nmF (up f k v)=fup (nmF f) k (.i .i64 ((v:Nat):Int)):=by
 funext j
 unfold nmF up fup
 by_cases h:j=k
 ·subst h;simp
 ·rw[if_neg h,show Nat.beq j k=false from by cases e:Nat.beq j k with|false=>rfl|true=>exact absurd (Nat.eq_of_beq_eq_true e) h];rfl
end Go.Proofs.YthjnmlpibafbnaaGreat

namespace Go.Proofs.YthjnmlpibafbnaaGreat
open Go.RowKit DM
set_option linter.unusedSimpArgs false
set_option linter.unusedVariables false
set_option maxRecDepth 100000
set_option maxHeartbeats 1000000
theorem minN_ok{P:Program}{o:Oper}{fr:Nat->Dat}{m:List Root}{x y:Operand}{ts:Array TypeId}{k:IntKind}{a b:Nat}(ho:o.op=.call { callee:=.builtin .min,args:=#[x,y],argTypes:=ts })(hx:ev fr x=.i k (a:Int))(hy:ev fr y=.i k (b:Int)):QOK P o fr m (.i k ((min a b:Nat):Int)) m:=
 .of_run λ N ρ ac w hf hr=>by
  obtain⟨h0,_⟩:=ev_eq hf (x:=x) hx (by simp)
  obtain⟨h1,_⟩:=ev_eq hf (x:=y) hy (by simp)
  refine⟨?_,trivial,trivial,trivial⟩
  simp only[execOp,ho,resolve,invoke,builtin,h0,h1,enc,leaf,Builtin.min_,Builtin.min2,Result.andThen]
  by_cases c:b<a
  ·rw[Nat.min_eq_right (by omega)];simp[c,h0,h1,enc,leaf,Builtin.min2,Result.andThen]
  ·rw[Nat.min_eq_left (by omega)];simp[c,h0,h1,enc,leaf,Builtin.min2,Result.andThen]
theorem maxN_ok{P:Program}{o:Oper}{fr:Nat->Dat}{m:List Root}{x y:Operand}{ts:Array TypeId}{k:IntKind}{a b:Nat}(ho:o.op=.call { callee:=.builtin .max,args:=#[x,y],argTypes:=ts })(hx:ev fr x=.i k (a:Int))(hy:ev fr y=.i k (b:Int)):QOK P o fr m (.i k ((max a b:Nat):Int)) m:=
 .of_run λ N ρ ac w hf hr=>by
  obtain⟨h0,_⟩:=ev_eq hf (x:=x) hx (by simp)
  obtain⟨h1,_⟩:=ev_eq hf (x:=y) hy (by simp)
  refine⟨?_,trivial,trivial,trivial⟩
  simp only[execOp,ho,resolve,invoke,builtin,h0,h1,enc,leaf,Builtin.max_,Builtin.max2,Result.andThen]
  by_cases c:a<b
  ·rw[Nat.max_eq_right (by omega)];simp[c,h0,h1,enc,leaf,Builtin.max2,Result.andThen]
  ·rw[Nat.max_eq_left (by omega)];simp[c,h0,h1,enc,leaf,Builtin.max2,Result.andThen]
theorem ap_idn(k:Nat)(z:Dat)(j:Nat)(hj:j<k+1):nmF (λ i=>i) j=apF k (nmF λ i=>i) 0 (fup (λ _=>z) 0 (.i .i64 ((k:Nat):Int))) j:=by
 unfold apF nmF
 by_cases h:j<k
 ·rw[blt_true h];rfl
 ·have e:j=k:=by omega
  subst e
  rw[blt_false (Nat.lt_irrefl _)]
  simp[fup]
theorem newClasses_fn(n:Nat)(hn:n<=16):FnS Tryz.prog 69 [.i .i64 n] [] (λ r m'=>r=.sl 0 0 n 1/\m'=[.row 2 n 1 (nmF λ i=>i)]):=by
 refine FnS.intoN T tok Tryz.func69 (by rfl) rfl rfl rfl (by simp) ?_
 refine rS ?_
 refine rS ?_
 refine WP.seq ?_
 refine rS ?_
 refine WP.block ?_
 refine WP.loopH (⟨λ k:Nat=>k<=n,λ k=>[(3,.sl 0 0 k 1),(6,.i .i64 (n:Int)),(7,.i .i64 (k:Int))],λ k=>[.row 2 k 1 (nmF λ i=>i)],λ k=>n-k⟩) (0) (Nat.zero_le _) (gC [0] (LeAll.cons (by rfl) (by first|with_reducible exact Root.Le.refl _|with_reducible exact le_dead|(exact le_row (Nat.le_refl _) (λ j hj=>absurd hj (Nat.not_lt_zero _)))|exact byLeq) (by exact byCon) (leZ))) ?_
 intro k hk
 dsimp only at hk
 dsimp only[Hd.at]
 refine rS ?_
 refine WP.seq ?_
 refine cI (λ hc=>?_) λ hc=>?_
 ·have hk:k<n:=by have:=of_decide_eq_true hc;omega
  clear hc
  refine WP.seq (WP.block ?_)
  refine rS ?_
  refine rE ?_
  refine rE ?_
  refine Again.next (k+1) (gC [2] (LeAll.cons (by rfl) (by first|with_reducible exact Root.Le.refl _|with_reducible exact le_dead|(exact le_row (Nat.le_refl _) (λ j hj=>ap_idn k _ j hj))|exact byLeq) (by exact byCon) (leZ))) (hk) (by dsimp only;omega)
 ·have hk:k=n:=by have:=of_decide_eq_false hc;omega
  subst hk
  refine rS ?_
  exact WP.ret (Ends.new [0] (by rfl) (by exact byObl) (leC leZ) rfl rfl (rfl) (sc_sl rfl))
theorem join_fn(n:Nat)(f:Nat->Nat)(x y:Nat)(hn:n<=16)(hx:x<n)(hy:y<n):FnS Tryz.prog 70 [.sl 0 0 n 1,.i .i64 (x:Int),.i .i64 (y:Int)] [.row 2 n 1 (nmF f)]
  (λ r m'=>r=.b (!decide (((min (f x) (f y):Nat):Int)=((max (f x) (f y):Nat):Int)))/\m'=[.row 2 n 1 (nmF (joinF f (max (f x) (f y)) (min (f x) (f y))))]):=by
 refine FnS.intoN T tok Tryz.func70 (by rfl) rfl rfl rfl (by simp) ?_
 refine rS ?_
 refine WP.dw (by kernel_rfl) (by kernel_rfl) ?_
 refine WQ.run T false 8 tok (by rfl) (by rfl) (by exact byObl) ?_
 refine WQ.op (by rfl) (by rfl) (minN_ok (a:=f x) (b:=f y) rfl rfl rfl) ?_
 refine WQ.run T false 8 tok (by rfl) (by rfl) (by exact byObl) ?_
 refine WQ.op (by rfl) (by rfl) (maxN_ok (a:=f x) (b:=f y) rfl rfl rfl) ?_
 refine WQ.fin T false tok (by rfl) (by rfl) (by exact byObl) ?_
 generalize max (f x) (f y)=s
 generalize min (f x) (f y)=t
 refine WP.seq ?_
 refine rS ?_
 refine WP.block ?_
 refine WP.loopH (⟨λ k:Nat=>k<=n,λ k=>[(0,.sl 0 0 n 1),(7,.i .i64 (t:Int)),(8,.i .i64 (s:Int)),(29,.sl 0 0 n 1),(30,.i .i64 (n:Int)),(31,.i .i64 (k:Int))],λ k=>[.row 2 n 1 (nmF (pj f s t k))],λ k=>n-k⟩) (0) (Nat.zero_le _) (gC [0] (LeAll.cons (by rfl) (by first|with_reducible exact Root.Le.refl _|with_reducible exact le_dead|((rw[pj_zero];exact Root.Le.refl _))|exact byLeq) (by exact byCon) (leZ))) ?_
 intro k hk
 dsimp only at hk
 dsimp only[Hd.at]
 refine rS ?_
 refine WP.seq ?_
 refine cI (λ hc=>?_) λ hc=>?_
 ·have hk:k<n:=by have:=of_decide_eq_true hc;omega
  clear hc
  refine WP.seq (WP.block ?_)
  refine rS ?_
  refine rS ?_
  refine cS (λ h=>?_) λ h=>?_
  ·have h:f k=s:=by
    have h:=of_decide_eq_true h
    simp only[addrAt0,Int.toNat_natCast] at h
    have:pj f s t k k=s:=by exact_mod_cast h
    rwa [pj_at] at this
   refine rE ?_
   refine rE ?_
   refine Again.next (k+1) (gC [0] (LeAll.cons (by rfl) (by first|with_reducible exact Root.Le.refl _|with_reducible exact le_dead|(exact le_row (Nat.le_refl _) (λ j hj=>by rw[<-pj_hit h];exact congrFun (nm_up _ _ _) j))|exact byLeq) (by exact byCon) (leZ))) (hk) (by dsimp only;omega)
  ·have h:f k≠s:=by
    have h:=of_decide_eq_false h
    simp only[addrAt0,Int.toNat_natCast] at h
    intro e
    rw[pj_at,e] at h
    exact h rfl
   refine rE ?_
   refine Again.next (k+1) (gC [0] (LeAll.cons (by rfl) (by first|with_reducible exact Root.Le.refl _|with_reducible exact le_dead|((rw[pj_miss h];exact Root.Le.refl _))|exact byLeq) (by exact byCon) (leZ))) (hk) (by dsimp only;omega)
 ·have hk:k=n:=by have:=of_decide_eq_false hc;omega
  subst hk
  refine rS ?_
  exact WP.ret (Ends.new [0] (by rfl) (by exact byObl) (LeAll.cons (by rfl) (by first|with_reducible exact Root.Le.refl _|with_reducible exact le_dead|(exact le_row (Nat.le_refl _) (λ j hj=>by simp only[nmF,pj_lt hj]))|exact byLeq) (by exact byCon) (leZ)) rfl rfl (⟨rfl,trivial⟩) (trivial))
def bwF(b w:Nat->Nat)(j:Nat):Nat->Nat:=if j=0 then b else w
def bwP(b w:Nat->Nat)(i0 j0 k:Nat):List (Nat×Nat):=((List.range k).map λ j=>(bwF b w j i0,bwF b w j j0))
theorem bwP_step(b w:Nat->Nat)(i0 j0 k:Nat):bwP b w i0 j0 (k+1)=bwP b w i0 j0 k++[(bwF b w k i0,bwF b w k j0)]:=by
 unfold bwP;rw[List.range_succ,List.map_append];rfl
theorem bwP_len(b w:Nat->Nat)(i0 j0 k:Nat):(bwP b w i0 j0 k).length=k:=by simp[bwP]
theorem bwP_two(b w:Nat->Nat)(i0 j0:Nat):bwP b w i0 j0 2=[(b i0,b j0),(w i0,w j0)]:=rfl
theorem min_max{f:Nat->Nat}{i j:Nat}:(max (f i) (f j)=f i/\min (f i) (f j)=f j)\/(max (f i) (f j)=f j/\min (f i) (f j)=f i):=by omega
theorem block_fn(N:Nat)(b w:Nat->Nat)(x y:Nat)(hx:x<N)(hy:y<N)(hN:N<=16)(hb:∀i,i<N->b i<N)(hw:∀i,i<N->w i<N):FnS Tryz.prog 33 [ds_ N b w,.i .i64 (x:Int),.i .i64 (y:Int)] []
  (λ r m'=>r=.sl 0 0 (blkL N b w x y).length 1/\m'=[.row 2 (blkL N b w x y).length 1 (numsF (blkL N b w x y))]):=by
 refine FnS.intoN T tok Tryz.func33 (by rfl) rfl rfl rfl (by simp) ?_
 refine rS ?_
 refine WP.rw ?_
 refine rU 2 ?_
 refine cN [] (.sl 1 0 N 1) (newClasses_fn N hN) leZ (rfl) ?_
 refine rF ?_
 refine rS ?_
 refine WP.seq (WP.block ?_)
 refine WP.loopH (⟨λ s:List (Nat×Nat)×(Nat->Nat)=>BlkInv N b w x y s.2 s.1/\3*reps N s.2+s.1.length<=49,λ s=>[(1,.i .i64 (x:Int)),(3,.p 0 [] 0),(7,.sl 1 0 N 1),(8,.sl 2 0 s.1.length 2)],λ s=>[.var (ds_ N b w),.row 2 N 1 (nmF s.2),.row 97 s.1.length 2 (prF s.1)],λ s=>3*reps N s.2+s.1.length⟩) (([(x,y)],λ i=>i)) (⟨BlkInv.start hx hy,by have:=reps_le N λ i=>i;simp only[List.length_singleton];omega⟩) (gC [0,1,2] (by repeat (first|exact trivial|(refine lC ?_ ?_;first|exact byLz|(exact le_row (Nat.le_refl _) (λ j hj=>by obtain rfl:j=0:=(by have:j<1:=hj;omega);rfl))|exact byLeq)))) ?_
 rintro⟨P,f⟩ ⟨hI,hM⟩
 simp only at hI hM
 dsimp only[Hd.at]
 have hPl:P.length<=49:=by omega
 refine WP.seq ?_
 refine rS ?_
 refine cI (λ hc=>?_) λ hc=>?_
 ·rcases List.eq_nil_or_concat P with rfl|⟨P',p,rfl⟩
  ·simp at hc
  clear hc
  obtain⟨i0,j0⟩:=p
  rw[List.concat_eq_append] at*
  have hI1:=hI.last
  obtain⟨hi0,hj0⟩:=hI1.lt i0 j0 (List.mem_cons_self ..)
  have hlen:(P'++[(i0,j0)]).length=P'.length+1:=by simp
  have hM:3*reps N f+P'.length+1<=49:=by simp only[hlen] at hM;omega
  have hmu:∀q:Nat,q<3*reps N f+P'.length+1->q<3*reps N f+(P'++[(i0,j0)]).length:=λ q h=>by rw[hlen];omega
  have hget:prF (P'++[(i0,j0)]) P'.length=.ar 2 1 (prI (i0,j0)):=by unfold prF;rw[getD_snoc]
  have hpre:∀j,j<P'.length->prF P' j=prF (P'++[(i0,j0)]) j:=λ j hj=>by unfold prF;rw[getD_snoc_lt _ _ _ hj]
  rw[hlen]
  have hP':(((P'.length+1:Nat):Int)-1).toNat=P'.length:=by omega
  refine WP.block ?_
  refine rS ?_
  refine WP.ghost (gC [0,1,2,3] (by repeat (first|exact trivial|(refine lC ?_ ?_;first|exact byLz|(exact le_var (by rw[addrAt0,hP',getD_snoc]))|exact byLeq))) (l:=[(1,.i .i64 (x:Int)),(3,.p 0 [] 0),(7,.sl 1 0 N 1),(8,.sl 2 0 (P'.length+1) 2),(9,.p 3 [] 0)]) (m':=[.var (ds_ N b w),.row 2 N 1 (nmF f),.row 97 (P'.length+1) 2 (prF (P'++[(i0,j0)])),.var (.ar 2 1 (prI (i0,j0)))])) ?_
  refine WP.rw ?_
  refine rU 4 ?_
  refine WPL.op (by rfl) (by rfl) (QOK.op (slh_ok (h:=P'.length) tok rfl rfl rfl (congrArg (Dat.i .i64) (show(((P'.length+1:Nat):Int)-1)=_ by omega)) rfl rfl rfl (by omega))) ?_
  refine rF ?_
  refine WP.rw ?_
  refine rU 5 ?_
  refine cN [1] (.b (!decide (((min (f i0) (f j0):Nat):Int)=((max (f i0) (f j0):Nat):Int)))) (join_fn N f i0 j0 hN hi0 hj0) (leC leZ) (⟨rfl,trivial⟩) ?_
  refine rF ?_
  by_cases he:f i0=f j0
  ·refine cS (λ h=>?_) λ h=>?_
   ·simp[he] at h
   ·refine Again.next ((P',f)) (gC [0,1,2] (by repeat (first|exact trivial|(refine lC ?_ ?_;first|exact byLz|(first|exact le_row (Nat.le_succ _) (λ j hj=>hpre j hj)|(rw[he,joinF_same (by simp)];exact Root.Le.refl _))|exact byLeq)))) (⟨hI1.skip he,by simp only;omega⟩) (by exact hmu _ (by simp only;omega))
  ·have hst:=min_max (f:=f) (i:=i0) (j:=j0)
   have hne:max (f i0) (f j0)≠min (f i0) (f j0):=by omega
   have hrep:=hI1.reps hst hne
   have hI2:=hI1.join hb hw hst
   generalize joinF f (max (f i0) (f j0)) (min (f i0) (f j0))=g at*
   refine cS (λ h=>?_) λ h=>?_
   ·refine rS ?_
    refine WP.block ?_
    refine WP.loopH (⟨λ k:Nat=>k<=2,λ k=>[(1,.i .i64 (x:Int)),(3,.p 0 [] 0),(7,.sl 1 0 N 1),(8,.sl 2 0 (P'.length+k) 2),(9,.p 3 [] 0),(46,.sl 4 0 2 16),(47,.i .i64 2),(48,.i .i64 (k:Int))],λ k=>[.var (ds_ N b w),.row 2 N 1 (nmF g),.row 97 (P'.length+k) 2 (prF (P'++bwP b w i0 j0 k)),.var (.ar 2 1 (prI (i0,j0))),.row 25 2 16 (λ j=>pl (bwF b w j))],λ k=>2-k⟩) (0) (Nat.zero_le _) (gC [0,1,2,3,4] (by repeat (first|exact trivial|(refine lC ?_ ?_;first|exact byLz|(first|exact le_row (by omega) (λ j hj=>by rw[<-hpre j (by omega)];simp[bwP])|exact le_row (Nat.le_refl _) (λ j hj=>by rcases j with _|_|j<;>first|rfl|omega))|exact byLeq)))) ?_
    intro k hk
    dsimp only at hk
    dsimp only[Hd.at]
    refine rS ?_
    refine WP.seq ?_
    refine cI (λ hc=>?_) λ hc=>?_
    ·have hk:k<2:=by have:=of_decide_eq_true hc;omega
     clear hc
     have hbw:∀i,i<N->bwF b w k i<N:=λ i hi=>by unfold bwF;split;exact hb i hi;exact hw i hi
     have h1:=hbw i0 hi0
     have h2:=hbw j0 hj0
     refine WP.seq (WP.block ?_)
     refine rS ?_
     refine WP.da (by kernel_rfl) 13 (by kernel_rfl) ?_
     refine WA.takes T false tok [0,1,2,3,4,5,6,7,8,9,10,11] (f':=3) (by kernel_rfl) (by rfl) (by rfl) (by rfl) (by exact byObl) (by rfl) (by rfl) ?_
     refine WA.all [12] (by kernel_rfl) (by simp) ?_
     intro i hi
     obtain rfl:i=12:=by simpa using hi
     refine⟨_,_,_,rfl,by rfl,by rfl,MK.of tok (wm:=false) (by rfl) (by exact byObl) (by rfl) (by exact byObl),?_⟩
     refine WA.tail (by rfl) (by rfl) (by kernel_rfl) ?_
     refine rF ?_
     refine noPan ?_
     refine rE ?_
     refine Again.next (k+1) (gC [0,1,7,3,4] (by repeat (first|exact trivial|(refine lC ?_ ?_;first|exact byLz|(exact le_row (by omega) (λ j hj=>by rw[bwP_step, <-List.append_assoc];exact ap_prs' (by simp[bwP_len]) _ _ j hj))|exact byLeq)))) (hk) (by dsimp only;omega)
    ·have hk:k=2:=by have:=of_decide_eq_false hc;omega
     subst hk
     have hLen:(P'++bwP b w i0 j0 2).length=P'.length+2:=by simp[bwP_len]
     refine Again.next ((P'++bwP b w i0 j0 2,g)) (gC [0,1,2] (by repeat (first|exact trivial|(refine lC ?_ ?_;first|exact byLz|(exact le_row (Nat.le_of_eq hLen) (λ _ _=>rfl))|exact byLeq)))) (⟨hI2.perm λ q=>by(rw[bwP_two];simp only[List.mem_append,List.mem_cons,List.not_mem_nil,or_false];constructor<;>rintro(h|h|h)<;>simp[h]),by simp only[hLen];omega⟩) (by exact hmu _ (by simp only[hLen];omega))
   ·have:=of_decide_eq_true (show decide (_=_)=true by simpa using h)
    exact absurd this (by omega)
 ·have hP:P=[]:=by
   have:=of_decide_eq_false hc
   cases P with
   |nil=>rfl
   |cons a l=>simp at this
  subst hP
  have hL:=hI.list
  refine rS ?_
  refine WP.seq ?_
  refine rS ?_
  refine WP.block ?_
  refine WP.loopH (⟨λ i:Nat=>i<=N,λ i=>[(1,.i .i64 (x:Int)),(7,.sl 1 0 N 1),(12,.sl 2 0 (fltL f (f x) i).length 1),(68,.sl 1 0 N 1),(69,.i .i64 (N:Int)),(70,.i .i64 (i:Int))],λ i=>[.var (ds_ N b w),.row 2 N 1 (nmF f),.row 2 (fltL f (f x) i).length 1 (numsF (fltL f (f x) i))],λ i=>N-i⟩) (0) (Nat.zero_le _) (gC [0,1,3] (by repeat (first|exact trivial|(refine lC ?_ ?_;first|exact byLz|(exact le_row (Nat.le_refl _) (λ j hj=>absurd hj (Nat.not_lt_zero _)))|exact byLeq)))) ?_
  intro i hi
  dsimp only at hi
  dsimp only[Hd.at]
  have hl:=flt_len f (f x) i
  refine rS ?_
  refine WP.seq ?_
  refine cI (λ hc=>?_) λ hc=>?_
  ·have hi:i<N:=by have:=of_decide_eq_true hc;omega
   clear hc
   refine WP.seq (WP.block ?_)
   refine rS ?_
   refine rS ?_
   by_cases he:f i=f x
   ·refine cS (λ h=>?_) λ h=>?_
    ·refine rE ?_
     refine rE ?_
     have hLen:(fltL f (f x) (i+1)).length=(fltL f (f x) i).length+1:=by rw[flt_hit he];simp
     refine Again.next (i+1) (gC [0,1,4] (by repeat (first|exact trivial|(refine lC ?_ ?_;first|exact byLz|(exact le_row (Nat.le_of_eq hLen) (λ j hj=>by rw[flt_hit he];exact ap_nums _ _ _ j (by rw[hLen] at hj;exact hj)))|exact byLeq)))) (hi) (by dsimp only;omega)
    ·have h:=of_decide_eq_false h
     simp only[addrAt0,Int.toNat_natCast] at h
     exact absurd (by exact_mod_cast he) h
   ·refine cS (λ h=>?_) λ h=>?_
    ·have h:=of_decide_eq_true h
     simp only[addrAt0,Int.toNat_natCast] at h
     exact absurd (by exact_mod_cast h) he
    ·refine rE ?_
     have hLen:(fltL f (f x) (i+1)).length=(fltL f (f x) i).length:=by rw[flt_miss he]
     refine Again.next (i+1) (gC [0,1,2] (by repeat (first|exact trivial|(refine lC ?_ ?_;first|exact byLz|((rw[flt_miss he];exact Root.Le.refl _))|exact byLeq)))) (hi) (by dsimp only;omega)
  ·have hi:i=N:=by have:=of_decide_eq_false hc;omega
   subst hi
   rw[<-hL]
   refine rS ?_
   exact WP.ret (Ends.new [2] (by rfl) (by exact byObl) (leC leZ) rfl rfl (rfl) (sc_sl rfl))
end Go.Proofs.YthjnmlpibafbnaaGreat
