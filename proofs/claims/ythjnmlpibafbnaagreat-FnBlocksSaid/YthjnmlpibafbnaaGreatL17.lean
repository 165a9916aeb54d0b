import Derived.Test.YthjnmlpibafbnaaGreatL4
import Derived.Test.YthjnmlpibafbnaaGreatD18
import Derived.Test.YthjnmlpibafbnaaGreatX30
import Derived.Test.YthjnmlpibafbnaaGreatL20
import Derived.Test.YthjnmlpibafbnaaGreatD31
import Derived.Test.YthjnmlpibafbnaaGreatX6
import Derived.Test.YthjnmlpibafbnaaGreatL33
namespace Go.Proofs.YthjnmlpibafbnaaGreat
open Go.RowKit DM
set_option linter.unusedVariables false
def mset(o:Nat->Int)(t h:Nat):Option (Nat->Int):=if o t<0 then some (up o t (h:Int)) else if o t=(h:Int) then some o else none
def mfold:List (Nat×Nat)->(Nat->Int)->Option (Nat->Int)
 |[],o=>some o
 |p::l,o=>match mset o p.1 p.2 with
  |none=>none
  |some o'=>mfold l o'
def prs(b w b' w':Nat->Nat)(x at_:Nat):List (Nat×Nat):=[(b x,b' at_),(w x,w' at_)]
def mFrom(b w b' w':Nat->Nat)(F:List Nat):Nat->Nat->(Nat->Int)->Option (Nat->Int)
 |0,_,o=>some o
 |k+1,i,o=>match mfold (prs b w b' w' (F.getD i 0) (o (F.getD i 0)).toNat) o with
  |none=>none
  |some o'=>mFrom b w b' w' F k (i+1) o'
def mo0(y:Nat):Nat->Int:=λ j=>if j=0 then(y:Int) else-1
def morF(b w b' w':Nat->Nat)(y:Nat):Option (Nat->Int):=mFrom b w b' w' (bfsF b w 0) (bfsF b w 0).length 0 (mo0 y)
structure MRel(M:Nat)(s:List Nat×(Nat->Bool))(o:Nat->Int):Prop where
 met:∀x,s.2 x=true↔0<=o x
 lo:∀x,-1<=o x
 hi:∀x,o x<(M:Int)
 mem:∀x∈s.1,s.2 x=true
theorem MRel.start{M y:Nat}(h:y<M):MRel M (bx 0) (mo0 y):=by
 refine⟨λ x=>?_,λ x=>?_,λ x=>?_,λ x hx=>?_⟩
 ·simp only[bx,up,mo0]
  by_cases e:x=0
  ·subst e;simp
  ·simp[e]
 ·simp only[mo0];split<;>omega
 ·simp only[mo0];split<;>omega
 ·simp only[bx,List.mem_singleton] at hx;subst hx;simp[bx,up]
theorem MRel.new{M:Nat}{s:List Nat×(Nat->Bool)}{o:Nat->Int}(h:MRel M s o){t a:Nat}(ha:a<M)(ht:o t<0):mset o t a=some (up o t (a:Int))/\s.2 t=false/\MRel M (bst t s) (up o t (a:Int)):=by
 have hm:s.2 t=false:=by
  cases hs:s.2 t with
  |false=>rfl
  |true=>have:=(h.met t).1 hs;omega
 refine⟨by unfold mset;rw[if_pos ht],hm,?_⟩
 unfold bst
 rw[hm]
 refine⟨λ x=>?_,λ x=>?_,λ x=>?_,λ x hx=>?_⟩
 ·simp only[cond_false,up]
  by_cases e:x=t
  ·subst e;simp
  ·simp only[if_neg e];exact h.met x
 ·simp only[up];split
  ·omega
  ·exact h.lo x
 ·simp only[up];split
  ·omega
  ·exact h.hi x
 ·simp only[cond_false,List.mem_append,List.mem_singleton] at hx
  simp only[cond_false,up]
  rcases hx with hx|rfl
  ·split
   ·rfl
   ·exact h.mem x hx
  ·simp
theorem MRel.old{M:Nat}{s:List Nat×(Nat->Bool)}{o:Nat->Int}(h:MRel M s o){t a:Nat}(ht:¬o t<0):s.2 t=true/\bst t s=s/\mset o t a=if o t=(a:Int) then some o else none:=by
 have hm:s.2 t=true:=(h.met t).2 (by omega)
 refine⟨hm,by unfold bst;rw[hm];rfl,by unfold mset;rw[if_neg ht]⟩
structure MInv(n M:Nat)(b w b' w':Nat->Nat)(F:List Nat)(R:Option (Nat->Int))(i:Nat)(s:List Nat×(Nat->Bool))(o:Nat->Int):Prop where
 inv:BInv n s
 le:i<=s.1.length
 run:(bres b w i s).1=F
 rel:MRel M s o
 res:mFrom b w b' w' F (F.length-i) i o=R
theorem MInv.pre{n M:Nat}{b w b' w':Nat->Nat}{F:List Nat}{R:Option (Nat->Int)}{i:Nat}{s:List Nat×(Nat->Bool)}{o:Nat->Int}(h:MInv n M b w b' w' F R i s o):s.1<+:F:=by
 rw[<-h.run];unfold bres;exact brun_pre _ _ _ _ _
theorem MInv.more{n M:Nat}{b w b' w':Nat->Nat}{F:List Nat}{R:Option (Nat->Int)}{i:Nat}{s:List Nat×(Nat->Bool)}{o:Nat->Int}(h:MInv n M b w b' w' F R i s o):i<s.1.length↔i<F.length:=by
 constructor
 ·intro hi;have:=h.pre.length_le;omega
 ·intro hi
  refine Classical.byContradiction λ hn=>?_
  have h1:=h.run
  rw[bres_end hn] at h1
  rw[<-h1] at hi;exact hn hi
theorem MInv.here{n M:Nat}{b w b' w':Nat->Nat}{F:List Nat}{R:Option (Nat->Int)}{i:Nat}{s:List Nat×(Nat->Bool)}{o:Nat->Int}(h:MInv n M b w b' w' F R i s o)(hi:i<s.1.length):
  F.getD i 0=s.1.getD i 0/\s.1.getD i 0<n/\0<=o (s.1.getD i 0)/\o (s.1.getD i 0)<(M:Int):=by
 refine⟨pre_getD h.pre hi,h.inv.get hi,?_,h.rel.hi _⟩
 refine(h.rel.met _).1 (h.rel.mem _ ?_)
 rw[List.getD_eq_getElem?_getD,List.getElem?_eq_getElem hi];exact List.getElem_mem hi
theorem MInv.start{n M y:Nat}{b w b' w':Nat->Nat}(hn:0<n)(hn16:n<=16)(hy:y<M):MInv n M b w b' w' (bfsF b w 0) (morF b w b' w' y) 0 (bx 0) (mo0 y):=
 ⟨bx_inv hn hn16,Nat.zero_le _,rfl,.start hy,rfl⟩
theorem MInv.done{n M:Nat}{b w b' w':Nat->Nat}{F:List Nat}{R:Option (Nat->Int)}{i:Nat}{s:List Nat×(Nat->Bool)}{o:Nat->Int}(h:MInv n M b w b' w' F R i s o)(hi:¬i<s.1.length):R=some o:=by
 have h1:=h.res
 have h2:=h.more
 rw[show F.length-i=0 by omega] at h1
 exact h1.symm
structure MMid(n M:Nat)(b w b' w':Nat->Nat)(F:List Nat)(R:Option (Nat->Int))(i x a:Nat)(S:List Nat×(Nat->Bool))(k:Nat)(s:List Nat×(Nat->Bool))(o:Nat->Int):Prop where
 inv:BInv n s
 rel:MRel M s o
 bfs:((prs b w b' w' x a).drop k).foldl (λ s p=>bst p.1 s) s=S
 res:(match mfold ((prs b w b' w' x a).drop k) o with
  |none=>none
  |some o'=>mFrom b w b' w' F (F.length-(i+1)) (i+1) o')=R
 at_:o x=(a:Int)
 le:i<s.1.length
theorem MInv.mid{n M:Nat}{b w b' w':Nat->Nat}{F:List Nat}{R:Option (Nat->Int)}{i:Nat}{s:List Nat×(Nat->Bool)}{o:Nat->Int}(h:MInv n M b w b' w' F R i s o)(hi:i<s.1.length):
  MMid n M b w b' w' F R i (s.1.getD i 0) (o (s.1.getD i 0)).toNat (bst (w (s.1.getD i 0)) (bst (b (s.1.getD i 0)) s)) 0 s o:=by
 obtain⟨h1,h2,h3,h4⟩:=h.here hi
 refine⟨h.inv,h.rel,rfl,?_,by omega,hi⟩
 have h5:=h.res
 have h6:=h.more.1 hi
 rw[show F.length-i=(F.length-(i+1))+1 by omega] at h5
 simp only[mFrom,h1] at h5
 exact h5
theorem MMid.next{n M:Nat}(hn:n<=16){b w b' w':Nat->Nat}{F:List Nat}{R:Option (Nat->Int)}{i x a:Nat}{S s:List Nat×(Nat->Bool)}{k:Nat}{o:Nat->Int}(h:MMid n M b w b' w' F R i x a S k s o){t c:Nat}(hp:(prs b w b' w' x a)[k]? =some (t,c))(ht:t<n)(hc:c<M):
  (o t<0->s.2 t=false/\MMid n M b w b' w' F R i x a S (k+1) (bst t s) (up o t (c:Int)))/\(¬o t<0->o t=(c:Int)->s.2 t=true/\MMid n M b w b' w' F R i x a S (k+1) s o)/\(¬o t<0->o t≠(c:Int)->R=none):=by
 have hk:k<(prs b w b' w' x a).length:=(List.getElem?_eq_some_iff.1 hp).1
 have hd:(prs b w b' w' x a).drop k=(t,c)::(prs b w b' w' x a).drop (k+1):=by
  rw[List.drop_eq_getElem_cons hk];rw[List.getElem?_eq_getElem hk] at hp;rw[Option.some.inj hp]
 have hres:=h.res
 have hbfs:=h.bfs
 rw[hd] at hres hbfs
 simp only[mfold] at hres
 simp only[List.foldl_cons] at hbfs
 refine⟨λ h1=>?_,λ h1 h2=>?_,λ h1 h2=>?_⟩
 ·obtain⟨e,hm,hr⟩:=h.rel.new hc h1
  rw[e] at hres
  refine⟨hm,h.inv.bst hn ht,hr,hbfs,hres,?_,?_⟩
  ·unfold up
   by_cases ex:x=t
   ·subst ex;have:=h.at_;omega
   ·rw[if_neg ex];exact h.at_
  ·have:=(bst_pre t s).length_le
   have:=h.le
   omega
 ·obtain⟨hm,e1,e2⟩:=h.rel.old (a:=c) h1
  rw[e2,if_pos h2] at hres
  rw[e1] at hbfs
  exact⟨hm,h.inv,h.rel,hbfs,hres,h.at_,h.le⟩
 ·obtain⟨_,_,e2⟩:=h.rel.old (a:=c) h1
  rw[e2,if_neg h2] at hres
  exact hres.symm
theorem MMid.done{n M:Nat}(hn:n<=16){b w b' w':Nat->Nat}(hb:∀i,i<n->b i<n)(hw:∀i,i<n->w i<n){F:List Nat}{R:Option (Nat->Int)}{i:Nat}{s0 s:List Nat×(Nat->Bool)}{o0 o:Nat->Int}(h0:MInv n M b w b' w' F R i s0 o0)(hi:i<s0.1.length)
  (h:MMid n M b w b' w' F R i (s0.1.getD i 0) (o0 (s0.1.getD i 0)).toNat (bst (w (s0.1.getD i 0)) (bst (b (s0.1.getD i 0)) s0)) 2 s o):MInv n M b w b' w' F R (i+1) s o/\bmu (i+1) s<bmu i s0:=by
 have hs:s=bst (w (s0.1.getD i 0)) (bst (b (s0.1.getD i 0)) s0):=h.bfs
 have hr:=bmu_round hn hb hw h0.inv hi
 have hst:=bres_step hn hb hw h0.inv hi
 rw[<-hs] at hr hst
 refine⟨⟨hr.1,h.le,by rw[hst];exact h0.run,h.rel,h.res⟩,hr.2⟩
end Go.Proofs.YthjnmlpibafbnaaGreat
namespace Go.Proofs.YthjnmlpibafbnaaGreat
open Go.RowKit DM
set_option linter.unusedVariables false
end Go.Proofs.YthjnmlpibafbnaaGreat

namespace Go.Proofs.YthjnmlpibafbnaaGreat
open Go.RowKit DM
set_option linter.unusedSimpArgs false
set_option linter.unusedVariables false
set_option maxRecDepth 100000
set_option maxHeartbeats 1000000
def qTo(F b:Nat->Nat):Nat->Nat->Nat
 |0=>λ _=>0
 |k+1=>up (qTo F b k) (F k) (F (b k))
theorem parted_fn(N M:Nat)(b w F:Nat->Nat)(hN:N<=16)(hb:∀i,i<N->b i<N)(hw:∀i,i<N->w i<N)(hF:∀i,i<N->F i<16):FnR Tryz.prog 39 [ds_ N b w,.sl 0 0 N 1,.i .i64 (M:Int)] [.ro N 1 (nmF F)] (ds_ M (qTo F b N) (qTo F w N)):=by
 refine FnS.into T tok Tryz.func39 (by rfl) rfl rfl rfl (by simp) ?_
 refine rS ?_
 refine rS ?_
 refine WP.seq ?_
 refine rS ?_
 refine WP.block ?_
 refine WP.loopH (⟨λ k:Nat=>k<=N,λ k=>[(1,.sl 0 0 N 1),(3,.p 1 [] 0),(6,.p 2 [] 0),(7,.p 3 [] 0),(12,.i .i64 N),(13,.i .i64 k)],λ k=>[.ro N 1 (nmF F),.var (ds_ N b w),.var (ds_ 0 (λ _=>0) (λ _=>0)),.var (ds_ M (qTo F b k) (qTo F w k))],λ k=>N-k⟩) (0) (Nat.zero_le _) (gC [0,1,2,3] (leC (leC (leC (leC leZ))))) ?_
 intro k hk
 dsimp only at hk
 dsimp only[Hd.at]
 refine rS ?_
 refine WP.seq ?_
 refine cI (λ hc=>?_) λ hc=>?_
 ·have hk:k<N:=by have:=of_decide_eq_true hc;omega
  clear hc
  have hbk:=hb k hk
  have hwk:=hw k hk
  have hFk:=hF k hk
  have hFb:=hF _ hbk
  have hFw:=hF _ hwk
  refine WP.seq (WP.block ?_)
  refine rS ?_
  refine WP.seq ?_
  refine WP.da (by kernel_rfl) 13 (by kernel_rfl) ?_
  refine WA.takes T false tok [0,1,2,3,4,5] (f':=9) (by kernel_rfl) (by rfl) (by rfl) (by rfl) (by exact byObl) (by rfl) (by rfl) ?_
  refine WA.takes T false tok [6,7,8,9,10,11,12] (f':=2) (by kernel_rfl) (by rfl) (by rfl) (by rfl) (by exact byObl) (by rfl) (by rfl) ?_
  refine WA.tail (by rfl) (by rfl) (by kernel_rfl) ?_
  refine rF ?_
  refine noPan ?_
  refine WP.mem (by simp only[upd,pl,dsf,cast1,Int.toNat_natCast,fup_u8,fup_b,fup_i64,dsf_up0,dsf_up1,dsf_up2];rfl) ?_
  refine WP.da (by kernel_rfl) 13 (by kernel_rfl) ?_
  refine WA.takes T false tok [0,1,2,3,4,5] (f':=9) (by kernel_rfl) (by rfl) (by rfl) (by rfl) (by exact byObl) (by rfl) (by rfl) ?_
  refine WA.takes T false tok [6,7,8,9,10,11,12] (f':=2) (by kernel_rfl) (by rfl) (by rfl) (by rfl) (by exact byObl) (by rfl) (by rfl) ?_
  refine WA.tail (by rfl) (by rfl) (by kernel_rfl) ?_
  refine rF ?_
  refine noPan ?_
  refine rE ?_
  refine Again.next (k+1) (gC [0,1,2,3] (leC (leC (leC (leC leZ))))) (hk) (by dsimp only;omega)
 ·have hk:k=N:=by have:=of_decide_eq_false hc;omega
  subst hk
  refine rS ?_
  exact WP.ret (Ends.val (by rfl) (by exact byObl) (by rfl) (by exact sc_ds _ _ _ _))
def eq16(f g:Nat->Nat):Nat->Nat->Bool
 |_,0=>true
 |i,n+1=>decide ((f i:Int)=(g i:Int))&&eq16 f g (i+1) n
def eqDs(n:Int)(b w:Nat->Nat)(n':Int)(b' w':Nat->Nat):Bool:=decide (n=n')&&(eq16 b b' 0 16&&(eq16 w w' 0 16&&true))
theorem eq_ds_neq(n:Int)(b w:Nat->Nat)(n':Int)(b' w':Nat->Nat):eqE T .neq 27 (ds_ n b w) (ds_ n' b' w')=some (!eqDs n b w n' b' w'):=by rfl
theorem eq16_get{f g:Nat->Nat}:∀{n i:Nat},eq16 f g i n=true->∀j,j<n->f (i+j)=g (i+j)
 |0,i,_,j,hj=>absurd hj (Nat.not_lt_zero _)
 |n+1,i,h,0,_=>by
  simp only[eq16,Bool.and_eq_true,decide_eq_true_eq] at h
  exact_mod_cast h.1
 |n+1,i,h,j+1,hj=>by
  simp only[eq16,Bool.and_eq_true,decide_eq_true_eq] at h
  have:=eq16_get h.2 j (by omega)
  rwa [show i+1+j=i+(j+1) by omega] at this
theorem renTo_at{N:Nat}{p:Nat->Nat}(hp:Perm N p)(b:Nat->Nat):∀k,k<=N->∀x,x<k->renTo p b k (p x)=p (b x)
 |0,_,x,h=>absurd h (Nat.not_lt_zero _)
 |k+1,hk,x,h=>by
  simp only[renTo,up]
  by_cases e:x=k
  ·subst e;rw[if_pos rfl]
  ·rw[if_neg λ e2=>e (hp.inj x k (by omega) (by omega) e2)]
   exact renTo_at hp b k (by omega) x (by omega)
theorem qTo_val{F b tB:Nat->Nat}:∀k,(∀x,x<k->F (b x)=tB (F x))->∀j,((∀x,x<k->F x≠j)/\qTo F b k j=0)\/((∃x,x<k/\F x=j)/\qTo F b k j=tB j)
 |0,_,j=>.inl ⟨λ x h=>absurd h (Nat.not_lt_zero _),rfl⟩
 |k+1,h,j=>by
  simp only[qTo,up]
  by_cases e:j=F k
  ·rw[if_pos e]
   exact .inr ⟨⟨k,by omega,e.symm⟩,by rw[h k (by omega),e]⟩
  ·rw[if_neg e]
   rcases qTo_val k (λ x hx=>h x (by omega)) j with⟨h1,h2⟩|⟨⟨x,hx,h1⟩,h2⟩
   ·refine .inl ⟨λ x hx=>?_,h2⟩
    by_cases e2:x=k
    ·subst e2;exact λ h=>e h.symm
    ·exact h1 x (by omega)
   ·exact .inr ⟨⟨x,by omega,h1⟩,h2⟩
theorem ren_t3{τ:Nat->Nat}{a b c a' b' c':Dat}(h1:renD τ a a')(h2:renD τ b b')(h3:renD τ c c'):renD τ (t3 a b c) (t3 a' b' c'):=
 ⟨_,rfl,λ i _=>by
  rcases i with _|_|i
  ·exact h1
  ·exact h2
  ·exact h3⟩
end Go.Proofs.YthjnmlpibafbnaaGreat

namespace Go.Proofs.YthjnmlpibafbnaaGreat
open Go.RowKit DM
set_option linter.unusedVariables false
set_option linter.unusedSimpArgs false
theorem nmTo_at{F:List Nat}(hd:F.Nodup):∀k,k<=F.length->∀j,j<k->nmTo F k (F.getD j 0)=j
 |0,_,j,h=>absurd h (Nat.not_lt_zero _)
 |k+1,hk,j,h=>by
  simp only[nmTo,up]
  by_cases e:j=k
  ·subst e;rw[if_pos rfl]
  ·rw[if_neg λ e2=>e (nodup_getD hd (by omega) (by omega) e2)]
   exact nmTo_at hd k (by omega) j (by omega)
theorem name_at{N:Nat}{b w:Nat->Nat}(hD:Des N b w){y:Nat}(hy:y<N){k:Nat}(hk:k<N):nameF b w y ((bfsF b w y).getD k 0)=k:=by
 obtain⟨h1,h2,h3,h4,h5⟩:=bfs_all hD hy
 unfold nameF
 exact nmTo_at h1 _ (Nat.le_refl _) k (by omega)
theorem name_get{N:Nat}{b w:Nat->Nat}(hD:Des N b w){y:Nat}(hy:y<N){i:Nat}(hi:i<N):nameF b w y i<N/\(bfsF b w y).getD (nameF b w y i) 0=i:=by
 obtain⟨h1,h2,h3,h4,h5⟩:=bfs_all hD hy
 obtain⟨t,ht,rfl⟩:=mem_getD (h4 i hi)
 rw[name_at hD hy (by omega)]
 exact⟨by omega,rfl⟩
theorem name_perm{N:Nat}{b w:Nat->Nat}(hD:Des N b w){y:Nat}(hy:y<N):Perm N (nameF b w y):=by
 refine⟨λ i hi=>(name_get hD hy hi).1,λ i j hi hj e=>?_⟩
 have h1:=(name_get hD hy hi).2
 have h2:=(name_get hD hy hj).2
 rw[<-h1, <-h2,e]
def Carry(n:Nat)(f:Nat->Nat)(s s':List Nat×(Nat->Bool)):Prop:=s'.1=s.1.map f/\∀x,x<n->s'.2 (f x)=s.2 x
theorem Carry.add{n:Nat}{f:Nat->Nat}(hf:∀x y,x<n->y<n->f x=f y->x=y){s s':List Nat×(Nat->Bool)}(h:Carry n f s s'){t:Nat}(ht:t<n):Carry n f (bst t s) (bst (f t) s'):=by
 unfold bst
 rw[h.2 t ht]
 cases hm:s.2 t with
 |true=>exact h
 |false=>
  refine⟨by simp[h.1],λ x hx=>?_⟩
  simp only[cond_false,up]
  by_cases e:x=t
  ·subst e;simp
  ·rw[if_neg e,if_neg λ e2=>e (hf x t hx ht e2)]
   exact h.2 x hx
theorem getD_map{f:Nat->Nat}{l:List Nat}{i:Nat}(hi:i<l.length):(l.map f).getD i 0=f (l.getD i 0):=by
 simp[List.getD_eq_getElem?_getD,List.getElem?_eq_getElem hi]
theorem Carry.run{n:Nat}(hn:n<=16){b w b' w' f:Nat->Nat}(hb:∀i,i<n->b i<n)(hw:∀i,i<n->w i<n)(hf:∀x y,x<n->y<n->f x=f y->x=y)(he:∀x,x<n->f (b x)=b' (f x)/\f (w x)=w' (f x)):∀(k i:Nat) (s s':List Nat×(Nat->Bool)),BInv n s->Carry n f s s'->Carry n f (brun b w k i s) (brun b' w' k i s')
 |0,_,_,_,_,h=>h
 |k+1,i,s,s',hI,h=>by
  simp only[brun]
  have hl:s'.1.length=s.1.length:=by rw[h.1,List.length_map]
  by_cases hi:i<s.1.length
  ·have hx:=hI.get hi
   rw[if_pos hi,if_pos (by omega)]
   rw[h.1,getD_map hi, <-(he _ hx).1, <-(he _ hx).2]
   refine Carry.run hn hb hw hf he k (i+1) _ _ (bmu_round hn hb hw hI hi).1 ?_
   exact(h.add hf (hb _ hx)).add hf (hw _ hx)
  ·rw[if_neg hi,if_neg (by omega)]
   exact h
theorem bfs_map{n M:Nat}(hn:n<=16)(hM:M<=16){b w b' w' f:Nat->Nat}(hb:∀i,i<n->b i<n)(hw:∀i,i<n->w i<n)(hb':∀i,i<M->b' i<M)(hw':∀i,i<M->w' i<M)(hf:∀x y,x<n->y<n->f x=f y->x=y)(hfM:∀x,x<n->f x<M)(he:∀x,x<n->f (b x)=b' (f x)/\f (w x)=w' (f x)){x:Nat}(hx:x<n):bfsF b' w' (f x)=(bfsF b w x).map f:=by
 have h1:=brun_more hn hb hw (bmu 0 (bx x)) (bmu 0 (bx x)+bmu 0 (bx (f x))) 0 (bx x) (bx_inv hx hn) (Nat.le_refl _) (by omega)
 have h2:=brun_more hM hb' hw' (bmu 0 (bx (f x))) (bmu 0 (bx x)+bmu 0 (bx (f x))) 0 (bx (f x)) (bx_inv (hfM x hx) hM) (Nat.le_refl _) (by omega)
 have h3:=Carry.run hn hb hw hf he (bmu 0 (bx x)+bmu 0 (bx (f x))) 0 (bx x) (bx (f x)) (bx_inv hx hn) ⟨rfl,λ z hz=>by
  simp only[bx,up]
  by_cases e:z=x
  ·subst e;simp
  ·rw[if_neg e,if_neg λ e2=>e (hf z x hz hx e2)]⟩
 unfold bfsF bres
 rw[h1,h2,h3.1]
end Go.Proofs.YthjnmlpibafbnaaGreat
namespace Go.Proofs.YthjnmlpibafbnaaGreat
open Go.RowKit DM
set_option linter.unusedVariables false
set_option linter.unusedSimpArgs false
def Ag(o:Nat->Int)(f:Nat->Nat):Prop:=∀z,0<=o z->o z=(f z:Int)
theorem MMid.go{n M:Nat}(hn:n<=16){b w b' w':Nat->Nat}{F:List Nat}{R:Option (Nat->Int)}{i x a:Nat}{S s:List Nat×(Nat->Bool)}{k:Nat}{o:Nat->Int}(h:MMid n M b w b' w' F R i x a S k s o){t c:Nat}(hp:(prs b w b' w' x a)[k]? =some (t,c))(ht:t<n)(hc:c<M):
  (R=none/\∀f:Nat->Nat,Ag o f->f t=c->False)\/∃s' o',MMid n M b w b' w' F R i x a S (k+1) s' o'/\s.1<+:s'.1/\(∀z,0<=o z->o' z=o z)/\o' t=(c:Int)/\∀f:Nat->Nat,Ag o f->f t=c->Ag o' f:=by
 obtain⟨h1,h2,h3⟩:=h.next hn hp ht hc
 by_cases e:o t<0
 ·refine .inr ⟨_,_,(h1 e).2,bst_pre t s,λ z hz=>up_ne _ _ (λ e2=>by subst e2;omega),up_same _ _ _,λ f ha hf z hz=>?_⟩
  by_cases ez:z=t
  ·subst ez;rw[up_same,hf]
  ·rw[up_ne _ _ ez] at hz ⊢;exact ha z hz
 ·by_cases e2:o t=(c:Int)
  ·exact .inr ⟨s,o,(h2 e e2).2,List.prefix_refl _,λ _ _=>rfl,e2,λ f ha _=>ha⟩
  ·exact .inl ⟨h3 e e2,λ f ha hf=>e2 (by rw[ha t (by omega),hf])⟩
theorem MInv.round{n M:Nat}(hn:n<=16){b w b' w':Nat->Nat}(hb:∀i,i<n->b i<n)(hw:∀i,i<n->w i<n)(hb':∀i,i<M->b' i<M)(hw':∀i,i<M->w' i<M){F:List Nat}{R:Option (Nat->Int)}{i:Nat}{s:List Nat×(Nat->Bool)}{o:Nat->Int}(h:MInv n M b w b' w' F R i s o)(hi:i<s.1.length){x a:Nat}(hx:s.1.getD i 0=x)(ha:o x=(a:Int)):
  (R=none/\∀f:Nat->Nat,Ag o f->f (b x)=b' a->f (w x)=w' a->False)\/∃s' o',MInv n M b w b' w' F R (i+1) s' o'/\bmu (i+1) s'<bmu i s/\s.1<+:s'.1/\(∀z,0<=o z->o' z=o z)/\o' (b x)=(b' a:Int)/\o' (w x)=(w' a:Int)/\∀f:Nat->Nat,Ag o f->f (b x)=b' a->f (w x)=w' a->Ag o' f:=by
 obtain⟨g1,g2,g3,g4⟩:=h.here hi
 have hmid:=h.mid hi
 have hdone:=λ s' o'=>MMid.done hn hb hw h hi (s:=s') (o:=o')
 rw[hx] at g2 g3 g4 hmid hdone
 rw[ha,Int.toNat_natCast] at hmid hdone
 have haM:a<M:=by omega
 rcases hmid.go hn (t:=b x) (c:=b' a) rfl (hb x g2) (hb' a haM) with⟨r,hno⟩|⟨s1,o1,m1,p1,e1,v1,f1⟩
 ·exact .inl ⟨r,λ f hf h1 _=>hno f hf h1⟩
 ·rcases m1.go hn (t:=w x) (c:=w' a) rfl (hw x g2) (hw' a haM) with⟨r,hno⟩|⟨s2,o2,m2,p2,e2,v2,f2⟩
  ·exact .inl ⟨r,λ f hf h1 h2=>hno f (f1 f hf h1) h2⟩
  ·obtain⟨d1,d2⟩:=hdone s2 o2 m2
   refine .inr ⟨s2,o2,d1,d2,p1.trans p2,λ z hz=>?_,?_,v2,λ f hf h1 h2=>f2 f (f1 f hf h1) h2⟩
   ·have:=e1 z hz
    rw[e2 z (by omega),this]
   ·rw[e2 _ (by omega),v1]
def EqAt(b w b' w':Nat->Nat)(o:Nat->Int)(x:Nat):Prop:=o (b x)=(b' (o x).toNat:Int)/\o (w x)=(w' (o x).toNat:Int)
def Eqv(n:Nat)(b w b' w':Nat->Nat)(f:Nat->Nat):Prop:=∀x,x<n->f (b x)=b' (f x)/\f (w x)=w' (f x)
theorem MInv.goes{n M:Nat}(hn:n<=16){b w b' w':Nat->Nat}(hb:∀i,i<n->b i<n)(hw:∀i,i<n->w i<n)(hb':∀i,i<M->b' i<M)(hw':∀i,i<M->w' i<M){F:List Nat}{R:Option (Nat->Int)}:∀(K i:Nat) (s:List Nat×(Nat->Bool)) (o:Nat->Int),bmu i s<=K->MInv n M b w b' w' F R i s o->(∀j,j<i->EqAt b w b' w' o (s.1.getD j 0))->
  (R=none/\∀f:Nat->Nat,Ag o f->Eqv n b w b' w' f->False)\/∃o',R=some o'/\(∀z,0<=o z->o' z=o z)/\(∀x∈F,0<=o' x/\o' x<(M:Int)/\EqAt b w b' w' o' x)/\∀f:Nat->Nat,Ag o f->Eqv n b w b' w' f->Ag o' f:=by
 intro K
 induction K with
 |zero=>
  intro i s o hK h he
  have hl:=h.le
  have hi:¬i<s.1.length:=by unfold bmu at hK;omega
  have hF:F=s.1:=by rw[<-h.run,bres_end hi]
  refine .inr ⟨o,h.done hi,λ _ _=>rfl,λ x hx=>?_,λ f hf _=>hf⟩
  rw[hF] at hx
  refine⟨(h.rel.met x).1 (h.rel.mem x hx),h.rel.hi x,?_⟩
  obtain⟨t,ht,rfl⟩:=mem_getD hx
  exact he t (by omega)
 |succ K ih=>
  intro i s o hK h he
  have hl:=h.le
  by_cases hi:i<s.1.length
  ·obtain⟨g1,g2,g3,g4⟩:=h.here hi
   obtain⟨a,ha⟩:∃a:Nat,o (s.1.getD i 0)=(a:Int):=⟨(o (s.1.getD i 0)).toNat,by omega⟩
   rcases h.round hn hb hw hb' hw' hi rfl ha with⟨r,hno⟩|⟨s',o',m1,m2,p1,e1,v1,v2,f1⟩
   ·refine .inl ⟨r,λ f hf hq=>?_⟩
    have h1:=hf _ g3
    have h2:f (s.1.getD i 0)=a:=by rw[ha] at h1;exact_mod_cast h1.symm
    have h3:=hq _ g2
    rw[h2] at h3
    exact hno f hf h3.1 h3.2
   ·have hnew:∀j,j<i+1->EqAt b w b' w' o' (s'.1.getD j 0):=by
     intro j hj
     rw[pre_getD p1 (by omega)]
     rcases Nat.lt_succ_iff_lt_or_eq.1 hj with hj|rfl
     ·have h1:=he j hj
      have h2:0<=o (s.1.getD j 0):=(h.rel.met _).1 (h.rel.mem _ (getD_mem (by omega)))
      have h3:0<=o (b (s.1.getD j 0)):=by rw[h1.1];omega
      have h4:0<=o (w (s.1.getD j 0)):=by rw[h1.2];omega
      exact⟨by rw[e1 _ h3,e1 _ h2];exact h1.1,by rw[e1 _ h4,e1 _ h2];exact h1.2⟩
     ·exact⟨by rw[v1,e1 _ g3,ha,Int.toNat_natCast],by rw[v2,e1 _ g3,ha,Int.toNat_natCast]⟩
    have hag:∀f:Nat->Nat,Ag o f->Eqv n b w b' w' f->Ag o' f:=λ f hf hq=>by
     have h1:=hf _ g3
     have h2:f (s.1.getD i 0)=a:=by rw[ha] at h1;exact_mod_cast h1.symm
     have h3:=hq _ g2
     rw[h2] at h3
     exact f1 f hf h3.1 h3.2
    rcases ih (i+1) s' o' (by omega) m1 hnew with⟨r,hno⟩|⟨o2,r,e2,h2,h3⟩
    ·exact .inl ⟨r,λ f hf hq=>hno f (hag f hf hq) hq⟩
    ·exact .inr ⟨o2,r,λ z hz=>by have:=e1 z hz;rw[e2 z (by omega),this],h2,λ f hf hq=>h3 f (hag f hf hq) hq⟩
  ·have hF:F=s.1:=by rw[<-h.run,bres_end hi]
   refine .inr ⟨o,h.done hi,λ _ _=>rfl,λ x hx=>?_,λ f hf _=>hf⟩
   rw[hF] at hx
   refine⟨(h.rel.met x).1 (h.rel.mem x hx),h.rel.hi x,?_⟩
   obtain⟨t,ht,rfl⟩:=mem_getD hx
   exact he t (by omega)
theorem mor_spec{N M:Nat}{b w b' w':Nat->Nat}(hD:Des N b w)(hb':∀i,i<M->b' i<M)(hw':∀i,i<M->w' i<M){y:Nat}(hy:y<M):
  (morF b w b' w' y=none/\∀f:Nat->Nat,f 0=y->Eqv N b w b' w' f->False)\/∃o,morF b w b' w' y=some o/\o 0=(y:Int)/\(∀x,x<N->0<=o x/\o x<(M:Int)/\EqAt b w b' w' o x)/\∀f:Nat->Nat,f 0=y->Eqv N b w b' w' f->∀x,x<N->o x=(f x:Int):=by
 have hst:=MInv.start (b:=b) (w:=w) (b':=b') (w':=w') (M:=M) hD.pos hD.le hy
 have hall:=(bfs_all hD (y:=0) hD.pos).2.2.2.1
 have hag:∀f:Nat->Nat,f 0=y->Ag (mo0 y) f:=λ f hf z hz=>by
  unfold mo0 at hz ⊢
  by_cases e:z=0
  ·subst e;rw[if_pos rfl,hf]
  ·rw[if_neg e] at hz;omega
 rcases MInv.goes hD.le hD.pb.lt hD.pw.lt hb' hw' _ 0 _ _ (Nat.le_refl _) hst (λ j hj=>absurd hj (Nat.not_lt_zero _)) with⟨r,hno⟩|⟨o,r,e,h1,h2⟩
 ·exact .inl ⟨r,λ f hf hq=>hno f (hag f hf) hq⟩
 ·refine .inr ⟨o,r,?_,λ x hx=>h1 x (hall x hx),λ f hf hq x hx=>h2 f (hag f hf) hq x (h1 x (hall x hx)).1⟩
  rw[e 0 (by unfold mo0;rw[if_pos rfl];omega)]
  unfold mo0;rw[if_pos rfl]
theorem renTo_out{N:Nat}{p b:Nat->Nat}(hp:∀i,i<N->p i<N):∀k,k<=N->∀j,N<=j->renTo p b k j=0
 |0,_,_,_=>rfl
 |k+1,hk,j,hj=>by
  simp only[renTo,up]
  have:=hp k (by omega)
  rw[if_neg (by omega)]
  exact renTo_out hp k (by omega) j hj
theorem eq16_of{f g:Nat->Nat}(h:∀j,f j=g j):∀n i,eq16 f g i n=true
 |0,_=>rfl
 |n+1,i=>by simp only[eq16,h i,decide_true,Bool.true_and];exact eq16_of h n (i+1)
theorem inj_of_onto{n:Nat}{f:Nat->Nat}(h:∀z,z<n->∃x,x<n/\f x=z):∀x y,x<n->y<n->f x=f y->x=y:=by
 intro x y hx hy e
 refine Classical.byContradiction λ hne=>?_
 have hl:((List.range n).erase y).length=n-1:=by rw[List.length_erase_of_mem (List.mem_range.2 hy),List.length_range]
 have:=nodup_sub (List.range n) (((List.range n).erase y).map f) List.nodup_range λ z hz=>by
  obtain⟨u,hu,rfl⟩:=h z (List.mem_range.1 hz)
  by_cases eu:u=y
  ·subst eu
   rw[<-e]
   exact List.mem_map.2 ⟨x,(List.mem_erase_of_ne hne).2 (List.mem_range.2 hx),rfl⟩
  ·exact List.mem_map.2 ⟨u,(List.mem_erase_of_ne eu).2 (List.mem_range.2 hu),rfl⟩
 rw[List.length_map,List.length_range,hl] at this
 omega
def isoB(N:Nat)(b w b' w':Nat->Nat)(y:Nat):Bool:=eqDs N (renTo (nameF b' w' y) b' N) (renTo (nameF b' w' y) w' N) N (renTo (nameF b w 0) b N) (renTo (nameF b w 0) w N)
def isoP(N:Nat)(b w b' w':Nat->Nat)(y:Nat):Nat->Nat:=fillF (λ i=>backTo (nameF b' w' y) N (nameF b w 0 i)) N
theorem iso_step{N:Nat}{b w b' w':Nat->Nat}(hD:Des N b w)(hD':Des N b' w'){y:Nat}(hy:y<N):
  (morF b w b' w' y=none/\isoB N b w b' w' y=false)\/∃o,morF b w b' w' y=some o/\isoB N b w b' w' y=true/\(∀t,t<N->0<=o t/\o t<(N:Int))/\isoP N b w b' w' y=fillF (λ t=>(o t).toNat) N:=by
 have h00:0<N:=hD.pos
 have hN:=hD.le
 have hn0:=name_perm hD h00
 have hm:=name_perm hD' hy
 obtain⟨a1,a2,a3,a4,a5⟩:=bfs_all hD h00
 obtain⟨c1,c2,c3,c4,c5⟩:=bfs_all hD' hy
 have back_of:∀x z,x<N->z<N->nameF b' w' y z=nameF b w 0 x->backTo (nameF b' w' y) N (nameF b w 0 x)=z:=λ x z hx hz e=>by
  rw[<-e];exact backTo_at hm N (Nat.le_refl _) z hz
 rcases mor_spec hD hD'.pb.lt hD'.pw.lt hy with⟨r,hno⟩|⟨o,r,h0,h1,h2⟩
 ·refine .inl ⟨r,?_⟩
  cases hB:isoB N b w b' w' y with
  |false=>rfl
  |true=>
   exfalso
   unfold isoB eqDs at hB
   simp only[Bool.and_eq_true] at hB
   obtain⟨_,e1,e2,_⟩:=hB
   have key:∀(v v':Nat->Nat),(∀i,i<N->v i<N)->(∀i,i<N->v' i<N)->eq16 (renTo (nameF b' w' y) v' N) (renTo (nameF b w 0) v N) 0 16=true->∀i,i<N->(bfsF b' w' y).getD (nameF b w 0 (v i)) 0=v' ((bfsF b' w' y).getD (nameF b w 0 i) 0):=by
    intro v v' hv hv' he i hi
    have g1:=name_get hD h00 hi
    have g2:(bfsF b' w' y).getD (nameF b w 0 i) 0<N:=c2 _ (getD_mem (by omega))
    have g3:=name_at hD' hy g1.1
    have g4:=eq16_get he (nameF b w 0 i) (by omega)
    rw[Nat.zero_add,renTo_at hn0 v N (Nat.le_refl _) i hi] at g4
    have g5:=renTo_at hm v' N (Nat.le_refl _) _ g2
    rw[g3,g4] at g5
    rw[g5]
    exact(name_get hD' hy (hv' _ g2)).2
   refine hno (λ i=>(bfsF b' w' y).getD (nameF b w 0 i) 0) ?_ λ i hi=>⟨key b b' hD.pb.lt hD'.pb.lt e1 i hi,key w w' hD.pw.lt hD'.pw.lt e2 i hi⟩
   have:=name_at hD h00 h00
   rw[a5] at this
   show(bfsF b' w' y).getD (nameF b w 0 0) 0=y
   rw[this];exact c5
 ·have hf0:(o 0).toNat=y:=by rw[h0];exact Int.toNat_natCast _
  have hfM:∀x,x<N->(o x).toNat<N:=λ x hx=>by have:=h1 x hx;omega
  have hq:∀x,x<N->(o (b x)).toNat=b' (o x).toNat/\(o (w x)).toNat=w' (o x).toNat:=λ x hx=>by
   have:=(h1 x hx).2.2
   rw[this.1,this.2];exact⟨Int.toNat_natCast _,Int.toNat_natCast _⟩
  have honto:∀z,z<N->∃x,x<N/\(o x).toNat=z:=by
   have hmin:∀S:Nat->Prop,S y->Cl N b' w' S->∀z∈bfsF b' w' y,S z:=(bfs_q hN hD'.pb.lt hD'.pw.lt hy).1.min
   intro z hz
   refine hmin (λ z=>∃x,x<N/\(o x).toNat=z) ⟨0,h00,hf0⟩ ?_ z (c4 z hz)
   rintro z hz ⟨x,hx,rfl⟩
   exact⟨⟨b x,hD.pb.lt x hx,(hq x hx).1⟩,⟨w x,hD.pw.lt x hx,(hq x hx).2⟩⟩
  have hinj:=inj_of_onto honto
  have hG:=bfs_map hN hN hD.pb.lt hD.pw.lt hD'.pb.lt hD'.pw.lt (f:=λ x=>(o x).toNat) hinj hfM hq h00
  simp only[hf0] at hG
  have hnm:∀i,i<N->nameF b' w' y (o i).toNat=nameF b w 0 i:=λ i hi=>by
   have g1:=name_get hD h00 hi
   have g2:(bfsF b' w' y).getD (nameF b w 0 i) 0=(o i).toNat:=by
    rw[hG,getD_map (f:=λ x=>(o x).toNat) (by omega),g1.2]
   have g3:=name_at hD' hy g1.1
   rwa [g2] at g3
  refine .inr ⟨o,r,?_,λ t ht=>⟨(h1 t ht).1,(h1 t ht).2.1⟩,?_⟩
  ·have key:∀(v v':Nat->Nat),(∀i,i<N->v i<N)->(∀i,i<N->(o (v i)).toNat=v' (o i).toNat)->∀j,renTo (nameF b' w' y) v' N j=renTo (nameF b w 0) v N j:=by
    intro v v' hv he j
    by_cases hj:j<N
    ·have g1:=name_at hD h00 hj
     have g0:(bfsF b w 0).getD j 0<N:=a2 _ (getD_mem (by omega))
     have g2:=renTo_at hn0 v N (Nat.le_refl _) _ g0
     have g3:=renTo_at hm v' N (Nat.le_refl _) _ (hfM _ g0)
     rw[hnm _ g0,g1, <-he _ g0,hnm _ (hv _ g0)] at g3
     rw[g1] at g2
     rw[g3,g2]
    ·rw[renTo_out hm.lt N (Nat.le_refl _) j (by omega),renTo_out hn0.lt N (Nat.le_refl _) j (by omega)]
   unfold isoB eqDs
   rw[eq16_of (key b b' hD.pb.lt λ i hi=>(hq i hi).1),eq16_of (key w w' hD.pw.lt λ i hi=>(hq i hi).2)]
   simp
  ·unfold isoP
   funext i
   unfold fillF
   by_cases hi:i<N
   ·rw[if_pos hi,if_pos hi]
    exact back_of i _ hi (hfM i hi) (hnm i hi)
   ·rw[if_neg hi,if_neg hi]
def isoL(N:Nat)(b w b' w':Nat->Nat):Nat->List (Nat->Nat)
 |0=>[]
 |k+1=>bif isoB N b w b' w' k then isoL N b w b' w' k++[isoP N b w b' w' k] else isoL N b w b' w' k
end Go.Proofs.YthjnmlpibafbnaaGreat
