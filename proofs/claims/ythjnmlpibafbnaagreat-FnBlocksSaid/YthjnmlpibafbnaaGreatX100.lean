import Derived.Test.YthjnmlpibafbnaaGreatL33
import Derived.Test.YthjnmlpibafbnaaGreatL17
import Derived.Test.YthjnmlpibafbnaaGreatL55
import Derived.Test.YthjnmlpibafbnaaGreatX97
import Derived.Test.YthjnmlpibafbnaaGreatD31
import Derived.Test.YthjnmlpibafbnaaGreatX3
import Derived.Test.YthjnmlpibafbnaaGreatX6
import Derived.Test.YthjnmlpibafbnaaGreatX83
import Derived.Test.YthjnmlpibafbnaaGreatL35
namespace Go.Proofs.YthjnmlpibafbnaaGreat
open Go.RowKit DM
set_option linter.unusedVariables false
set_option linter.unusedSimpArgs false
structure WQ(N:Nat)(b w:Nat->Nat)(B x:Nat)(wh:Nat->Nat)(l:List Nat):Prop where
 orb:∀S∈l,Orb N [b,w] B S
 idx:∀y j,wh y=j+1↔j<l.length/\(l.getD j 0).testBit y=true
 cov:∀y,y<x->0<wh y
 len:l.length<=x
 eq:Blk N [b,w] B->wh=(whTo (blkE N [b,w] B) x).1/\l.length=(whTo (blkE N [b,w] B) x).2
theorem WQ.start(N:Nat)(b w:Nat->Nat)(B:Nat):WQ N b w B 0 (λ _=>0) [] where
 orb S h:=absurd h List.not_mem_nil
 idx y j:=⟨λ h=>by omega,λ h=>absurd h.1 (Nat.not_lt_zero _)⟩
 cov y h:=absurd h (Nat.not_lt_zero _)
 len:=Nat.le_refl _
 eq _:=⟨rfl,rfl⟩
theorem WQ.old{N:Nat}{b w:Nat->Nat}{B x:Nat}{wh:Nat->Nat}{l:List Nat}(h:WQ N b w B x wh l)(hx:0<wh x):WQ N b w B (x+1) wh l where
 orb:=h.orb
 idx:=h.idx
 cov y hy:=by
  by_cases e:y=x
  ·subst e;exact hx
  ·exact h.cov y (by omega)
 len:=by have:=h.len;omega
 eq hb:=by
  obtain⟨h1,h2⟩:=h.eq hb
  rw[wh_old (by rw[<-h1];exact hx)]
  exact⟨h1,h2⟩
theorem WQ.not{N:Nat}{b w:Nat->Nat}{B x:Nat}{wh:Nat->Nat}{l:List Nat}(h:WQ N b w B x wh l)(hx:¬0<wh x){S y:Nat}(hS:Orb N [b,w] B S)(hxS:S.testBit x=true)(hy:S.testBit y=true)(hw:0<wh y):¬Blk N [b,w] B:=λ hb=>hx (by
 have e:wh y=(wh y-1)+1:=by omega
 obtain⟨h1,h2⟩:=(h.idx y (wh y-1)).1 e
 have h3:=hb _ _ (h.orb _ (getD_mem h1)) hS ⟨y,h2,hy⟩
 rw[(h.idx x (wh y-1)).2 ⟨h1,by rw[h3];exact hxS⟩]
 omega)
theorem WQ.new{N:Nat}{b w:Nat->Nat}{B x:Nat}{wh:Nat->Nat}{l:List Nat}(h:WQ N b w B x wh l)(hx:¬0<wh x){S:Nat}(hS:Orb N [b,w] B S)(hxS:S.testBit x=true)(h0:∀y,S.testBit y=true->wh y=0):WQ N b w B (x+1) (λ y=>if S.testBit y=true then l.length+1 else wh y) (l++[S]) where
 orb T hT:=by
  rcases List.mem_append.1 hT with hT|hT
  ·exact h.orb T hT
  ·rw[List.mem_singleton.1 hT];exact hS
 idx y j:=by
  simp only[List.length_append,List.length_singleton]
  by_cases hj:j<l.length
  ·rw[getD_snoc_lt l S 0 hj]
   by_cases hy:S.testBit y=true
   ·rw[if_pos hy]
    constructor
    ·intro e;omega
    ·rintro⟨_,h2⟩
     have:=(h.idx y j).2 ⟨hj,h2⟩
     rw[h0 y hy] at this;omega
   ·rw[if_neg hy,h.idx]
    exact⟨λ h1=>⟨by omega,h1.2⟩,λ h1=>⟨hj,h1.2⟩⟩
  ·by_cases e:j=l.length
   ·subst e
    rw[getD_snoc]
    by_cases hy:S.testBit y=true
    ·rw[if_pos hy];exact⟨λ _=>⟨by omega,hy⟩,λ _=>rfl⟩
    ·rw[if_neg hy]
     constructor
     ·intro e;exact absurd ((h.idx y _).1 e).1 (by omega)
     ·exact λ h1=>absurd h1.2 hy
   ·constructor
    ·intro h1
     split at h1
     ·omega
     ·have:=((h.idx y j).1 h1).1;omega
    ·exact λ h1=>by omega
 cov y hy:=by
  show 0<if S.testBit y=true then l.length+1 else wh y
  split
  ·omega
  ·rename_i hn
   by_cases e:y=x
   ·subst e;exact absurd hxS hn
   ·exact h.cov y (by omega)
 len:=by have:=h.len;simp only[List.length_append,List.length_singleton];omega
 eq hb:=by
  obtain⟨h1,h2⟩:=h.eq hb
  rw[wh_new (by rw[<-h1];exact hx)]
  simp only[List.length_append,List.length_singleton]
  refine⟨?_,by omega⟩
  funext y
  rw[blkE_blk hb hS hxS, <-h1, <-h2]
def hdF(N:Nat)(l:List Nat)(j:Nat):Nat:=(bitsL (l.getD j 0) N).getD 0 0
def tBF(N:Nat)(wh b:Nat->Nat)(l:List Nat)(j:Nat):Nat:=wh (b (hdF N l j))-1
theorem WQ.head{N:Nat}{b w:Nat->Nat}{B x:Nat}{wh:Nat->Nat}{l:List Nat}(h:WQ N b w B x wh l)(hL:∀g∈[b,w],Np N g)(hB:∃x,x<N/\B.testBit x=true){j:Nat}(hj:j<l.length):0<(bitsL (l.getD j 0) N).length/\hdF N l j<N/\(l.getD j 0).testBit (hdF N l j)=true:=by
 have hO:=h.orb _ (getD_mem hj)
 obtain⟨y,hy⟩:=hO.some hL hB
 have hm:y∈bitsL (l.getD j 0) N:=bits_mem.2 ⟨hO.low hL y hy,hy⟩
 have hp:0<(bitsL (l.getD j 0) N).length:=List.length_pos_of_mem hm
 have:=bits_mem.1 (getD_mem (l:=bitsL (l.getD j 0) N) (t:=0) hp)
 exact⟨hp,this.1,this.2⟩
theorem WQ.done{N:Nat}(hN:N<=16){b w:Nat->Nat}{B:Nat}{wh:Nat->Nat}{l:List Nat}(h:WQ N b w B N wh l)(hL:∀g∈[b,w],Np N g)(hBl:Low N B)(hB:∃x,x<N/\B.testBit x=true)
  (hc:∀j,j<l.length->∀y,(l.getD j 0).testBit y=true->wh (b y)=wh (b (hdF N l j))/\wh (w y)=wh (w (hdF N l j))):Blk N [b,w] B/\l.length=qM N [b,w] B/\fillF (tBF N wh b l) l.length=qTo (qF N [b,w] B) b N/\fillF (tBF N wh w l) l.length=qTo (qF N [b,w] B) w N:=by
 have hlt:∀p∈[b,w],∀y,y<N->p y<N:=λ p hp=>(hL p hp).perm.lt
 have hin:∀y,y<N->wh y-1<l.length/\(l.getD (wh y-1) 0).testBit y=true:=λ y hy=>(h.idx y (wh y-1)).1 (by have:=h.cov y hy;omega)
 have hcp:∀p∈[b,w],∀j,j<l.length->∀y,(l.getD j 0).testBit y=true->wh (p y)=wh (p (hdF N l j)):=λ p hp j hj y hy=>by
  rcases List.mem_cons.1 hp with rfl|hp
  ·exact(hc j hj y hy).1
  ·rw[List.mem_singleton.1 hp];exact(hc j hj y hy).2
 have hblk:=(blk_cover hN hL hBl hB (P:=λ S=>S∈l) h.orb (by
  obtain⟨x,hx,_⟩:=hB
  exact⟨_,getD_mem (hin x hx).1⟩) (λ S T hS hT ⟨y,h1,h2⟩=>by
  obtain⟨i,hi,rfl⟩:=mem_getD hS
  obtain⟨j,hj,rfl⟩:=mem_getD hT
  have e1:=(h.idx y i).2 ⟨hi,h1⟩
  have e2:=(h.idx y j).2 ⟨hj,h2⟩
  have:i=j:=by omega
  rw[this]) (λ S hS p hp=>by
  obtain⟨j,hj,rfl⟩:=mem_getD hS
  have hh:=(h.head hL hB hj).2
  have h1:=hin _ (hlt p hp _ hh.1)
  refine⟨_,getD_mem h1.1,λ y hy=>?_⟩
  obtain⟨z,h2,h3,rfl⟩:=(imgTo_bit N).1 hy
  rw[<-hcp p hp j hj z h3]
  exact(hin _ (hlt p hp _ h2)).2)).1
 obtain⟨e1,e2⟩:=h.eq hblk
 have eF:∀y,qF N [b,w] B y=wh y-1:=λ y=>by unfold qF;rw[<-e1]
 have key:∀p∈[b,w],fillF (tBF N wh p l) l.length=qTo (qF N [b,w] B) p N:=λ p hp=>by
  have hv:=qTo_val (F:=qF N [b,w] B) (b:=p) (tB:=tBF N wh p l) N λ y hy=>by
   obtain⟨h1,h2⟩:=hin y hy
   rw[eF,eF]
   unfold tBF
   rw[hcp p hp _ h1 y h2]
  funext j
  rcases hv j with⟨h1,h2⟩|⟨⟨y,hy,h1⟩,h2⟩
  ·rw[h2]
   unfold fillF
   split
   ·rename_i hj
    obtain⟨_,h3,h4⟩:=h.head hL hB hj
    exact absurd (by rw[eF,(h.idx _ j).2 ⟨hj,h4⟩];omega) (h1 _ h3)
   ·rfl
  ·rw[h2]
   unfold fillF
   rw[if_pos (by rw[<-h1,eF];exact(hin y hy).1)]
 exact⟨hblk,e2,key b (.head _),key w (.tail _ (.head _))⟩
theorem WQ.bad{N:Nat}{b w:Nat->Nat}{B:Nat}{wh:Nat->Nat}{l:List Nat}(h:WQ N b w B N wh l)(hL:∀g∈[b,w],Np N g)(hB:∃x,x<N/\B.testBit x=true){p:Nat->Nat}(hp:p∈[b,w]){j:Nat}(hj:j<l.length){y:Nat}(hy:(l.getD j 0).testBit y=true)(hne:wh (p y)≠wh (p (hdF N l j))):¬Blk N [b,w] B:=λ hb=>hne (by
 have hlt:=(hL p hp).perm.lt
 have hO:=h.orb _ (getD_mem hj)
 obtain⟨_,h3,h4⟩:=h.head hL hB hj
 have hy':y<N:=hO.low hL y hy
 have hO2:=hO.step hL hp
 have c1:=h.cov _ (hlt y hy')
 obtain⟨h1,h2⟩:=(h.idx (p y) (wh (p y)-1)).1 (by omega)
 have e:=hb _ _ (h.orb _ (getD_mem h1)) hO2 ⟨p y,h2,(imgTo_bit N).2 ⟨y,hy',hy,rfl⟩⟩
 have h5:(l.getD (wh (p y)-1) 0).testBit (p (hdF N l j))=true:=by rw[e];exact(imgTo_bit N).2 ⟨_,h3,h4,rfl⟩
 have:=(h.idx _ _).2 ⟨h1,h5⟩
 omega)
def whS(own:List Nat)(n i:Nat)(wh:Nat->Nat)(y:Nat):Nat:=if y∈own.take i then n+1 else wh y
theorem whS_zero(own:List Nat)(n:Nat)(wh:Nat->Nat):whS own n 0 wh=wh:=by funext y;simp[whS]
theorem whS_step{own:List Nat}{n i:Nat}{wh:Nat->Nat}(hi:i<own.length):whS own n (i+1) wh=up (whS own n i wh) (own.getD i 0) (n+1):=by
 funext y
 show(if y∈own.take (i+1) then n+1 else wh y)=if y=own.getD i 0 then n+1 else if y∈own.take i then n+1 else wh y
 by_cases e:y=own.getD i 0
 ·rw[if_pos ((mem_take_succ hi).2 (.inr e)),if_pos e]
 ·rw[if_neg e]
  have:y∈own.take (i+1)↔y∈own.take i:=by rw[mem_take_succ hi];exact or_iff_left e
  by_cases h:y∈own.take i
  ·rw[if_pos (this.2 h),if_pos h]
  ·rw[if_neg λ h2=>h (this.1 h2),if_neg h]
def setsZ(N:Nat)(l:List Nat)(i:Nat):Dat:=.ow 0 (bitsL (l.getD i 0) N).length 1 (numsF (bitsL (l.getD i 0) N))
theorem ap_setsZ(N:Nat)(l:List Nat)(S:Nat)(g:Nat->Dat)(j:Nat)(hj:j<l.length+1):setsZ N (l++[S]) j=fup (apF l.length (setsZ N l) 0 g) l.length (.ow 0 (bitsL S N).length 1 (numsF (bitsL S N))) j:=by
 by_cases h:j=l.length
 ·subst h;rw[fup_same];unfold setsZ;rw[getD_snoc]
 ·rw[fup_ne _ _ h]
  unfold setsZ apF
  rw[getD_snoc_lt l S 0 (by omega),blt_true (by omega:j<l.length)]
  rfl
end Go.Proofs.YthjnmlpibafbnaaGreat

namespace Go.Proofs.YthjnmlpibafbnaaGreat
open Go.RowKit DM
set_option linter.unusedSimpArgs false
set_option linter.unusedVariables false
set_option maxRecDepth 100000
set_option maxHeartbeats 1000000
noncomputable def qsG (N:Nat)(b w:Nat->Nat)(B:Nat):Dat:=@ite _ (Blk N [b,w] B) (Classical.propDecidable _) (t2 (ds_ (qM N [b,w] B) (qTo (qF N [b,w] B) b N) (qTo (qF N [b,w] B) w N)) (.b true)) (t2 ds0 (.b false))
theorem qsG_yes{N:Nat}{b w:Nat->Nat}{B:Nat}(h:Blk N [b,w] B):qsG N b w B=t2 (ds_ (qM N [b,w] B) (qTo (qF N [b,w] B) b N) (qTo (qF N [b,w] B) w N)) (.b true):=@if_pos _ (Classical.propDecidable _) h _ _ _
theorem qsG_no{N:Nat}{b w:Nat->Nat}{B:Nat}(h:¬Blk N [b,w] B):qsG N b w B=t2 ds0 (.b false):=@if_neg _ (Classical.propDecidable _) h _ _ _
set_option maxHeartbeats 8000000 in
theorem l03Quotient_fn(N:Nat)(b w:Nat->Nat)(hD:Des N b w)(hL:∀p∈[b,w],Np N p)(m:Nat)(gn:Nat->Nat)(hm0:0<m)(hm:m<=1048576)(hgn:∀t,t<m->gn t<N):FnR Tryz.prog 43 [ds_ N b w,.sl 0 0 m 1] [.ro m 1 (nmF gn)] (qsG N b w (mskTo gn m)):=by
 have hN:=hD.le
 have hb:=hD.pb.lt
 have hw:=hD.pw.lt
 have hlow:Low N (mskTo gn m):=λ x hx=>by
  obtain⟨t,ht,rfl⟩:=msk_bit.1 hx
  exact hgn t ht
 have hne:∃x,x<N/\(mskTo gn m).testBit x=true:=⟨gn 0,hgn 0 hm0,msk_bit.2 ⟨0,hm0,rfl⟩⟩
 have himg:=l03Image_fn N b w hD hL m gn hm0 hm hgn
 generalize mskTo gn m=B at hlow hne himg ⊢
 generalize hR:qsG N b w B=R
 refine FnS.into T tok Tryz.func43 (by rfl) rfl rfl rfl (by simp) ?_
 refine rS ?_
 refine rS ?_
 refine WP.seq ?_
 refine rS ?_
 refine WP.block ?_
 refine WP.loopH (⟨λ s:Nat×(Nat->Nat)×List Nat=>s.1<=N/\WQ N b w B s.1 s.2.1 s.2.2,λ s=>[(1,.sl 0 0 m 1),(2,.p 1 [] 0),(4,.p 2 [] 0),(6,.p 3 [] 0),(7,.sl 4 0 s.2.2.length 1),(8,.i .i64 (s.1:Int))],λ s=>[.ro m 1 (nmF gn),.var (ds_ N b w),.var (ds_ 0 (λ _=>0) (λ _=>0)),.var (.ar 16 1 (nmF s.2.1)),.row 30 s.2.2.length 1 (setsZ N s.2.2)],λ s=>N-s.1⟩) ((0,(λ _=>0),[])) (⟨Nat.zero_le _,WQ.start N b w B⟩) (gC [0,1,2,4,3] (by repeat (first|exact trivial|(refine lC ?_ ?_;first|exact byLz|(first|exact le_row (Nat.le_refl _) (λ j hj=>absurd hj (Nat.not_lt_zero _))|exact le_var rfl)|exact byLeq)))) ?_
 rintro⟨x,wh,l⟩ ⟨hx,hI⟩
 simp only at hx hI
 dsimp only[Hd.at]
 have hlen:=hI.len
 refine WP.seq ?_
 refine rS ?_
 refine cI (λ hc=>?_) λ hc=>?_
 ·have hx:x<N:=by have:=of_decide_eq_true hc;omega
  clear hc
  refine WP.seq (WP.block ?_)
  refine WP.seq ?_
  refine rS ?_
  refine cS (λ h=>?_) λ h=>?_
  ·have h:=of_decide_eq_true h
   have hwx:0<wh x:=by have h:((wh x:Nat):Int)>0:=h;omega
   refine WP.exit ?_
   refine rE ?_
   refine Again.next ((x+1,wh,l)) (gC [0,1,2,3,4] (leC (leC (leC (leC (leC leZ)))))) (⟨hx,hI.old hwx⟩) (by dsimp only;omega)
  have h:=of_decide_eq_false h
  have hwx:¬0<wh x:=by have h:¬((wh x:Nat):Int)>0:=h;omega
  clear h
  refine WP.rw ?_
  refine rU 3 ?_
  refine WPL.callE [0] (himg x hx) (leC leZ) (by rfl) (by rfl) (by exact byArgs) (by rfl) (by rfl) (by simp[Sc,sc_pl,sc_ds]) ?_
  rintro _ _ ⟨S,rfl,rfl,hO,hxS⟩
  refine⟨by exact byAllc,.sl 5 0 (bitsL S N).length 1,rfl,sc_sl rfl,?_⟩
  refine WPL.mem (by rfl) ?_
  refine rF ?_
  have hSlow:=hO.low hL
  have hol:=bits_len S N
  have hmem:∀y,y∈bitsL S N↔S.testBit y=true:=λ y=>⟨λ h=>(bits_mem.1 h).2,λ h=>bits_mem.2 ⟨hSlow y h,h⟩⟩
  have hap:=ap_setsZ N l S
  have hnd:(bitsL S N).Nodup:=List.nodup_range.filter _
  have hfull:whS (bitsL S N) l.length (bitsL S N).length wh=λ y=>if S.testBit y=true then l.length+1 else wh y:=by
   funext y
   unfold whS
   rw[List.take_length]
   by_cases h:S.testBit y=true
   ·rw[if_pos ((hmem y).2 h),if_pos h]
   ·rw[if_neg λ h2=>h ((hmem y).1 h2),if_neg h]
  have hltN:∀y,y∈bitsL S N->y<N:=λ y hy=>(bits_mem.1 hy).1
  generalize bitsL S N=own at hol hmem hap hnd hfull hltN ⊢
  refine rS ?_
  refine WP.ghost (Ghost.foldLast 7 5 (by rfl) rfl (by rfl) (by rfl) (Nat.le_refl _) (by exact λ _ _=>trivial)) ?_
  refine rS ?_
  refine WP.block ?_
  refine WP.loopH (⟨λ i:Nat=>i<=own.length/\∀j,j<i->wh (own.getD j 0)=0,λ i=>[(1,.sl 0 0 m 1),(2,.p 1 [] 0),(4,.p 2 [] 0),(6,.p 3 [] 0),(7,.sl 4 0 (l.length+1) 1),(8,.i .i64 (x:Int)),(9,.sl 5 0 own.length 1),(10,.i .i64 (i:Int))],λ i=>[.ro m 1 (nmF gn),.var (ds_ N b w),.var (ds_ 0 (λ _=>0) (λ _=>0)),.var (.ar 16 1 (nmF (whS own l.length i wh))),.row 30 (l.length+1) 1 (setsZ N (l++[S])),.ro own.length 1 (numsF own)],λ i=>own.length-i⟩) (0) (⟨Nat.zero_le _,λ j hj=>absurd hj (Nat.not_lt_zero _)⟩) (gC [0,1,2,3,7,5] (by repeat (first|exact trivial|(refine lC ?_ ?_;first|exact byLz|(first|exact le_row (Nat.le_refl _) (λ j hj=>hap _ j hj)|exact le_var (by rw[whS_zero]))|exact byLeq)))) ?_
  rintro i ⟨hi,hz⟩
  dsimp only[Hd.at]
  refine WP.seq ?_
  refine rS ?_
  refine cI (λ hc=>?_) λ hc=>?_
  ·have hi:i<own.length:=by have:=of_decide_eq_true hc;omega
   clear hc
   have ei:addrAt 0 ((i:Nat):Int).toNat=i:=by simp[addrAt0]
   have hym:=getD_mem hi
   have hy16:own.getD i 0<16:=by have:=hltN _ hym;omega
   have hy16':own.getD (addrAt 0 ((i:Nat):Int).toNat) 0<16:=by rw[ei];exact hy16
   have hst:=whS_step (n:=l.length) (wh:=wh) hi
   have hnot:own.getD i 0∉own.take i:=λ hc=>by
    obtain⟨t,ht,e⟩:=mem_getD hc
    have ht':t<i:=by rw[List.length_take] at ht;omega
    have e2:(own.take i).getD t 0=own.getD t 0:=by simp[List.getD_eq_getElem?_getD,List.getElem?_take,ht']
    rw[e2] at e
    exact absurd (nodup_getD hnd (by omega) hi e) (by omega)
   have hwy:whS own l.length i wh (own.getD i 0)=wh (own.getD i 0):=by unfold whS;rw[if_neg hnot]
   refine WP.seq (WP.block ?_)
   refine WP.seq ?_
   refine rS ?_
   rw[ei]
   refine cS (λ h=>?_) λ h=>?_
   ·have h:=of_decide_eq_true h
    have h:((whS own l.length i wh (own.getD i 0):Nat):Int)>0:=h
    rw[hwy] at h
    rw[qsG_no (hI.not hwx hO hxS ((hmem _).1 hym) (by omega))] at hR
    refine rS ?_
    rw[<-hR]
    exact WP.ret (Ends.val (by rfl) (by exact byObl) (by rfl) (by exact sc_t2 (sc_ds _ _ _ _) trivial))
   ·have h:=of_decide_eq_false h
    have h:¬((whS own l.length i wh (own.getD i 0):Nat):Int)>0:=h
    rw[hwy] at h
    refine rE ?_
    rw[ei]
    refine rE ?_
    refine Again.next (i+1) (gC [0,1,2,3,4,5] (by repeat (first|exact trivial|(refine lC ?_ ?_;first|exact byLz|(exact le_var (by rw[hst,nm_up];rfl))|exact byLeq)))) (⟨hi,λ j hj=>by
     by_cases e:j=i
     ·subst e;omega
     ·exact hz j (by omega)⟩) (by dsimp only;omega)
  ·have hi:i=own.length:=by have:=of_decide_eq_false hc;omega
   subst hi
   rw[hfull]
   have hI2:=hI.new hwx hO hxS λ y hy=>by
    obtain⟨j,hj,rfl⟩:=mem_getD ((hmem y).2 hy)
    exact hz j hj
   refine rE ?_
   refine Again.next ((x+1,(λ y=>if S.testBit y=true then l.length+1 else wh y),l++[S])) (gC [0,1,2,3,4] (by repeat (first|exact trivial|(refine lC ?_ ?_;first|exact byLz|(exact le_row (by simp) (λ j hj=>rfl))|exact byLeq)))) (⟨hx,hI2⟩) (by dsimp only;omega)
 ·have hx:x=N:=by have:=of_decide_eq_false hc;omega
  subst hx
  have hhd:∀j,j<l.length->0<(bitsL (l.getD j 0) x).length/\hdF x l j<x/\(l.getD j 0).testBit (hdF x l j)=true:=λ j hj=>hI.head hL hne hj
  have hle1:∀y,wh y<=16:=λ y=>by
   cases e:wh y with
   |zero=>omega
   |succ j=>have:=((hI.idx y j).1 e).1;omega
  refine rS ?_
  refine WP.seq ?_
  refine rS ?_
  refine WP.block ?_
  refine WP.loopH (⟨λ k:Nat=>k<=l.length/\∀j,j<k->∀y,(l.getD j 0).testBit y=true->wh (b y)=wh (b (hdF x l j))/\wh (w y)=wh (w (hdF x l j)),λ k=>[(2,.p 1 [] 0),(4,.p 2 [] 0),(6,.p 3 [] 0),(7,.sl 4 0 l.length 1),(11,.p 5 [] 0),(12,.i .i64 (k:Int))],λ k=>[.ro m 1 (nmF gn),.var (ds_ x b w),.var (ds_ 0 (λ _=>0) (λ _=>0)),.var (.ar 16 1 (nmF wh)),.ro l.length 1 (setsZ x l),.var (ds_ l.length (fillF (tBF x wh b l) k) (fillF (tBF x wh w l) k))],λ k=>l.length-k⟩) (0) (⟨Nat.zero_le _,λ j hj=>absurd hj (Nat.not_lt_zero _)⟩) (gC [0,1,2,3,4,5] (by repeat (first|exact trivial|(refine lC ?_ ?_;first|exact byLz|(first|exact le_var (by rw[fill_zero,fill_zero];exact(dsf_of rfl rfl rfl λ _=>rfl).symm))|exact byLeq)))) ?_
  rintro k ⟨hk,hcon⟩
  dsimp only[Hd.at]
  refine WP.seq ?_
  refine rS ?_
  refine cI (λ hc=>?_) λ hc=>?_
  ·have hk:k<l.length:=by have:=of_decide_eq_true hc;omega
   clear hc
   have ek:addrAt 0 ((k:Nat):Int).toNat=k:=by simp[addrAt0]
   obtain⟨hh0,hh1,hh2⟩:=hhd k hk
   have hbh:=hb _ hh1
   have hwh:=hw _ hh1
   have hh1':(bitsL (l.getD k 0) x).getD 0 0<16:=show hdF x l k<16 by omega
   have hbh':b ((bitsL (l.getD k 0) x).getD 0 0)<16:=show b (hdF x l k)<16 by omega
   have hwh':w ((bitsL (l.getD k 0) x).getD 0 0)<16:=show w (hdF x l k)<16 by omega
   refine WP.seq (WP.block ?_)
   refine WP.seq ?_
   refine WP.da (by kernel_rfl) 24 (by kernel_rfl) ?_
   refine WA.takes T false tok [0,1,2,3,4,5,6,7,8,9,10] (f':=13) (by kernel_rfl) (by rfl) (by rfl) (by rfl) (by(try simp only[Int.toNat_zero]);exact byObl) (by rfl) (by rfl) ?_
   refine WA.takes T false tok [11,12,13,14,15,16,17,18,19,20,21] (f':=2) (by kernel_rfl) (by rfl) (by rfl) (by rfl) (by(try simp only[Int.toNat_zero]);exact byObl) (by rfl) (by rfl) ?_
   refine WA.takes T false tok [22,23] (f':=0) (by kernel_rfl) (by rfl) (by rfl) (by rfl) (by exact byObl) (by rfl) (by rfl) ?_
   refine WA.tail (by rfl) (by rfl) (by kernel_rfl) ?_
   refine WPL.nil (noPan ?_)
   have cb:=hI.cov _ hbh
   have cw:=hI.cov _ hwh
   refine WP.ghost (gC [0,1,2,3,4,5] (leC (leC (leC (leC (leC (leC leZ)))))) (l:=[(2,.p 1 [] 0),(4,.p 2 [] 0),(6,.p 3 [] 0),(7,.sl 4 0 l.length 1),(11,.p 5 [] 0),(12,.i .i64 (k:Int)),(13,.i .i64 ((wh (b (hdF x l k)):Nat):Int)),(14,.i .i64 ((wh (w (hdF x l k)):Nat):Int))]) (m':=[.ro m 1 (nmF gn),.var (ds_ x b w),.var (ds_ 0 (λ _=>0) (λ _=>0)),.var (.ar 16 1 (nmF wh)),.ro l.length 1 (setsZ x l),.var (ds_ l.length (fillF (tBF x wh b l) k) (fillF (tBF x wh w l) k))])) ?_
   have eb:wh (b (hdF x l k))=tBF x wh b l k+1:=by unfold tBF;omega
   have ew:wh (w (hdF x l k))=tBF x wh w l k+1:=by unfold tBF;omega
   have hb1:tBF x wh b l k<16:=by have:=hle1 (b (hdF x l k));omega
   have hw1:tBF x wh w l k<16:=by have:=hle1 (w (hdF x l k));omega
   refine WP.seq ?_
   refine rS ?_
   refine WP.block ?_
   refine WP.loopH (⟨λ i:Nat=>i<=(bitsL (l.getD k 0) x).length/\∀j,j<i->wh (b ((bitsL (l.getD k 0) x).getD j 0))=wh (b (hdF x l k))/\wh (w ((bitsL (l.getD k 0) x).getD j 0))=wh (w (hdF x l k)),λ i=>[(2,.p 1 [] 0),(4,.p 2 [] 0),(6,.p 3 [] 0),(7,.sl 4 0 l.length 1),(11,.p 5 [] 0),(12,.i .i64 (k:Int)),(13,.i .i64 ((wh (b (hdF x l k)):Nat):Int)),(14,.i .i64 ((wh (w (hdF x l k)):Nat):Int)),(15,.i .i64 (i:Int))],λ i=>[.ro m 1 (nmF gn),.var (ds_ x b w),.var (ds_ 0 (λ _=>0) (λ _=>0)),.var (.ar 16 1 (nmF wh)),.ro l.length 1 (setsZ x l),.var (ds_ l.length (fillF (tBF x wh b l) k) (fillF (tBF x wh w l) k))],λ i=>(bitsL (l.getD k 0) x).length-i⟩) (0) (⟨Nat.zero_le _,λ j hj=>absurd hj (Nat.not_lt_zero _)⟩) (gC [0,1,2,3,4,5] (leC (leC (leC (leC (leC (leC leZ))))))) ?_
   rintro i ⟨hi,hal⟩
   dsimp only[Hd.at]
   have hol:=bits_len (l.getD k 0) x
   refine WP.seq ?_
   refine rS ?_
   refine cI (λ hc=>?_) λ hc=>?_
   ·have hi:i<(bitsL (l.getD k 0) x).length:=by have:=of_decide_eq_true hc;simp only[addrAt0,Int.toNat_natCast] at this;omega
    clear hc
    have hy:=bits_mem.1 (getD_mem hi)
    have hyb:=hb _ hy.1
    have hyw:=hw _ hy.1
    have hi0:((i:Nat):Int).toNat<(bitsL (l.getD ((k:Nat):Int).toNat 0) x).length:=hi
    refine WP.seq (WP.block ?_)
    refine WP.seq ?_
    refine WP.region ?_
    refine rU 15 ?_
    have ei:addrAt 0 ((i:Nat):Int).toNat=i:=by simp[addrAt0]
    rw[ek,ei,Int.toNat_natCast ((bitsL (l.getD k 0) x).getD i 0),Int.toNat_natCast (b ((bitsL (l.getD k 0) x).getD i 0))]
    cases h1:decide (((wh (b ((bitsL (l.getD k 0) x).getD i 0)):Nat):Int)=((wh (b (hdF x l k)):Nat):Int))
    case false=>
     have h1:=of_decide_eq_false h1
     rw[qsG_no (hI.bad hL hne (.head _) hk hy.2 (by omega))] at hR
     refine rF ?_
     refine cS (λ h=>?_) λ h=>?_
     ·refine rS ?_
      rw[<-hR]
      exact WP.ret (Ends.val (by rfl) (by exact byObl) (by rfl) (by exact sc_t2 (sc_ds _ _ _ _) trivial))
     ·cases h
    case true=>
     have h1:=of_decide_eq_true h1
     refine rF ?_
     refine cS (λ h=>?_) λ h=>?_
     ·have h:(!decide (((wh (w ((bitsL (l.getD k 0) x).getD i 0)):Nat):Int)=((wh (w (hdF x l k)):Nat):Int)))=true:=h
      have h2:¬((wh (w ((bitsL (l.getD k 0) x).getD i 0)):Nat):Int)=((wh (w (hdF x l k)):Nat):Int):=by simpa using h
      rw[qsG_no (hI.bad hL hne (.tail _ (.head _)) hk hy.2 (by omega))] at hR
      refine rS ?_
      rw[<-hR]
      exact WP.ret (Ends.val (by rfl) (by exact byObl) (by rfl) (by exact sc_t2 (sc_ds _ _ _ _) trivial))
     ·have h:(!decide (((wh (w ((bitsL (l.getD k 0) x).getD i 0)):Nat):Int)=((wh (w (hdF x l k)):Nat):Int)))=false:=h
      have h2:((wh (w ((bitsL (l.getD k 0) x).getD i 0)):Nat):Int)=((wh (w (hdF x l k)):Nat):Int):=by simpa using h
      refine rE ?_
      refine Again.next (i+1) (gC [0,1,2,3,4,5] (leC (leC (leC (leC (leC (leC leZ))))))) (⟨hi,λ j hj=>by
       by_cases e:j=i
       ·subst e;omega
       ·exact hal j (by omega)⟩) (by dsimp only;omega)
   ·have hi:i=(bitsL (l.getD k 0) x).length:=by have:=of_decide_eq_false hc;simp only[addrAt0,Int.toNat_natCast] at this;omega
    subst hi
    have hcon2:∀y,(l.getD k 0).testBit y=true->wh (b y)=wh (b (hdF x l k))/\wh (w y)=wh (w (hdF x l k)):=λ y hy=>by
     obtain⟨j,hj,rfl⟩:=mem_getD (bits_mem.2 ⟨(hI.orb _ (getD_mem hk)).low hL y hy,hy⟩)
     exact hal j hj
    rw[eb,ew]
    refine rS ?_
    rw[show((tBF x wh b l k+1:Nat):Int)-1=((tBF x wh b l k:Nat):Int) by omega]
    refine rE ?_
    rw[show((tBF x wh w l k+1:Nat):Int)-1=((tBF x wh w l k:Nat):Int) by omega]
    refine rE ?_
    refine Again.next (k+1) (gC [0,1,2,3,4,5] (by repeat (first|exact trivial|(refine lC ?_ ?_;first|exact byLz|(exact le_var (by rw[<-fill_step, <-fill_step];exact byVareq))|exact byLeq)))) (⟨hk,λ j hj=>by
     by_cases e:j=k
     ·subst e;exact hcon2
     ·exact hcon j (by omega)⟩) (by dsimp only;omega)
  ·have hk:k=l.length:=by have:=of_decide_eq_false hc;omega
   subst hk
   obtain⟨hblk,e1,e2,e3⟩:=hI.done hN hL hlow hne hcon
   rw[qsG_yes hblk] at hR
   rw[e2,e3,e1]
   refine rS ?_
   rw[<-hR]
   exact WP.ret (Ends.val (by rfl) (by exact byObl) (by rfl) (by exact sc_t2 (sc_ds _ _ _ _) trivial))
theorem specQbNo_fn(n:Int)(b w:Nat->Nat)(hb:∀i,b i<256)(hw:∀i,w i<256)(hds:desB n b w=false)(m:Nat)(g:Nat->Int):FnR Tryz.prog 14 [ds_ n b w,.sl 0 0 m 1] [.ro m 1 (λ t=>.i .i64 (g t))] (t2 ds0 (.i .i64 1)):=by
 have h1:=l01Is_fn n b w hb hw
 rw[hds] at h1
 refine FnS.into T tok Tryz.func14 (by rfl) rfl rfl rfl (by simp) ?_
 refine rS ?_
 refine WP.seq ?_
 refine WP.rw ?_
 refine rU 1 ?_
 refine cA (h1) ?_
 refine rF ?_
 refine cS (λ h=>?_) λ h=>?_
 ·refine rS ?_
  exact WP.ret (Ends.val (by rfl) (by exact byObl) (by rfl) (by exact sc_t2 (sc_ds _ _ _ _) trivial))
 ·cases h
theorem implQbNo_fn(n:Int)(b w:Nat->Nat)(hb:∀i,b i<256)(hw:∀i,w i<256)(hds:desB n b w=false)(m:Nat)(g:Nat->Int):FnR Tryz.prog 9 [ds_ n b w,.sl 0 0 m 1] [.ro m 1 (λ t=>.i .i64 (g t))] (t2 ds0 (.i .i64 1)):=by
 have h1:=implIsDessin_fn n b w hb hw
 rw[hds] at h1
 refine FnS.into T tok Tryz.func9 (by rfl) rfl rfl rfl (by simp) ?_
 refine rS ?_
 refine WP.seq ?_
 refine WP.rw ?_
 refine rU 1 ?_
 refine cA (h1) ?_
 refine rF ?_
 refine cS (λ h=>?_) λ h=>?_
 ·refine rS ?_
  exact WP.ret (Ends.val (by rfl) (by exact byObl) (by rfl) (by exact sc_t2 (sc_ds _ _ _ _) trivial))
 ·cases h
theorem specQb_fn(N:Nat)(b w:Nat->Nat)(hD:Des N b w)(hds:desB N b w=true)(hNp:∀p∈[b,w],Np N p)(hb:∀i,b i<256)(hw:∀i,w i<256)(m:Nat)(g:Nat->Int)(hm:m<=1048576):FnR Tryz.prog 14 [ds_ N b w,.sl 0 0 m 1] [.ro m 1 (λ t=>.i .i64 (g t))] (qbR N b w m g):=by
 have h1:=l01Is_fn N b w hb hw
 rw[hds] at h1
 have hN:=hD.le
 have hN1:=hD.pos
 generalize hR:qbR N b w m g=R
 refine FnS.into T tok Tryz.func14 (by rfl) rfl rfl rfl (by simp) ?_
 refine rS ?_
 refine WP.seq ?_
 refine WP.rw ?_
 refine rU 1 ?_
 refine cA (h1) ?_
 refine rF ?_
 refine cF ?_
 clear h1
 refine WP.seq ?_
 refine rS ?_
 refine cS (λ h=>?_) λ h=>?_
 ·have h:=of_decide_eq_true h
  have eR:t2 ds0 (.i .i64 2)=R:=by rw[<-hR];unfold qbR;rw[if_pos (.inl (by omega))]
  refine rS ?_
  rw[<-eR]
  exact WP.ret (Ends.val (by rfl) (by exact byObl) (by rfl) (by exact sc_t2 (sc_ds _ _ _ _) trivial))
 have h0:=of_decide_eq_false h
 clear h
 refine WP.seq ?_
 refine rS ?_
 refine WP.block ?_
 refine WP.loopH (⟨λ k:Nat=>k<=m/\(∀j,j<k->inI N (g j)=true)/\∀j,j<k->0<j->g (j-1)<g j,λ k=>[(1,.sl 0 0 m 1),(2,.p 1 [] 0),(4,.p 2 [] 0),(6,.i .i64 (k:Int))],λ k=>[.ro m 1 (λ t=>.i .i64 (g t)),.var (ds_ N b w),.var (ds_ 0 (λ _=>0) (λ _=>0))],λ k=>m-k⟩) (0) (⟨Nat.zero_le _,λ j hj=>absurd hj (Nat.not_lt_zero _),λ j hj=>absurd hj (Nat.not_lt_zero _)⟩) (gC [0,1,2] (leC (leC (leC leZ)))) ?_
 rintro k ⟨hk,hin,has⟩
 dsimp only[Hd.at]
 refine WP.seq ?_
 refine rS ?_
 refine cI (λ hc=>?_) λ hc=>?_
 ·have hk:k<m:=by have:=of_decide_eq_true hc;omega
  clear hc
  have ek:addrAt 0 ((k:Nat):Int).toNat=k:=by simp[addrAt0]
  have hl01:=l01In_fn (g k) 0 ((N:Int)-1)
  have hk2:k<=1048576:=by omega
  refine WP.seq (WP.block ?_)
  refine WP.seq ?_
  refine WP.da (by kernel_rfl) 25 (by kernel_rfl) ?_
  refine WA.takes T false tok [0,1,2,3,4,5,6] (f':=18) (by kernel_rfl) (by rfl) (by rfl) (by rfl) (by exact byObl) (by rfl) (by rfl) ?_
  refine WA.all [7] (by kernel_rfl) (by simp) ?_;intro i' hi';simp only[List.mem_cons,List.not_mem_nil,or_false] at hi'
  subst hi'
  rw[ek]
  refine⟨_,_,_,rfl,by rfl,by rfl,MK.callP (hl01) (by rfl) (by simp[Sc,sc_pl,sc_ds,pl_ne,ds_ne]),?_⟩
  cases hc1:(decide ((0:Int)<=g k)&&decide (g k<=(N:Int)-1))
  case false=>
   have eR:t2 ds0 (.i .i64 2)=R:=by
    rw[<-hR];unfold qbR
    rw[if_pos (.inr (.inl (allI_no hk (by
     unfold inI
     cases h1:decide ((0:Int)<=g k)
     ·rfl
     ·rw[h1,Bool.true_and] at hc1
      have:=of_decide_eq_false hc1
      exact decide_eq_false (by omega)))))]
   refine WA.takes T false tok [8,9] (f':=15) (by kernel_rfl) (by rfl) (by rfl) (by rfl) (by exact byObl) (by rfl) (by rfl) ?_
   refine WA.skipU 10 (by rfl) (by kernel_rfl) (by kernel_rfl) (by rfl) (by rfl) ?_
   refine WA.skipU 11 (by rfl) (by kernel_rfl) (by kernel_rfl) (by rfl) (by rfl) ?_
   refine WA.skipU 12 (by rfl) (by kernel_rfl) (by kernel_rfl) (by rfl) (by rfl) ?_
   refine WA.skipU 13 (by rfl) (by kernel_rfl) (by kernel_rfl) (by rfl) (by rfl) ?_
   refine WA.skipU 14 (by rfl) (by kernel_rfl) (by kernel_rfl) (by rfl) (by rfl) ?_
   refine WA.skipU 15 (by rfl) (by kernel_rfl) (by kernel_rfl) (by rfl) (by rfl) ?_
   refine WA.skipU 16 (by rfl) (by kernel_rfl) (by kernel_rfl) (by rfl) (by rfl) ?_
   refine WA.skipU 17 (by rfl) (by kernel_rfl) (by kernel_rfl) (by rfl) (by rfl) ?_
   refine WA.skipU 18 (by rfl) (by kernel_rfl) (by kernel_rfl) (by rfl) (by rfl) ?_
   refine WA.skipU 19 (by rfl) (by kernel_rfl) (by kernel_rfl) (by rfl) (by rfl) ?_
   refine WA.skipU 20 (by rfl) (by kernel_rfl) (by kernel_rfl) (by rfl) (by rfl) ?_
   refine WA.skipU 21 (by rfl) (by kernel_rfl) (by kernel_rfl) (by rfl) (by rfl) ?_
   refine WA.skipU 22 (by rfl) (by kernel_rfl) (by kernel_rfl) (by rfl) (by rfl) ?_
   refine WA.skipU 23 (by rfl) (by kernel_rfl) (by kernel_rfl) (by rfl) (by rfl) ?_
   refine WA.takes T false tok [24] (f':=0) (by kernel_rfl) (by rfl) (by rfl) (by rfl) (by exact byObl) (by rfl) (by rfl) ?_
   refine WA.tail (by rfl) (by rfl) (by kernel_rfl) ?_
   refine WPL.nil (noPan ?_)
   refine cS (λ h=>?_) λ h=>?_
   ·refine rS ?_
    rw[<-eR]
    exact WP.ret (Ends.val (by rfl) (by exact byObl) (by rfl) (by exact sc_t2 (sc_ds _ _ _ _) trivial))
   ·cases h
  case true=>
   have hin':inI N (g k)=true:=by
    rw[Bool.and_eq_true,decide_eq_true_eq,decide_eq_true_eq] at hc1
    unfold inI
    rw[decide_eq_true hc1.1,decide_eq_true (show g k<(N:Int) by omega)];rfl
   refine WA.takes T false tok [8,9,10,11] (f':=13) (by kernel_rfl) (by rfl) (by rfl) (by rfl) (by exact byObl) (by rfl) (by rfl) ?_
   cases h2:decide ((k:Int)>0)
   case false=>
    have h2:=of_decide_eq_false h2
    refine WA.takes T false tok [12,13,14,15,16,17,18] (f':=6) (by kernel_rfl) (by rfl) (by rfl) (by rfl) (by exact byObl) (by rfl) (by rfl) ?_
    refine WA.takes T false tok [19,20,21,22,23,24] (f':=0) (by kernel_rfl) (by rfl) (by rfl) (by rfl) (by exact byObl) (by rfl) (by rfl) ?_
    refine WA.tail (by rfl) (by rfl) (by kernel_rfl) ?_
    refine WPL.nil (noPan ?_)
    refine cF ?_
    refine rE ?_
    refine Again.next (k+1) (gC [0,1,2] (leC (leC (leC leZ)))) (⟨hk,λ j hj=>by
     by_cases e:j=k
     ·subst e;exact hin'
     ·exact hin j (by omega),λ j hj hj0=>by
     by_cases e:j=k
     ·subst e;omega
     ·exact has j (by omega) hj0⟩) (by dsimp only;omega)
   case true=>
    have h2:=of_decide_eq_true h2
    refine WA.takes T false tok [12,13,14,15,16,17,18] (f':=6) (by kernel_rfl) (by rfl) (by rfl) (by rfl) (by exact byObl) (by rfl) (by rfl) ?_
    refine WA.takes T false tok [19,20,21,22,23,24] (f':=0) (by kernel_rfl) (by rfl) (by rfl) (by rfl) (by exact byObl) (by rfl) (by rfl) ?_
    refine WA.tail (by rfl) (by rfl) (by kernel_rfl) ?_
    refine WPL.nil (noPan ?_)
    have ek1:addrAt 0 (((k:Nat):Int)-1).toNat=k-1:=by rw[show((k:Nat):Int)-1=((k-1:Nat):Int) by omega];simp[addrAt0]
    refine cS (λ h=>?_) λ h=>?_
    ·have h:=of_decide_eq_true h
     rw[ek,ek1] at h
     have eR:t2 ds0 (.i .i64 2)=R:=by rw[<-hR];unfold qbR;rw[if_pos (.inr (.inr (asc_no hk (by omega) (by omega))))]
     refine rS ?_
     rw[<-eR]
     exact WP.ret (Ends.val (by rfl) (by exact byObl) (by rfl) (by exact sc_t2 (sc_ds _ _ _ _) trivial))
    ·have h:=of_decide_eq_false h
     rw[ek,ek1] at h
     refine rE ?_
     refine Again.next (k+1) (gC [0,1,2] (leC (leC (leC leZ)))) (⟨hk,λ j hj=>by
      by_cases e:j=k
      ·subst e;exact hin'
      ·exact hin j (by omega),λ j hj hj0=>by
      by_cases e:j=k
      ·subst e;omega
      ·exact has j (by omega) hj0⟩) (by dsimp only;omega)
 ·have hk:k=m:=by have:=of_decide_eq_false hc;omega
  subst hk
  have hgn:∀t,t<k->g t=((g t).toNat:Int)/\(g t).toNat<N:=λ t ht=>by
   have h:=hin t ht
   unfold inI at h
   rw[Bool.and_eq_true,decide_eq_true_eq,decide_eq_true_eq] at h
   omega
  have eR:qbG N b w (bkB k g)=R:=by
   rw[<-hR];unfold qbR
   rw[if_neg (by rw[allI_iff.2 hin,asc_iff.2 has];simp;omega)]
  have hq:=l03Quotient_fn N b w hD hNp k (λ t=>(g t).toNat) (by omega) hm (λ t ht=>(hgn t ht).2)
  rw[show mskTo (λ t=>(g t).toNat) k=bkB k g from rfl] at hq
  have hrow:∀j,j<k->nmF (λ t=>(g t).toNat) j=.i .i64 (g j):=λ j hj=>by unfold nmF;rw[<-(hgn j hj).1]
  refine WP.ghost (gC [0,1,2] (by repeat (first|exact trivial|(refine lC ?_ ?_;first|exact byLz|(exact le_ro (Nat.le_refl _) (λ j hj=>hrow j hj))|exact byLeq))) (l:=[(1,.sl 0 0 k 1),(2,.p 1 [] 0),(4,.p 2 [] 0)]) (m':=[.ro k 1 (nmF λ t=>(g t).toNat),.var (ds_ N b w),.var (ds_ 0 (λ _=>0) (λ _=>0))])) ?_
  by_cases hB:Blk N [b,w] (bkB k g)
  ·rw[qsG_yes hB] at hq
   rw[qbG_yes hB] at eR
   refine WP.rw ?_
   refine rU 2 ?_
   refine cR [0] (hq) (leC leZ) ?_
   refine rF ?_
   refine WP.seq ?_
   refine rS ?_
   refine cF ?_
   refine rS ?_
   rw[<-eR]
   exact WP.ret (Ends.val (by rfl) (by exact byObl) (by rfl) (by exact sc_t2 (sc_ds _ _ _ _) trivial))
  ·rw[qsG_no hB] at hq
   rw[qbG_no hB] at eR
   refine WP.rw ?_
   refine rU 2 ?_
   refine cR [0] (hq) (leC leZ) ?_
   refine rF ?_
   refine WP.seq ?_
   refine rS ?_
   refine cS (λ h=>?_) λ h=>?_
   ·refine rS ?_
    rw[<-eR]
    exact WP.ret (Ends.val (by rfl) (by exact byObl) (by rfl) (by exact sc_t2 (sc_ds _ _ _ _) trivial))
   ·cases h
theorem qbR_form(N:Nat)(b w:Nat->Nat)(m:Nat)(g:Nat->Int):∃M x y c,qbR N b w m g=t2 (ds_ M x y) (.i .i64 c):=by
 unfold qbR
 split
 ·exact⟨0,_,_,2,rfl⟩
 ·by_cases h:Blk N [b,w] (bkB m g)
  ·rw[qbG_yes h];exact⟨_,_,_,0,rfl⟩
  ·rw[qbG_no h];exact⟨0,_,_,5,rfl⟩
theorem isNaN_fn(x:Int):FnP Tryz.prog 107 [.i .i64 x] (.b false):=by
 refine FnS.into T tok Tryz.func107 (by rfl) rfl rfl rfl (by simp) ?_
 refine rS ?_
 refine WP.rw ?_
 refine rU 3 ?_
 rw[decide_eq_true (rfl:x=x)]
 refine rF ?_
 exact WP.ret (Ends.val (by rfl) (by exact byObl) (by rfl) (by trivial))
def cmpI(x y:Int):Int:=if x<y then-1 else if y<x then 1 else 0
theorem cmpCompare_fn(x y:Int):FnP Tryz.prog 81 [.i .i64 x,.i .i64 y] (.i .i64 (cmpI x y)):=by
 refine FnS.into T tok Tryz.func81 (by rfl) rfl rfl rfl (by simp) ?_
 refine rS ?_
 refine WP.rw ?_
 refine rU 1 ?_
 refine cA (isNaN_fn x) ?_
 refine rF ?_
 refine WP.rw ?_
 refine rU 1 ?_
 refine cA (isNaN_fn y) ?_
 refine rF ?_
 refine WP.seq ?_
 refine rS ?_
 refine cF ?_
 refine WP.seq ?_
 refine rS ?_
 refine cF ?_
 refine WP.seq ?_
 refine rS ?_
 refine cS (λ h=>?_) λ h=>?_
 ·have h:=of_decide_eq_true h
  refine rS ?_
  exact WP.ret (Ends.val (by rfl) (by exact byObl) (by show Dat.i .i64 (-1)=_;unfold cmpI;rw[if_pos h]) (by trivial))
 have h:=of_decide_eq_false h
 refine WP.seq ?_
 refine rS ?_
 refine cS (λ h2=>?_) λ h2=>?_
 ·have h2:=of_decide_eq_true h2
  refine rS ?_
  exact WP.ret (Ends.val (by rfl) (by exact byObl) (by show Dat.i .i64 1=_;unfold cmpI;rw[if_neg h,if_pos h2]) (by trivial))
 have h2:=of_decide_eq_false h2
 refine rS ?_
 exact WP.ret (Ends.val (by rfl) (by exact byObl) (by show Dat.i .i64 0=_;unfold cmpI;rw[if_neg h,if_neg h2]) (by trivial))
theorem lex_at{l k:List Nat}{i:Nat}(hi:i<l.length)(hk:i<k.length):lexL (l.drop i) (k.drop i)=if cmpI (l.getD i 0:Nat) (k.getD i 0:Nat)=0 then lexL (l.drop (i+1)) (k.drop (i+1)) else cmpI (l.getD i 0:Nat) (k.getD i 0:Nat):=by
 rw[List.drop_eq_getElem_cons hi,List.drop_eq_getElem_cons hk]
 simp only[List.getD_eq_getElem?_getD,List.getElem?_eq_getElem hi,List.getElem?_eq_getElem hk,Option.getD_some,lexL,cmpI]
 rcases Nat.lt_trichotomy l[i] k[i] with h|h|h
 ·rw[if_pos h,if_pos (show((l[i]:Nat):Int)<(k[i]:Nat) by omega)];rfl
 ·rw[if_neg (by omega),if_neg (by omega),if_neg (show¬((l[i]:Nat):Int)<(k[i]:Nat) by omega),if_neg (show¬((k[i]:Nat):Int)<(l[i]:Nat) by omega)];rfl
 ·rw[if_neg (by omega),if_pos h,if_neg (show¬((l[i]:Nat):Int)<(k[i]:Nat) by omega),if_pos (show((k[i]:Nat):Int)<(l[i]:Nat) by omega)];rfl
theorem lex_end{l k:List Nat}{i:Nat}(hi:i<l.length)(hk:¬i<k.length):lexL (l.drop i) (k.drop i)=1:=by
 rw[List.drop_eq_getElem_cons hi,List.drop_eq_nil_of_le (by omega:k.length<=i)];rfl
theorem lex_end2{l k:List Nat}{i:Nat}(hi:¬i<l.length):lexL (l.drop i) (k.drop i)=if i<k.length then-1 else 0:=by
 rw[List.drop_eq_nil_of_le (by omega:l.length<=i)]
 split
 ·rename_i h;rw[List.drop_eq_getElem_cons h];rfl
 ·rename_i h;rw[List.drop_eq_nil_of_le (by omega:k.length<=i)];rfl
theorem slicesCompare_fn(l k:List Nat)(hl:l.length<=65536)(hk:k.length<=65536):FnR Tryz.prog 46 [.sl 0 0 l.length 1,.sl 1 0 k.length 1] [.ro l.length 1 (numsF l),.ro k.length 1 (numsF k)] (.i .i64 (lexL l k)):=by
 refine FnS.into T tok Tryz.func46 (by rfl) rfl rfl rfl (by simp) ?_
 refine rS ?_
 refine WP.seq ?_
 refine rS ?_
 refine WP.block ?_
 refine WP.loopH (⟨λ i:Nat=>i<=l.length/\i<=k.length/\lexL (l.drop i) (k.drop i)=lexL l k,λ i=>[(0,.sl 0 0 l.length 1),(1,.sl 1 0 k.length 1),(4,.i .i64 0),(9,.sl 0 0 l.length 1),(10,.i .i64 (l.length:Int)),(11,.i .i64 (i:Int))],λ i=>[.ro l.length 1 (numsF l),.ro k.length 1 (numsF k)],λ i=>l.length-i⟩) (0) (⟨Nat.zero_le _,Nat.zero_le _,rfl⟩) (gC [0,1] (leC (leC leZ))) ?_
 intro i hi
 dsimp only at hi
 dsimp only[Hd.at]
 obtain⟨hi1,hi2,hi3⟩:=hi
 refine rS ?_
 refine WP.seq ?_
 refine cI (λ hc=>?_) λ hc=>?_
 ·have hi:i<l.length:=by have:=of_decide_eq_true hc;omega
  clear hc
  refine WP.seq (WP.block ?_)
  refine rS ?_
  refine WP.seq ?_
  refine rS ?_
  refine cS (λ h=>?_) λ h=>?_
  ·have h:¬i<k.length:=by have:=of_decide_eq_true h;omega
   refine rS ?_
   exact WP.ret (Ends.val (by rfl) (by exact byObl) (by show Dat.i .i64 1=_;rw[<-hi3,lex_end hi h]) (by trivial))
  have hik:i<k.length:=by have:=of_decide_eq_false h;omega
  clear h
  refine rS ?_
  refine WP.rw ?_
  refine rU 2 ?_
  refine cA (cmpCompare_fn (l.getD i 0:Nat) (k.getD i 0:Nat)) ?_
  refine rF ?_
  refine rS ?_
  refine cQ (λ h=>?_) λ h=>?_
  ·have h:cmpI (l.getD i 0:Nat) (k.getD i 0:Nat)≠0:=by simpa using h
   refine rS ?_
   exact WP.ret (Ends.val (by rfl) (by exact byObl) (by show Dat.i .i64 (cmpI (l.getD i 0:Nat) (k.getD i 0:Nat))=_;rw[<-hi3,lex_at hi hik,if_neg h]) (by trivial))
  ·have h:cmpI (l.getD i 0:Nat) (k.getD i 0:Nat)=0:=by simpa using h
   refine WP.skip ?_
   refine rE ?_
   refine Again.next (i+1) (gC [0,1] (leC (leC leZ))) (⟨hi,hik,by rw[<-hi3,lex_at hi hik,if_pos h]⟩) (by dsimp only;omega)
 ·have hi:¬i<l.length:=by have:=of_decide_eq_false hc;omega
  clear hc
  refine WP.seq ?_
  refine rS ?_
  refine cS (λ h=>?_) λ h=>?_
  ·have h:=of_decide_eq_true h
   refine rS ?_
   exact WP.ret (Ends.val (by rfl) (by exact byObl) (by show Dat.i .i64 (-1)=_;rw[<-hi3,lex_end2 hi,if_pos (by omega)]) (by trivial))
  have h:=of_decide_eq_false h
  refine rS ?_
  exact WP.ret (Ends.val (by rfl) (by exact byObl) (by show Dat.i .i64 0=_;rw[<-hi3,lex_end2 hi,if_neg (by omega)]) (by trivial))
def cfB(l k:List Nat):Int:=if l.length=k.length then lexL l k else(l.length:Int)-k.length
theorem cfB_bef(l k:List Nat):cfB l k<0↔befL l k<0:=by
 unfold cfB befL
 by_cases h:l.length=k.length
 ·rw[if_pos h,if_neg (by omega),if_neg (by omega)]
 ·rw[if_neg h]
  by_cases h2:l.length<k.length
  ·rw[if_pos h2];omega
  ·rw[if_neg h2,if_pos (by omega)];omega
theorem blocksOf1_fn(l k:List Nat)(hl:l.length<=65536)(hk:k.length<=65536):FnR Tryz.prog 45 [.sl 0 0 l.length 1,.sl 1 0 k.length 1] [.ro l.length 1 (numsF l),.ro k.length 1 (numsF k)] (.i .i64 (cfB l k)):=by
 refine FnS.into T tok Tryz.func45 (by rfl) rfl rfl rfl (by simp) ?_
 refine rS ?_
 refine WP.seq ?_
 refine rS ?_
 refine cS (λ h=>?_) λ h=>?_
 ·have h:l.length≠k.length:=by simp at h;omega
  refine rS ?_
  exact WP.ret (Ends.val (by rfl) (by exact byObl) (by show Dat.i .i64 ((l.length:Int)-k.length)=_;unfold cfB;rw[if_neg h]) (by trivial))
 have h:l.length=k.length:=by simp at h;omega
 refine WP.rw ?_
 refine rU 2 ?_
 refine cR [0,1] (slicesCompare_fn l k hl hk) (leC (leC leZ)) ?_
 refine rF ?_
 exact WP.ret (Ends.val (by rfl) (by exact byObl) (by show Dat.i .i64 (lexL l k)=_;unfold cfB;rw[if_pos h]) (by trivial))
theorem drop_eq{l k:List Nat}{i:Nat}(hi:i<l.length)(hk:i<k.length):l.drop i=k.drop i↔l.getD i 0=k.getD i 0/\l.drop (i+1)=k.drop (i+1):=by
 rw[List.drop_eq_getElem_cons hi,List.drop_eq_getElem_cons hk]
 simp only[List.getD_eq_getElem?_getD,List.getElem?_eq_getElem hi,List.getElem?_eq_getElem hk,Option.getD_some,List.cons.injEq]
theorem slicesEqual_fn(l k:List Nat)(hl:l.length<=65536)(hk:k.length<=65536):FnR Tryz.prog 48 [.sl 0 0 l.length 1,.sl 1 0 k.length 1] [.ro l.length 1 (numsF l),.ro k.length 1 (numsF k)] (.b (decide (l=k))):=by
 refine FnS.into T tok Tryz.func48 (by rfl) rfl rfl rfl (by simp) ?_
 refine rS ?_
 refine WP.seq ?_
 refine rS ?_
 refine cS (λ h=>?_) λ h=>?_
 ·have h:l.length≠k.length:=by simp at h;omega
  refine rS ?_
  exact WP.ret (Ends.val (by rfl) (by exact byObl) (by show Dat.b false=_;rw[decide_eq_false λ e=>h (by rw[e])]) (by trivial))
 have h:l.length=k.length:=by simp at h;omega
 refine WP.seq ?_
 refine rS ?_
 refine WP.block ?_
 refine WP.loopH (⟨λ i:Nat=>i<=l.length/\(l.drop i=k.drop i↔l=k),λ i=>[(0,.sl 0 0 l.length 1),(1,.sl 1 0 k.length 1),(4,.b false),(12,.i .i64 (l.length:Int)),(13,.i .i64 (i:Int))],λ i=>[.ro l.length 1 (numsF l),.ro k.length 1 (numsF k)],λ i=>l.length-i⟩) (0) (⟨Nat.zero_le _,Iff.rfl⟩) (gC [0,1] (leC (leC leZ))) ?_
 intro i hi
 dsimp only at hi
 dsimp only[Hd.at]
 obtain⟨hi1,hi2⟩:=hi
 refine rS ?_
 refine WP.seq ?_
 refine cI (λ hc=>?_) λ hc=>?_
 ·have hi:i<l.length:=by have:=of_decide_eq_true hc;omega
  clear hc
  refine WP.seq (WP.block ?_)
  refine rS ?_
  refine WP.seq ?_
  refine WP.drawsQ (by kernel_rfl) (by kernel_rfl) ?_
  refine WQ.fin T false tok (by rfl) (by rfl) (by exact byObl) ?_
  refine cQ (λ h3=>?_) λ h3=>?_
  ·have h3:l.getD i 0≠k.getD i 0:=by simp[addrAt0] at h3;simp;omega
   refine rS ?_
   exact WP.ret (Ends.val (by rfl) (by exact byObl) (by show Dat.b false=_;rw[decide_eq_false λ e=>h3 ((drop_eq hi (by omega)).1 (hi2.2 e)).1]) (by trivial))
  ·have h3:l.getD i 0=k.getD i 0:=by simp[addrAt0] at h3;simp;omega
   refine WP.skip ?_
   refine rE ?_
   refine Again.next (i+1) (gC [0,1] (leC (leC leZ))) (⟨hi,⟨λ e=>hi2.1 ((drop_eq hi (by omega)).2 ⟨h3,e⟩),λ e=>((drop_eq hi (by omega)).1 (hi2.2 e)).2⟩⟩) (by dsimp only;omega)
 ·have hi:¬i<l.length:=by have:=of_decide_eq_false hc;omega
  clear hc
  refine rS ?_
  exact WP.ret (Ends.val (by rfl) (by exact byObl) (by show Dat.b true=_;rw[decide_eq_true (hi2.1 (by rw[List.drop_eq_nil_of_le (by omega),List.drop_eq_nil_of_le (by omega)]))]) (by trivial))
end Go.Proofs.YthjnmlpibafbnaaGreat
