import Derived.Test.YthjnmlpibafbnaaGreatX94
import Derived.Test.YthjnmlpibafbnaaGreatL17
import Derived.Test.YthjnmlpibafbnaaGreatL33
import Derived.Test.YthjnmlpibafbnaaGreatL54
import Derived.Test.YthjnmlpibafbnaaGreatX62
import Derived.Test.YthjnmlpibafbnaaGreatL45
namespace Go.Proofs.YthjnmlpibafbnaaGreat
open Go.RowKit DM
set_option linter.unusedSimpArgs false
set_option linter.unusedVariables false
set_option maxRecDepth 100000
set_option maxHeartbeats 1000000
def ds0:Dat:=ds_ 0 (λ _=>0) (λ _=>0)
def ascI(g:Nat->Int):Nat->Bool
 |0=>true
 |k+1=>ascI g k&&(decide (k=0)||decide (g (k-1)<g k))
theorem asc_iff{g:Nat->Int}:∀{m:Nat},ascI g m=true↔∀k,k<m->0<k->g (k-1)<g k
 |0=>⟨λ _ k h=>absurd h (Nat.not_lt_zero _),λ _=>rfl⟩
 |m+1=>by
  rw[ascI,Bool.and_eq_true,asc_iff (m:=m),Bool.or_eq_true,decide_eq_true_eq,decide_eq_true_eq]
  constructor
  ·rintro⟨h1,h2⟩ k hk h0
   by_cases e:k=m
   ·subst e;rcases h2 with h|h
    ·omega
    ·exact h
   ·exact h1 k (by omega) h0
  ·exact λ h=>⟨λ k hk=>h k (by omega),by
    by_cases e:m=0
    ·exact .inl e
    ·exact .inr (h m (by omega) (by omega))⟩
theorem asc_no{g:Nat->Int}{m k:Nat}(hk:k<m)(h0:0<k)(h:¬g (k-1)<g k):ascI g m=false:=by
 cases e:ascI g m with
 |false=>rfl
 |true=>exact absurd (asc_iff.1 e k hk h0) h
def bkB(m:Nat)(g:Nat->Int):Nat:=mskTo (λ t=>(g t).toNat) m
noncomputable def qbG (N:Nat)(b w:Nat->Nat)(B:Nat):Dat:=@ite _ (Blk N [b,w] B) (Classical.propDecidable _) (t2 (ds_ (qM N [b,w] B) (qTo (qF N [b,w] B) b N) (qTo (qF N [b,w] B) w N)) (.i .i64 0)) (t2 ds0 (.i .i64 5))
theorem qbG_yes{N:Nat}{b w:Nat->Nat}{B:Nat}(h:Blk N [b,w] B):qbG N b w B=t2 (ds_ (qM N [b,w] B) (qTo (qF N [b,w] B) b N) (qTo (qF N [b,w] B) w N)) (.i .i64 0):=@if_pos _ (Classical.propDecidable _) h _ _ _
theorem qbG_no{N:Nat}{b w:Nat->Nat}{B:Nat}(h:¬Blk N [b,w] B):qbG N b w B=t2 ds0 (.i .i64 5):=@if_neg _ (Classical.propDecidable _) h _ _ _
noncomputable def qbR (N:Nat)(b w:Nat->Nat)(m:Nat)(g:Nat->Int):Dat:=
 if m=0\/allI N g m=false\/ascI g m=false then t2 ds0 (.i .i64 2) else qbG N b w (bkB m g)
theorem intD_up(F:Nat->Int)(k:Nat)(v:Int)(j:Nat):fup (intD F) k (.i .i64 v) j=intD (λ t=>if t=k then v else F t) j:=by
 unfold intD
 by_cases h:j=k
 ·subst h;rw[fup_same];simp
 ·rw[fup_ne _ _ h];simp[h]
def prtD(F:Nat->Nat):Nat->Dat:=intD λ t=>((F t:Nat):Int)-1
theorem prtD_hit{l:List Nat}{x many:Nat}{old:Nat->Nat}{c y:Nat}(h1:(l.getD c 0).testBit x=true)(h2:(l.getD c 0).testBit y=true)(j:Nat):prtD (ptH l x many old c (y+1)) j=fup (prtD (ptH l x many old c y)) y (.i .i64 ((many:Nat):Int)) j:=by
 unfold prtD
 rw[intD_up]
 show Dat.i .i64 (((ptH l x many old c (y+1) j:Nat):Int)-1)=.i .i64 (if j=y then((many:Nat):Int) else((ptH l x many old c y j:Nat):Int)-1)
 rw[ptH_hit h1 h2]
 by_cases e:j=y
 ·rw[if_pos e,if_pos e];congr 1;omega
 ·rw[if_neg e,if_neg e]
theorem implQb_fn(N:Nat)(b w:Nat->Nat)(hD:Des N b w)(hds:desB N b w=true)(hNp:∀p∈[b,w],Np N p)(hb:∀i,b i<256)(hw:∀i,w i<256)(m:Nat)(g:Nat->Int)(hm:m<=1048576):FnR Tryz.prog 9 [ds_ N b w,.sl 0 0 m 1] [.ro m 1 (λ t=>.i .i64 (g t))] (qbR N b w m g):=by
 have h1:=implIsDessin_fn N b w hb hw
 have hdart:=isDartI_fn N b w m g (by omega)
 rw[hds] at h1
 generalize hR:qbR N b w m g=R
 refine FnS.into T tok Tryz.func9 (by rfl) rfl rfl rfl (by simp) ?_
 refine rS ?_
 refine WP.seq ?_
 refine WP.rw ?_
 refine rU 1 ?_
 refine cA (h1) ?_
 refine rF ?_
 refine cF ?_
 clear h1
 refine WP.seq ?_
 refine WP.rw ?_
 refine rU 4 ?_
 cases h0:decide ((m:Int)=0)
 case true=>
  have h0:=of_decide_eq_true h0
  have eR:t2 ds0 (.i .i64 2)=R:=by rw[<-hR];unfold qbR;rw[if_pos (.inl (by omega))]
  refine rF ?_
  refine cS (λ h=>?_) λ h=>?_
  ·refine rS ?_
   rw[<-eR]
   exact WP.ret (Ends.val (by rfl) (by exact byObl) (by rfl) (by exact sc_t2 (sc_ds _ _ _ _) trivial))
  ·cases h
 have h0:=of_decide_eq_false h0
 refine rU 2 ?_
 refine cR [0] (hdart) (leC leZ) ?_
 refine rF ?_
 cases hall:allI N g m
 case false=>
  have eR:t2 ds0 (.i .i64 2)=R:=by rw[<-hR];unfold qbR;rw[if_pos (.inr (.inl hall))]
  refine cS (λ h=>?_) λ h=>?_
  ·refine rS ?_
   rw[<-eR]
   exact WP.ret (Ends.val (by rfl) (by exact byObl) (by rfl) (by exact sc_t2 (sc_ds _ _ _ _) trivial))
  ·cases h
 refine cF ?_
 clear hdart
 have hgn:∀t,t<m->g t=((g t).toNat:Int)/\(g t).toNat<N:=λ t ht=>by
  have h:=allI_iff.1 hall t ht
  unfold inI at h
  rw[Bool.and_eq_true,decide_eq_true_eq,decide_eq_true_eq] at h
  omega
 have hN:=hD.le
 refine rS ?_
 refine WP.seq ?_
 refine rS ?_
 refine WP.block ?_
 refine WP.loopH (⟨λ k:Nat=>k<=m/\∀j,j<k->0<j->g (j-1)<g j,λ k=>[(1,.sl 0 0 m 1),(2,.p 1 [] 0),(4,.p 2 [] 0),(6,.i .u32 ((mskTo (λ t=>(g t).toNat) k:Nat):Int)),(37,.sl 0 0 m 1),(38,.i .i64 (m:Int)),(39,.i .i64 (k:Int))],λ k=>[.ro m 1 (λ t=>.i .i64 (g t)),.var (ds_ N b w),.var (ds_ 0 (λ _=>0) (λ _=>0))],λ k=>m-k⟩) (0) (⟨Nat.zero_le _,λ j hj=>absurd hj (Nat.not_lt_zero _)⟩) (gC [0,1,2] (leC (leC (leC leZ)))) ?_
 rintro k ⟨hk,has⟩
 dsimp only[Hd.at]
 refine rS ?_
 refine WP.seq ?_
 refine cI (λ hc=>?_) λ hc=>?_
 ·have hk:k<m:=by have:=of_decide_eq_true hc;omega
  clear hc
  obtain⟨hg1,hg2⟩:=hgn k hk
  have ek:addrAt 0 ((k:Nat):Int).toNat=k:=by simp[addrAt0]
  have hmk:mskTo (λ t=>(g t).toNat) k<65536:=msk_lt λ i hi=>by have:=(hgn i (by omega)).2;omega
  refine WP.seq (WP.block ?_)
  refine rS ?_
  rw[ek,hg1]
  refine WP.seq ?_
  refine WP.rw ?_
  refine rU 3 ?_
  cases h2:decide ((k:Int)>0)
  case true=>
   have h2:=of_decide_eq_true h2
   refine rF ?_
   have ek1:addrAt 0 (((k:Nat):Int)-1).toNat=k-1:=by rw[show((k:Nat):Int)-1=((k-1:Nat):Int) by omega];simp[addrAt0]
   refine cS (λ h=>?_) λ h=>?_
   ·have h:=of_decide_eq_true h
    rw[ek1, <-hg1] at h
    have eR:t2 ds0 (.i .i64 2)=R:=by rw[<-hR];unfold qbR;rw[if_pos (.inr (.inr (asc_no hk (by omega) (by omega))))]
    refine rS ?_
    rw[<-eR]
    exact WP.ret (Ends.val (by rfl) (by exact byObl) (by rfl) (by exact sc_t2 (sc_ds _ _ _ _) trivial))
   ·have h:=of_decide_eq_false h
    rw[ek1, <-hg1] at h
    refine WP.run T true tok (by rfl) (by exact byObl) ?_
    rw[shl_u32 (x:=(g k).toNat) (by omega),or_u32 hmk (two_pow_lt (by omega))]
    refine rE ?_
    refine Again.next (k+1) (gC [0,1,2] (leC (leC (leC leZ)))) (⟨hk,λ j hj hj0=>by
     by_cases e:j=k
     ·subst e;omega
     ·exact has j (by omega) hj0⟩) (by dsimp only;omega)
  case false=>
   have h2:=of_decide_eq_false h2
   refine rF ?_
   refine cF ?_
   refine WP.run T true tok (by rfl) (by exact byObl) ?_
   rw[shl_u32 (x:=(g k).toNat) (by omega),or_u32 hmk (two_pow_lt (by omega))]
   refine rE ?_
   refine Again.next (k+1) (gC [0,1,2] (leC (leC (leC leZ)))) (⟨hk,λ j hj hj0=>by
    by_cases e:j=k
    ·subst e;omega
    ·exact has j (by omega) hj0⟩) (by dsimp only;omega)
 ·have hk:k=m:=by have:=of_decide_eq_false hc;omega
  subst hk
  have hB0:bkB k g<65536:=msk_lt λ i hi=>by have:=(hgn i hi).2;omega
  have eR:qbG N b w (bkB k g)=R:=by
   rw[<-hR];unfold qbR
   rw[if_neg (by rw[hall,asc_iff.2 has];simp;omega)]
  have hL:∀p∈[b,w],Np N p:=hNp
  have hlow:Low N (bkB k g):=λ x hx=>by
   obtain⟨t,ht,rfl⟩:=msk_bit.1 hx
   exact(hgn t ht).2
  have hne:∃x,x<N/\(bkB k g).testBit x=true:=⟨(g 0).toNat,(hgn 0 (by omega)).2,msk_bit.2 ⟨0,by omega,rfl⟩⟩
  have hcl:Dat.i IntKind.u32 ((mskTo (λ t=>(g t).toNat) k:Nat):Int)=.i .u32 ((bkB k g:Nat):Int):=rfl
  generalize bkB k g=B at hB0 eR hlow hne hcl
  refine rS ?_
  refine WP.seq ?_
  refine rS ?_
  refine WP.block ?_
  refine WP.loopH (⟨λ s:Nat×List Nat=>Bf N [b,w] B s.2/\s.1<=s.2.length/\∀j,j<s.1->img b N (s.2.getD j 0)∈s.2/\img w N (s.2.getD j 0)∈s.2,λ s=>[(2,.p 1 [] 0),(4,.p 2 [] 0),(9,.sl 3 0 s.2.length 1),(10,.i .i64 (s.1:Int))],λ s=>[.ro k 1 (λ t=>.i .i64 (g t)),.var (ds_ N b w),.var (ds_ 0 (λ _=>0) (λ _=>0)),.row 59 s.2.length 1 (setD s.2)],λ s=>N-s.1⟩) ((0,[B])) (⟨.start hlow,Nat.zero_le _,λ j hj=>absurd hj (Nat.not_lt_zero _)⟩) (gC [0,1,2,3] (by repeat (first|exact trivial|(refine lC ?_ ?_;first|exact byLz|(exact le_row (Nat.le_refl _) (λ j hj=>by obtain rfl:j=0:=(by have:j<1:=hj;omega);exact hcl.symm))|exact byLeq)))) ?_
  rintro⟨i,l⟩ ⟨hI,hi,hdone⟩
  simp only at hI hi hdone
  dsimp only[Hd.at]
  have hlen:=hI.len hL hne
  refine WP.seq ?_
  refine rS ?_
  refine cI (λ hc=>?_) λ hc=>?_
  ·have hi:i<l.length:=by have:=of_decide_eq_true hc;omega
   clear hc
   have hS:l.getD i 0∈l:=getD_mem hi
   have hSl:=hI.low hL hi
   have hS0:l.getD i 0<65536:=low_lt hN hSl
   have ei:addrAt 0 ((i:Nat):Int).toNat=i:=by simp[addrAt0]
   have hsel:∀q,sel b w q∈[b,w]:=λ q=>by
    unfold sel
    cases Nat.beq q 0
    ·exact .tail _ (.head _)
    ·exact .head _
   refine WP.seq (WP.block ?_)
   refine rS ?_
   refine WP.block ?_
   refine WP.loopH (⟨λ s:Nat×List Nat=>Bf N [b,w] B s.2/\s.1<=2/\l<+:s.2/\∀q,q<s.1->img (sel b w q) N (l.getD i 0)∈s.2,λ s=>[(2,.p 1 [] 0),(4,.p 2 [] 0),(9,.sl 3 0 s.2.length 1),(10,.i .i64 (i:Int)),(73,.sl 4 0 2 16),(74,.i .i64 2),(75,.i .i64 (s.1:Int))],λ s=>[.ro k 1 (λ t=>.i .i64 (g t)),.var (ds_ N b w),.var (ds_ 0 (λ _=>0) (λ _=>0)),.row 59 s.2.length 1 (setD s.2),.row 25 2 16 (λ q=>pl (sel b w q))],λ s=>2-s.1⟩) ((0,l)) (⟨hI,Nat.zero_le _,List.prefix_rfl,λ j hj=>absurd hj (Nat.not_lt_zero _)⟩) (gC [0,1,2,3,4] (by repeat (first|exact trivial|(refine lC ?_ ?_;first|exact byLz|(exact le_row (Nat.le_refl _) (λ j hj=>by rcases j with _|_|j<;>first|rfl|omega))|exact byLeq)))) ?_
   rintro⟨q,l'⟩ ⟨hI',hq,hpre,hdq⟩
   simp only at hI' hq hpre hdq
   dsimp only[Hd.at]
   have hlen':=hI'.len hL hne
   have hle:=hpre.length_le
   have hSe:l'.getD i 0=l.getD i 0:=pre_getD hpre hi
   refine rS ?_
   refine WP.seq ?_
   refine cI (λ hc=>?_) λ hc=>?_
   ·have hq:q<2:=by have:=of_decide_eq_true hc;omega
    clear hc
    have eq_:addrAt 0 ((q:Nat):Int).toNat=q:=by simp[addrAt0]
    obtain⟨p,hp⟩:∃p,p=sel b w q:=⟨_,rfl⟩
    have hpm:p∈[b,w]:=hp▸hsel q
    have hpp:=(hL p hpm).perm.lt
    have hO:Orb N [b,w] B (img p N (l.getD i 0)):=(hI.orb _ hS).step hL hpm
    refine WP.seq (WP.block ?_)
    refine rS ?_
    rw[eq_, <-hp]
    refine rS ?_
    refine WP.seq ?_
    refine rS ?_
    refine WP.block ?_
    refine WP.loopH (⟨λ x:Nat=>x<=N,λ x=>[(2,.p 1 [] 0),(4,.p 2 [] 0),(9,.sl 3 0 l'.length 1),(10,.i .i64 (i:Int)),(12,.p 5 [] 0),(13,.i .u32 ((imgTo p (l.getD i 0) x:Nat):Int)),(73,.sl 4 0 2 16),(74,.i .i64 2),(75,.i .i64 (q:Int)),(80,.i .i64 (N:Int)),(81,.i .i64 (x:Int))],λ x=>[.ro k 1 (λ t=>.i .i64 (g t)),.var (ds_ N b w),.var (ds_ 0 (λ _=>0) (λ _=>0)),.row 59 l'.length 1 (setD l'),.row 25 2 16 (λ q=>pl (sel b w q)),.var (pl p)],λ x=>N-x⟩) (0) (Nat.zero_le _) (gC [0,1,2,3,4,5] (leC (leC (leC (leC (leC (leC leZ))))))) ?_
    intro x hx
    dsimp only at hx
    dsimp only[Hd.at]
    refine rS ?_
    refine WP.seq ?_
    refine cI (λ hc=>?_) λ hc=>?_
    ·have hx:x<N:=by have:=of_decide_eq_true hc;omega
     clear hc
     have hpx:=hpp x hx
     have hto:imgTo p (l.getD i 0) x<65536:=imgTo_lt x λ j hj=>by have:=hpp j (by omega);omega
     refine WP.seq (WP.block ?_)
     refine rS ?_
     refine WP.seq ?_
     refine WP.run T true tok (by rfl) (by exact byObl) ?_
     refine cS (λ h=>?_) λ h=>?_
     ·rw[ei,hSe,bit_u32 hS0 (by omega)] at h
      have e1:imgTo p (l.getD i 0) (x+1)=imgTo p (l.getD i 0) x|||2 ^ p x:=by rw[imgTo,h];rfl
      refine WP.run T true tok (by rfl) (by exact byObl) ?_
      rw[show((x:Nat):Int).toNat=x by simp,shl_u32 (x:=p x) (by omega),or_u32 hto (two_pow_lt (by omega)), <-e1]
      refine rE ?_
      refine Again.next (x+1) (gC [0,1,2,3,4,5] (leC (leC (leC (leC (leC (leC leZ))))))) (hx) (by dsimp only;omega)
     ·rw[ei,hSe,bit_u32 hS0 (by omega)] at h
      have e1:imgTo p (l.getD i 0) (x+1)=imgTo p (l.getD i 0) x:=by rw[imgTo,h];rfl
      rw[<-e1]
      refine rE ?_
      refine Again.next (x+1) (gC [0,1,2,3,4,5] (leC (leC (leC (leC (leC (leC leZ))))))) (hx) (by dsimp only;omega)
    ·have hx:x=N:=by have:=of_decide_eq_false hc;omega
     subst hx
     rw[show imgTo p (l.getD i 0) x=img p x (l.getD i 0) from rfl]
     have hto:img p x (l.getD i 0)<65536:=imgTo_lt x λ j hj=>by have:=hpp j hj;omega
     generalize hT:img p x (l.getD i 0)=S2 at hto hO
     have hcon:=containsU_fn l' S2 (by omega) hto
     have hdq':S2∈l'->∀r,r<q+1->img (sel b w r) x (l.getD i 0)∈l':=λ h r hr=>by
      by_cases e:r=q
      ·subst e;rw[<-hp,hT];exact h
      ·exact hdq r (by omega)
     refine WP.seq ?_
     refine WP.rw ?_
     refine rU 2 ?_
     refine cR [3] (hcon) (leC leZ) ?_
     refine rF ?_
     refine cS (λ h=>?_) λ h=>?_
     ·have h:=of_decide_eq_true h
      refine WP.exit ?_
      refine rE ?_
      refine Again.next ((q+1,l')) (gC [0,1,2,3,4] (leC (leC (leC (leC (leC leZ)))))) (⟨hI',hq,hpre,hdq' h⟩) (by dsimp only;omega)
     have hTn:S2∉l':=of_decide_eq_false h
     clear h
     refine WP.seq ?_
     refine rS ?_
     refine WP.block ?_
     refine WP.loopH (⟨λ c:Nat=>c<=l'.length/\∀j,j<c->¬Meet (l'.getD j 0) S2,λ c=>[(2,.p 1 [] 0),(4,.p 2 [] 0),(9,.sl 3 0 l'.length 1),(10,.i .i64 (i:Int)),(13,.i .u32 ((S2:Nat):Int)),(73,.sl 4 0 2 16),(74,.i .i64 2),(75,.i .i64 (q:Int)),(102,.sl 3 0 l'.length 1),(103,.i .i64 (l'.length:Int)),(104,.i .i64 (c:Int))],λ c=>[.ro k 1 (λ t=>.i .i64 (g t)),.var (ds_ x b w),.var (ds_ 0 (λ _=>0) (λ _=>0)),.row 59 l'.length 1 (setD l'),.row 25 2 16 (λ q=>pl (sel b w q))],λ c=>l'.length-c⟩) (0) (⟨Nat.zero_le _,λ j hj=>absurd hj (Nat.not_lt_zero _)⟩) (gC [0,1,2,3,4] (leC (leC (leC (leC (leC leZ)))))) ?_
     rintro c ⟨hcl',hap⟩
     dsimp only[Hd.at]
     refine rS ?_
     refine WP.seq ?_
     refine cI (λ hc=>?_) λ hc=>?_
     ·have hcl2:c<l'.length:=by have:=of_decide_eq_true hc;omega
      clear hc
      have ec:addrAt 0 ((c:Nat):Int).toNat=c:=by simp[addrAt0]
      refine WP.seq (WP.block ?_)
      refine rS ?_
      refine WP.seq ?_
      refine WP.run T true tok (by rfl) (by exact byObl) ?_
      have hcS:l'.getD c 0<65536:=low_lt hN (hI'.low hL hcl2)
      rw[ec]
      refine cS (λ h=>?_) λ h=>?_
      ·have h:=(meet_u32 hcS hto).1 h
       rw[qbG_no (hI'.not (getD_mem hcl2) hO h hTn)] at eR
       refine rS ?_
       rw[<-eR]
       exact WP.ret (Ends.val (by rfl) (by exact byObl) (by rfl) (by exact sc_t2 (sc_ds _ _ _ _) trivial))
      ·have h:=λ hm=>Bool.false_ne_true (h.symm.trans ((meet_u32 hcS hto).2 hm))
       refine rE ?_
       refine Again.next (c+1) (gC [0,1,2,3,4] (leC (leC (leC (leC (leC leZ)))))) (⟨hcl2,λ j hj=>by
        by_cases e:j=c
        ·subst e;exact h
        ·exact hap j (by omega)⟩) (by dsimp only;omega)
     ·have hcl2:c=l'.length:=by have:=of_decide_eq_false hc;omega
      subst hcl2
      have hI2:=hI'.add hO λ U hU=>by
       obtain⟨j,hj,rfl⟩:=mem_getD hU
       exact hap j hj
      have hp2:l'<+:l'++[S2]:=List.prefix_append _ _
      refine rE ?_
      refine rE ?_
      refine Again.next ((q+1,l'++[S2])) (gC [0,1,2,6,4] (by repeat (first|exact trivial|(refine lC ?_ ?_;first|exact byLz|(exact le_row (by simp) (λ j hj=>ap_sets l' S2 _ j (by simpa using hj)))|exact byLeq)))) (⟨hI2,hq,hpre.trans hp2,λ r hr=>by
       by_cases e:r=q
       ·subst e;rw[<-hp,hT];exact List.mem_append.2 (.inr (.head _))
       ·exact List.mem_append.2 (.inl (hdq r (by omega)))⟩) (by dsimp only;omega)
   ·have hq:q=2:=by have:=of_decide_eq_false hc;omega
    subst hq
    have h0:=hdq 0 (by decide)
    have h1:=hdq 1 (by decide)
    rw[show sel b w 0=b from rfl] at h0
    rw[show sel b w 1=w from rfl] at h1
    have hsub:∀U,U∈l->U∈l':=λ U hU=>hpre.subset hU
    refine rE ?_
    refine Again.next ((i+1,l')) (gC [0,1,2,3] (leC (leC (leC (leC leZ))))) (⟨hI',by simp only;omega,λ j hj=>by
     by_cases e:j=i
     ·subst e;rw[hSe];exact⟨h0,h1⟩
     ·have:=hdone j (by simp only at hj;omega)
      rw[pre_getD hpre (by simp only at hj;omega)]
      exact⟨hsub _ this.1,hsub _ this.2⟩⟩) (by dsimp only;omega)
  ·have hi:i=l.length:=by have:=of_decide_eq_false hc;omega
   subst hi
   obtain⟨hBlk,hAll⟩:=hI.done hL hlow hdone
   rw[qbG_yes hBlk] at eR
   clear hc hdone
   refine WP.rw ?_
   refine rU 3 ?_
   refine WPL.callV [4] (.sl 5 0 N 1) (repeat_fn N (by omega) hN) (LeAll.cons (by rfl) (by first|with_reducible exact Root.Le.refl _|with_reducible exact le_dead|(exact le_frz (Nat.le_refl _) (λ j hj=>by obtain rfl:j=0:=(by omega);rfl))|exact byLeq) (by exact byCon) (leZ)) (by rfl) (ownNew_row (λ _ _=>trivial)) (by rfl) (by exact byArgs) (by rfl) (by rfl) (by simp[Sc,sc_pl,sc_ds]) (by exact byAllc) (rfl) (by exact bySc) rfl ?_
   refine rF ?_
   refine rS ?_
   refine WP.seq ?_
   refine rS ?_
   refine WP.block ?_
   refine WP.loopH (⟨λ x:Nat=>x<=N,λ x=>[(2,.p 1 [] 0),(4,.p 2 [] 0),(9,.sl 3 0 l.length 1),(17,.sl 4 0 N 1),(18,.i .i64 (((whTo (blkE N [b,w] B) x).2:Nat):Int)),(124,.i .i64 (N:Int)),(125,.i .i64 (x:Int))],λ x=>[.ro k 1 (λ t=>.i .i64 (g t)),.var (ds_ N b w),.var (ds_ 0 (λ _=>0) (λ _=>0)),.row 59 l.length 1 (setD l),.row 2 N 1 (prtD (whTo (blkE N [b,w] B) x).1)],λ x=>N-x⟩) (0) (Nat.zero_le _) (gC [0,1,2,3,5] (by repeat (first|exact trivial|(refine lC ?_ ?_;first|exact byLz|(exact le_row (Nat.le_refl _) (λ j hj=>rfl))|exact byLeq)))) ?_
   intro x hx
   dsimp only at hx
   dsimp only[Hd.at]
   have hwl:=wh_le (blkE N [b,w] B) x
   refine rS ?_
   refine WP.seq ?_
   refine cI (λ hc=>?_) λ hc=>?_
   ·have hx:x<N:=by have:=of_decide_eq_true hc;omega
    clear hc
    have ex:addrAt 0 ((x:Nat):Int).toNat=x:=by simp[addrAt0]
    refine WP.seq (WP.block ?_)
    refine rS ?_
    refine WP.seq ?_
    refine rS ?_
    refine cS (λ h=>?_) λ h=>?_
    ·have h:=of_decide_eq_true h
     have e1:=wh_old (E:=blkE N [b,w] B) (k:=x) (by rw[ex] at h;dsimp only at h;omega)
     refine WP.exit ?_
     rw[<-e1]
     refine rE ?_
     refine Again.next (x+1) (gC [0,1,2,3,4] (leC (leC (leC (leC (leC leZ)))))) (hx) (by dsimp only;omega)
    have h:=of_decide_eq_false h
    have e1:=wh_new (E:=blkE N [b,w] B) (k:=x) (by rw[ex] at h;dsimp only at h;omega)
    have hend:∀t,ptH l x (whTo (blkE N [b,w] B) x).2 (whTo (blkE N [b,w] B) x).1 l.length 0 t=(whTo (blkE N [b,w] B) (x+1)).1 t:=λ t=>by
     rw[e1]
     unfold ptH
     rw[hit_end hAll]
     simp
    have e2:(whTo (blkE N [b,w] B) (x+1)).2=(whTo (blkE N [b,w] B) x).2+1:=by rw[e1]
    clear e1
    generalize whTo (blkE N [b,w] B) x=W at hend e2 hwl ⊢
    obtain⟨old,many⟩:=W
    simp only at hend e2 hwl
    refine WP.seq ?_
    refine rS ?_
    refine WP.block ?_
    refine WP.loopH (⟨λ c:Nat=>c<=l.length,λ c=>[(2,.p 1 [] 0),(4,.p 2 [] 0),(9,.sl 3 0 l.length 1),(17,.sl 4 0 N 1),(18,.i .i64 ((many:Nat):Int)),(19,.i .i64 (x:Int)),(124,.i .i64 (N:Int)),(125,.i .i64 (x:Int)),(133,.sl 3 0 l.length 1),(134,.i .i64 (l.length:Int)),(135,.i .i64 (c:Int))],λ c=>[.ro k 1 (λ t=>.i .i64 (g t)),.var (ds_ N b w),.var (ds_ 0 (λ _=>0) (λ _=>0)),.row 59 l.length 1 (setD l),.row 2 N 1 (prtD (ptH l x many old c 0))],λ c=>l.length-c⟩) (0) (Nat.zero_le _) (gC [0,1,2,3,4] (by repeat (first|exact trivial|(refine lC ?_ ?_;first|exact byLz|(exact le_row (Nat.le_refl _) (λ j hj=>by unfold prtD intD;simp only[ptH_zero]))|exact byLeq)))) ?_
    intro c hc'
    dsimp only at hc'
    dsimp only[Hd.at]
    refine rS ?_
    refine WP.seq ?_
    refine cI (λ hc=>?_) λ hc=>?_
    ·have hc':c<l.length:=by have:=of_decide_eq_true hc;omega
     clear hc
     have ec:addrAt 0 ((c:Nat):Int).toNat=c:=by simp[addrAt0]
     have hS:l.getD c 0<65536:=low_lt hN (hI.low hL hc')
     refine WP.seq (WP.block ?_)
     refine rS ?_
     rw[ec]
     generalize hcS:l.getD c 0=S2 at hS
     refine rS ?_
     refine WP.block ?_
     refine WP.loopH (⟨λ y:Nat=>y<=N,λ y=>[(2,.p 1 [] 0),(4,.p 2 [] 0),(9,.sl 3 0 l.length 1),(17,.sl 4 0 N 1),(18,.i .i64 ((many:Nat):Int)),(19,.i .i64 (x:Int)),(21,.i .u32 ((S2:Nat):Int)),(124,.i .i64 (N:Int)),(125,.i .i64 (x:Int)),(133,.sl 3 0 l.length 1),(134,.i .i64 (l.length:Int)),(135,.i .i64 (c:Int)),(140,.i .i64 (N:Int)),(141,.i .i64 (y:Int))],λ y=>[.ro k 1 (λ t=>.i .i64 (g t)),.var (ds_ N b w),.var (ds_ 0 (λ _=>0) (λ _=>0)),.row 59 l.length 1 (setD l),.row 2 N 1 (prtD (ptH l x many old c y))],λ y=>N-y⟩) (0) (Nat.zero_le _) (gC [0,1,2,3,4] (leC (leC (leC (leC (leC leZ)))))) ?_
     intro y hy
     dsimp only at hy
     dsimp only[Hd.at]
     refine rS ?_
     refine WP.seq ?_
     refine cI (λ hc=>?_) λ hc=>?_
     ·have hy:y<N:=by have:=of_decide_eq_true hc;omega
      clear hc
      have ey:addrAt 0 ((y:Nat):Int).toNat=y:=by simp[addrAt0]
      refine WP.seq (WP.block ?_)
      refine rS ?_
      refine WP.seq ?_
      refine WP.region ?_
      refine WPL.run T true 6 tok (by rfl) (by exact byObl) ?_
      rw[bit_u32 hS (by omega)]
      cases h1:S2.testBit x
      case false=>
       refine WPL.fin T true tok (by rfl) (by exact byObl) ?_
       refine cF ?_
       have hle:=ptH_miss (x:=x) (many:=many) (old:=old) (c:=c) (l:=l) (y:=y) (by rw[hcS,h1];rfl)
       refine rE ?_
       refine Again.next (y+1) (gC [0,1,2,3,4] (by repeat (first|exact trivial|(refine lC ?_ ?_;first|exact byLz|(exact le_row (Nat.le_refl _) (λ j hj=>by unfold prtD intD;simp only[hle]))|exact byLeq)))) (hy) (by dsimp only;omega)
      case true=>
       refine WPL.fin T true tok (by rfl) (by exact byObl) ?_
       rw[bit_u32 hS (by omega)]
       cases h2:S2.testBit y
       case false=>
        refine cF ?_
        have hle:=ptH_miss (x:=x) (many:=many) (old:=old) (c:=c) (l:=l) (y:=y) (by rw[hcS,h1,h2];rfl)
        refine rE ?_
        refine Again.next (y+1) (gC [0,1,2,3,4] (by repeat (first|exact trivial|(refine lC ?_ ?_;first|exact byLz|(exact le_row (Nat.le_refl _) (λ j hj=>by unfold prtD intD;simp only[hle]))|exact byLeq)))) (hy) (by dsimp only;omega)
       case true=>
        have hle:=prtD_hit (x:=x) (many:=many) (old:=old) (c:=c) (l:=l) (y:=y) (by rw[hcS,h1]) (by rw[hcS,h2])
        refine cS (λ h=>?_) λ h=>?_
        ·refine rE ?_
         refine rE ?_
         refine Again.next (y+1) (gC [0,1,2,3,4] (by repeat (first|exact trivial|(refine lC ?_ ?_;first|exact byLz|(exact le_row (Nat.le_refl _) (λ j hj=>hle j))|exact byLeq)))) (hy) (by dsimp only;omega)
        ·cases h
     ·have hy:y=N:=by have:=of_decide_eq_false hc;omega
      subst hy
      refine rE ?_
      refine Again.next (c+1) (gC [0,1,2,3,4] (by repeat (first|exact trivial|(refine lC ?_ ?_;first|exact byLz|(exact le_row (Nat.le_refl _) (λ j hj=>by unfold prtD intD;simp only[ptH_next _ _ _ _ _ _ j hj]))|exact byLeq)))) (hc') (by dsimp only;omega)
    ·have hc':c=l.length:=by have:=of_decide_eq_false hc;omega
     subst hc'
     refine rE ?_
     rw[show((many:Nat):Int)+1=(((whTo (blkE N [b,w] B) (x+1)).2:Nat):Int) by rw[e2];rfl]
     refine rE ?_
     refine Again.next (x+1) (gC [0,1,2,3,4] (by repeat (first|exact trivial|(refine lC ?_ ?_;first|exact byLz|(exact le_row (Nat.le_refl _) (λ j hj=>by unfold prtD intD;simp only[hend]))|exact byLeq)))) (hx) (by dsimp only;omega)
   ·have hx:x=N:=by have:=of_decide_eq_false hc;omega
    subst hx
    have hrefl:∀y,y<x->blkE x [b,w] B y y=true:=λ y hy=>blkE_iff.2 (by
     obtain⟨y0,hy0,hb0⟩:=hne
     have hcl2:Cl x b w λ z=>∃S,Orb x [b,w] B S/\S.testBit z=true:=λ z hz ⟨S,h1,h2⟩=>
      ⟨⟨_,h1.step hL (.head _),(imgTo_bit x).2 ⟨z,hz,h2,rfl⟩⟩,⟨_,h1.step hL (.tail _ (.head _)),(imgTo_bit x).2 ⟨z,hz,h2,rfl⟩⟩⟩
     obtain⟨S,h1,h2⟩:=conn_all hD hy0 ⟨B,.base hlow,hb0⟩ hcl2 hy
     exact⟨S,h1,h2,h2⟩)
    have hpos:=wh_pos hrefl
    have hpt:=parted_fn x (qM x [b,w] B) b w (qF x [b,w] B) hN hD.pb.lt hD.pw.lt λ i _=>qF_lt hN i
    have hrow:∀j,j<x->nmF (qF x [b,w] B) j=prtD (whTo (blkE x [b,w] B) x).1 j:=λ j hj=>by
     have:=hpos j hj
     unfold nmF prtD intD qF
     congr 1
     dsimp only
     omega
    rw[show(((whTo (blkE x [b,w] B) x).2:Nat):Int)=((qM x [b,w] B:Nat):Int) from rfl]
    refine WP.ghost (gC [0,1,2,4] (by repeat (first|exact trivial|(refine lC ?_ ?_;first|exact byLz|(exact le_row (Nat.le_refl _) (λ j hj=>hrow j hj))|exact byLeq))) (l:=[(2,.p 1 [] 0),(4,.p 2 [] 0),(17,.sl 3 0 x 1),(18,.i .i64 ((qM x [b,w] B:Nat):Int))]) (m':=[.ro k 1 (λ t=>.i .i64 (g t)),.var (ds_ x b w),.var (ds_ 0 (λ _=>0) (λ _=>0)),.row 2 x 1 (nmF (qF x [b,w] B))])) ?_
    refine WP.rw ?_
    refine rU 3 ?_
    refine cR [3] (hpt) (leC leZ) ?_
    refine rF ?_
    rw[<-eR]
    exact WP.ret (Ends.val (by rfl) (by exact byObl) (by rfl) (by exact sc_t2 (sc_ds _ _ _ _) trivial))
end Go.Proofs.YthjnmlpibafbnaaGreat

namespace Go.Proofs.YthjnmlpibafbnaaGreat
open Go.RowKit DM
set_option linter.unusedVariables false
set_option linter.unusedSimpArgs false
section
variable {N:Nat}{b w:Nat->Nat}{x y:Nat}
theorem eul_is(hD:Des N b w):eulV N b w=eulN N b w:=by
 have hf:=perm_face hD
 have e:faceF N b w=fcF N b w:=rfl
 unfold eulV eulN
 have g0:((pasL N b w).getD 0 []).length=(cycs b N).length:=tyN_len (cycs_lens hD.le hD.pb)
 have g1:((pasL N b w).getD 1 []).length=(cycs w N).length:=tyN_len (cycs_lens hD.le hD.pw)
 have g2:((pasL N b w).getD 2 []).length=(cycs (faceF N b w) N).length:=tyN_len (cycs_lens hD.le hf)
 rw[g0,g1,g2, <-ld_face hD, <-e]
 unfold cycs
 rw[cyc_count hD.le hD.pb N (Nat.le_refl _),cyc_count hD.le hD.pw N (Nat.le_refl _),cyc_count hD.le hf N (Nat.le_refl _)]
 push_cast
 rfl
theorem gen_is(hD:Des N b w):∃K:Int,eulN N b w=2*K/\genV N b w=1-K:=by
 obtain⟨K,hK,_,_⟩:=eul_even hD
 refine⟨K,by rw[<-eul_is hD];exact hK,?_⟩
 unfold genV
 rw[hK,td1]
theorem gen_cover{M:Nat}{B W f:Nat->Nat}(hD:Des N b w)(hD':Des M B W)(hf:Eqv N b w B W f)(hl:∀x,x<N->f x<M):genV M B W<=genV N b w:=by
 obtain⟨K,h1,h2⟩:=gen_is hD
 obtain⟨K',h3,h4⟩:=gen_is hD'
 have:=eul_cover hD hD' hf hl h1 h3
 omega
theorem cg_is(hD:Des N b w)(hb:Np N b)(hw:Np N w):genV N b w<=cgV (ordG N [b,w]) N b w/\(ordG N [b,w]=N->cgV (ordG N [b,w]) N b w=genV N b w):=by
 obtain⟨K,h1,h2⟩:=gen_is hD
 obtain⟨h3,h4⟩:=clos_le hD hb hw h1
 have e:cgS (ordG N [b,w]) N b w 3=ordG N [b,w] / odP N b+ordG N [b,w] / odP N w+ordG N [b,w] / odP N (fcF N b w):=by
  show 0+_ / cgq N b w 0+_ / cgq N b w 1+_ / cgq N b w 2=_
  rw[Nat.zero_add]
  rfl
 unfold cgV
 rw[e,h2]
 exact⟨by omega,λ h=>by rw[h4 h]⟩
theorem sum_cn(X:List (List Nat)):∀D:List (List Nat),D.Nodup->(D.map λ t=>X.count t).sum=X.countP λ t=>decide (t∈D)
 |[],_=>by simp
 |t::D,h=>by
  obtain⟨h1,h2⟩:=List.nodup_cons.1 h
  rw[List.map_cons,List.sum_cons,sum_cn X D h2]
  clear h
  induction X with
  |nil=>rfl
  |cons a X ih=>
   rw[List.count_cons,List.countP_cons,List.countP_cons, <-Nat.add_assoc]
   by_cases e:a=t
   ·subst e
    simp[h1] at ih ⊢
    omega
   ·by_cases e2:a∈D
    ·simp[e,e2] at ih ⊢
     omega
    ·simp[e,e2] at ih ⊢
     omega
theorem sum_et(hN:N<=16){L:List (Nat->Nat)}(hL:∀g∈L,Np N g):(etC N L).sum=ordG N L:=by
 rw[<-elG_len hN hL]
 unfold etC cnX etD
 have hok:=dL_ok (tyL N (elG N L))
 rw[sum_cn _ _ (hok.1.imp λ h e=>by subst e;exact lex_irr _ h), <-tyL_len N (elG N L)]
 rw[List.countP_eq_length]
 exact λ t ht=>decide_eq_true ((hok.2 t).2 ht)
theorem blk_mem{z:Nat}:z∈blkL N b w x y↔z<N/\Gen b w x y z x:=by
 unfold blkL
 rw[List.mem_filter,List.mem_range,@decide_eq_true_iff _ (Classical.propDecidable _)]
theorem blk_sorted{i j:Nat}(hij:i<j)(hj:j<(blkL N b w x y).length):(blkL N b w x y).getD i 0<(blkL N b w x y).getD j 0:=by
 have h:(blkL N b w x y).Pairwise (·<·):=List.pairwise_lt_range.filter _
 have:=List.pairwise_iff_getElem.1 h i j (by omega) hj hij
 have hi:i<(blkL N b w x y).length:=by omega
 simpa[List.getD_eq_getElem?_getD,List.getElem?_eq_getElem hj,List.getElem?_eq_getElem hi] using this
theorem qb_blk(hD:Des N b w)(hb:Np N b)(hw:Np N w)(hx:x<N)(hy:y<N){g:Nat->Int}(hg:∀t,g t=(((blkL N b w x y).getD t 0:Nat):Int)):
  ∃(M:Nat) (B W:Nat->Nat),qbR N b w (blkL N b w x y).length g=t2 (ds_ M B W) (.i .i64 0)/\Des M B W/\desB M B W=true/\M*(blkL N b w x y).length=N/\genV M B W<=genV N b w/\x∈blkL N b w x y/\y∈blkL N b w x y/\(∀i,B i<256)/\(∀i,W i<256):=by
 have hxm:x∈blkL N b w x y:=blk_mem.2 ⟨hx,.refl x⟩
 have hym:y∈blkL N b w x y:=blk_mem.2 ⟨hy,.symm .base⟩
 have hlen:0<(blkL N b w x y).length:=List.length_pos_of_mem hxm
 have hS:∀z,(bkB (blkL N b w x y).length g).testBit z=true↔z<N/\Gen b w x y z x:=λ z=>by
  unfold bkB
  rw[msk_bit, <-blk_mem]
  constructor
  ·rintro⟨t,ht,rfl⟩
   rw[hg,Int.toNat_natCast]
   exact getD_mem ht
  ·intro hz
   obtain⟨t,ht,e⟩:=mem_getD hz
   exact⟨t,ht,by rw[hg,Int.toNat_natCast];exact e⟩
 have h1:allI N g (blkL N b w x y).length=true:=allI_iff.2 λ t ht=>by
  have:=(blk_mem.1 (getD_mem (l:=blkL N b w x y) (t:=t) ht)).1
  unfold inI
  rw[hg,Bool.and_eq_true,decide_eq_true_eq,decide_eq_true_eq];omega
 have h2:ascI g (blkL N b w x y).length=true:=asc_iff.2 λ t ht h0=>by
  have:=blk_sorted (N:=N) (b:=b) (w:=w) (x:=x) (y:=y) (show t-1<t by omega) ht
  rw[hg,hg];omega
 have e:qbR N b w (blkL N b w x y).length g=qbG N b w (bkB (blkL N b w x y).length g):=by
  unfold qbR
  rw[if_neg (by rintro(h|h|h);{ omega };{ rw[h1] at h;cases h };{ rw[h2] at h;cases h })]
 have hblk:=(gen_blk hD hb hw hx hS).1
 obtain⟨q1,q2,q3,q4,_⟩:=gen_quot hD hb hw hx hS
 have hc:=gen_count hD hb hw hx hS
 have hM:=q1.le
 have lt:∀{p:Nat->Nat},Perm (qM N [b,w] (bkB (blkL N b w x y).length g)) p->(∀i,qM N [b,w] (bkB (blkL N b w x y).length g)<=i->p i=0)->∀i,p i<256:=λ{p} hp hz i=>by
  by_cases h:i<qM N [b,w] (bkB (blkL N b w x y).length g)
  ·have:=hp.lt i h;omega
  ·rw[hz i (by omega)];omega
 exact⟨_,_,_,by rw[e,qbG_yes hblk],q1,desB_mk q1 (λ i hi=>(q2 i hi).1) (λ i hi=>(q2 i hi).2),hc,gen_cover hD q1 q4 q3,hxm,hym,lt q1.pb λ i hi=>(q2 i hi).1,lt q1.pw λ i hi=>(q2 i hi).2⟩
end
end Go.Proofs.YthjnmlpibafbnaaGreat
