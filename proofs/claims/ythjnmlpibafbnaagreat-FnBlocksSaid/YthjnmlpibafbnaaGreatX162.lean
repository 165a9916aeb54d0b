import Derived.Test.YthjnmlpibafbnaaGreatX30
import Derived.Test.YthjnmlpibafbnaaGreatX6
import Derived.Test.YthjnmlpibafbnaaGreatX161
import Derived.Test.YthjnmlpibafbnaaGreatD34
namespace Go.Proofs.YthjnmlpibafbnaaGreat
open Go.RowKit DM
set_option linter.unusedSimpArgs false
set_option linter.unusedVariables false
set_option maxRecDepth 100000
set_option maxHeartbeats 1000000
theorem fill_at{f:Nat->Nat}{n i:Nat}(h:i<n):fillF f n i=f i:=by simp[fillF,h]
theorem fill_hit{f:Nat->Nat}{s t i N:Nat}(hi:i<N)(h:f i=s):up (fillF (pj f s t i) N) i t=fillF (pj f s t (i+1)) N:=by
 rw[<-pj_hit h]
 funext j
 unfold up fillF
 by_cases e:j=i
 ·subst e;simp[hi]
 ·simp[e]
theorem ap_prs2(l:List (Nat×Nat))(y y':Nat×Nat)(z:Nat->Dat)(j:Nat)(hj:j<l.length+2):prF (l++[y,y']) j=apF l.length (prF l) 0 (fup (fup z 0 (.ar 2 1 (prI y))) 1 (.ar 2 1 (prI y'))) j:=by
 unfold apF prF
 by_cases h:j<l.length
 ·rw[blt_true h]
  congr 2
  simp only[List.getD_eq_getElem?_getD]
  rw[List.getElem?_append_left h]
 ·rw[blt_false h]
  have e:j=l.length\/j=l.length+1:=by omega
  rcases e with rfl|rfl
  ·simp[List.getD_eq_getElem?_getD,fup];rfl
  ·simp[List.getD_eq_getElem?_getD,fup]
theorem l03Block_fn(N:Nat)(b w:Nat->Nat)(x y:Nat)(hx:x<N)(hy:y<N)(hN:N<=16)(hb:∀i,i<N->b i<N)(hw:∀i,i<N->w i<N):FnS Tryz.prog 36 [ds_ N b w,.i .i64 (x:Int),.i .i64 (y:Int)] []
  (λ r m'=>r=.sl 0 0 (blkL N b w x y).length 1/\m'=[.row 2 (blkL N b w x y).length 1 (numsF (blkL N b w x y))]):=by
 refine FnS.intoN T tok Tryz.func36 (by rfl) rfl rfl rfl (by simp) ?_
 refine rS ?_
 refine rS ?_
 refine WP.seq ?_
 refine rS ?_
 refine WP.block ?_
 refine WP.loopH (⟨λ i:Nat=>i<=N,λ i=>[(1,.i .i64 (x:Int)),(2,.i .i64 (y:Int)),(3,.p 0 [] 0),(7,.p 1 [] 0),(8,.i .i64 (i:Int))],λ i=>[.var (ds_ N b w),.var (.ar 16 1 (nmF (fillF (λ i=>i) i)))],λ i=>N-i⟩) (0) (Nat.zero_le _) (gC [0,1] (by repeat (first|exact trivial|(refine lC ?_ ?_;first|exact byLz|(exact le_var (by rw[fill_zero];rfl))|exact byLeq)))) ?_
 ·intro i hi
  dsimp only at hi
  dsimp only[Hd.at]
  refine WP.seq ?_
  refine rS ?_
  refine cI (λ hc=>?_) λ hc=>?_
  ·have hi:i<N:=by have:=of_decide_eq_true hc;omega
   clear hc
   refine WP.seq (WP.block ?_)
   refine rE ?_
   refine rE ?_
   refine Again.next (i+1) (gC [0,1] (by repeat (first|exact trivial|(refine lC ?_ ?_;first|exact byLz|(exact le_var (by rw[<-fill_step,nm_up];rfl))|exact byLeq)))) (hi) (by dsimp only;omega)
  ·have hi:i=N:=by have:=of_decide_eq_false hc;omega
   subst hi
   refine rS ?_
   refine WP.seq ?_
   refine rS ?_
   refine WP.block ?_
   refine WP.loopH (⟨λ s:Nat×List (Nat×Nat)×(Nat->Nat)=>BlkInv i b w x y s.2.2 (s.2.1.drop s.1)/\s.1<=s.2.1.length/\s.2.1.length+2*reps i s.2.2<=33,λ s=>[(1,.i .i64 (x:Int)),(3,.p 0 [] 0),(7,.p 1 [] 0),(9,.sl 2 0 s.2.1.length 2),(10,.i .i64 (s.1:Int))],λ s=>[.var (ds_ i b w),.var (.ar 16 1 (nmF (fillF s.2.2 i))),.row 97 s.2.1.length 2 (prF s.2.1)],λ s=>3*reps i s.2.2+(s.2.1.length-s.1)⟩) ((0,[(x,y)],λ i=>i)) (⟨BlkInv.start hx hy,Nat.zero_le _,by have:=reps_le i λ i=>i;simp only[List.length_singleton];omega⟩) (gC [0,1,2] (by repeat (first|exact trivial|(refine lC ?_ ?_;first|exact byLz|(exact le_row (Nat.le_refl _) (λ j hj=>by obtain rfl:j=0:=(by have:j<1:=hj;omega);rfl))|exact byLeq)))) ?_
   rintro⟨k,Q,f⟩ ⟨hI,hkl,hM⟩
   simp only at hI hkl hM
   dsimp only[Hd.at]
   refine WP.seq ?_
   refine rS ?_
   refine cI (λ hc=>?_) λ hc=>?_
   ·have hk:k<Q.length:=by have:=of_decide_eq_true hc;omega
    clear hc
    have hdrop:Q.drop k=((Q.getD k (0,0)).1,(Q.getD k (0,0)).2)::Q.drop (k+1):=by
     rw[List.drop_eq_getElem_cons hk,List.getD_eq_getElem?_getD,List.getElem?_eq_getElem hk];rfl
    rw[hdrop] at hI
    obtain⟨hi0,hj0⟩:=hI.lt _ _ (List.mem_cons_self ..)
    have hfa:fillF f i (Q.getD k (0,0)).1=f (Q.getD k (0,0)).1:=fill_at hi0
    have hfb:fillF f i (Q.getD k (0,0)).2=f (Q.getD k (0,0)).2:=fill_at hj0
    have hi16:(Q.getD k (0,0)).1<16:=by omega
    have hj16:(Q.getD k (0,0)).2<16:=by omega
    refine WP.seq (WP.block ?_)
    refine WP.dw (by kernel_rfl) (by kernel_rfl) ?_
    refine WQ.fin T false tok (by rfl) (by rfl) (by exact byObl) ?_
    refine WP.ghost (gC [0,1,2] (leC (leC (leC leZ))) (l:=[(1,.i .i64 (x:Int)),(3,.p 0 [] 0),(7,.p 1 [] 0),(9,.sl 2 0 Q.length 2),(10,.i .i64 (k:Int)),(11,.i .i64 (((Q.getD k (0,0)).1:Nat):Int)),(12,.i .i64 (((Q.getD k (0,0)).2:Nat):Int))]) (m':=[.var (ds_ i b w),.var (.ar 16 1 (nmF (fillF f i))),.row 97 Q.length 2 (prF Q)])) ?_
    generalize (Q.getD k (0,0)).1=i0 at*
    generalize (Q.getD k (0,0)).2=j0 at*
    refine WP.seq ?_
    refine WP.dw (by kernel_rfl) (by kernel_rfl) ?_
    refine WQ.fin T false tok (by rfl) (by rfl) (by exact byObl) ?_
    have hfa':fillF f i ((i0:Nat):Int).toNat=f i0:=hfa
    have hfb':fillF f i ((j0:Nat):Int).toNat=f j0:=hfb
    rw[hfa',hfb']
    by_cases he:f i0=f j0
    ·refine cS (λ h=>?_) λ h=>?_
     ·refine WP.exit ?_
      refine rE ?_
      refine Again.next ((k+1,Q,f)) (gC [0,1,2] (leC (leC (leC leZ)))) (⟨hI.skip he,hk,hM⟩) (by dsimp only;omega)
     ·have h:=of_decide_eq_false h
      exact absurd (by exact_mod_cast he) h
    ·refine cS (λ h=>?_) λ h=>?_
     ·have h:=of_decide_eq_true h
      exact absurd (by exact_mod_cast h) he
     ·have hst:(f j0=f i0/\f i0=f j0)\/(f j0=f j0/\f i0=f i0):=.inr ⟨rfl,rfl⟩
      have hrep:=hI.reps hst (λ e=>he e.symm)
      have hI2:=hI.join hb hw hst
      have hb1:=hb _ hi0
      have hb2:=hb _ hj0
      have hw1:=hw _ hi0
      have hw2:=hw _ hj0
      refine WP.dw (by kernel_rfl) (by kernel_rfl) ?_
      refine WQ.fin T false tok (by rfl) (by rfl) (by exact byObl) ?_
      rw[hfa',hfb']
      refine WP.seq ?_
      refine rS ?_
      refine WP.block ?_
      refine WP.loopH (⟨λ q:Nat=>q<=i,λ q=>[(1,.i .i64 (x:Int)),(3,.p 0 [] 0),(7,.p 1 [] 0),(9,.sl 2 0 Q.length 2),(10,.i .i64 (k:Int)),(11,.i .i64 (i0:Int)),(12,.i .i64 (j0:Int)),(13,.i .i64 (f j0:Int)),(14,.i .i64 (f i0:Int)),(15,.i .i64 (q:Int))],λ q=>[.var (ds_ i b w),.var (.ar 16 1 (nmF (fillF (pj f (f j0) (f i0) q) i))),.row 97 Q.length 2 (prF Q)],λ q=>i-q⟩) (0) (Nat.zero_le _) (gC [0,1,2] (by repeat (first|exact trivial|(refine lC ?_ ?_;first|exact byLz|((rw[pj_zero];exact Root.Le.refl _))|exact byLeq)))) ?_
      intro q hq
      dsimp only at hq
      dsimp only[Hd.at]
      refine WP.seq ?_
      refine rS ?_
      refine cI (λ hc=>?_) λ hc=>?_
      ·have hq:q<i:=by have:=of_decide_eq_true hc;omega
       clear hc
       have hq16:q<16:=by omega
       have hfq:fillF (pj f (f j0) (f i0) q) i ((q:Nat):Int).toNat=f q:=(fill_at hq).trans (pj_at _ _ _ _)
       refine WP.seq (WP.block ?_)
       refine rS ?_
       rw[hfq]
       by_cases hh:f q=f j0
       ·refine cS (λ h=>?_) λ h=>?_
        ·refine rE ?_
         refine rE ?_
         refine Again.next (q+1) (gC [0,1,2] (by repeat (first|exact trivial|(refine lC ?_ ?_;first|exact byLz|(exact le_var (by rw[<-fill_hit hq hh,nm_up];rfl))|exact byLeq)))) (hq) (by dsimp only;omega)
        ·have h:=of_decide_eq_false h
         exact absurd (by exact_mod_cast hh) h
       ·refine cS (λ h=>?_) λ h=>?_
        ·have h:=of_decide_eq_true h
         exact absurd (by exact_mod_cast h) hh
        ·refine rE ?_
         refine Again.next (q+1) (gC [0,1,2] (by repeat (first|exact trivial|(refine lC ?_ ?_;first|exact byLz|((rw[<-pj_miss hh];exact Root.Le.refl _))|exact byLeq)))) (hq) (by dsimp only;omega)
      ·have hq:q=i:=by have:=of_decide_eq_false hc;omega
       subst hq
       have hg:fillF (pj f (f j0) (f i0) q) q=fillF (joinF f (f j0) (f i0)) q:=by
        funext j
        unfold fillF
        split
        ·rename_i h;exact pj_lt h
        ·rfl
       rw[hg]
       generalize joinF f (f j0) (f i0)=g at*
       refine WP.da (by kernel_rfl) 24 (by kernel_rfl) ?_
       refine WA.takes T false tok [0,1,2,3,4,5,6,7] (f':=18) (by kernel_rfl) (by rfl) (by rfl) (by rfl) (by exact byObl) (by rfl) (by rfl) ?_
       refine WA.takes T false tok [8,9,10,11,12,13,14,15] (f':=10) (by kernel_rfl) (by rfl) (by rfl) (by rfl) (by exact byObl) (by rfl) (by rfl) ?_
       refine WA.takes T false tok [16,17,18,19,20,21,22] (f':=3) (by kernel_rfl) (by rfl) (by rfl) (by rfl) (by exact byObl) (by rfl) (by rfl) ?_
       refine WA.all [23] (by kernel_rfl) (by simp) ?_
       intro i' hi'
       obtain rfl:i'=23:=by simpa using hi'
       refine⟨_,_,_,rfl,by rfl,by rfl,MK.of tok (wm:=false) (by rfl) (by exact byObl) (by rfl) (by exact byObl),?_⟩
       refine WA.tail (by rfl) (by rfl) (by kernel_rfl) ?_
       refine rF ?_
       refine noPan ?_
       refine rE ?_
       have hLen:(Q++[(b i0,b j0),(w i0,w j0)]).length=Q.length+2:=by simp
       refine Again.next ((k+1,Q++[(b i0,b j0),(w i0,w j0)],g)) (gC [0,1,4] (by repeat (first|exact trivial|(refine lC ?_ ?_;first|exact byLz|(exact le_row (Nat.le_of_eq hLen) (λ j hj=>ap_prs2 Q _ _ _ j (by rw[hLen] at hj;exact hj)))|exact byLeq)))) (⟨by rw[List.drop_append_of_le_length (by omega)];exact hI2.perm λ z=>by(simp only[List.mem_append,List.mem_cons,List.not_mem_nil,or_false];constructor<;>rintro(h|h|h)<;>simp[h]),by rw[hLen];omega,by simp only[hLen];omega⟩) (by simp only[hLen];omega)
   ·have hk:Q.length<=k:=by have:=of_decide_eq_false hc;omega
    rw[List.drop_eq_nil_of_le hk] at hI
    have hL:=hI.list
    have hfx:fillF f i x=f x:=fill_at hx
    have hx16:x<16:=by omega
    refine rS ?_
    refine WP.seq ?_
    refine rS ?_
    refine WP.block ?_
    refine WP.loopH (⟨λ q:Nat=>q<=i,λ q=>[(1,.i .i64 (x:Int)),(3,.p 0 [] 0),(7,.p 1 [] 0),(16,.sl 2 0 (fltL f (f x) q).length 1),(17,.i .i64 (q:Int))],λ q=>[.var (ds_ i b w),.var (.ar 16 1 (nmF (fillF f i))),.row 2 (fltL f (f x) q).length 1 (numsF (fltL f (f x) q))],λ q=>i-q⟩) (0) (Nat.zero_le _) (gC [0,1,3] (by repeat (first|exact trivial|(refine lC ?_ ?_;first|exact byLz|(exact le_row (Nat.le_refl _) (λ j hj=>absurd hj (Nat.not_lt_zero _)))|exact byLeq)))) ?_
    intro q hq
    dsimp only at hq
    dsimp only[Hd.at]
    have hl:=flt_len f (f x) q
    refine WP.seq ?_
    refine rS ?_
    refine cI (λ hc=>?_) λ hc=>?_
    ·have hq:q<i:=by have:=of_decide_eq_true hc;omega
     clear hc
     have hq16:q<16:=by omega
     have hfq:fillF f i ((q:Nat):Int).toNat=f q:=fill_at hq
     have hfx':fillF f i ((x:Nat):Int).toNat=f x:=hfx
     refine WP.seq (WP.block ?_)
     refine WP.seq ?_
     refine WP.drawsQ (by kernel_rfl) (by kernel_rfl) ?_
     refine WQ.fin T false tok (by rfl) (by rfl) (by exact byObl) ?_
     rw[hfq,hfx']
     by_cases he:f q=f x
     ·refine cS (λ h=>?_) λ h=>?_
      ·refine rE ?_
       refine rE ?_
       have hLen:(fltL f (f x) (q+1)).length=(fltL f (f x) q).length+1:=by rw[flt_hit he];simp
       refine Again.next (q+1) (gC [0,1,4] (by repeat (first|exact trivial|(refine lC ?_ ?_;first|exact byLz|(exact le_row (Nat.le_of_eq hLen) (λ j hj=>by rw[flt_hit he];exact ap_nums _ _ _ j (by rw[hLen] at hj;exact hj)))|exact byLeq)))) (hq) (by dsimp only;omega)
      ·have h:=of_decide_eq_false h
       exact absurd (by exact_mod_cast he) h
     ·refine cS (λ h=>?_) λ h=>?_
      ·have h:=of_decide_eq_true h
       exact absurd (by exact_mod_cast h) he
      ·refine rE ?_
       have hLen:(fltL f (f x) (q+1)).length=(fltL f (f x) q).length:=by rw[flt_miss he]
       refine Again.next (q+1) (gC [0,1,2] (by repeat (first|exact trivial|(refine lC ?_ ?_;first|exact byLz|((rw[flt_miss he];exact Root.Le.refl _))|exact byLeq)))) (hq) (by dsimp only;omega)
    ·have hq:q=i:=by have:=of_decide_eq_false hc;omega
     subst hq
     rw[<-hL]
     refine rS ?_
     exact WP.ret (Ends.new [2] (by rfl) (by exact byObl) (leC leZ) rfl rfl (rfl) (sc_sl rfl))
def inN(n:Int)(x:Int):Bool:=decide (0<=x)&&decide (x<n)
theorem isDart_fn(n:Int)(b w:Nat->Nat)(l:List Int)(hl:l.length<=4294967296):FnR Tryz.prog 32 [ds_ n b w,.sl 0 0 l.length 1] [.ro l.length 1 (λ i=>.i .i64 (l.getD i 0))] (.b (l.all (inN n))):=by
 refine FnS.into T tok Tryz.func32 (by rfl) rfl rfl rfl (by simp) ?_
 refine rS ?_
 refine WP.seq ?_
 refine rS ?_
 refine WP.block ?_
 refine WP.loopH (⟨λ k:Nat=>k<=l.length/\∀j,j<k->inN n (l.getD j 0)=true,λ k=>[(2,.p 1 [] 0),(7,.sl 0 0 l.length 1),(8,.i .i64 (l.length:Int)),(9,.i .i64 (k:Int))],λ k=>[.ro l.length 1 (λ i=>.i .i64 (l.getD i 0)),.var (ds_ n b w)],λ k=>l.length-k⟩) (0) (⟨Nat.zero_le _,λ j hj=>absurd hj (Nat.not_lt_zero _)⟩) (gC [0,1] (leC (leC leZ))) ?_
 rintro k ⟨hk,hall⟩
 dsimp only[Hd.at]
 have no:k<l.length->inN n (l.getD k 0)=false->l.all (inN n)=false:=λ h1 h2=>by
  rw[List.all_eq_false]
  refine⟨l.getD k 0,?_,by rw[h2];simp⟩
  rw[List.getD_eq_getElem?_getD,List.getElem?_eq_getElem h1]
  exact List.getElem_mem h1
 refine rS ?_
 refine WP.seq ?_
 refine cI (λ hc=>?_) λ hc=>?_
 ·have hk:k<l.length:=by have:=of_decide_eq_true hc;omega
  clear hc
  refine WP.seq (WP.block ?_)
  refine rS ?_
  refine WP.seq ?_
  refine WP.region ?_
  refine rU 2 ?_
  have hno:=no hk
  have hyes:inN n (l.getD k 0)=true->∀j,j<k+1->inN n (l.getD j 0)=true:=λ h j hj=>by
   by_cases e:j=k
   ·subst e;exact h
   ·exact hall j (by omega)
  have hx:l.getD (addrAt 0 ((k:Nat):Int).toNat) 0=l.getD k 0:=rfl
  rw[hx]
  generalize l.getD k 0=x at*
  cases h1:decide (x<0)
  ·have h1':0<=x:=by have:=of_decide_eq_false h1;omega
   refine rF ?_
   refine cS (λ h=>?_) λ h=>?_
   ·have h:=of_decide_eq_true h
    rw[hno (by simp[inN];omega)]
    refine rS ?_
    exact WP.ret (Ends.val (by rfl) (by exact byObl) (by rfl) (by trivial))
   ·have h:=of_decide_eq_false h
    refine rE ?_
    refine Again.next (k+1) (gC [0,1] (leC (leC leZ))) (⟨hk,hyes (by simp[inN];omega)⟩) (by dsimp only;omega)
  ·have h1':x<0:=of_decide_eq_true h1
   refine rF ?_
   refine cS (λ h=>?_) λ h=>?_
   ·rw[hno (by simp[inN];omega)]
    refine rS ?_
    exact WP.ret (Ends.val (by rfl) (by exact byObl) (by rfl) (by trivial))
   ·cases h
 ·have hk:k=l.length:=by have:=of_decide_eq_false hc;omega
  subst hk
  have e:l.all (inN n)=true:=by
   rw[List.all_eq_true]
   intro x hx
   obtain⟨j,hj,rfl⟩:=List.mem_iff_getElem.1 hx
   have:=hall j hj
   rwa [List.getD_eq_getElem?_getD,List.getElem?_eq_getElem hj] at this
  rw[e]
  refine rS ?_
  exact WP.ret (Ends.val (by rfl) (by exact byObl) (by rfl) (by trivial))
noncomputable def bkR (n:Int)(b w:Nat->Nat)(x y:Int):Dat×List Root:=bif desB n b w then(bif inN n x&&inN n y then(t2 (.sl 0 0 (blkL n.toNat b w x.toNat y.toNat).length 1) (.i .i64 0),[.row 2 (blkL n.toNat b w x.toNat y.toNat).length 1 (numsF (blkL n.toNat b w x.toNat y.toNat))]) else(t2 .ns (.i .i64 2),[])) else(t2 .ns (.i .i64 1),[])
theorem implBlockOf_fn(n:Int)(b w:Nat->Nat)(hb:∀i,b i<256)(hw:∀i,w i<256)(x y:Int):FnS Tryz.prog 6 [ds_ n b w,.i .i64 x,.i .i64 y] [] (λ r m'=>r=(bkR n b w x y).1/\m'=(bkR n b w x y).2):=by
 cases hc:desB n b w
 ·have e:bkR n b w x y=(t2 .ns (.i .i64 1),[]):=by unfold bkR;rw[hc];rfl
  rw[e]
  refine FnS.intoN T tok Tryz.func6 (by rfl) rfl rfl rfl (by simp) ?_
  refine rS ?_
  refine WP.seq (WP.block ?_)
  refine WP.rw ?_
  refine rU 1 ?_
  refine cA (hc▸implIsDessin_fn n b w hb hw) ?_
  refine rF ?_
  refine cQ (λ h=>?_) λ h=>?_
  ·refine rS ?_
   exact WP.ret (Ends.new [] (by rfl) (by exact byObl) leZ rfl rfl (ren_t2 ⟨rfl,trivial⟩ ⟨rfl,trivial⟩) (sc_t2 trivial trivial))
  ·cases h
 ·obtain⟨N,rfl,hD⟩:=des_of_B hc
  have hdart:=isDart_fn N b w [x,y] (by simp)
  have hall:[x,y].all (inN N)=(inN N x&&inN N y):=by simp
  rw[hall] at hdart
  cases hd:(inN N x&&inN N y)
  ·have e:bkR N b w x y=(t2 .ns (.i .i64 2),[]):=by unfold bkR;rw[hc,hd];rfl
   rw[e]
   rw[hd] at hdart
   refine FnS.intoN T tok Tryz.func6 (by rfl) rfl rfl rfl (by simp) ?_
   refine rS ?_
   refine WP.seq (WP.block ?_)
   refine WP.rw ?_
   refine rU 1 ?_
   refine cA (hc▸implIsDessin_fn N b w hb hw) ?_
   refine rF ?_
   refine cQ (λ h=>?_) λ h=>?_
   ·cases h
   refine WP.rw ?_
   refine rU 4 ?_
   refine cR [1] (hdart) (LeAll.cons (by rfl) (by first|with_reducible exact Root.Le.refl _|with_reducible exact le_dead|(exact le_frz (Nat.le_refl _) (λ j hj=>by rcases j with _|_|j<;>first|rfl|(simp at hj;omega)))|exact byLeq) (by exact byCon) (leZ)) ?_
   refine rF ?_
   refine cS (λ h2=>?_) λ h2=>?_
   ·refine rS ?_
    exact WP.ret (Ends.new [] (by rfl) (by exact byObl) leZ rfl rfl (ren_t2 ⟨rfl,trivial⟩ ⟨rfl,trivial⟩) (sc_t2 trivial trivial))
   ·cases h2
  ·have hx:(0<=x/\x<(N:Int))/\(0<=y/\y<(N:Int)):=by simpa[inN] using hd
   obtain⟨X,rfl⟩:∃X:Nat,x=X:=⟨x.toNat,by omega⟩
   obtain⟨Y,rfl⟩:∃Y:Nat,y=Y:=⟨y.toNat,by omega⟩
   have e:bkR N b w X Y=(t2 (.sl 0 0 (blkL N b w X Y).length 1) (.i .i64 0),[.row 2 (blkL N b w X Y).length 1 (numsF (blkL N b w X Y))]):=by unfold bkR;rw[hc,hd];rfl
   rw[e]
   rw[hd] at hdart
   have hblk:=block_fn N b w X Y (by omega) (by omega) hD.le hD.pb.lt hD.pw.lt
   generalize blkL N b w X Y=L at*
   refine FnS.intoN T tok Tryz.func6 (by rfl) rfl rfl rfl (by simp) ?_
   refine rS ?_
   refine WP.seq (WP.block ?_)
   refine WP.rw ?_
   refine rU 1 ?_
   refine cA (hc▸implIsDessin_fn N b w hb hw) ?_
   refine rF ?_
   refine cQ (λ h=>?_) λ h=>?_
   ·cases h
   refine WP.rw ?_
   refine rU 4 ?_
   refine cR [1] (hdart) (LeAll.cons (by rfl) (by first|with_reducible exact Root.Le.refl _|with_reducible exact le_dead|(exact le_frz (Nat.le_refl _) (λ j hj=>by rcases j with _|_|j<;>first|rfl|(simp at hj;omega)))|exact byLeq) (by exact byCon) (leZ)) ?_
   refine rF ?_
   refine cS (λ h2=>?_) λ h2=>?_
   ·cases h2
   refine WP.rw ?_
   refine rU 3 ?_
   refine cN [] (.sl 2 0 L.length 1) (hblk) leZ (rfl) ?_
   refine rF ?_
   exact WP.ret (Ends.new [2] (by rfl) (by exact byObl) (leC leZ) rfl rfl (ren_t2 rfl ⟨rfl,trivial⟩) (sc_t2 (sc_sl rfl) trivial))
theorem specBlockOf_fn(n:Int)(b w:Nat->Nat)(hb:∀i,b i<256)(hw:∀i,w i<256)(x y:Int):FnS Tryz.prog 7 [ds_ n b w,.i .i64 x,.i .i64 y] [] (λ r m'=>r=(bkR n b w x y).1/\m'=(bkR n b w x y).2):=by
 cases hc:desB n b w
 ·have e:bkR n b w x y=(t2 .ns (.i .i64 1),[]):=by unfold bkR;rw[hc];rfl
  rw[e]
  refine FnS.intoN T tok Tryz.func7 (by rfl) rfl rfl rfl (by simp) ?_
  refine rS ?_
  refine WP.seq (WP.block ?_)
  refine WP.rw ?_
  refine rU 1 ?_
  refine cA (hc▸l01Is_fn n b w hb hw) ?_
  refine rF ?_
  refine cQ (λ h=>?_) λ h=>?_
  ·refine rS ?_
   exact WP.ret (Ends.new [] (by rfl) (by exact byObl) leZ rfl rfl (ren_t2 ⟨rfl,trivial⟩ ⟨rfl,trivial⟩) (sc_t2 trivial trivial))
  ·cases h
 ·obtain⟨N,rfl,hD⟩:=des_of_B hc
  have h1:=hD.pos
  have h16:=hD.le
  have hinx:=l01In_fn x 0 ((N:Int)-1)
  rw[show(decide (0<=x)&&decide (x<=(N:Int)-1))=inN N x from by unfold inN;congr 1;simp;omega] at hinx
  have hiny:=l01In_fn y 0 ((N:Int)-1)
  rw[show(decide (0<=y)&&decide (y<=(N:Int)-1))=inN N y from by unfold inN;congr 1;simp;omega] at hiny
  cases hdx:inN N x
  ·have e:bkR N b w x y=(t2 .ns (.i .i64 2),[]):=by unfold bkR;rw[hc,hdx];rfl
   rw[e]
   rw[hdx] at hinx
   refine FnS.intoN T tok Tryz.func7 (by rfl) rfl rfl rfl (by simp) ?_
   refine rS ?_
   refine WP.seq (WP.block ?_)
   refine WP.rw ?_
   refine rU 1 ?_
   refine cA (hc▸l01Is_fn N b w hb hw) ?_
   refine rF ?_
   refine cQ (λ h=>?_) λ h=>?_
   ·cases h
   refine WP.rw ?_
   refine rU 4 ?_
   refine cA (hinx) ?_
   refine rU 6 ?_
   refine WPL.skip (by rfl) (by rfl) ?_
   refine rF ?_
   refine cS (λ h2=>?_) λ h2=>?_
   ·refine rS ?_
    exact WP.ret (Ends.new [] (by rfl) (by exact byObl) leZ rfl rfl (ren_t2 ⟨rfl,trivial⟩ ⟨rfl,trivial⟩) (sc_t2 trivial trivial))
   ·cases h2
  ·rw[hdx] at hinx
   cases hdy:inN N y
   ·have e:bkR N b w x y=(t2 .ns (.i .i64 2),[]):=by unfold bkR;rw[hc,hdx,hdy];rfl
    rw[e]
    rw[hdy] at hiny
    refine FnS.intoN T tok Tryz.func7 (by rfl) rfl rfl rfl (by simp) ?_
    refine rS ?_
    refine WP.seq (WP.block ?_)
    refine WP.rw ?_
    refine rU 1 ?_
    refine cA (hc▸l01Is_fn N b w hb hw) ?_
    refine rF ?_
    refine cQ (λ h=>?_) λ h=>?_
    ·cases h
    refine WP.rw ?_
    refine rU 4 ?_
    refine cA (hinx) ?_
    refine rU 6 ?_
    refine cA (hiny) ?_
    refine rF ?_
    refine cS (λ h2=>?_) λ h2=>?_
    ·refine rS ?_
     exact WP.ret (Ends.new [] (by rfl) (by exact byObl) leZ rfl rfl (ren_t2 ⟨rfl,trivial⟩ ⟨rfl,trivial⟩) (sc_t2 trivial trivial))
    ·cases h2
   ·have hx:(0<=x/\x<(N:Int))/\(0<=y/\y<(N:Int)):=⟨by simpa[inN] using hdx,by simpa[inN] using hdy⟩
    obtain⟨X,rfl⟩:∃X:Nat,x=X:=⟨x.toNat,by omega⟩
    obtain⟨Y,rfl⟩:∃Y:Nat,y=Y:=⟨y.toNat,by omega⟩
    have e:bkR N b w X Y=(t2 (.sl 0 0 (blkL N b w X Y).length 1) (.i .i64 0),[.row 2 (blkL N b w X Y).length 1 (numsF (blkL N b w X Y))]):=by unfold bkR;rw[hc,hdx,hdy];rfl
    rw[e]
    rw[hdy] at hiny
    have hblk:=l03Block_fn N b w X Y (by omega) (by omega) hD.le hD.pb.lt hD.pw.lt
    generalize blkL N b w X Y=L at*
    refine FnS.intoN T tok Tryz.func7 (by rfl) rfl rfl rfl (by simp) ?_
    refine rS ?_
    refine WP.seq (WP.block ?_)
    refine WP.rw ?_
    refine rU 1 ?_
    refine cA (hc▸l01Is_fn N b w hb hw) ?_
    refine rF ?_
    refine cQ (λ h=>?_) λ h=>?_
    ·cases h
    refine WP.rw ?_
    refine rU 4 ?_
    refine cA (hinx) ?_
    refine rU 6 ?_
    refine cA (hiny) ?_
    refine rF ?_
    refine cS (λ h2=>?_) λ h2=>?_
    ·cases h2
    refine WP.rw ?_
    refine rU 3 ?_
    refine cN [] (.sl 1 0 L.length 1) (hblk) leZ (rfl) ?_
    refine rF ?_
    exact WP.ret (Ends.new [1] (by rfl) (by exact byObl) (leC leZ) rfl rfl (ren_t2 rfl ⟨rfl,trivial⟩) (sc_t2 (sc_sl rfl) trivial))
theorem blk_len(n:Nat)(b w:Nat->Nat)(x y:Nat):(blkL n b w x y).length<=n:=by
 unfold blkL
 have:=List.length_filter_le (λ i=>@decide (Gen b w x y i x) (Classical.propDecidable _)) (List.range n)
 simpa using this
set_option maxHeartbeats 16000000
abbrev dzB:Dat:=ds_ 0 (λ _=>0) (λ _=>0)
theorem q11{y:Int}(h0:0<=y)(h1:y<12):0<=y.tdiv 11/\y.tdiv 11<=1:=by rw[Int.tdiv_eq_ediv_of_nonneg h0];omega
theorem qdC4{N n fuel:Nat}{Q:Exit->St->Prop}{ops:Array Oper}{listed listed':Array Bool}{fr:Nat->Dat}{m m':List Root}{l:List (Nat×Dat)}(k:WA Tryz.prog N 1 ops Q n fuel listed' ⟨lst l,m'⟩)(e:listed'=listed:=by rfl)(h:LeAll 1 m [0,1,2,3] m':=by exact leC (leC (leC (leC leZ))))(hl:SlotsR (tauOf [0,1,2,3]) m'.length fr l:=by exact bySlots):WA Tryz.prog N 1 ops Q n fuel listed ⟨fr,m⟩:=by
 subst e;exact wC [0,1,2,3] l m' h k
theorem qdC5{N n fuel:Nat}{Q:Exit->St->Prop}{ops:Array Oper}{listed listed':Array Bool}{fr:Nat->Dat}{m m':List Root}{l:List (Nat×Dat)}(k:WA Tryz.prog N 1 ops Q n fuel listed' ⟨lst l,m'⟩)(e:listed'=listed:=by rfl)(h:LeAll 1 m [0,1,2,3,4] m':=by exact leC (leC (leC (leC (leC leZ)))))(hl:SlotsR (tauOf [0,1,2,3,4]) m'.length fr l:=by exact bySlots):WA Tryz.prog N 1 ops Q n fuel listed ⟨fr,m⟩:=by
 subst e;exact wC [0,1,2,3,4] l m' h k
noncomputable def qdR (len:Nat)(g:Nat->Nat)(N:Nat)(b w:Nat->Nat)(p:Nat)(x y:Int)(a:Nat)(h:Int):List Root:=.ro len 1 (byF g)::.var (bif Nat.ble 4 p then ds_ N b w else dzB)::.var (ds_ N b w)::.var (srcD len g a h)::(bif Nat.ble 3 p then[.row 2 (blkL N b w x.toNat y.toNat).length 1 (numsF (blkL N b w x.toNat y.toNat))] else[])
def qlR(len:Nat)(g:Nat->Nat)(n:Int)(b w:Nat->Nat)(L:List Nat)(a:Nat)(h:Int):List Root:=[.ro len 1 (byF g),.var dzB,.var (ds_ n b w),.var (srcD len g a h),.row 2 L.length 1 (numsF L)]
noncomputable def qdF (len:Nat)(g:Nat->Nat)(N:Nat)(b w:Nat->Nat)(p:Nat)(l0 l1 l4 l8:Bool)(a:Nat)(h:Int)(x y:Int):List (Nat×Dat):=cs [(true,2,.p 1 [] 0),(true,5,.p 2 [] 0),(l0&&Nat.blt p 4,19,ds_ N b w),(l1&&Nat.blt p 3,20,ds_ N b w),(Nat.blt p 1,21,.p 3 [] 0),(!l4,22,.p 2 [0] 0),(l4&&Nat.blt p 1,23,.i .i64 N),(Nat.ble 1 p&&Nat.blt p 3,24,.i .i64 x),(Nat.blt p 2,25,.p 3 [] 0),(!l8,26,.p 2 [0] 0),(l8&&Nat.blt p 2,27,.i .i64 N),(Nat.ble 2 p&&Nat.blt p 3,28,.i .i64 y),(Nat.ble 3 p&&Nat.blt p 5,29,.sl 4 0 (blkL N b w x.toNat y.toNat).length 1),(Nat.ble 5 p,3,.sl 4 0 (blkL N b w x.toNat y.toNat).length 1)]
def qdL(p:Nat)(l0 l1 l4 l8:Bool):Array Bool:=#[l0,l1,true,true,l4,Nat.ble 1 p,true,true,l8,Nat.ble 2 p,Nat.ble 3 p,Nat.ble 4 p,Nat.ble 5 p]
noncomputable def qdT (len:Nat)(g:Nat->Nat)(N:Nat)(b w:Nat->Nat)(p:Nat)(l0 l1 l4 l8:Bool)(a:Nat)(h:Int)(x y:Int):St:=⟨lst (qdF len g N b w p l0 l1 l4 l8 a h x y),qdR len g N b w p x y a h⟩
theorem qdS{N0 K fuel:Nat}{ops:Array Oper}{Q:Exit->St->Prop}{listed:Array Bool}{s:St}(len:Nat)(g:Nat->Nat)(N:Nat)(b w:Nat->Nat)(f0 p:Nat)(l0 l1 l4 l8:Bool)
 (h:∀(a:Nat) (h x y:Int),a<=len->(0<=x/\x<N)->(0<=y/\y<N)->WA Tryz.prog N0 K ops Q 5 f0 (qdL p l0 l1 l4 l8) (qdT len g N b w p l0 l1 l4 l8 a h x y))
 (k:(∀(a:Nat) (h x y:Int),a<=len->(0<=x/\x<N)->(0<=y/\y<N)->WA Tryz.prog N0 K ops Q 5 f0 (qdL p l0 l1 l4 l8) (qdT len g N b w p l0 l1 l4 l8 a h x y))->WA Tryz.prog N0 K ops Q 5 fuel listed s):WA Tryz.prog N0 K ops Q 5 fuel listed s:=k h
def qlF(len:Nat)(g:Nat->Nat)(n:Int)(b w:Nat->Nat)(L:List Nat)(x:Nat)(p:Nat)(l2:Bool)(a:Nat)(h:Int)(y:Int):List (Nat×Dat):=cs [(true,2,.p 1 [] 0),(true,4,.p 3 [] 0),(true,5,.p 2 [] 0),(true,6,.sl 4 0 L.length 1),(true,7,.i .i64 x),(!l2,34,.p 2 [0] 0),(l2&&Nat.blt p 1,35,.i .i64 n),(Nat.blt p 1,36,.p 3 [] 0),(Nat.ble 1 p&&!l2,38,.i .i64 (y.tdiv 11)),(Nat.ble 1 p&&l2,40,.b (decide (x<n+y.tdiv 11))),(!l2,33,.i .i64 x),(l2&&Nat.blt p 1,33,.i .i64 x)]
def qlL(p:Nat)(l2:Bool):Array Bool:=#[true,true,l2,true,Nat.ble 1 p,Nat.ble 1 p,l2&&Nat.ble 1 p,l2&&Nat.ble 1 p]
def qlT(len:Nat)(g:Nat->Nat)(n:Int)(b w:Nat->Nat)(L:List Nat)(x:Nat)(p:Nat)(l2:Bool)(a:Nat)(h:Int)(y:Int):St:=⟨lst (qlF len g n b w L x p l2 a h y),qlR len g n b w L a h⟩
theorem qlS{N0 K fuel:Nat}{ops:Array Oper}{Q:Exit->St->Prop}{listed:Array Bool}{s:St}(len:Nat)(g:Nat->Nat)(n:Int)(b w:Nat->Nat)(L:List Nat)(x:Nat)(f0 p:Nat)(l2:Bool)
 (h:∀(a:Nat) (h y:Int),a<=len->(0<=y.tdiv 11/\y.tdiv 11<=1)->WA Tryz.prog N0 K ops Q 4 f0 (qlL p l2) (qlT len g n b w L x p l2 a h y))
 (k:(∀(a:Nat) (h y:Int),a<=len->(0<=y.tdiv 11/\y.tdiv 11<=1)->WA Tryz.prog N0 K ops Q 4 f0 (qlL p l2) (qlT len g n b w L x p l2 a h y))->WA Tryz.prog N0 K ops Q 4 fuel listed s):WA Tryz.prog N0 K ops Q 4 fuel listed s:=k h
theorem drawQd(len:Nat)(g:Nat->Nat)(hg:∀j,g j<256)(hl:len<=4294967296):
  FnS Tryz.prog 13 [.sl 0 0 len 1] [.ro len 1 (byF g)] λ r m'=>∃(n:Int) (b w:Nat->Nat) (L:List Nat),r=t2 (ds_ n b w) (.sl 1 0 L.length 1)/\DrB n b w/\L.length<=100/\m'=[.ro len 1 (byF g),.row 2 L.length 1 (numsF L)]:=by
 have hSc:∀(k a:Nat) (h:Int),Sc k (srcD len g a h):=λ k a h=>sc_src k len g a h
 have sc_ch:=hSc
 have hfr:=l01From_fn len g hg hl
 refine FnS.intoE T tok Tryz.func13 (by rfl) rfl rfl rfl (by simp) ?_
 refine rS ?_
 refine WP.rw ?_
 refine rU 1 ?_
 refine WPL.callE [0] (hfr) (leC leZ) (by rfl) (by rfl) (by exact byArgs) (by rfl) (by rfl) (by simp[Sc,sc_pl,sc_ds]) ?_
 rintro _ _ ⟨rfl,h1,rfl⟩
 refine⟨⟨λ d hd=>by cases hd;exact λ _ _=>trivial,λ d hd=>by cases hd;exact sc_src _ _ _ _ _,trivial⟩,.p 2 [] 0,rfl,sc_p rfl,?_⟩
 refine WPL.mem (by rfl) ?_
 refine rF ?_
 refine WP.rw ?_
 refine rU 1 ?_
 have hso:=l03Draw_fn len g hg 0 h1 (Nat.zero_le _) hl
 refine WPL.callE [2] (hso) (leC leZ) (by rfl) (by rfl) (by exact byArgs) (by rfl) (by rfl) (by simp[Sc,sc_pl,sc_ds]) ?_
 rintro _ _ ⟨n,b,w,a2,h2,rfl,hn1,hn2,hb,hw,ha2,rfl⟩
 have hdr:DrB n b w:=⟨hn1,hn2,hb,hw⟩
 refine⟨⟨λ d hd=>by cases hd;exact sc_src _ _ _ _ _,trivial⟩,ds_ n b w,⟨rfl,sc_ds _ _ _ _⟩,sc_ds _ _ _ _,?_⟩
 refine WPL.mem (by rfl) ?_
 refine rF ?_
 refine WP.ghost (gC [0,1,3,2] (leC (leC (leC (leC leZ)))) (l:=[(2,.p 1 [] 0),(4,.p 3 [] 0),(5,.p 2 [] 0)]) (m':=[.ro len 1 (byF g),.var dzB,.var (ds_ n b w),.var (srcD len g a2 h2)])) ?_
 have his:=l01Is_fn n b w hb.lt hw.lt
 refine WP.seqX (λ z:Nat×Int=>z.1<=len) (λ z=>⟨lst [(2,.p 1 [] 0),(4,.p 3 [] 0),(5,.p 2 [] 0)],[.ro len 1 (byF g),.var dzB,.var (ds_ n b w),.var (srcD len g z.1 z.2)]⟩) ?_ ?_
 ·refine WP.rw ?_
  refine rU 1 ?_
  refine cA (his) ?_
  cases hd:desB n b w
  ·refine rU 1 ?_
   iterate 3 refine WPL.skipU (by rfl) (by rfl) ?_
   refine rF ?_
   refine cF ?_
   refine⟨(a2,h2),ha2,?_⟩
   exact Ghost.cut (Nat.le_refl _) (tauOf [0,1,2,3]) [(2,.p 1 [] 0),(4,.p 3 [] 0),(5,.p 2 [] 0)] [.ro len 1 (byF g),.var dzB,.var (ds_ n b w),.var (srcD len g a2 h2)] (Taken.of [0,1,2,3] (leC (leC (leC (leC leZ)))) rfl rfl) (by exact bySlots)
  obtain⟨N,rfl,hD⟩:=des_of_B hd
  have hN:=hD.le
  have hN1:=hD.pos
  have hnx:=l01Next_fn len g hg a2 h2 6 ha2 hl
  refine rU 2 ?_
  refine WPL.callE [3] (hnx) (leC leZ) (by rfl) (by rfl) (by exact byArgs) (by rfl) (by rfl) (by simp[Sc,sc_pl,sc_ds]) ?_
  rintro _ _ ⟨z,a3,h3,rfl,_,_,ha3,rfl⟩
  refine⟨⟨λ d hd=>by cases hd;exact sc_src _ _ _ _ _,trivial⟩,.i .i64 z,⟨rfl,trivial⟩,trivial,?_⟩
  refine WPL.mem (by rfl) ?_
  refine rF ?_
  refine cQ (λ hz=>?_) λ hz=>?_
  ·refine WP.seq ?_
   refine WP.da (by kernel_rfl) 5 (by kernel_rfl) ?_
   refine qdS len g N b w 0 5 true true true true (λ a1 h1 x y ha hx hy=>?_) λ hS0=>?_
   ·refine WA.end rfl (by kernel_rfl) (noPan ?_)
    exact WP.ret (Ends.newE [0,4] (⟨N,b,w,blkL N b w x.toNat y.toNat,rfl,hdr,by have:=blk_len N b w x.toNat y.toNat;omega,rfl⟩) (.inl rfl) (by rfl) (by exact byObl) (leC (leC leZ)) rfl rfl (ren_t2 ⟨rfl,sc_ds _ _ _ _⟩ rfl) (sc_t2 (sc_ds _ _ _ _) (sc_sl rfl)))
   refine qdS len g N b w 1 4 true true true true (λ a1 h1 x y ha hx hy=>?_) λ hS1=>?_
   ·refine w1 12 ?_
    refine wt ?_
    exact qdC5 (hS0 a1 h1 x y ha hx hy)
   refine qdS len g N b w 2 3 true true true true (λ a1 h1 x y ha hx hy=>?_) λ hS2=>?_
   ·refine w1 11 ?_
    refine wt ?_
    exact qdC5 (hS1 a1 h1 x y ha hx hy)
   refine qdS len g N b w 3 2 true true true true (λ a1 h1 x y ha hx hy=>?_) λ hS3=>?_
   ·refine w1 10 ?_
    have hbk:=l03Block_fn N b w x.toNat y.toNat (by omega) (by omega) hN hD.pb.lt hD.pw.lt
    rw[show((x.toNat:Nat):Int)=x by omega,show((y.toNat:Nat):Int)=y by omega] at hbk
    refine⟨_,_,rfl,by rfl,by rfl,.inl (MKE.of (MK.call [] (.sl 4 0 (blkL N b w x.toNat y.toNat).length 1) hbk leZ (by rfl) (.inl rfl) (by rfl) (by exact byArgs) (by simp[Sc,sc_pl,sc_ds]) (by exact byAllc) (by rfl) (by exact bySc) (by rfl))),?_⟩
    rintro _ _ ⟨rfl,rfl⟩
    exact qdC5 (hS2 a1 h1 x y ha hx hy)
   refine qdS len g N b w 4 1 true true true true (λ a1 h1 x y ha hx hy=>?_) λ hS4=>?_
   ·refine w1 9 ?_
    refine wNy (qdR len g N b w 0 x y) (l01Next_fn len g hg a1 h1 N ha hl) ?_
    intro z a4 h4 z0 zb ha4
    exact qdC4 (hS3 a4 h4 x z ha4 hx ⟨z0,by omega⟩)
   refine qdS len g N b w 5 1 true true true false (λ a1 h1 x y ha hx hy=>?_) λ hS5=>?_
   ·refine w1 8 ?_
    refine wq ?_
    exact qdC4 (hS4 a1 h1 x y ha hx hy)
   refine qdS len g N b w 5 0 true true true true (λ a1 h1 x y ha hx hy=>?_) λ hS6=>?_
   ·refine w1 5 ?_
    refine wNy (qdR len g N b w 0 x y) (l01Next_fn len g hg a1 h1 N ha hl) ?_
    intro z a4 h4 z0 zb ha4
    exact qdC4 (hS4 a4 h4 z y ha4 ⟨z0,by omega⟩ hy)
   refine qdS len g N b w 6 0 true true true false (λ a1 h1 x y ha hx hy=>?_) λ hS7=>?_
   ·refine w2 5 8 ?_ ?_
    ·refine wNy (qdR len g N b w 0 x y) (l01Next_fn len g hg a1 h1 N ha hl) ?_
     intro z a4 h4 z0 zb ha4
     exact qdC4 (hS5 a4 h4 z y ha4 ⟨z0,by omega⟩ hy)
    ·refine wq ?_
     exact qdC4 (hS6 a1 h1 x y ha hx hy)
   refine qdS len g N b w 6 0 true true false true (λ a1 h1 x y ha hx hy=>?_) λ hS8=>?_
   ·refine w1 4 ?_
    refine wq ?_
    exact qdC4 (hS6 a1 h1 x y ha hx hy)
   refine qdS len g N b w 7 0 true true false false (λ a1 h1 x y ha hx hy=>?_) λ hS9=>?_
   ·refine w2 4 8 ?_ ?_
    ·refine wq ?_
     exact qdC4 (hS7 a1 h1 x y ha hx hy)
    ·refine wq ?_
     exact qdC4 (hS8 a1 h1 x y ha hx hy)
   refine qdS len g N b w 4 2 true false true true (λ a1 h1 x y ha hx hy=>?_) λ hS10=>?_
   ·refine w1 1 ?_
    refine wq ?_
    exact qdC4 (hS3 a1 h1 x y ha hx hy)
   refine qdS len g N b w 5 1 true false true true (λ a1 h1 x y ha hx hy=>?_) λ hS11=>?_
   ·refine w2 1 9 ?_ ?_
    ·refine wq ?_
     exact qdC4 (hS4 a1 h1 x y ha hx hy)
    ·refine wNy (qdR len g N b w 0 x y) (l01Next_fn len g hg a1 h1 N ha hl) ?_
     intro z a4 h4 z0 zb ha4
     exact qdC4 (hS10 a4 h4 x z ha4 hx ⟨z0,by omega⟩)
   refine qdS len g N b w 6 1 true false true false (λ a1 h1 x y ha hx hy=>?_) λ hS12=>?_
   ·refine w2 1 8 ?_ ?_
    ·refine wq ?_
     exact qdC4 (hS5 a1 h1 x y ha hx hy)
    ·refine wq ?_
     exact qdC4 (hS11 a1 h1 x y ha hx hy)
   refine qdS len g N b w 6 0 true false true true (λ a1 h1 x y ha hx hy=>?_) λ hS13=>?_
   ·refine w2 1 5 ?_ ?_
    ·refine wq ?_
     exact qdC4 (hS6 a1 h1 x y ha hx hy)
    ·refine wNy (qdR len g N b w 0 x y) (l01Next_fn len g hg a1 h1 N ha hl) ?_
     intro z a4 h4 z0 zb ha4
     exact qdC4 (hS11 a4 h4 z y ha4 ⟨z0,by omega⟩ hy)
   refine qdS len g N b w 7 0 true false true false (λ a1 h1 x y ha hx hy=>?_) λ hS14=>?_
   ·refine w3 1 5 8 ?_ ?_ ?_
    ·refine wq ?_
     exact qdC4 (hS7 a1 h1 x y ha hx hy)
    ·refine wNy (qdR len g N b w 0 x y) (l01Next_fn len g hg a1 h1 N ha hl) ?_
     intro z a4 h4 z0 zb ha4
     exact qdC4 (hS12 a4 h4 z y ha4 ⟨z0,by omega⟩ hy)
    ·refine wq ?_
     exact qdC4 (hS13 a1 h1 x y ha hx hy)
   refine qdS len g N b w 7 0 true false false true (λ a1 h1 x y ha hx hy=>?_) λ hS15=>?_
   ·refine w2 1 4 ?_ ?_
    ·refine wq ?_
     exact qdC4 (hS8 a1 h1 x y ha hx hy)
    ·refine wq ?_
     exact qdC4 (hS13 a1 h1 x y ha hx hy)
   refine qdS len g N b w 8 0 true false false false (λ a1 h1 x y ha hx hy=>?_) λ hS16=>?_
   ·refine w3 1 4 8 ?_ ?_ ?_
    ·refine wq ?_
     exact qdC4 (hS9 a1 h1 x y ha hx hy)
    ·refine wq ?_
     exact qdC4 (hS14 a1 h1 x y ha hx hy)
    ·refine wq ?_
     exact qdC4 (hS15 a1 h1 x y ha hx hy)
   refine qdS len g N b w 3 3 false true true true (λ a1 h1 x y ha hx hy=>?_) λ hS17=>?_
   ·refine w1 0 ?_
    refine wq ?_
    exact qdC5 (hS2 a1 h1 x y ha hx hy)
   refine qdS len g N b w 4 2 false true true true (λ a1 h1 x y ha hx hy=>?_) λ hS18=>?_
   ·refine w2 0 10 ?_ ?_
    ·refine wq ?_
     exact qdC4 (hS3 a1 h1 x y ha hx hy)
    ·have hbk:=l03Block_fn N b w x.toNat y.toNat (by omega) (by omega) hN hD.pb.lt hD.pw.lt
     rw[show((x.toNat:Nat):Int)=x by omega,show((y.toNat:Nat):Int)=y by omega] at hbk
     refine⟨_,_,rfl,by rfl,by rfl,.inl (MKE.of (MK.call [] (.sl 4 0 (blkL N b w x.toNat y.toNat).length 1) hbk leZ (by rfl) (.inl rfl) (by rfl) (by exact byArgs) (by simp[Sc,sc_pl,sc_ds]) (by exact byAllc) (by rfl) (by exact bySc) (by rfl))),?_⟩
     rintro _ _ ⟨rfl,rfl⟩
     exact qdC5 (hS17 a1 h1 x y ha hx hy)
   refine qdS len g N b w 5 1 false true true true (λ a1 h1 x y ha hx hy=>?_) λ hS19=>?_
   ·refine w2 0 9 ?_ ?_
    ·refine wq ?_
     exact qdC4 (hS4 a1 h1 x y ha hx hy)
    ·refine wNy (qdR len g N b w 0 x y) (l01Next_fn len g hg a1 h1 N ha hl) ?_
     intro z a4 h4 z0 zb ha4
     exact qdC4 (hS18 a4 h4 x z ha4 hx ⟨z0,by omega⟩)
   refine qdS len g N b w 6 1 false true true false (λ a1 h1 x y ha hx hy=>?_) λ hS20=>?_
   ·refine w2 0 8 ?_ ?_
    ·refine wq ?_
     exact qdC4 (hS5 a1 h1 x y ha hx hy)
    ·refine wq ?_
     exact qdC4 (hS19 a1 h1 x y ha hx hy)
   refine qdS len g N b w 6 0 false true true true (λ a1 h1 x y ha hx hy=>?_) λ hS21=>?_
   ·refine w2 0 5 ?_ ?_
    ·refine wq ?_
     exact qdC4 (hS6 a1 h1 x y ha hx hy)
    ·refine wNy (qdR len g N b w 0 x y) (l01Next_fn len g hg a1 h1 N ha hl) ?_
     intro z a4 h4 z0 zb ha4
     exact qdC4 (hS19 a4 h4 z y ha4 ⟨z0,by omega⟩ hy)
   refine qdS len g N b w 7 0 false true true false (λ a1 h1 x y ha hx hy=>?_) λ hS22=>?_
   ·refine w3 0 5 8 ?_ ?_ ?_
    ·refine wq ?_
     exact qdC4 (hS7 a1 h1 x y ha hx hy)
    ·refine wNy (qdR len g N b w 0 x y) (l01Next_fn len g hg a1 h1 N ha hl) ?_
     intro z a4 h4 z0 zb ha4
     exact qdC4 (hS20 a4 h4 z y ha4 ⟨z0,by omega⟩ hy)
    ·refine wq ?_
     exact qdC4 (hS21 a1 h1 x y ha hx hy)
   refine qdS len g N b w 7 0 false true false true (λ a1 h1 x y ha hx hy=>?_) λ hS23=>?_
   ·refine w2 0 4 ?_ ?_
    ·refine wq ?_
     exact qdC4 (hS8 a1 h1 x y ha hx hy)
    ·refine wq ?_
     exact qdC4 (hS21 a1 h1 x y ha hx hy)
   refine qdS len g N b w 8 0 false true false false (λ a1 h1 x y ha hx hy=>?_) λ hS24=>?_
   ·refine w3 0 4 8 ?_ ?_ ?_
    ·refine wq ?_
     exact qdC4 (hS9 a1 h1 x y ha hx hy)
    ·refine wq ?_
     exact qdC4 (hS22 a1 h1 x y ha hx hy)
    ·refine wq ?_
     exact qdC4 (hS23 a1 h1 x y ha hx hy)
   refine qdS len g N b w 5 2 false false true true (λ a1 h1 x y ha hx hy=>?_) λ hS25=>?_
   ·refine w2 0 1 ?_ ?_
    ·refine wq ?_
     exact qdC4 (hS10 a1 h1 x y ha hx hy)
    ·refine wq ?_
     exact qdC4 (hS18 a1 h1 x y ha hx hy)
   refine qdS len g N b w 6 1 false false true true (λ a1 h1 x y ha hx hy=>?_) λ hS26=>?_
   ·refine w3 0 1 9 ?_ ?_ ?_
    ·refine wq ?_
     exact qdC4 (hS11 a1 h1 x y ha hx hy)
    ·refine wq ?_
     exact qdC4 (hS19 a1 h1 x y ha hx hy)
    ·refine wNy (qdR len g N b w 0 x y) (l01Next_fn len g hg a1 h1 N ha hl) ?_
     intro z a4 h4 z0 zb ha4
     exact qdC4 (hS25 a4 h4 x z ha4 hx ⟨z0,by omega⟩)
   refine qdS len g N b w 7 1 false false true false (λ a1 h1 x y ha hx hy=>?_) λ hS27=>?_
   ·refine w3 0 1 8 ?_ ?_ ?_
    ·refine wq ?_
     exact qdC4 (hS12 a1 h1 x y ha hx hy)
    ·refine wq ?_
     exact qdC4 (hS20 a1 h1 x y ha hx hy)
    ·refine wq ?_
     exact qdC4 (hS26 a1 h1 x y ha hx hy)
   refine qdS len g N b w 7 0 false false true true (λ a1 h1 x y ha hx hy=>?_) λ hS28=>?_
   ·refine w3 0 1 5 ?_ ?_ ?_
    ·refine wq ?_
     exact qdC4 (hS13 a1 h1 x y ha hx hy)
    ·refine wq ?_
     exact qdC4 (hS21 a1 h1 x y ha hx hy)
    ·refine wNy (qdR len g N b w 0 x y) (l01Next_fn len g hg a1 h1 N ha hl) ?_
     intro z a4 h4 z0 zb ha4
     exact qdC4 (hS26 a4 h4 z y ha4 ⟨z0,by omega⟩ hy)
   refine qdS len g N b w 8 0 false false true false (λ a1 h1 x y ha hx hy=>?_) λ hS29=>?_
   ·refine w4 0 1 5 8 ?_ ?_ ?_ ?_
    ·refine wq ?_
     exact qdC4 (hS14 a1 h1 x y ha hx hy)
    ·refine wq ?_
     exact qdC4 (hS22 a1 h1 x y ha hx hy)
    ·refine wNy (qdR len g N b w 0 x y) (l01Next_fn len g hg a1 h1 N ha hl) ?_
     intro z a4 h4 z0 zb ha4
     exact qdC4 (hS27 a4 h4 z y ha4 ⟨z0,by omega⟩ hy)
    ·refine wq ?_
     exact qdC4 (hS28 a1 h1 x y ha hx hy)
   refine qdS len g N b w 8 0 false false false true (λ a1 h1 x y ha hx hy=>?_) λ hS30=>?_
   ·refine w3 0 1 4 ?_ ?_ ?_
    ·refine wq ?_
     exact qdC4 (hS15 a1 h1 x y ha hx hy)
    ·refine wq ?_
     exact qdC4 (hS23 a1 h1 x y ha hx hy)
    ·refine wq ?_
     exact qdC4 (hS28 a1 h1 x y ha hx hy)
   refine qdS len g N b w 9 0 false false false false (λ a1 h1 x y ha hx hy=>?_) λ hS31=>?_
   ·refine w4 0 1 4 8 ?_ ?_ ?_ ?_
    ·refine wq ?_
     exact qdC4 (hS16 a1 h1 x y ha hx hy)
    ·refine wq ?_
     exact qdC4 (hS24 a1 h1 x y ha hx hy)
    ·refine wq ?_
     exact qdC4 (hS29 a1 h1 x y ha hx hy)
    ·refine wq ?_
     exact qdC4 (hS30 a1 h1 x y ha hx hy)
   refine wd [2,3,6,7] 9 ?_
   exact qdC4 (hS31 a3 h3 0 0 ha3 ⟨Int.le_refl 0,by omega⟩ ⟨Int.le_refl 0,by omega⟩)
  ·refine WP.skip ?_
   refine⟨(a3,h3),ha3,?_⟩
   exact Ghost.cut (Nat.le_refl _) (tauOf [0,1,2,3]) [(2,.p 1 [] 0),(4,.p 3 [] 0),(5,.p 2 [] 0)] [.ro len 1 (byF g),.var dzB,.var (ds_ N b w),.var (srcD len g a3 h3)] (Taken.of [0,1,2,3] (leC (leC (leC (leC leZ)))) rfl rfl) (by exact bySlots)
 rintro⟨a3,h3⟩ ha3
 dsimp only at ha3
 dsimp only
 have hn3:=l01Next_fn len g hg a3 h3 3 ha3 hl
 refine rS ?_
 refine WP.seq ?_
 refine WP.rw ?_
 refine rU 1 ?_
 refine WPL.callE [3] (hn3) (leC leZ) (by rfl) (by rfl) (by exact byArgs) (by rfl) (by rfl) (by simp[Sc,sc_pl,sc_ds]) ?_
 rintro _ _ ⟨z,a4,h4,rfl,hz,_,ha4,rfl⟩
 obtain⟨z0,z1⟩:=hz (by omega)
 obtain⟨x0,rfl⟩:∃k:Nat,z=k:=⟨z.toNat,by omega⟩
 refine⟨⟨λ d hd=>by cases hd;exact sc_src _ _ _ _ _,trivial⟩,.i .i64 (x0:Int),⟨rfl,trivial⟩,trivial,?_⟩
 refine WPL.mem (by rfl) ?_
 refine rF ?_
 refine WP.block ?_
 refine WP.loopH (⟨λ z:List Nat×Nat×Nat×Int=>z.1.length<=z.2.1/\z.2.1<=21/\z.2.2.1<=len,λ z=>[(2,.p 1 [] 0),(4,.p 3 [] 0),(5,.p 2 [] 0),(6,.sl 4 0 z.1.length 1),(7,.i .i64 (z.2.1:Int))],λ z=>qlR len g n b w z.1 z.2.2.1 z.2.2.2,λ z=>40-z.2.1⟩) (([],x0,a4,h4)) (⟨Nat.zero_le _,(by dsimp only;omega),ha4⟩) (gC [0,1,2,3,4] (by repeat (first|exact trivial|(refine lC ?_ ?_;first|exact byLz|(exact le_row (Nat.le_refl _) (λ j hj=>absurd hj (Nat.not_lt_zero _)))|exact byLeq)))) ?_
 rintro⟨L,x,a3,h3⟩ ⟨hL,hx,ha3⟩
 dsimp only at hL hx ha3
 dsimp only[Hd.at]
 refine WP.seq ?_
 refine WP.seq ?_
 refine WP.da (by kernel_rfl) 4 (by kernel_rfl) ?_
 refine qlS len g n b w L x 0 1 true (λ a1 h1 y ha q=>?_) λ hS0=>?_
 ·refine WA.end rfl (by kernel_rfl) (noPan ?_)
  refine cI (λ hc=>?_) λ hc=>?_
  ·have hx:x<18:=by have:=of_decide_eq_true hc;omega
   clear hc
   refine WP.seq (WP.block ?_)
   refine WP.region ?_
   refine rF ?_
   have hn3:=l01Next_fn len g hg a1 h1 3 ha hl
   refine WP.region ?_
   refine rU 3 ?_
   refine WPL.callE [3] (hn3) (leC leZ) (by rfl) (by rfl) (by exact byArgs) (by rfl) (by rfl) (by simp[Sc,sc_pl,sc_ds]) ?_
   rintro _ _ ⟨z,a5,h5,rfl,hz,_,ha5,rfl⟩
   obtain⟨z0,z1⟩:=hz (by omega)
   obtain⟨k,rfl⟩:∃k:Nat,z=k:=⟨z.toNat,by omega⟩
   refine⟨⟨λ d hd=>by cases hd;exact sc_src _ _ _ _ _,trivial⟩,.i .i64 (k:Int),⟨rfl,trivial⟩,trivial,?_⟩
   refine WPL.mem (by rfl) ?_
   refine rF ?_
   rw[show((x:Nat):Int)+1+(k:Int)=((x+1+k:Nat):Int) by omega]
   have hLen:(L++[x]).length=L.length+1:=by simp
   refine Again.next ((L++[x],x+1+k,a5,h5)) (gC [0,1,2,3,6] (by repeat (first|exact trivial|(refine lC ?_ ?_;first|exact byLz|(exact le_row (Nat.le_of_eq hLen) (λ j hj=>ap_nums L x _ j (by rw[hLen] at hj;exact hj)))|exact byLeq)))) (⟨(by dsimp only;rw[hLen];omega),(by dsimp only;omega),ha5⟩) (by dsimp only;omega)
  clear hc
  refine rS ?_
  exact WP.ret (Ends.newE [0,4] (⟨n,b,w,L,rfl,hdr,by omega,rfl⟩) (.inl rfl) (by rfl) (by exact byObl) (leC (leC leZ)) rfl rfl (ren_t2 ⟨rfl,sc_ds _ _ _ _⟩ rfl) (sc_t2 (sc_ds _ _ _ _) (sc_sl rfl)))
 refine qlS len g n b w L x 4 0 true (λ a1 h1 y ha q=>?_) λ hS1=>?_
 ·refine w1 4 ?_
  refine wNy (qlR len g n b w L) (l01Next_fn len g hg a1 h1 12 ha hl) ?_
  intro z a4 h4 z0 zb ha4
  have q:=q11 z0 (by omega)
  refine wd [5,6,7] 0 ?_
  exact qdC5 (hS0 a4 h4 z ha4 q)
 refine qlS len g n b w L x 3 1 false (λ a1 h1 y ha q=>?_) λ hS2=>?_
 ·refine w1 2 ?_
  refine wq ?_
  refine wd [6,7] 0 ?_
  exact qdC5 (hS0 a1 h1 y ha q)
 refine qlS len g n b w L x 5 0 false (λ a1 h1 y ha q=>?_) λ hS3=>?_
 ·refine w2 2 4 ?_ ?_
  ·refine wq ?_
   exact qdC5 (hS1 a1 h1 y ha q)
  ·refine wNy (qlR len g n b w L) (l01Next_fn len g hg a1 h1 12 ha hl) ?_
   intro z a4 h4 z0 zb ha4
   have q:=q11 z0 (by omega)
   refine wd [5] 3 ?_
   exact qdC5 (hS2 a4 h4 z ha4 q)
 refine wd [0,1,3] 5 ?_
 exact qdC5 (hS3 a3 h3 0 ha3 (by decide))
end Go.Proofs.YthjnmlpibafbnaaGreat
