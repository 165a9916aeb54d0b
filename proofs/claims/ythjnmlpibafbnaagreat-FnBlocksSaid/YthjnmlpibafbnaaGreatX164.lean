import Derived.Test.YthjnmlpibafbnaaGreatX6
import Derived.Test.YthjnmlpibafbnaaGreatL55
import Derived.Test.YthjnmlpibafbnaaGreatX100
import Derived.Test.YthjnmlpibafbnaaGreatX119
import Derived.Test.YthjnmlpibafbnaaGreatD36
import Derived.Test.YthjnmlpibafbnaaGreatX125
import Derived.Test.YthjnmlpibafbnaaGreatX162
import Derived.Test.YthjnmlpibafbnaaGreatD34
import Derived.Test.YthjnmlpibafbnaaGreatX147
namespace Go.Proofs.YthjnmlpibafbnaaGreat
open Go.RowKit DM
set_option linter.unusedSimpArgs false
set_option linter.unusedVariables false
set_option maxRecDepth 100000
set_option maxHeartbeats 1000000
theorem big_fn(n:Nat)(f:Nat->Dat)(hn:n<=9223372036854775807):FnR Tryz.prog 4 [.sl 0 0 n 1] [.ro n 1 f] (.b (decide ((4096:Int)<(n:Int)))):=by
 refine FnS.into T tok Tryz.func4 (by rfl) rfl rfl rfl (by simp) ?_
 refine rS ?_
 refine rS ?_
 exact WP.ret (Ends.val (by rfl) (by exact byObl) (by rfl) (by trivial))
noncomputable def likeB (n m:Nat)(f g:Nat->Int):Bool:=@decide (n=m/\∀j,j<n->f j=g j) (Classical.propDecidable _)
theorem likeB_t{n m:Nat}{f g:Nat->Int}(h:n=m/\∀j,j<n->f j=g j):likeB n m f g=true:=@decide_eq_true _ (Classical.propDecidable _) h
theorem likeB_f{n m:Nat}{f g:Nat->Int}(h:¬(n=m/\∀j,j<n->f j=g j)):likeB n m f g=false:=@decide_eq_false _ (Classical.propDecidable _) h
theorem likeB_same(n:Nat)(f:Nat->Int):likeB n n f f=true:=likeB_t ⟨rfl,λ _ _=>rfl⟩
theorem likeInts_fn(n m:Nat)(f g:Nat->Int)(hn:n<=4294967296)(hm:m<=4294967296):FnR Tryz.prog 8 [.sl 0 0 n 1,.sl 1 0 m 1] [.ro n 1 (λ t=>.i .i64 (f t)),.ro m 1 (λ t=>.i .i64 (g t))] (.b (likeB n m f g)):=by
 refine FnS.into T tok Tryz.func8 (by rfl) rfl rfl rfl (by simp) ?_
 refine rS ?_
 refine WP.seq ?_
 refine rS ?_
 refine cS (λ h=>?_) λ h=>?_
 ·have h:n≠m:=by intro e;subst e;simp at h
  rw[likeB_f λ h2=>h h2.1]
  refine rS ?_
  exact WP.ret (Ends.val (by rfl) (by exact byObl) (by rfl) (by trivial))
 have h:n=m:=by simp at h;omega
 subst h
 refine WP.seq ?_
 refine rS ?_
 refine WP.block ?_
 refine WP.loopH (⟨λ k:Nat=>k<=n/\∀j,j<k->f j=g j,λ k=>[(0,.sl 0 0 n 1),(1,.sl 1 0 n 1),(5,.i .i64 (k:Int))],λ k=>[.ro n 1 (λ t=>.i .i64 (f t)),.ro n 1 (λ t=>.i .i64 (g t))],λ k=>n-k⟩) (0) (⟨Nat.zero_le _,λ j hj=>absurd hj (Nat.not_lt_zero _)⟩) (gC [0,1] (leC (leC leZ))) ?_
 rintro k ⟨hk,he⟩
 dsimp only[Hd.at]
 refine WP.seq ?_
 refine rS ?_
 refine cI (λ hc=>?_) λ hc=>?_
 ·have hk:k<n:=by have:=of_decide_eq_true hc;omega
  clear hc
  refine WP.seq (WP.block ?_)
  refine WP.seq ?_
  refine WP.drawsQ (by kernel_rfl) (by kernel_rfl) ?_
  refine WQ.fin T false tok (by rfl) (by rfl) (by exact byObl) ?_
  by_cases e:f k=g k
  ·refine cS (λ h=>?_) λ h=>?_
   ·simp[addrAt0,e] at h
   ·refine rE ?_
    refine Again.next (k+1) (gC [0,1] (leC (leC leZ))) (⟨hk,λ j hj=>by
     by_cases e2:j=k
     ·subst e2;exact e
     ·exact he j (by omega)⟩) (by dsimp only;omega)
  ·refine cS (λ h=>?_) λ h=>?_
   ·rw[likeB_f λ h2=>e (h2.2 k hk)]
    refine rS ?_
    exact WP.ret (Ends.val (by rfl) (by exact byObl) (by rfl) (by trivial))
   ·simp[addrAt0,e] at h
 ·have hk:k=n:=by have:=of_decide_eq_false hc;omega
  subst hk
  rw[likeB_t ⟨rfl,he⟩]
  refine rS ?_
  exact WP.ret (Ends.val (by rfl) (by exact byObl) (by rfl) (by trivial))
theorem likeInts_nil:FnP Tryz.prog 8 [.ns,.ns] (.b true):=by
 refine FnS.into T tok Tryz.func8 (by rfl) rfl rfl rfl (by simp) ?_
 refine rS ?_
 refine WP.seq ?_
 refine rS ?_
 refine cF ?_
 refine WP.seq ?_
 refine rS ?_
 refine WP.block ?_
 refine WP.loopH (⟨λ k:Nat=>k=0,λ k=>[(0,.ns),(1,.ns),(5,.i .i64 (k:Int))],λ k=>[],λ k=>0⟩) (0) (rfl) (gC [] leZ) ?_
 rintro k hk
 dsimp only at hk
 subst hk
 dsimp only[Hd.at]
 refine WP.seq ?_
 refine rS ?_
 refine cI (λ hc=>?_) λ hc=>?_
 ·cases hc
 ·refine rS ?_
  exact WP.ret (Ends.val (by rfl) (by exact byObl) (by rfl) (by trivial))
theorem rows5_nil:FnP Tryz.prog 20 [.ns,.ns] (.b true):=by
 refine FnS.into T tok Tryz.func20 (by rfl) rfl rfl rfl (by simp) ?_
 refine rS ?_
 refine WP.seq ?_
 refine rS ?_
 refine cF ?_
 refine WP.seq ?_
 refine rS ?_
 refine WP.block ?_
 refine WP.loopH (⟨λ k:Nat=>k=0,λ k=>[(0,.ns),(1,.ns),(5,.i .i64 (k:Int))],λ k=>[],λ k=>0⟩) (0) (rfl) (gC [] leZ) ?_
 rintro k hk
 dsimp only at hk
 subst hk
 dsimp only[Hd.at]
 refine WP.seq ?_
 refine rS ?_
 refine cI (λ hc=>?_) λ hc=>?_
 ·cases hc
 ·refine rS ?_
  exact WP.ret (Ends.val (by rfl) (by exact byObl) (by rfl) (by trivial))
theorem sum_take_lt{l:List Nat}{k:Nat}(h:k<l.length):(l.take (k+1)).sum=(l.take k).sum+l.getD k 0:=by
 rw[List.take_add_one,List.getElem?_eq_getElem h,List.getD_eq_getElem?_getD,List.getElem?_eq_getElem h,List.sum_append]
 simp only[Option.toList_some,List.sum_cons,List.sum_nil,Nat.add_zero,Option.getD_some]
theorem sum_take_le:∀(l:List Nat) (k:Nat),(l.take k).sum<=l.sum
 |[],k=>by simp
 |a::l,0=>by simp
 |a::l,k+1=>by simp only[List.take_succ_cons,List.sum_cons];have:=sum_take_le l k;omega
theorem sum_fn(l:List Nat)(hl:l.length<=4294967296)(hs:l.sum<=4294967296):FnR Tryz.prog 27 [.sl 0 0 l.length 1] [.ro l.length 1 (numsF l)] (.i .i64 ((l.sum:Nat):Int)):=by
 refine FnS.into T tok Tryz.func27 (by rfl) rfl rfl rfl (by simp) ?_
 refine rS ?_
 refine rS ?_
 refine WP.seq ?_
 refine rS ?_
 refine WP.block ?_
 refine WP.loopH (⟨λ z:Nat×Nat=>z.1<=l.length/\z.2=(l.take z.1).sum,λ z=>[(0,.sl 0 0 l.length 1),(3,.i .i64 (z.2:Int)),(4,.i .i64 (z.1:Int))],λ z=>[.ro l.length 1 (numsF l)],λ z=>l.length-z.1⟩) ((0,0)) (⟨Nat.zero_le _,by simp⟩) (gC [0] (leC leZ)) ?_
 rintro⟨k,s⟩ ⟨hk,he⟩
 dsimp only at hk he
 dsimp only[Hd.at]
 refine WP.seq ?_
 refine rS ?_
 refine cI (λ hc=>?_) λ hc=>?_
 ·have hk:k<l.length:=by have:=of_decide_eq_true hc;omega
  clear hc
  have h1:=sum_take_lt hk
  have h2:=sum_take_le l (k+1)
  refine WP.seq (WP.block ?_)
  refine rE ?_
  refine rE ?_
  refine Again.next ((k+1,s+l.getD k 0)) (gC [0] (leC leZ)) (⟨hk,by rw[h1,he]⟩) (by dsimp only;omega)
 ·have hk:k=l.length:=by have:=of_decide_eq_false hc;omega
  subst hk
  rw[List.take_length] at he
  subst he
  refine rS ?_
  exact WP.ret (Ends.val (by rfl) (by exact byObl) (by rfl) (by trivial))
theorem hasInt_fn(L:List Nat)(hn:L.length<=4294967296)(x:Nat)(hx:x∈L):FnR Tryz.prog 11 [.sl 0 0 L.length 1,.i .i64 (x:Int)] [.ro L.length 1 (numsF L)] (.b true):=by
 obtain⟨t,ht,e⟩:=mem_getD hx
 refine FnS.into T tok Tryz.func11 (by rfl) rfl rfl rfl (by simp) ?_
 refine rS ?_
 refine WP.seq ?_
 refine rS ?_
 refine WP.block ?_
 refine WP.loopH (⟨λ k:Nat=>k<=t,λ k=>[(0,.sl 0 0 L.length 1),(1,.i .i64 (x:Int)),(5,.i .i64 (k:Int))],λ k=>[.ro L.length 1 (numsF L)],λ k=>L.length-k⟩) (0) (Nat.zero_le _) (gC [0] (leC leZ)) ?_
 intro k hk
 dsimp only at hk
 dsimp only[Hd.at]
 refine WP.seq ?_
 refine rS ?_
 refine cI (λ hc=>?_) λ hc=>?_
 ·clear hc
  have hkl:k<L.length:=by omega
  have ek:addrAt 0 ((k:Nat):Int).toNat=k:=by simp[addrAt0]
  refine WP.seq (WP.block ?_)
  refine WP.rw ?_
  refine rU 4 ?_
  rw[ek]
  generalize hv:L.getD k 0=v at*
  refine rF ?_
  refine cS (λ h=>?_) λ h=>?_
  ·refine rS ?_
   exact WP.ret (Ends.val (by rfl) (by exact byObl) (by rfl) (by trivial))
  ·have hne:¬((v:Nat):Int)=(x:Int):=of_decide_eq_false h
   have:k≠t:=λ e2=>hne (by subst e2;rw[<-hv,e])
   refine rE ?_
   refine Again.next (k+1) (gC [0] (leC leZ)) (by omega) (by dsimp only;omega)
 ·have:=of_decide_eq_false hc;omega
theorem rows5R_fn(L:List (List Nat))(hn:L.length<=4294967296)(hl:∀j,(L.getD j []).length<=4294967296):FnR Tryz.prog 20 [.sl 0 0 L.length 1,.sl 1 0 L.length 1] [.ro L.length 1 (rowsF L),.ro L.length 1 (rowsR L)] (.b true):=by
 refine FnS.into T tok Tryz.func20 (by rfl) rfl rfl rfl (by simp) ?_
 refine rS ?_
 refine WP.seq ?_
 refine rS ?_
 refine cS (λ h=>?_) λ h=>?_
 ·simp at h
 refine WP.seq ?_
 refine rS ?_
 refine WP.block ?_
 refine WP.loopH (⟨λ k:Nat=>k<=L.length,λ k=>[(0,.sl 0 0 L.length 1),(1,.sl 1 0 L.length 1),(5,.i .i64 (k:Int))],λ k=>[.ro L.length 1 (rowsF L),.ro L.length 1 (rowsR L)],λ k=>L.length-k⟩) (0) (Nat.zero_le _) (gC [0,1] (leC (leC leZ))) ?_
 intro k hk
 dsimp only at hk
 dsimp only[Hd.at]
 refine WP.seq ?_
 refine rS ?_
 refine cI (λ hc=>?_) λ hc=>?_
 ·have hk:k<L.length:=by have:=of_decide_eq_true hc;omega
  clear hc
  have hlk:=likeInts_fn (L.getD k []).length (L.getD k []).length (λ t=>(((L.getD k []).getD t 0:Nat):Int)) (λ t=>(((L.getD k []).getD t 0:Nat):Int)) (hl k) (hl k)
  rw[likeB_same] at hlk
  refine WP.seq (WP.block ?_)
  refine WP.seq ?_
  refine WP.drawsQ (by kernel_rfl) (by kernel_rfl) ?_
  refine WQ.run T false 8 tok (by rfl) (by rfl) (by exact byObl) ?_
  refine WQ.callR [2,3] (hlk) (by rfl) (leC (leC leZ)) (by exact byArgs) (by rfl) (by rfl) (by simp[Sc,sc_pl,sc_ds]) (⟨trivial,trivial,trivial⟩) ?_
  refine WQ.fin T false tok (by rfl) (by rfl) (by exact byObl) ?_
  refine cF ?_
  ·refine rE ?_
   refine Again.next (k+1) (gC [0,1] (leC (leC leZ))) (hk) (by dsimp only;omega)
 ·refine rS ?_
  exact WP.ret (Ends.val (by rfl) (by exact byObl) (by rfl) (by trivial))
theorem eqdS(n:Int)(b w:Nat->Nat):eqE T .neq 27 (ds_ n b w) (ds_ n b w)=some false:=by
 rw[eq_ds_neq];unfold eqDs;rw[eq16_of (λ _=>rfl),eq16_of (λ _=>rfl)];simp
section
variable {n:Int}{N:Nat}{b w:Nat->Nat}
theorem bk_no1{x y:Int}(h:desB n b w=false):bkR n b w x y=(t2 .ns (.i .i64 1),[]):=by unfold bkR;rw[h];rfl
theorem bk_no2{x y:Int}(h:desB n b w=true)(h2:(inN n x&&inN n y)=false):bkR n b w x y=(t2 .ns (.i .i64 2),[]):=by unfold bkR;rw[h,h2];rfl
theorem bk_yes{x y:Nat}(h:desB N b w=true)(hx:x<N)(hy:y<N):bkR N b w x y=(t2 (.sl 0 0 (blkL N b w x y).length 1) (.i .i64 0),[.row 2 (blkL N b w x y).length 1 (numsF (blkL N b w x y))]):=by
 have h2:(inN (N:Int) x&&inN (N:Int) y)=true:=by unfold inN;simp;omega
 unfold bkR;rw[h,h2];rfl
theorem ge_yes(h:desB N b w=true):genR N b w=t2 (.i .i64 (genV N b w)) (.i .i64 0):=by unfold genR;rw[h];rfl
theorem cg_no(h:desB n b w=false):cgR n b w=t2 (.i .i64 0) (.i .i64 1):=by unfold cgR;rw[h];rfl
theorem cg_yes(h:desB N b w=true):cgR N b w=t2 (.i .i64 (cgV (ordG N [b,w]) N b w)) (.i .i64 0):=by unfold cgR;rw[h];rfl
theorem go_yes(h:desB N b w=true):goR N b w=t2 (.i .i64 ((ordG N [b,w]:Nat):Int)) (.i .i64 0):=by unfold goR;rw[h];rfl
theorem ir_yes(h:desB N b w=true):irR N b w=t2 (.b (decide (((ordG N [b,w]:Nat):Int)=(N:Int)))) (.i .i64 0):=by unfold irR;rw[h];rfl
theorem et_no(h:desB n b w=false):etR n b w=(t3 .ns .ns (.i .i64 1),[])/\etT n b w=(t3 .ns .ns (.i .i64 1),[]):=by unfold etR etT;rw[h];exact⟨rfl,rfl⟩
theorem et_big(h:desB N b w=true)(ho:decide ((5000:Int)<(ordG N [b,w]:Nat))=true):etR N b w=(t3 .ns .ns (.i .i64 3),[])/\etT N b w=(t3 .ns .ns (.i .i64 3),[]):=by
 unfold etR etT;rw[h,show decide ((5000:Int)<(ordG (N:Int).toNat [b,w]:Nat))=true from ho];exact⟨rfl,rfl⟩
theorem et_yes(h:desB N b w=true)(ho:decide ((5000:Int)<(ordG N [b,w]:Nat))=false):etR N b w=(t3 (.sl 0 0 (etD N [b,w]).length 1) (.sl 1 0 (etD N [b,w]).length 1) (.i .i64 0),[.row 30 (etD N [b,w]).length 1 (rowsF (etD N [b,w])),.row 2 (etD N [b,w]).length 1 (numsF (etC N [b,w]))])/\
  etT N b w=(t3 (.sl 0 0 (etD N [b,w]).length 1) (.sl 1 0 (etD N [b,w]).length 1) (.i .i64 0),[.row 30 (etD N [b,w]).length 1 (rowsR (etD N [b,w])),.row 2 (etD N [b,w]).length 1 (numsF (etC N [b,w]))]):=by
 unfold etR etT;rw[h,show decide ((5000:Int)<(ordG (N:Int).toNat [b,w]:Nat))=false from ho];exact⟨rfl,rfl⟩
theorem bl_no(h:desB n b w=false):blR n b w=(t2 .ns (.i .i64 1),[])/\blT n b w=(t2 .ns (.i .i64 1),[]):=by unfold blR blT;rw[h];exact⟨rfl,rfl⟩
theorem bl_yes(h:desB N b w=true):blR N b w=(t2 (.sl 0 0 (blsL N b w (N-1)).length 1) (.i .i64 0),[.row 30 (blsL N b w (N-1)).length 1 (rowsF (blsL N b w (N-1)))])/\blT N b w=(t2 (.sl 0 0 (blsL N b w (N-1)).length 1) (.i .i64 0),[.row 30 (blsL N b w (N-1)).length 1 (rowsR (blsL N b w (N-1)))]):=by unfold blR blT;rw[h];exact⟨rfl,rfl⟩
theorem qb_both(hb:∀i,b i<256)(hw:∀i,w i<256)(hbz:∀i,16<=i->b i=0)(hwz:∀i,16<=i->w i=0)(m:Nat)(g:Nat->Int)(hm:m<=1048576):∃(M:Int) (x y:Nat->Nat) (c:Int),FnR Tryz.prog 14 [ds_ n b w,.sl 0 0 m 1] [.ro m 1 (λ t=>.i .i64 (g t))] (t2 (ds_ M x y) (.i .i64 c))/\FnR Tryz.prog 9 [ds_ n b w,.sl 0 0 m 1] [.ro m 1 (λ t=>.i .i64 (g t))] (t2 (ds_ M x y) (.i .i64 c)):=by
 cases hc:desB n b w
 ·exact⟨0,_,_,1,specQbNo_fn n b w hb hw hc m g,implQbNo_fn n b w hb hw hc m g⟩
 ·obtain⟨N,rfl,hD,hnb,hnw⟩:=des_np hc hbz hwz
  have h1:=specQb_fn N b w hD hc (des_L hnb hnw) hb hw m g hm
  have h2:=implQb_fn N b w hD hc (des_L hnb hnw) hb hw m g hm
  obtain⟨M,x,y,c,e⟩:=qbR_form N b w m g
  rw[e] at h1 h2
  exact⟨M,x,y,c,h1,h2⟩
end
end Go.Proofs.YthjnmlpibafbnaaGreat

namespace Go.Proofs.YthjnmlpibafbnaaGreat
open Go.RowKit DM
set_option linter.unusedSimpArgs false
set_option linter.unusedVariables false
set_option maxRecDepth 100000
set_option maxHeartbeats 1000000
set_option maxHeartbeats 32000000
theorem blC(len:Nat)(g:Nat->Nat)(hg:∀j,g j<256)(hl:len<=4096):∀d b0,Tryz.f3.body=some b0->dropO 16 b0=some d->WP Tryz.prog Tryz.f3.ntmps 1 d (DM.Ends T Tryz.f3.results.toList λ r' _=>r'=.b true/\Sc 0 (.b true)) ⟨lst [(0,.sl 0 0 len 1)],[.ro len 1 (byF g)]⟩:=by
 intro d b0 hb0 hd0
 injection hb0 with hb0
 subst hb0
 injection hd0 with hd0
 subst hd0
 have hdE:=drawEt len g hg (by omega)
 refine WP.rw ?_
 refine rU 1 ?_
 refine WPL.callE [0] (hdE) (leC leZ) (by rfl) (by rfl) (by exact byArgs) (by rfl) (by rfl) (by simp[Sc,sc_pl,sc_ds]) ?_
 rintro _ _ ⟨n,b,w,rfl,⟨_,_,hb,hw⟩,rfl⟩
 refine⟨⟨λ d hd=>by cases hd;exact λ _ _=>trivial,trivial⟩,ds_ n b w,⟨rfl,sc_ds _ _ _ _⟩,sc_ds _ _ _ _,?_⟩
 refine WPL.mem (by rfl) ?_
 refine rF ?_
 refine WP.ghost (gC [0,1] (leC (leC leZ)) (l:=[(0,.sl 0 0 len 1),(31,.p 1 [] 0)]) (m':=[.ro len 1 (byF g),.var (ds_ n b w)])) ?_
 have h2:=implElementTypes_fn n b w hb.lt hw.lt hb.z hw.z
 have h1:=specElementTypes_fn n b w hb.lt hw.lt hb.z hw.z
 have h3:=implClosure_fn n b w hb.lt hw.lt hb.z hw.z
 have h4:=specClosure_fn n b w hb.lt hw.lt hb.z hw.z
 cases hc:desB n b w
 ·obtain⟨e2,e1⟩:=et_no hc
  rw[e2] at h2
  rw[e1] at h1
  rw[cg_no hc] at h3 h4
  refine WP.rw ?_
  refine rU 1 ?_
  refine cN [] (t3 .ns .ns (.i .i64 1)) (h2) leZ (ren3 ⟨rfl,trivial⟩ ⟨rfl,trivial⟩ ⟨rfl,trivial⟩) ?_
  refine rF ?_
  refine WP.rw ?_
  refine rU 1 ?_
  refine cN [] (t3 .ns .ns (.i .i64 1)) (h1) leZ (ren3 ⟨rfl,trivial⟩ ⟨rfl,trivial⟩ ⟨rfl,trivial⟩) ?_
  refine rF ?_
  refine WP.rw ?_
  refine rU 1 ?_
  refine cA (h3) ?_
  refine rF ?_
  refine WP.rw ?_
  refine rU 1 ?_
  refine cA (h4) ?_
  refine rF ?_
  refine WP.seq ?_
  refine WP.rw ?_
  refine rU 6 ?_
  refine cA (rows5_nil) ?_
  refine rU 5 ?_
  refine cA (likeInts_nil) ?_
  refine rF ?_
  refine cF ?_
  refine WP.seq ?_
  refine rS ?_
  refine cF ?_
  refine WP.seq ?_
  refine rS ?_
  refine cF ?_
  refine rS ?_
  exact WP.ret (Ends.val (by rfl) (by exact byObl) (by rfl) (by trivial))
 obtain⟨N,rfl,hD,hnb,hnw⟩:=des_np hc hb.z hw.z
 rw[cg_yes hc] at h3 h4
 have hir:=implIsRegular_fn N b w hb.lt hw.lt hb.z hw.z
 have hge:=implGenus_fn N b w hb.lt hw.lt
 rw[ir_yes hc] at hir
 rw[ge_yes hc] at hge
 cases ho:decide ((5000:Int)<(ordG N [b,w]:Nat))
 case true=>
  obtain⟨e2,e1⟩:=et_big hc ho
  rw[e2] at h2
  rw[e1] at h1
  have hcl:=cg_is hD hnb hnw
  generalize cgV (ordG N [b,w]) N b w=v at*
  generalize genV N b w=u at*
  refine WP.rw ?_
  refine rU 1 ?_
  refine cN [] (t3 .ns .ns (.i .i64 3)) (h2) leZ (ren3 ⟨rfl,trivial⟩ ⟨rfl,trivial⟩ ⟨rfl,trivial⟩) ?_
  refine rF ?_
  refine WP.rw ?_
  refine rU 1 ?_
  refine cN [] (t3 .ns .ns (.i .i64 3)) (h1) leZ (ren3 ⟨rfl,trivial⟩ ⟨rfl,trivial⟩ ⟨rfl,trivial⟩) ?_
  refine rF ?_
  refine WP.rw ?_
  refine rU 1 ?_
  refine cA (h3) ?_
  refine rF ?_
  refine WP.rw ?_
  refine rU 1 ?_
  refine cA (h4) ?_
  refine rF ?_
  refine WP.seq ?_
  refine WP.rw ?_
  refine rU 6 ?_
  refine cA (rows5_nil) ?_
  refine rU 5 ?_
  refine cA (likeInts_nil) ?_
  refine rU 11 ?_
  rw[decide_eq_true (rfl:v=v)]
  refine rF ?_
  refine cF ?_
  refine WP.seq ?_
  refine rS ?_
  refine cF ?_
  by_cases hreg:ordG N [b,w]=N
  ·have huv:v=u:=hcl.2 hreg
   subst huv
   rw[decide_eq_true (by rw[hreg]:((ordG N [b,w]:Nat):Int)=(N:Int))] at hir
   refine WP.seq ?_
   refine rS ?_
   refine cT ?_
   refine WP.rw ?_
   refine rU 1 ?_
   refine cA (hir) ?_
   refine rF ?_
   refine WP.rw ?_
   refine rU 1 ?_
   refine cA (hge) ?_
   refine rF ?_
   refine WP.rw ?_
   refine rU 12 ?_
   rw[decide_eq_true (rfl:v=v)]
   refine rU 6 ?_
   rw[decide_eq_false (Int.lt_irrefl v)]
   refine rF ?_
   refine cF ?_
   refine rS ?_
   exact WP.ret (Ends.val (by rfl) (by exact byObl) (by rfl) (by trivial))
  ·rw[decide_eq_false (λ e=>hreg (by exact_mod_cast e):¬((ordG N [b,w]:Nat):Int)=(N:Int))] at hir
   refine WP.seq ?_
   refine rS ?_
   refine cT ?_
   refine WP.rw ?_
   refine rU 1 ?_
   refine cA (hir) ?_
   refine rF ?_
   refine WP.rw ?_
   refine rU 1 ?_
   refine cA (hge) ?_
   refine rF ?_
   refine WP.rw ?_
   refine rU 9 ?_
   iterate 3 refine WPL.skipU (by rfl) (by rfl) ?_
   refine rU 6 ?_
   rw[decide_eq_false (by omega:¬v<u)]
   refine rF ?_
   refine cF ?_
   refine rS ?_
   exact WP.ret (Ends.val (by rfl) (by exact byObl) (by rfl) (by trivial))
 case false=>
  obtain⟨e2,e1⟩:=et_yes hc ho
  rw[e2] at h2
  rw[e1] at h1
  have ho:=of_decide_eq_false ho
  have hDl:=etD_le hD.le (des_L hnb hnw)
  have hDs:=etD_small hD.le (des_L hnb hnw)
  have hCl:=etC_len N [b,w]
  have hCs:=sum_et hD.le (des_L hnb hnw)
  have hgo:=implGroupOrder_fn N b w hb.lt hw.lt hb.z hw.z
  rw[go_yes hc] at hgo
  have hsu:=sum_fn (etC N [b,w]) (by omega) (by omega)
  rw[hCs,hCl] at hsu
  have hr5:=rows5R_fn (etD N [b,w]) (by omega) (λ j=>by have:=hDs j;omega)
  have hli:=likeInts_fn (etD N [b,w]).length (etD N [b,w]).length (λ t=>(((etC N [b,w]).getD t 0:Nat):Int)) (λ t=>(((etC N [b,w]).getD t 0:Nat):Int)) (by omega) (by omega)
  rw[likeB_same] at hli
  generalize etD N [b,w]=D at*
  generalize etC N [b,w]=C at*
  have hcl:=cg_is hD hnb hnw
  generalize cgV (ordG N [b,w]) N b w=v at*
  generalize genV N b w=u at*
  refine WP.rw ?_
  refine rU 1 ?_
  refine cN [] (t3 (.sl 2 0 D.length 1) (.sl 3 0 D.length 1) (.i .i64 0)) (h2) leZ (ren3 rfl rfl ⟨rfl,trivial⟩) ?_
  refine rF ?_
  refine WP.rw ?_
  refine rU 1 ?_
  refine cN [] (t3 (.sl 4 0 D.length 1) (.sl 5 0 D.length 1) (.i .i64 0)) (h1) leZ (ren3 rfl rfl ⟨rfl,trivial⟩) ?_
  refine rF ?_
  refine WP.rw ?_
  refine rU 1 ?_
  refine cA (h3) ?_
  refine rF ?_
  refine WP.rw ?_
  refine rU 1 ?_
  refine cA (h4) ?_
  refine rF ?_
  refine WP.seq ?_
  refine WP.rw ?_
  refine rU 6 ?_
  refine cR [2,4] (hr5) (leC (leC leZ)) ?_
  refine rU 5 ?_
  refine cR [3,5] (hli) (leC (leC leZ)) ?_
  refine rU 11 ?_
  rw[decide_eq_true (rfl:v=v)]
  refine rF ?_
  refine cF ?_
  refine WP.seq ?_
  refine rS ?_
  refine cQ (λ h=>?_) λ h=>?_
  ·refine WP.rw ?_
   refine rU 1 ?_
   refine cA (hgo) ?_
   refine rF ?_
   refine WP.rw ?_
   refine rU 4 ?_
   refine cR [3] (hsu) (leC leZ) ?_
   refine rU 2 ?_
   rw[decide_eq_true (rfl:((ordG N [b,w]:Nat):Int)=((ordG N [b,w]:Nat):Int))]
   refine rF ?_
   refine cF ?_
   by_cases hreg:ordG N [b,w]=N
   ·have huv:v=u:=hcl.2 hreg
    subst huv
    rw[decide_eq_true (by rw[hreg]:((ordG N [b,w]:Nat):Int)=(N:Int))] at hir
    refine WP.seq ?_
    refine rS ?_
    refine cT ?_
    refine WP.rw ?_
    refine rU 1 ?_
    refine cA (hir) ?_
    refine rF ?_
    refine WP.rw ?_
    refine rU 1 ?_
    refine cA (hge) ?_
    refine rF ?_
    refine WP.rw ?_
    refine rU 12 ?_
    rw[decide_eq_true (rfl:v=v)]
    refine rU 6 ?_
    rw[decide_eq_false (Int.lt_irrefl v)]
    refine rF ?_
    refine cF ?_
    refine rS ?_
    exact WP.ret (Ends.val (by rfl) (by exact byObl) (by rfl) (by trivial))
   ·rw[decide_eq_false (λ e=>hreg (by exact_mod_cast e):¬((ordG N [b,w]:Nat):Int)=(N:Int))] at hir
    refine WP.seq ?_
    refine rS ?_
    refine cT ?_
    refine WP.rw ?_
    refine rU 1 ?_
    refine cA (hir) ?_
    refine rF ?_
    refine WP.rw ?_
    refine rU 1 ?_
    refine cA (hge) ?_
    refine rF ?_
    refine WP.rw ?_
    refine rU 9 ?_
    iterate 3 refine WPL.skipU (by rfl) (by rfl) ?_
    refine rU 6 ?_
    rw[decide_eq_false (by omega:¬v<u)]
    refine rF ?_
    refine cF ?_
    refine rS ?_
    exact WP.ret (Ends.val (by rfl) (by exact byObl) (by rfl) (by trivial))
  ·cases h
theorem blB(len:Nat)(g:Nat->Nat)(hg:∀j,g j<256)(hl:len<=4096):∀d b0,Tryz.f3.body=some b0->dropO 7 b0=some d->WP Tryz.prog Tryz.f3.ntmps 1 d (DM.Ends T Tryz.f3.results.toList λ r' _=>r'=.b true/\Sc 0 (.b true)) ⟨lst [(0,.sl 0 0 len 1)],[.ro len 1 (byF g)]⟩:=by
 intro d b0 hb0 hd0
 injection hb0 with hb0
 subst hb0
 injection hd0 with hd0
 subst hd0
 have hdQ:=drawQd len g hg (by omega)
 have hdB:=drawBs len g hg (by omega)
 refine WP.rw ?_
 refine rU 1 ?_
 refine WPL.callE [0] (hdQ) (leC leZ) (by rfl) (by rfl) (by exact byArgs) (by rfl) (by rfl) (by simp[Sc,sc_pl,sc_ds]) ?_
 rintro _ _ ⟨n,b,w,L,rfl,⟨_,_,hb,hw⟩,hL,rfl⟩
 refine⟨⟨λ d hd=>by cases hd;exact λ _ _=>trivial,λ d hd=>by cases hd;exact λ _ _=>trivial,trivial⟩,t2 (ds_ n b w) (.sl 1 0 L.length 1),ren_t2 ⟨rfl,sc_ds _ _ _ _⟩ rfl,sc_t2 (sc_ds _ _ _ _) (sc_sl rfl),?_⟩
 refine WPL.mem (by rfl) ?_
 refine rF ?_
 refine WP.ghost (gC [0,2,1] (leC (leC (leC leZ))) (l:=[(0,.sl 0 0 len 1),(16,.p 1 [] 0),(17,.sl 2 0 L.length 1)]) (m':=[.ro len 1 (byF g),.var (ds_ n b w),.row 2 L.length 1 (numsF L)])) ?_
 obtain⟨M,B,W,c,q1,q2⟩:=qb_both (n:=n) hb.lt hw.lt hb.z hw.z L.length (λ t=>((L.getD t 0:Nat):Int)) (by omega)
 refine WP.rw ?_
 refine rU 2 ?_
 refine cR [2] (q2) (leC leZ) ?_
 refine rF ?_
 refine WP.rw ?_
 refine rU 2 ?_
 refine cR [2] (q1) (leC leZ) ?_
 refine rF ?_
 refine WP.ghost (gC [0,3,4] (leC (leC (leC leZ))) (l:=[(0,.sl 0 0 len 1),(18,.p 1 [] 0),(19,.i .i64 c),(20,.p 2 [] 0),(21,.i .i64 c)]) (m':=[.ro len 1 (byF g),.var (ds_ M B W),.var (ds_ M B W)])) ?_
 clear q1 q2 hb hw hL
 refine WP.rw ?_
 refine rU 1 ?_
 refine WPL.callE [0] (hdB) (leC leZ) (by rfl) (by rfl) (by exact byArgs) (by rfl) (by rfl) (by simp[Sc,sc_pl,sc_ds]) ?_
 rintro _ _ ⟨n,b,w,rfl,⟨_,_,hb,hw⟩,rfl⟩
 refine⟨⟨λ d hd=>by cases hd;exact λ _ _=>trivial,trivial⟩,ds_ n b w,⟨rfl,sc_ds _ _ _ _⟩,sc_ds _ _ _ _,?_⟩
 refine WPL.mem (by rfl) ?_
 refine rF ?_
 have h2:=implBlocks_fn n b w hb.lt hw.lt
 have h1:=specBlocks_fn n b w hb.lt hw.lt
 have h3:=implPrim_fn n b w hb.lt hw.lt
 have h4:=specPrim_fn n b w hb.lt hw.lt
 obtain⟨pr,pc,e⟩:=prR_form n b w
 rw[e] at h3 h4
 cases hc:desB n b w
 ·obtain⟨e2,e1⟩:=bl_no hc
  rw[e2] at h2
  rw[e1] at h1
  refine WP.rw ?_
  refine rU 1 ?_
  refine cN [] (t2 .ns (.i .i64 1)) (h2) leZ (ren_t2 ⟨rfl,trivial⟩ ⟨rfl,trivial⟩) ?_
  refine rF ?_
  refine WP.rw ?_
  refine rU 1 ?_
  refine cN [] (t2 .ns (.i .i64 1)) (h1) leZ (ren_t2 ⟨rfl,trivial⟩ ⟨rfl,trivial⟩) ?_
  refine rF ?_
  refine WP.rw ?_
  refine rU 1 ?_
  refine cA (h3) ?_
  refine rF ?_
  refine WP.rw ?_
  refine rU 1 ?_
  refine cA (h4) ?_
  refine rF ?_
  refine WP.seq ?_
  refine WP.rw ?_
  refine rU 3 ?_
  rw[decide_eq_true (rfl:c=c)]
  refine rU 3 ?_
  refine WPL.op (by rfl) (by rfl) (QOK.op (ok_eq tok rfl (eqdS _ _ _))) ?_
  refine rU 9 ?_
  refine cA (rows5_nil) ?_
  refine rU 6 ?_
  rw[decide_eq_true (rfl:pc=pc)]
  cases pr
  all_goals
   refine rF ?_
   refine cF ?_
   refine WP.ghost (gC [0] (leC leZ) (l:=[(0,.sl 0 0 len 1)]) (m':=[.ro len 1 (byF g)])) ?_
   exact blC len g hg hl _ _ rfl rfl
 obtain⟨N,rfl,hD⟩:=des_of_B hc
 obtain⟨e2,e1⟩:=bl_yes hc
 rw[e2] at h2
 rw[e1] at h1
 have hN:=hD.le
 have hlb:=bls_len N b w (N-1)
 have hls:=bls_small N b w (N-1)
 have hr5:=rows5R_fn (blsL N b w (N-1)) (by omega) (λ j=>by have:=hls j;omega)
 generalize blsL N b w (N-1)=R at*
 refine WP.rw ?_
 refine rU 1 ?_
 refine cN [] (t2 (.sl 4 0 R.length 1) (.i .i64 0)) (h2) leZ (ren_t2 rfl ⟨rfl,trivial⟩) ?_
 refine rF ?_
 refine WP.rw ?_
 refine rU 1 ?_
 refine cN [] (t2 (.sl 5 0 R.length 1) (.i .i64 0)) (h1) leZ (ren_t2 rfl ⟨rfl,trivial⟩) ?_
 refine rF ?_
 refine WP.rw ?_
 refine rU 1 ?_
 refine cA (h3) ?_
 refine rF ?_
 refine WP.rw ?_
 refine rU 1 ?_
 refine cA (h4) ?_
 refine rF ?_
 refine WP.seq ?_
 refine WP.rw ?_
 refine rU 3 ?_
 rw[decide_eq_true (rfl:c=c)]
 refine rU 3 ?_
 refine WPL.op (by rfl) (by rfl) (QOK.op (ok_eq tok rfl (eqdS _ _ _))) ?_
 refine rU 9 ?_
 refine cR [4,5] (hr5) (leC (leC leZ)) ?_
 refine rU 6 ?_
 rw[decide_eq_true (rfl:pc=pc)]
 cases pr
 all_goals
  refine rF ?_
  refine cF ?_
  refine WP.ghost (gC [0] (leC leZ) (l:=[(0,.sl 0 0 len 1)]) (m':=[.ro len 1 (byF g)])) ?_
  exact blC len g hg hl _ _ rfl rfl
theorem law_Blocks(len:Nat)(g:Nat->Nat)(hg:∀j,g j<256)(hl:len<=9223372036854775807):FnR Tryz.prog 3 [.sl 0 0 len 1] [.ro len 1 (byF g)] (.b true):=by
 have hbig:=big_fn len (byF g) hl
 by_cases hb:4096<len
 ·rw[decide_eq_true (by omega:(4096:Int)<(len:Int))] at hbig
  refine FnS.into T tok Tryz.func3 (by rfl) rfl rfl rfl (by simp) ?_
  refine rS ?_
  refine WP.seq ?_
  refine WP.rw ?_
  refine rU 1 ?_
  refine cR [0] (hbig) (leC leZ) ?_
  refine rF ?_
  refine cS (λ h=>?_) λ h=>?_
  ·refine rS ?_
   exact WP.ret (Ends.val (by rfl) (by exact byObl) (by rfl) (by trivial))
  ·cases h
 rw[decide_eq_false (by omega:¬(4096:Int)<(len:Int))] at hbig
 have hl2:len<=4096:=by omega
 have hdA:=drawBo len g hg (by omega)
 refine FnS.into T tok Tryz.func3 (by rfl) rfl rfl rfl (by simp) ?_
 refine rS ?_
 refine WP.seq ?_
 refine WP.rw ?_
 refine rU 1 ?_
 refine cR [0] (hbig) (leC leZ) ?_
 refine rF ?_
 refine cF ?_
 refine WP.rw ?_
 refine rU 1 ?_
 refine WPL.callE [0] (hdA) (leC leZ) (by rfl) (by rfl) (by exact byArgs) (by rfl) (by rfl) (by simp[Sc,sc_pl,sc_ds]) ?_
 rintro _ _ ⟨n,b,w,x,y,rfl,⟨_,_,hb,hw⟩,rfl⟩
 refine⟨⟨λ d hd=>by cases hd;exact λ _ _=>trivial,trivial⟩,t3 (ds_ n b w) (.i .i64 x) (.i .i64 y),ren_t3 ⟨rfl,sc_ds _ _ _ _⟩ ⟨rfl,trivial⟩ ⟨rfl,trivial⟩,sc_t3 (sc_ds _ _ _ _) trivial trivial,?_⟩
 refine WPL.mem (by rfl) ?_
 refine rF ?_
 refine WP.ghost (gC [0,1] (leC (leC leZ)) (l:=[(0,.sl 0 0 len 1),(3,.p 1 [] 0),(4,.i .i64 x),(5,.i .i64 y)]) (m':=[.ro len 1 (byF g),.var (ds_ n b w)])) ?_
 have hi1:=implBlockOf_fn n b w hb.lt hw.lt x y
 have hi2:=specBlockOf_fn n b w hb.lt hw.lt x y
 by_cases hno:∃c:Int,c≠0/\bkR n b w x y=(t2 .ns (.i .i64 c),[])
 ·obtain⟨c,hc0,e⟩:=hno
  rw[e] at hi1 hi2
  refine WP.rw ?_
  refine rU 3 ?_
  refine cN [] (t2 .ns (.i .i64 c)) (hi1) leZ (ren_t2 ⟨rfl,trivial⟩ ⟨rfl,trivial⟩) ?_
  refine rF ?_
  refine WP.rw ?_
  refine rU 3 ?_
  refine cN [] (t2 .ns (.i .i64 c)) (hi2) leZ (ren_t2 ⟨rfl,trivial⟩ ⟨rfl,trivial⟩) ?_
  refine rF ?_
  refine WP.seq ?_
  refine WP.rw ?_
  refine rU 3 ?_
  rw[decide_eq_true (rfl:c=c)]
  refine rU 3 ?_
  refine cA (likeInts_nil) ?_
  refine rF ?_
  refine cF ?_
  refine WP.seq ?_
  refine rS ?_
  refine cS (λ h=>?_) λ h=>?_
  ·exact absurd (of_decide_eq_true h) hc0
  refine WP.ghost (gC [0] (leC leZ) (l:=[(0,.sl 0 0 len 1)]) (m':=[.ro len 1 (byF g)])) ?_
  exact blB len g hg hl2 _ _ rfl rfl
 cases hc:desB n b w
 ·exact absurd ⟨1,by decide,bk_no1 hc⟩ hno
 cases hxy:(inN n x&&inN n y)
 ·exact absurd ⟨2,by decide,bk_no2 hc hxy⟩ hno
 obtain⟨N,rfl,hD,hnb,hnw⟩:=des_np hc hb.z hw.z
 obtain⟨⟨x0,x1⟩,y0,y1⟩:(0<=x/\x<N)/\(0<=y/\y<N):=by simpa[inN] using hxy
 obtain⟨x,rfl⟩:∃k:Nat,x=k:=⟨x.toNat,by omega⟩
 obtain⟨y,rfl⟩:∃k:Nat,y=k:=⟨y.toNat,by omega⟩
 have hx:x<N:=by omega
 have hy:y<N:=by omega
 rw[bk_yes hc hx hy] at hi1 hi2
 have hN:=hD.le
 obtain⟨M,B,W,eq,hDq,hdq,hML,hgen,hxm,hym,hB,hW⟩:=qb_blk hD hnb hnw hx hy (g:=λ t=>(((blkL N b w x y).getD t 0:Nat):Int)) (λ _=>rfl)
 have hLl:=blk_len N b w x y
 have hqb:=implQb_fn N b w hD hc (des_L hnb hnw) hb.lt hw.lt (blkL N b w x y).length (λ t=>(((blkL N b w x y).getD t 0:Nat):Int)) (by omega)
 rw[eq] at hqb
 have hli:=likeInts_fn (blkL N b w x y).length (blkL N b w x y).length (λ t=>(((blkL N b w x y).getD t 0:Nat):Int)) (λ t=>(((blkL N b w x y).getD t 0:Nat):Int)) (by omega) (by omega)
 rw[likeB_same] at hli
 have hi:=implIsDessin_fn M B W hB hW
 rw[hdq] at hi
 have hh1:=hasInt_fn (blkL N b w x y) (by omega) x hxm
 have hh2:=hasInt_fn (blkL N b w x y) (by omega) y hym
 have hg1:=implGenus_fn N b w hb.lt hw.lt
 have hg2:=implGenus_fn M B W hB hW
 rw[ge_yes hc] at hg1
 rw[ge_yes hdq] at hg2
 have hML2:(M:Int)*((blkL N b w x y).length:Int)=(N:Int):=by exact_mod_cast hML
 clear hno eq hDq hxm hym hML
 generalize blkL N b w x y=L at*
 generalize genV N b w=u at*
 generalize genV M B W=v at*
 refine WP.rw ?_
 refine rU 3 ?_
 refine cN [] (t2 (.sl 2 0 L.length 1) (.i .i64 0)) (hi1) leZ (ren_t2 rfl ⟨rfl,trivial⟩) ?_
 refine rF ?_
 refine WP.rw ?_
 refine rU 3 ?_
 refine cN [] (t2 (.sl 3 0 L.length 1) (.i .i64 0)) (hi2) leZ (ren_t2 rfl ⟨rfl,trivial⟩) ?_
 refine rF ?_
 refine WP.seq ?_
 refine WP.rw ?_
 refine rU 6 ?_
 refine cR [2,3] (hli) (leC (leC leZ)) ?_
 refine rF ?_
 refine cF ?_
 refine WP.seq ?_
 refine rS ?_
 refine cT ?_
 refine WP.rw ?_
 refine rU 2 ?_
 refine cR [2] (hqb) (leC leZ) ?_
 refine rF ?_
 refine WP.seq ?_
 refine WP.rw ?_
 refine rU 4 ?_
 refine cA (hi) ?_
 refine rU 8 ?_
 rw[hML2]
 refine rU 3 ?_
 rw[decide_eq_true (rfl:(N:Int)=(N:Int))]
 refine rU 4 ?_
 refine cR [2] (hh1) (leC leZ) ?_
 refine rU 5 ?_
 refine cR [2] (hh2) (leC leZ) ?_
 refine rF ?_
 refine cF ?_
 refine WP.rw ?_
 refine rU 1 ?_
 refine cA (hg1) ?_
 refine rF ?_
 refine WP.rw ?_
 refine rU 1 ?_
 refine cA (hg2) ?_
 refine rF ?_
 refine WP.rw ?_
 refine rU 10 ?_
 rw[decide_eq_false (by omega:¬u<v)]
 refine rF ?_
 refine cF ?_
 refine WP.ghost (gC [0] (leC leZ) (l:=[(0,.sl 0 0 len 1)]) (m':=[.ro len 1 (byF g)])) ?_
 exact blB len g hg hl2 _ _ rfl rfl
end Go.Proofs.YthjnmlpibafbnaaGreat
