import Derived.Test.YthjnmlpibafbnaaGreatL29
import Derived.Test.YthjnmlpibafbnaaGreatX8
import Derived.Test.YthjnmlpibafbnaaGreatD34
import Derived.Test.YthjnmlpibafbnaaGreatX6
namespace Go.Proofs.YthjnmlpibafbnaaGreat
open Go.RowKit DM
set_option linter.unusedSimpArgs false
set_option linter.unusedVariables false
set_option maxRecDepth 100000
set_option maxHeartbeats 1000000
theorem sift_at{n:Nat}{has:Nat->Nat->Bool}{tab:Nat->Nat->Nat->Nat}{i:Nat}(hi:i<n)(p:Nat->Nat):siftF n has tab (n-i) p=bif has i (p i) then siftF n has tab (n-(i+1)) (if p i=i then p else mulF n p (backTo (tab i (p i)) n)) else(p,i):=by
 obtain⟨d,hd⟩:∃d,n-i=d+1:=⟨n-i-1,by omega⟩
 have e:n-(d+1)=i:=by omega
 rw[hd,show n-(i+1)=d by omega]
 simp only[siftF,e]
theorem sift_fn(N:Nat)(hN:N<=16)(has:Nat->Nat->Bool)(tab:Nat->Nat->Nat->Nat)(hT:TblOk N has tab)(p:Nat->Nat)(hp:Np N p):FnS Tryz.prog 109 [.p 0 [] 0,pl p] [.var (grD N has tab)] λ r m'=>r=t2 (pl (siftF N has tab N p).1) (.i .i64 (((siftF N has tab N p).2:Nat):Int))/\m'=[.var (grD N has tab)]:=by
 generalize hR:siftF N has tab N p=R
 refine FnS.intoN T tok Tryz.func109 (by rfl) rfl rfl rfl (by simp) ?_
 refine rS ?_
 refine WP.seq ?_
 refine rS ?_
 refine WP.block ?_
 refine WP.loopH (⟨λ z:Nat×(Nat->Nat)=>z.1<=N/\Np N z.2/\siftF N has tab (N-z.1) z.2=R,λ z=>[(0,.p 0 [] 0),(3,.p 1 [] 0),(4,.p 2 [] 0),(11,.i .i64 (N:Int)),(12,.i .i64 (z.1:Int))],λ z=>[.var (grD N has tab),.var (pl z.2),.var (pl λ _=>0)],λ z=>N-z.1⟩) ((0,p)) (⟨Nat.zero_le _,hp,hR⟩) (gC [0,1,2] (leC (leC (leC leZ)))) ?_
 rintro⟨i,q⟩ ⟨hi,hq,hR⟩
 dsimp only at hi hq hR
 dsimp only[Hd.at]
 refine rS ?_
 refine WP.seq ?_
 refine cI (λ hc=>?_) λ hc=>?_
 ·have hi:i<N:=by have:=of_decide_eq_true hc;omega
  clear hc
  have hqi:=hq.perm.lt i hi
  rw[sift_at hi] at hR
  refine WP.seq (WP.block ?_)
  refine rS ?_
  refine rS ?_
  refine WP.seq ?_
  refine rS ?_
  cases hh:has i (q i) with
  |false=>
   rw[hh,cond_false] at hR
   subst hR
   refine cS (λ h=>?_) λ h=>?_
   ·refine rS ?_
    exact WP.ret (Ends.new [0] (by rfl) (by exact byObl) (leC leZ) rfl rfl (ren_t2 ⟨rfl,sc_pl _ _⟩ ⟨rfl,trivial⟩) (sc_t2 (sc_pl _ _) trivial))
   ·simp only[Int.toNat_natCast,hh,Bool.not_false] at h;cases h
  |true=>
   rw[hh,cond_true] at hR
   refine cS (λ h=>?_) λ h=>?_
   ·simp only[Int.toNat_natCast,hh,Bool.not_true] at h;cases h
   ·refine rS ?_
    by_cases he:q i=i
    ·rw[if_pos he] at hR
     refine cS (λ h2=>?_) λ h2=>?_
     ·simp only[Int.toNat_natCast,he,decide_true,Bool.not_true] at h2;cases h2
     ·refine rE ?_
      refine Again.next ((i+1,q)) (gC [0,1,2] (leC (leC (leC leZ)))) (⟨hi,hq,hR⟩) (by dsimp only;omega)
    ·rw[if_neg he] at hR
     have hm:=mul_np hq (inv_np hN (hT.np i _ hi hh))
     refine cS (λ h2=>?_) λ h2=>?_
     ·refine WP.da (by kernel_rfl) 19 (by kernel_rfl) ?_
      refine WA.takes T false tok [0,1,2,3,4,5,6,7,8] (f':=11) (by kernel_rfl) (by rfl) (by rfl) (by rfl) (by exact byObl) (by rfl) (by rfl) ?_
      refine WA.takes T false tok [9,10,11,12,14,15,16,17] (f':=3) (by kernel_rfl) (by rfl) (by rfl) (by rfl) (by exact byObl) (by rfl) (by rfl) ?_
      refine WA.all [13] (by kernel_rfl) (by simp) ?_;intro i' hi';simp only[List.mem_cons,List.not_mem_nil,or_false] at hi'
      subst hi'
      refine⟨_,_,_,rfl,by rfl,by rfl,MK.callP (back_fn (tab i (q i)) N hN (hT.np i _ hi hh).perm.lt) (by rfl) (by simp[Sc,sc_pl,sc_ds,pl_ne,ds_ne]),?_⟩
      refine WA.all [18] (by kernel_rfl) (by simp) ?_;intro i' hi';simp only[List.mem_cons,List.not_mem_nil,or_false] at hi'
      subst hi'
      refine⟨_,_,_,rfl,by rfl,by rfl,MK.callP (then_fn q (backTo (tab i (q i)) N) N hN hq.perm.lt) (by rfl) (by simp[Sc,sc_pl,sc_ds,pl_ne,ds_ne]),?_⟩
      refine WA.tail (by rfl) (by rfl) (by kernel_rfl) ?_
      refine rF ?_
      refine noPan ?_
      refine rE ?_
      refine Again.next ((i+1,mulF N q (backTo (tab i (q i)) N))) (gC [0,1,2] (leC (leC (leC leZ)))) (⟨hi,hm,hR⟩) (by dsimp only;omega)
     ·simp only[Int.toNat_natCast] at h2
      have h2:=of_decide_eq_true (show decide _=true by simpa using h2)
      exact absurd (by omega) he
 ·have hi:i=N:=by have:=of_decide_eq_false hc;omega
  subst hi
  rw[Nat.sub_self] at hR
  subst hR
  refine WP.seq ?_
  refine WP.da (by kernel_rfl) 5 (by kernel_rfl) ?_
  refine WA.takes T false tok [0] (f':=6) (by kernel_rfl) (by rfl) (by rfl) (by rfl) (by exact byObl) (by rfl) (by rfl) ?_
  refine WA.takesD T false tok [1,2,3] (f':=3) (by kernel_rfl) (by rfl) (by rfl) (by exact byObl) (by rfl) (by rfl) ?_
  refine WA.allT [4,5] (by kernel_rfl) (by simp) ?_;intro i' hi';simp only[List.mem_cons,List.not_mem_nil,or_false] at hi'
  rcases hi' with rfl|rfl
  ·refine⟨_,_,_,rfl,by rfl,by rfl,.inl (MK.q (evalOp_q tok (wm:=false) (by rfl) (by rfl) (by exact byObl))),?_⟩
   refine WA.allT [5] (by kernel_rfl) (by simp) ?_;intro i' hi';simp only[List.mem_cons,List.not_mem_nil,or_false] at hi'
   subst hi'
   refine⟨_,_,_,rfl,by rfl,by rfl,.inr ⟨by decide,TK.of tok (wm:=false) (by rfl) (by exact byObl)⟩,?_⟩
   refine WA.move 6 (by rfl) (by first|exact .inl rfl|exact .inr rfl) (by kernel_rfl) (by kernel_rfl) (by rfl) (by rfl) ?_
   refine WA.end rfl (by kernel_rfl) (noPan ?_)
   exact WP.ret (Ends.new [0] (by rfl) (by exact byObl) (leC leZ) rfl rfl (ren_t2 ⟨rfl,sc_pl _ _⟩ ⟨rfl,trivial⟩) (sc_t2 (sc_pl _ _) trivial))
  ·refine⟨_,_,_,rfl,by rfl,by rfl,.inr ⟨by decide,TK.of tok (wm:=false) (by rfl) (by exact byObl)⟩,?_⟩
   refine WA.allT [4] (by kernel_rfl) (by simp) ?_;intro i' hi';simp only[List.mem_cons,List.not_mem_nil,or_false] at hi'
   subst hi'
   refine⟨_,_,_,rfl,by rfl,by rfl,.inl (MK.q (evalOp_q tok (wm:=false) (by rfl) (by rfl) (by exact byObl))),?_⟩
   refine WA.move 6 (by rfl) (by first|exact .inl rfl|exact .inr rfl) (by kernel_rfl) (by kernel_rfl) (by rfl) (by rfl) ?_
   refine WA.end rfl (by kernel_rfl) (noPan ?_)
   exact WP.ret (Ends.new [0] (by rfl) (by exact byObl) (leC leZ) rfl rfl (ren_t2 ⟨rfl,sc_pl _ _⟩ ⟨rfl,trivial⟩) (sc_t2 (sc_pl _ _) trivial))
end Go.Proofs.YthjnmlpibafbnaaGreat
namespace Go.Proofs.YthjnmlpibafbnaaGreat
open Go.RowKit DM
set_option linter.unusedSimpArgs false
set_option linter.unusedVariables false
set_option maxRecDepth 100000
set_option maxHeartbeats 1000000
theorem gorder_fn(N:Nat)(hN:N<=16)(has:Nat->Nat->Bool)(tab:Nat->Nat->Nat->Nat)(hT:TblOk N has tab):FnS Tryz.prog 51 [.p 0 [] 0] [.var (grD N has tab)] λ r m'=>r=.i .i64 (ordF 16 has N:Nat)/\m'=[.var (grD N has tab)]:=by
 refine FnS.intoN T tok Tryz.func51 (by rfl) rfl rfl rfl (by simp) ?_
 refine rS ?_
 refine rS ?_
 refine WP.seq ?_
 refine rS ?_
 refine WP.block ?_
 refine WP.loopH (⟨λ z:Nat×Nat=>z.1<=N/\z.2=ordF 16 has z.1,λ z=>[(0,.p 0 [] 0),(3,.i .i64 (z.2:Int)),(11,.i .i64 (N:Int)),(12,.i .i64 (z.1:Int))],λ z=>[.var (grD N has tab)],λ z=>N-z.1⟩) ((0,1)) (⟨Nat.zero_le _,rfl⟩) (gC [0] (leC leZ)) ?_
 rintro⟨i,o⟩ ⟨hi,ho⟩
 dsimp only at hi ho
 dsimp only[Hd.at]
 refine rS ?_
 refine WP.seq ?_
 refine cI (λ hc=>?_) λ hc=>?_
 ·have hi:i<N:=by have:=of_decide_eq_true hc;omega
  clear hc
  have hb2:=hT.ord hN (Nat.le_refl 16) (i:=i+1) (by omega)
  refine WP.seq (WP.block ?_)
  refine rS ?_
  refine rS ?_
  refine WP.seq ?_
  refine rS ?_
  refine WP.block ?_
  refine WP.loopH (⟨λ z:Nat×Nat=>z.1<=16/\z.2=cntB (has i) z.1,λ z=>[(0,.p 0 [] 0),(3,.i .i64 (o:Int)),(5,.i .i64 (z.2:Int)),(11,.i .i64 (N:Int)),(12,.i .i64 (i:Int)),(20,.ar 16 1 λ k=>.b (has i k)),(21,.i .i64 (z.1:Int))],λ z=>[.var (grD N has tab)],λ z=>16-z.1⟩) ((0,0)) (⟨Nat.zero_le _,rfl⟩) (gC [0] (leC leZ)) ?_
  rintro⟨k,c⟩ ⟨hk,hcn⟩
  dsimp only at hk hcn
  dsimp only[Hd.at]
  have hle:c<=k:=hcn▸cntB_le (has i) k
  refine rS ?_
  refine WP.seq ?_
  refine cI (λ hc=>?_) λ hc=>?_
  ·have hk:k<16:=by have:=of_decide_eq_true hc;omega
   clear hc
   refine WP.seq (WP.block ?_)
   refine rS ?_
   refine rS ?_
   cases hh:has i k with
   |true=>
    have e:cntB (has i) (k+1)=cntB (has i) k+1:=by simp only[cntB,hh,cond_true]
    refine cS (λ h=>?_) λ h=>?_
    ·refine rE ?_
     refine rE ?_
     refine Again.next ((k+1,c+1)) (gC [0] (leC leZ)) (⟨hk,by simp only[e,hcn]⟩) (by dsimp only;omega)
    ·simp[hh] at h
   |false=>
    have e:cntB (has i) (k+1)=cntB (has i) k:=by simp only[cntB,hh,cond_false]
    refine cS (λ h=>?_) λ h=>?_
    ·simp[hh] at h
    ·refine rE ?_
     refine Again.next ((k+1,c)) (gC [0] (leC leZ)) (⟨hk,by simp only[e,hcn]⟩) (by dsimp only;omega)
  ·have hk:k=16:=by have:=of_decide_eq_false hc;omega
   subst hk
   clear hc
   have e:ordF 16 has (i+1)=o*c:=by rw[ho,hcn];rfl
   rw[e] at hb2
   have hcast:(o:Int)*(c:Int)=((o*c:Nat):Int):=rfl
   refine rE ?_
   refine rE ?_
   refine Again.next ((i+1,o*c)) (gC [0] (leC leZ)) (⟨hi,e.symm⟩) (by dsimp only;omega)
 ·have hi:i=N:=by have:=of_decide_eq_false hc;omega
  subst hi
  subst ho
  refine rS ?_
  exact WP.ret (Ends.new [0] (by rfl) (by exact byObl) (leC leZ) rfl rfl (⟨rfl,trivial⟩) (trivial))
end Go.Proofs.YthjnmlpibafbnaaGreat
namespace Go.Proofs.YthjnmlpibafbnaaGreat
open Go.RowKit DM
set_option linter.unusedSimpArgs false
set_option linter.unusedVariables false
set_option maxRecDepth 100000
set_option maxHeartbeats 1000000
theorem gr_zero{N:Nat}{f:Nat->Dat}(h0:f 0=.i .i64 (N:Int))(h1:f 1=.ar 16 256 λ _=>.ar 16 16 λ _=>pl λ _=>0)(h2:f 2=.ar 16 16 λ _=>.ar 16 1 λ _=>.b false)(h3:∀j,f (j+3)=.un):Dat.st 3 f=grD N (has0 0) (tabP N 0):=by
 rw[has0_zero,tabP_zero]
 unfold grD
 congr 1
 funext j
 rcases j with _|_|_|j
 ·exact h0
 ·exact h1
 ·exact h2
 ·exact h3 j
theorem slEq_ok{P:Program}{T:TyEnv}{fr:Nat->Dat}{m:List Root}(hT:TOK P T){o:Oper}{t t':TypeId}{x y:Operand}{e sz0 by0:Nat}{z0:Dat}{r off len s n:Nat}{f:Nat->Dat}{e':TypeId}(ho:o.op=.binOp .eql t x y t')(ht:T t=some ⟨.slice e,sz0,by0,z0⟩)(hx:ev fr x=.sl r off len s)(hy:ev fr y=.ns)
  (hR:m[r]? =some (.row e' n s f)):QOK P o fr m (.b false) m:=
 .of_run λ N ρ ac w hf hr=>by
  obtain⟨h0,_⟩:=ev_eq hf (x:=x) hx (by simp)
  obtain⟨h1,_⟩:=ev_eq hf (x:=y) hy (by simp)
  have hu:=(hT t _ ht).fits
  simp only[Ty.fits] at hu
  have hnil:=hr.mine_nil hR rfl (.inl ⟨rfl,rfl⟩)
  refine⟨?_,trivial,trivial,trivial⟩
  simp[execOp,ho,h0,h1,enc,leaf,RV.slice,hnil,eqGuard,binOp,run_equal_slice_nil _ t e _ _ _ hu,Result.andThen]
theorem clone_fn(n:Nat)(hn:n<=1000000)(f:Nat->Dat)(hf:∀j,Pl (f j))(hs:∀j,Sc 0 (f j)):FnS Tryz.prog 108 [.sl 0 0 n 16] [.row 25 n 16 f] λ r m'=>r=.sl 1 0 n 16/\m'=[.row 25 n 16 f,.row 25 n 16 f]:=by
 have hSc:∀(k e:Nat),Sc k (.ow e n 16 f):=λ k _ j _=>(hs j).mono (Nat.zero_le _)
 refine FnS.intoN T tok Tryz.func108 (by rfl) rfl rfl rfl (by simp) ?_
 refine rS ?_
 refine WP.seq ?_
 refine WP.rw ?_
 refine rU 1 ?_
 refine WPL.op (by rfl) (by rfl) (QOK.op (slEq_ok tok rfl rfl rfl rfl rfl)) ?_
 refine rF ?_
 refine cF ?_
 ·refine WP.rw ?_
  refine rU 2 ?_
  refine WPL.op (by rfl) (by rfl) (ok_app_keep tok rfl rfl rfl rfl rfl rfl (by decide) rfl rfl rfl (by decide) (λ j _=>hf j) (Nat.le_refl _) (by omega) (by omega) (Nat.zero_add n) rfl) ?_
  refine rF ?_
  exact WP.ret (Ends.new [0,2] (by rfl) (by exact byObl) (by repeat (first|exact trivial|(refine lC ?_ ?_;first|exact byLz|(exact le_row (by omega) (λ j hj=>by simp only[apF,Nat.zero_add];cases hh:Nat.blt j 0 with|false=>simp|true=>rw[Nat.blt_eq] at hh;omega))|exact byLeq))) rfl rfl (rfl) (sc_sl rfl))
theorem groupOf_fn(N:Nat)(hN:N<=16)(L:List (Nat->Nat))(hL:∀g∈L,Np N g)(hl:L.length<=1000):FnS Tryz.prog 83 [.i .i64 (N:Int),.sl 0 0 L.length 16] [.row 25 L.length 16 (rowP L)] λ r m'=>r=.p 1 [] 0/\∃has tab,m'=[.row 25 L.length 16 (rowP L),.var (grD N has tab)]/\GrOk N L has tab:=by
 have hSc:∀(k e:Nat),Sc k (.ow e L.length 16 (rowP L)):=λ k _ j _=>sc_row k L j
 refine FnS.intoE T tok Tryz.func83 (by rfl) rfl rfl rfl (by simp) ?_
 refine rS ?_
 refine rS ?_
 refine WP.seq ?_
 refine rS ?_
 refine WP.block ?_
 refine WP.loopH (⟨λ i:Nat=>i<=N,λ i=>[(0,.i .i64 (N:Int)),(1,.sl 0 0 L.length 16),(5,.p 1 [] 0),(16,.i .i64 (N:Int)),(17,.i .i64 (i:Int))],λ i=>[.row 25 L.length 16 (rowP L),.var (grD N (has0 i) (tabP N i))],λ i=>N-i⟩) (0) (Nat.zero_le _) (gC [0,1] (by repeat (first|exact trivial|(refine lC ?_ ?_;first|exact byLz|(exact le_var (gr_zero rfl rfl rfl λ _=>rfl).symm)|exact byLeq)))) ?_
 intro i hi
 dsimp only at hi
 dsimp only[Hd.at]
 refine rS ?_
 refine WP.seq ?_
 refine cI (λ hc=>?_) λ hc=>?_
 ·have hi:i<N:=by have:=of_decide_eq_true hc;omega
  clear hc
  refine WP.seq (WP.block ?_)
  refine rS ?_
  refine WP.seq ?_
  refine WP.da (by kernel_rfl) 9 (by kernel_rfl) ?_
  refine WA.takes T false tok [0,1,2,3,5,6,7] (f':=3) (by kernel_rfl) (by rfl) (by rfl) (by rfl) (by exact byObl) (by rfl) (by rfl) ?_
  refine WA.all [4] (by kernel_rfl) (by simp) ?_;intro i' hi';simp only[List.mem_cons,List.not_mem_nil,or_false] at hi'
  subst hi'
  refine⟨_,_,_,rfl,by rfl,by rfl,MK.callP (same_fn N hN) (by rfl) (by simp[Sc,sc_pl,sc_ds,pl_ne,ds_ne]),?_⟩
  refine WA.takes T false tok [8] (f':=1) (by kernel_rfl) (by rfl) (by rfl) (by rfl) (by exact byObl) (by rfl) (by rfl) ?_
  refine WA.tail (by rfl) (by rfl) (by kernel_rfl) ?_
  refine rF ?_
  refine noPan ?_
  refine rE ?_
  refine rE ?_
  refine Again.next (i+1) (gC [0,1] (by repeat (first|exact trivial|(refine lC ?_ ?_;first|exact byLz|(exact le_var (by rw[has0_step,tabP_step];exact(gr_up N _ _ i i _).symm))|exact byLeq)))) (hi) (by dsimp only;omega)
 ·have hi:i=N:=by have:=of_decide_eq_false hc;omega
  subst hi
  clear hc
  have hfill:=Fill.start hN hL hl
  refine rS ?_
  refine WP.rw ?_
  refine rU 1 ?_
  refine cN [0] (.sl 3 0 L.length 16) (clone_fn L.length (by omega) (rowP L) (pl_row L) (sc_row 0 L)) (leC leZ) (rfl) ?_
  refine rF ?_
  refine WP.seq (WP.block ?_)
  refine WP.loopH (⟨λ z:(Nat->Nat->Bool)×(Nat->Nat->Nat->Nat)×List (Nat->Nat)×List (Nat->Nat)=>Fill i L z.1 z.2.1 z.2.2.1 z.2.2.2,λ z=>[(0,.i .i64 (i:Int)),(5,.p 1 [] 0),(7,.sl 2 0 z.2.2.1.length 16),(8,.sl 3 0 z.2.2.2.length 16)],λ z=>[.row 25 L.length 16 (rowP L),.var (grD i z.1 z.2.1),.row 25 z.2.2.1.length 16 (rowP z.2.2.1),.row 25 z.2.2.2.length 16 (rowP z.2.2.2)],λ z=>600*freeF z.1 i+z.2.2.2.length⟩) ((has0 i,tab0 i,[],L)) (hfill) (gC [0,1,2,3] (by repeat (first|exact trivial|(refine lC ?_ ?_;first|exact byLz|(exact le_row (Nat.le_refl _) (λ j hj=>absurd hj (Nat.not_lt_zero _)))|exact byLeq)))) ?_
  rintro⟨has,tab,E,W⟩ hF
  dsimp only at hF
  dsimp only[Hd.at]
  have hTl:=hF.mem
  have hEl:=hF.len
  refine WP.seq ?_
  refine rS ?_
  refine cI (λ hc=>?_) λ hc=>?_
  ·rcases List.eq_nil_or_concat W with rfl|⟨W',p,rfl⟩
   ·simp at hc
   clear hc
   rw[List.concat_eq_append] at*
   have hlen:(W'++[p]).length=W'.length+1:=by simp
   have hp:Np i p:=hF.np hL (by simp)
   have hTl:600*freeF has i+W'.length+1<=200000:=by rw[hlen] at hTl;omega
   have hmu:∀q:Nat,q<600*freeF has i+W'.length+1->q<600*freeF has i+(W'++[p]).length:=λ q h=>by rw[hlen];omega
   have hget:rowP (W'++[p]) W'.length=pl p:=by unfold rowP;rw[getDp_ge _ _ (Nat.le_refl _),Nat.sub_self];rfl
   have hpre:∀j,j<W'.length->rowP W' j=rowP (W'++[p]) j:=λ j hj=>by unfold rowP;rw[getDp_lt _ _ hj]
   rw[hlen]
   have hP':(((W'.length+1:Nat):Int)-1).toNat=W'.length:=by omega
   have hS:=sift_fn i hN has tab hF.T p hp
   cases hR:siftF i has tab i p with
   |mk r l=>
   rw[hR] at hS
   dsimp only at hS
   refine WP.block ?_
   refine WP.rw ?_
   refine rU 7 ?_
   have hgp:(W'++[p]).getD (addrAt 0 (((W'.length+1:Nat):Int)-1).toNat) (λ _=>0)=p:=by rw[addrAt0,hP',getDp_ge _ _ (Nat.le_refl _),Nat.sub_self];rfl
   rw[hgp]
   refine cN [1] (t2 (pl r) (.i .i64 ((l:Nat):Int))) (hS) (leC leZ) (ren_t2 ⟨rfl,sc_pl _ _⟩ ⟨rfl,trivial⟩) ?_
   refine rF ?_
   refine WP.rw ?_
   refine rU 4 ?_
   refine WPL.op (by rfl) (by rfl) (QOK.op (slh_ok (h:=W'.length) tok rfl rfl rfl (congrArg (Dat.i .i64) (show(((W'.length+1:Nat):Int)-1)=_ by omega)) rfl rfl rfl (by omega))) ?_
   refine rF ?_
   refine WP.seq ?_
   refine rS ?_
   by_cases hli:l=i
   ·refine cS (λ h=>?_) λ h=>?_
    ·refine WP.exit ?_
     refine Again.next ((has,tab,E,W')) (gC [0,1,2,3] (by repeat (first|exact trivial|(refine lC ?_ ?_;first|exact byLz|(exact le_row (Nat.le_succ _) (λ j hj=>hpre j hj))|exact byLeq)))) (hF.skip hN hL (by rw[hR];exact hli)) (by exact hmu _ (by simp only;omega))
    ·have h:=of_decide_eq_false h
     exact absurd (by exact_mod_cast hli) h
   ·obtain⟨hl1,hr1,hr2,hE1,hF2,hfr⟩:=hF.grow hN hL hR hli
    refine cS (λ h=>?_) λ h=>?_
    ·have h:=of_decide_eq_true h
     exact absurd (by exact_mod_cast h) hli
    refine WP.seq ?_
    refine WP.da (by kernel_rfl) 10 (by kernel_rfl) ?_
    refine WA.takes T false tok [0,1,2,3,4,5,6,7,8,9] (f':=1) (by kernel_rfl) (by rfl) (by rfl) (by rfl) (by exact byObl) (by rfl) (by rfl) ?_
    refine WA.tail (by rfl) (by rfl) (by kernel_rfl) ?_
    refine rF ?_
    refine noPan ?_
    refine WP.seq ?_
    refine WP.da (by kernel_rfl) 9 (by kernel_rfl) ?_
    refine WA.takes T false tok [0,1,2,3,4,5,6,7,8] (f':=1) (by kernel_rfl) (by rfl) (by rfl) (by rfl) (by exact byObl) (by rfl) (by rfl) ?_
    refine WA.tail (by rfl) (by rfl) (by kernel_rfl) ?_
    refine rF ?_
    refine noPan ?_
    have hLE:(E++[r]).length=E.length+1:=by simp
    have hbl:=both_len i r W' (E++[r])
    refine rS ?_
    refine rS ?_
    refine WP.block ?_
    refine WP.loopH (⟨λ k:Nat=>k<=E.length+1,λ k=>[(0,.i .i64 (i:Int)),(5,.p 1 [] 0),(7,.sl 2 0 (E.length+1) 16),(8,.sl 3 0 (both i r W' (E++[r]) k).length 16),(9,.p 4 [] 0),(85,.sl 2 0 (E.length+1) 16),(86,.i .i64 ((E.length+1:Nat):Int)),(87,.i .i64 (k:Int))],λ k=>[.row 25 L.length 16 (rowP L),.var (grD i (up2 has l (r l) true) (up2 tab l (r l) r)),.row 25 (E.length+1) 16 (rowP (E++[r])),.row 25 (both i r W' (E++[r]) k).length 16 (rowP (both i r W' (E++[r]) k)),.var (pl r)],λ k=>E.length+1-k⟩) (0) (Nat.zero_le _) (gC [0,1,6,3,4] (by repeat (first|exact trivial|(refine lC ?_ ?_;first|exact byLz|(first|exact le_var (gr_up i has tab l (r l) r).symm|exact le_row (Nat.le_refl _) (λ j hj=>ap_row1 rfl _ _ j hj)|exact le_row (Nat.le_succ _) (λ j hj=>hpre j hj))|exact byLeq)))) ?_
    intro k hk
    dsimp only at hk
    dsimp only[Hd.at]
    have hbk:=hbl k
    refine rS ?_
    refine WP.seq ?_
    refine cI (λ hc=>?_) λ hc=>?_
    ·have hk:k<E.length+1:=by have:=of_decide_eq_true hc;omega
     clear hc
     have hq:Np i ((E++[r]).getD k λ _=>0):=(hF2.els _ (getDf_mem (by omega))).np hL
     refine WP.seq (WP.block ?_)
     refine rS ?_
     refine WP.da (by kernel_rfl) 9 (by kernel_rfl) ?_
     refine WA.takesD T false tok [0] (f':=11) (by kernel_rfl) (by rfl) (by rfl) (by exact byObl) (by rfl) (by rfl) ?_
     refine WA.takes T false tok [1,2,3,5,6,7] (f':=5) (by kernel_rfl) (by rfl) (by rfl) (by rfl) (by exact byObl) (by rfl) (by rfl) ?_
     refine WA.all [4] (by kernel_rfl) (by simp) ?_;intro i' hi';simp only[List.mem_cons,List.not_mem_nil,or_false] at hi'
     subst hi'
     refine⟨_,_,_,rfl,by rfl,by rfl,MK.callP (then_fn r ((E++[r]).getD k λ _=>0) i hN hr1.perm.lt) (by rfl) (by simp[Sc,sc_pl,sc_ds,pl_ne,ds_ne]),?_⟩
     refine WA.all [8] (by kernel_rfl) (by simp) ?_;intro i' hi';simp only[List.mem_cons,List.not_mem_nil,or_false] at hi'
     subst hi'
     refine⟨_,_,_,rfl,by rfl,by rfl,MK.callP (then_fn ((E++[r]).getD k λ _=>0) r i hN hq.perm.lt) (by rfl) (by simp[Sc,sc_pl,sc_ds,pl_ne,ds_ne]),?_⟩
     refine WA.tail (by rfl) (by rfl) (by kernel_rfl) ?_
     refine rF ?_
     refine noPan ?_
     have hbs:both i r W' (E++[r]) (k+1)=both i r W' (E++[r]) k++[mulF i r ((E++[r]).getD k λ _=>0),mulF i ((E++[r]).getD k λ _=>0) r]:=rfl
     have hLen:(both i r W' (E++[r]) (k+1)).length=(both i r W' (E++[r]) k).length+2:=by rw[hbs];simp
     refine rE ?_
     refine Again.next (k+1) (gC [0,1,2,7,4] (by repeat (first|exact trivial|(refine lC ?_ ?_;first|exact byLz|(exact le_row (Nat.le_of_eq hLen) (λ j hj=>by rw[hbs];exact ap_row2 rfl _ _ _ j (by rw[hLen] at hj;exact hj)))|exact byLeq)))) (hk) (by dsimp only;omega)
    ·have hk:k=E.length+1:=by have:=of_decide_eq_false hc;omega
     subst hk
     refine Again.next ((up2 has l (r l) true,up2 tab l (r l) r,E++[r],both i r W' (E++[r]) (E.length+1))) (gC [0,1,2,3] (by repeat (first|exact trivial|(refine lC ?_ ?_;first|exact byLz|(exact le_row (Nat.le_of_eq hLE) (λ _ _=>rfl))|exact byLeq)))) (hF2) (by exact hmu _ (by simp only;omega))
  ·have hW:W=[]:=by
    have:=of_decide_eq_false hc
    cases W with
    |nil=>rfl
    |cons a l=>simp at this
   subst hW
   have hok:=hF.ok hN hL
   refine rS ?_
   exact WP.ret (Ends.newE [0,1] (⟨rfl,has,tab,rfl,hok⟩) (.inl rfl) (by rfl) (by exact byObl) (leC (leC leZ)) rfl rfl (rfl) (sc_p rfl))
end Go.Proofs.YthjnmlpibafbnaaGreat
namespace Go.Proofs.YthjnmlpibafbnaaGreat
open Go.RowKit DM
set_option linter.unusedSimpArgs false
set_option linter.unusedVariables false
set_option maxRecDepth 100000
set_option maxHeartbeats 1000000
theorem row_two{b w:Nat->Nat}{z:Nat->Dat}:∀j,j<2->rowP [b,w] j=fup (fup z 0 (pl b)) 1 (pl w) j
 |0,_=>rfl
 |1,_=>rfl
 |_+2,h=>by omega
theorem des_L{N:Nat}{b w:Nat->Nat}(hb:Np N b)(hw:Np N w):∀g∈[b,w],Np N g:=λ g hg=>by
 simp only[List.mem_cons,List.not_mem_nil,or_false] at hg
 rcases hg with rfl|rfl
 ·exact hb
 ·exact hw
theorem groupOfDessin_fn(N:Nat)(b w:Nat->Nat)(hN:N<=16)(hb:Np N b)(hw:Np N w):FnS Tryz.prog 50 [ds_ N b w] [] λ r m'=>r=.p 0 [] 0/\∃has tab,m'=[.var (grD N has tab)]/\GrOk N [b,w] has tab:=by
 have hL:∀g∈[b,w],Np N g:=λ g hg=>by
  simp only[List.mem_cons,List.not_mem_nil,or_false] at hg
  rcases hg with rfl|rfl
  ·exact hb
  ·exact hw
 refine FnS.intoE T tok Tryz.func50 (by rfl) rfl rfl rfl (by simp) ?_
 refine rS ?_
 refine WP.rw ?_
 refine rU 7 ?_
 refine WPL.callE [1] (groupOf_fn N hN [b,w] hL (by simp)) (LeAll.cons (by rfl) (by first|with_reducible exact Root.Le.refl _|with_reducible exact le_dead|(exact le_row (Nat.le_refl _) row_two)|exact byLeq) (by exact byCon) (leZ)) (by rfl) (by rfl) (by exact byArgs) (by rfl) (by rfl) (by simp[Sc,sc_pl,sc_ds]) ?_
 rintro _ _ ⟨rfl,has,tab,rfl,hok⟩
 refine⟨by exact byAllc,.p 2 [] 0,rfl,sc_p rfl,?_⟩
 refine WPL.mem (by rfl) ?_
 refine rF ?_
 exact WP.ret (Ends.newE [2] (⟨rfl,has,tab,rfl,hok⟩) (.inl rfl) (by rfl) (by exact byObl) (leC leZ) rfl rfl (rfl) (sc_p rfl))
theorem np_of_B{p:Nat->Nat}(hz:∀i,16<=i->p i=0){N:Nat}(h:permB p N=true):Np N p:=by
 obtain⟨N',e,h1,h2,h3⟩:=perm_of_B h
 obtain rfl:N'=N:=by omega
 have h4:=@of_decide_eq_true _ (Classical.propDecidable _) h
 refine⟨h3,λ i hi=>?_⟩
 by_cases h5:i<16
 ·exact(h4.2 i h5).2 (by simpa using hi)
 ·exact hz i (by omega)
theorem des_np{n:Int}{b w:Nat->Nat}(h:desB n b w=true)(hbz:∀i,16<=i->b i=0)(hwz:∀i,16<=i->w i=0):∃N:Nat,n=N/\Des N b w/\Np N b/\Np N w:=by
 obtain⟨N,rfl,hD⟩:=des_of_B h
 unfold desB at h
 simp only[Bool.and_eq_true,decide_eq_true_eq] at h
 exact⟨N,rfl,hD,np_of_B hbz h.1,np_of_B hwz h.2.1⟩
noncomputable def goR (n:Int)(b w:Nat->Nat):Dat:=bif desB n b w then t2 (.i .i64 ((ordG n.toNat [b,w]:Nat):Int)) (.i .i64 0) else t2 (.i .i64 0) (.i .i64 1)
noncomputable def irR (n:Int)(b w:Nat->Nat):Dat:=bif desB n b w then t2 (.b (decide (((ordG n.toNat [b,w]:Nat):Int)=n))) (.i .i64 0) else t2 (.b false) (.i .i64 1)
theorem implGroupOrder_fn(n:Int)(b w:Nat->Nat)(hb:∀i,b i<256)(hw:∀i,w i<256)(hbz:∀i,16<=i->b i=0)(hwz:∀i,16<=i->w i=0):FnP Tryz.prog 26 [ds_ n b w] (goR n b w):=by
 refine FnS.into T tok Tryz.func26 (by rfl) rfl rfl rfl (by simp) ?_
 refine rS ?_
 refine WP.seq ?_
 cases hc:desB n b w
 ·have e:goR n b w=t2 (.i .i64 0) (.i .i64 1):=by unfold goR;rw[hc];rfl
  refine WP.rw ?_
  refine rU 1 ?_
  refine cA (hc▸implIsDessin_fn n b w hb hw) ?_
  refine rF ?_
  refine cS (λ h=>?_) λ h=>?_
  ·refine rS ?_
   rw[e]
   exact WP.ret (Ends.val (by rfl) (by exact byObl) (by rfl) (by exact sc_t2 trivial trivial))
  ·cases h
 ·obtain⟨N,rfl,hD,hnb,hnw⟩:=des_np hc hbz hwz
  have e:goR N b w=t2 (.i .i64 ((ordG N [b,w]:Nat):Int)) (.i .i64 0):=by unfold goR;rw[hc];rfl
  refine WP.rw ?_
  refine rU 1 ?_
  refine cA (hc▸implIsDessin_fn N b w hb hw) ?_
  refine rF ?_
  refine cF ?_
  refine WP.rw ?_
  refine rU 1 ?_
  refine WPL.callE [] (groupOfDessin_fn N b w hD.le hnb hnw) leZ (by rfl) (by rfl) (by exact byArgs) (by rfl) (by rfl) (by simp[Sc,sc_pl,sc_ds]) ?_
  rintro _ _ ⟨rfl,has,tab,rfl,hok⟩
  refine⟨by exact byAllc,.p 1 [] 0,rfl,sc_p rfl,?_⟩
  refine WPL.mem (by rfl) ?_
  have hO:=gorder_fn N hD.le has tab hok.1
  rw[hok.ord hD.le] at hO
  refine cN [1] (.i .i64 ((ordG N [b,w]:Nat):Int)) (hO) (leC leZ) (⟨rfl,trivial⟩) ?_
  refine rF ?_
  rw[e]
  exact WP.ret (Ends.val (by rfl) (by exact byObl) (by rfl) (by exact sc_t2 trivial trivial))
theorem implIsRegular_fn(n:Int)(b w:Nat->Nat)(hb:∀i,b i<256)(hw:∀i,w i<256)(hbz:∀i,16<=i->b i=0)(hwz:∀i,16<=i->w i=0):FnP Tryz.prog 28 [ds_ n b w] (irR n b w):=by
 have hgo:=implGroupOrder_fn n b w hb hw hbz hwz
 cases hc:desB n b w
 ·have e:irR n b w=t2 (.b false) (.i .i64 1):=by unfold irR;rw[hc];rfl
  have eg:goR n b w=t2 (.i .i64 0) (.i .i64 1):=by unfold goR;rw[hc];rfl
  rw[eg] at hgo
  refine FnS.into T tok Tryz.func28 (by rfl) rfl rfl rfl (by simp) ?_
  refine rS ?_
  refine WP.rw ?_
  refine rU 1 ?_
  refine cA (hgo) ?_
  refine rF ?_
  refine rS ?_
  rw[e]
  exact WP.ret (Ends.val (by rfl) (by exact byObl) (by rfl) (by exact sc_t2 trivial trivial))
 ·have e:irR n b w=t2 (.b (decide (((ordG n.toNat [b,w]:Nat):Int)=n))) (.i .i64 0):=by unfold irR;rw[hc];rfl
  have eg:goR n b w=t2 (.i .i64 ((ordG n.toNat [b,w]:Nat):Int)) (.i .i64 0):=by unfold goR;rw[hc];rfl
  rw[eg] at hgo
  refine FnS.into T tok Tryz.func28 (by rfl) rfl rfl rfl (by simp) ?_
  refine rS ?_
  refine WP.rw ?_
  refine rU 1 ?_
  refine cA (hgo) ?_
  refine rF ?_
  refine rS ?_
  rw[e]
  exact WP.ret (Ends.val (by rfl) (by exact byObl) (by rfl) (by exact sc_t2 trivial trivial))
end Go.Proofs.YthjnmlpibafbnaaGreat
