import Derived.Test.YthjnmlpibafbnaaGreatL29
import Derived.Test.YthjnmlpibafbnaaGreatX83
namespace Go.Proofs.YthjnmlpibafbnaaGreat
open Go.RowKit DM
set_option linter.unusedSimpArgs false
set_option linter.unusedVariables false
set_option maxRecDepth 100000
set_option maxHeartbeats 1000000
theorem l03Start_fn(N:Nat)(hN:N<=16):FnS Tryz.prog 112 [.i .i64 (N:Int)] [] λ r m'=>r=.p 0 [] 0/\m'=[.var (chn N (chn0 N))]:=by
 refine FnS.intoN T tok Tryz.func112 (by rfl) rfl rfl rfl (by simp) ?_
 refine rS ?_
 refine rS ?_
 refine WP.seq ?_
 refine rS ?_
 refine WP.block ?_
 refine WP.loopH (⟨λ i:Nat=>i<=N,λ i=>[(0,.i .i64 (N:Int)),(3,.p 0 [] 0),(4,.i .i64 (i:Int))],λ i=>[.var (chn N ⟨λ _=>[],has0 i,tabP N i⟩)],λ i=>N-i⟩) (0) (Nat.zero_le _) (gC [0] (LeAll.cons (by rfl) (by first|with_reducible exact Root.Le.refl _|with_reducible exact le_dead|(exact le_var (ch_zero rfl rfl rfl rfl λ _=>rfl).symm)|exact byLeq) (by exact byCon) (leZ))) ?_
 intro i hi
 dsimp only at hi
 dsimp only[Hd.at]
 refine WP.seq ?_
 refine rS ?_
 refine cI (λ hc=>?_) λ hc=>?_
 ·have hi:i<N:=by have:=of_decide_eq_true hc;omega
  clear hc
  refine WP.seq (WP.block ?_)
  refine rS ?_
  refine WP.da (by kernel_rfl) 9 (by kernel_rfl) ?_
  refine WA.takes T false tok [0,1,2,3,5,6,7] (f':=3) (by kernel_rfl) (by rfl) (by rfl) (by rfl) (by exact byObl) (by rfl) (by rfl) ?_
  refine WA.all [4] (by kernel_rfl) (by simp) ?_;intro i' hi';simp only[List.mem_cons,List.not_mem_nil,or_false] at hi'
  subst hi'
  refine⟨_,_,_,rfl,by rfl,by rfl,MK.callP (l01Same_fn N hN) (by rfl) (by simp[Sc,sc_pl,sc_ds,pl_ne,ds_ne]),?_⟩
  refine WA.takes T false tok [8] (f':=1) (by kernel_rfl) (by rfl) (by rfl) (by rfl) (by exact byObl) (by rfl) (by rfl) ?_
  refine WA.tail (by rfl) (by rfl) (by kernel_rfl) ?_
  refine rF ?_
  refine noPan ?_
  refine rE ?_
  refine Again.next (i+1) (gC [0] (LeAll.cons (by rfl) (by first|with_reducible exact Root.Le.refl _|with_reducible exact le_dead|(exact le_var (by rw[has0_step,tabP_step];exact(ch_up N _ _ _ i i _).symm))|exact byLeq) (by exact byCon) (leZ))) (hi) (by dsimp only;omega)
 ·have hi:i=N:=by have:=of_decide_eq_false hc;omega
  subst hi
  refine rS ?_
  exact WP.ret (Ends.new [0] (by rfl) (by exact byObl) (leC leZ) rfl rfl (rfl) (sc_p rfl))
theorem l03Inside_fn(N:Nat)(hN:N<=16)(C:Chn)(hT:TblOk N C.has C.tab)(k:Nat)(hk:k<=N)(p:Nat->Nat)(hp:Np N p)(hf:∀j,j<k->p j=j):FnS Tryz.prog 123 [.p 0 [] 0,.i .i64 (k:Int),pl p] [.var (chn N C)] λ r m'=>r=.b (inSB N C k p)/\m'=[.var (chn N C)]:=by
 refine FnS.intoN T tok Tryz.func123 (by rfl) rfl rfl rfl (by simp) ?_
 refine rS ?_
 refine WP.seq (WP.block ?_)
 refine WP.loopH (⟨λ z:Nat×(Nat->Nat)=>z.1<=N/\Np N z.2/\(∀j,j<z.1->z.2 j=j)/\(InS N C z.1 z.2↔InS N C k p),λ z=>[(0,.p 0 [] 0),(1,.i .i64 (z.1:Int)),(5,.p 1 [] 0)],λ z=>[.var (chn N C),.var (pl z.2)],λ z=>N-z.1⟩) ((k,p)) (⟨hk,hp,hf,Iff.rfl⟩) (gC [0,1] (leC (leC leZ))) ?_
 rintro⟨i,q⟩ ⟨hi,hq,hqf,hiff⟩
 dsimp only at hi hq hqf hiff
 dsimp only[Hd.at]
 refine WP.seq ?_
 refine rS ?_
 refine cI (λ hc=>?_) λ hc=>?_
 ·have hi:i<N:=by have:=of_decide_eq_true hc;omega
  clear hc
  have hqi:=hq.perm.lt i hi
  refine WP.seq (WP.block ?_)
  refine rS ?_
  refine WP.seq ?_
  refine rS ?_
  cases hh:C.has i (q i) with
  |false=>
   have e:inSB N C k p=false:=inSB_no λ h=>by
    have:=((InS.peel hN hT hi).1 (hiff.2 h)).2.1
    rw[hh] at this;cases this
   refine cS (λ h=>?_) λ h=>?_
   ·refine rS ?_
    rw[e]
    exact WP.ret (Ends.new [0] (by rfl) (by exact byObl) (leC leZ) rfl rfl (⟨rfl,trivial⟩) (trivial))
   ·simp only[Int.toNat_natCast,hh,Bool.not_false] at h;cases h
  |true=>
   obtain⟨hl1,hl2⟩:=left_fix hN hT hi hq hqf hh
   refine cS (λ h=>?_) λ h=>?_
   ·simp only[Int.toNat_natCast,hh,Bool.not_true] at h;cases h
   refine WP.da (by kernel_rfl) 19 (by kernel_rfl) ?_
   refine WA.takes T false tok [0,1,2,3,4,5,6,7,8] (f':=11) (by kernel_rfl) (by rfl) (by rfl) (by rfl) (by exact byObl) (by rfl) (by rfl) ?_
   refine WA.takes T false tok [9,10,11,12,14,15,16,17] (f':=3) (by kernel_rfl) (by rfl) (by rfl) (by rfl) (by exact byObl) (by rfl) (by rfl) ?_
   refine WA.all [13] (by kernel_rfl) (by simp) ?_;intro i' hi';simp only[List.mem_cons,List.not_mem_nil,or_false] at hi'
   subst hi'
   refine⟨_,_,_,rfl,by rfl,by rfl,MK.callP (l01Back_fn (C.tab i (q i)) N hN (hT.np i _ hi hh).perm.lt) (by rfl) (by simp[Sc,sc_pl,sc_ds,pl_ne,ds_ne]),?_⟩
   refine WA.all [18] (by kernel_rfl) (by simp) ?_;intro i' hi';simp only[List.mem_cons,List.not_mem_nil,or_false] at hi'
   subst hi'
   refine⟨_,_,_,rfl,by rfl,by rfl,MK.callP (l01Then_fn q (backTo (C.tab i (q i)) N) N hN hq.perm.lt) (by rfl) (by simp[Sc,sc_pl,sc_ds,pl_ne,ds_ne]),?_⟩
   refine WA.tail (by rfl) (by rfl) (by kernel_rfl) ?_
   refine rF ?_
   refine noPan ?_
   refine rE ?_
   refine Again.next ((i+1,mulF N q (backTo (C.tab i (q i)) N))) (gC [0,1] (leC (leC leZ))) (⟨hi,hl1,hl2,⟨λ h=>hiff.1 (InS.lift hN hT hi hq hh h),λ h=>((InS.peel hN hT hi).1 (hiff.2 h)).2.2⟩⟩) (by dsimp only;omega)
 ·have hi:i=N:=by have:=of_decide_eq_false hc;omega
  subst hi
  have e:inSB i C k p=true:=inSB_iff.2 (hiff.1 (by
   unfold InS
   rw[Nat.sub_self]
   exact np_ext hq (one_np i) λ j hj=>by rw[hqf j hj,one_at hj]))
  refine rS ?_
  rw[e]
  exact WP.ret (Ends.new [0] (by rfl) (by exact byObl) (leC leZ) rfl rfl (⟨rfl,trivial⟩) (trivial))
theorem l03Order_fn(N:Nat)(hN:N<=16)(C:Chn)(hT:TblOk N C.has C.tab):FnS Tryz.prog 55 [.p 0 [] 0] [.var (chn N C)] λ r m'=>r=.i .i64 (ordF N C.has N:Nat)/\m'=[.var (chn N C)]:=by
 refine FnS.intoN T tok Tryz.func55 (by rfl) rfl rfl rfl (by simp) ?_
 refine rS ?_
 refine rS ?_
 refine WP.seq ?_
 refine rS ?_
 refine WP.block ?_
 refine WP.loopH (⟨λ z:Nat×Nat=>z.1<=N/\z.2=ordF N C.has z.1,λ z=>[(0,.p 0 [] 0),(3,.i .i64 (z.2:Int)),(4,.i .i64 (z.1:Int))],λ z=>[.var (chn N C)],λ z=>N-z.1⟩) ((0,1)) (⟨Nat.zero_le _,rfl⟩) (gC [0] (leC leZ)) ?_
 rintro⟨i,o⟩ ⟨hi,ho⟩
 dsimp only at hi ho
 dsimp only[Hd.at]
 refine WP.seq ?_
 refine rS ?_
 refine cI (λ hc=>?_) λ hc=>?_
 ·have hi:i<N:=by have:=of_decide_eq_true hc;omega
  clear hc
  have hb2:=hT.ord hN hN (i:=i+1) (by omega)
  refine WP.seq (WP.block ?_)
  refine rS ?_
  refine WP.seq ?_
  refine rS ?_
  refine WP.block ?_
  refine WP.loopH (⟨λ z:Nat×Nat=>z.1<=N/\z.2=cntB (C.has i) z.1,λ z=>[(0,.p 0 [] 0),(3,.i .i64 (o:Int)),(4,.i .i64 (i:Int)),(5,.i .i64 (z.2:Int)),(6,.i .i64 (z.1:Int))],λ z=>[.var (chn N C)],λ z=>N-z.1⟩) ((0,0)) (⟨Nat.zero_le _,rfl⟩) (gC [0] (leC leZ)) ?_
  rintro⟨k,c⟩ ⟨hk,hcn⟩
  dsimp only at hk hcn
  dsimp only[Hd.at]
  have hle:c<=k:=hcn▸cntB_le (C.has i) k
  refine WP.seq ?_
  refine rS ?_
  refine cI (λ hc=>?_) λ hc=>?_
  ·have hk:k<N:=by have:=of_decide_eq_true hc;omega
   clear hc
   refine WP.seq (WP.block ?_)
   refine rS ?_
   cases hh:C.has i k with
   |true=>
    have e:cntB (C.has i) (k+1)=cntB (C.has i) k+1:=by simp only[cntB,hh,cond_true]
    refine cS (λ h=>?_) λ h=>?_
    ·refine rE ?_
     refine rE ?_
     refine Again.next ((k+1,c+1)) (gC [0] (leC leZ)) (⟨hk,by simp only[e,hcn]⟩) (by dsimp only;omega)
    ·simp[hh] at h
   |false=>
    have e:cntB (C.has i) (k+1)=cntB (C.has i) k:=by simp only[cntB,hh,cond_false]
    refine cS (λ h=>?_) λ h=>?_
    ·simp[hh] at h
    ·refine rE ?_
     refine Again.next ((k+1,c)) (gC [0] (leC leZ)) (⟨hk,by simp only[e,hcn]⟩) (by dsimp only;omega)
  ·have hk:k=N:=by have:=of_decide_eq_false hc;omega
   subst hk
   clear hc
   have e:ordF k C.has (i+1)=o*c:=by rw[ho,hcn];rfl
   rw[e] at hb2
   have hcast:(o:Int)*(c:Int)=((o*c:Nat):Int):=rfl
   refine rE ?_
   refine rE ?_
   refine Again.next ((i+1,o*c)) (gC [0] (leC leZ)) (⟨hi,e.symm⟩) (by dsimp only;omega)
 ·have hi:i=N:=by have:=of_decide_eq_false hc;omega
  subst hi
  subst ho
  refine rS ?_
  exact WP.ret (Ends.new [0] (by rfl) (by exact byObl) (leC leZ) rfl rfl (⟨rfl,trivial⟩) (trivial))
end Go.Proofs.YthjnmlpibafbnaaGreat
namespace Go.Proofs.YthjnmlpibafbnaaGreat
open Go.RowKit DM
set_option linter.unusedSimpArgs false
set_option linter.unusedVariables false
set_option maxRecDepth 100000
set_option maxHeartbeats 1000000
def u0D:Dat:=.tup 0 λ _=>.un
theorem ren_u0{τ:Nat->Nat}{f:Nat->Dat}:renD τ u0D (.tup 0 f):=⟨_,rfl,λ i h=>absurd h (Nat.not_lt_zero i)⟩
theorem sc_u0(k:Nat)(f:Nat->Dat):Sc k (.tup 0 f):=λ i h=>absurd h (Nat.not_lt_zero i)
def AddOk(N k:Nat)(p:Nat->Nat)(C:Chn):Prop:=FnS Tryz.prog 113 [.p 0 [] 0,.i .i64 (k:Int),pl p] [.var (chn N C)] λ r m'=>r=u0D/\∃D,m'=[.var (chn N D)]/\AddPost N k p C D
def StepOk(N k:Nat)(p:Nat->Nat)(C:Chn):Prop:=FnS Tryz.prog 124 [.p 0 [] 0,.i .i64 (k:Int),pl p] [.var (chn N C)] λ r m'=>r=u0D/\∃D,m'=[.var (chn N D)]/\StepPost N k p C D
theorem add_fn(N:Nat)(hN:N<=16)(k:Nat)(hk:k<N)(p:Nat->Nat)(C:Chn)(hA:AddPre N k p C)(IH:∀q D,StepPre N k q D->freeF D.has N<=freeF C.has N->StepOk N k q D):AddOk N k p C:=by
 have hIn:=l03Inside_fn N hN C hA.ci.T k (by omega) p hA.np hA.fix
 unfold AddOk
 refine FnS.intoE T tok Tryz.func113 (by rfl) rfl rfl rfl (by simp) ?_
 refine rS ?_
 refine WP.seq ?_
 refine WP.rw ?_
 refine rU 3 ?_
 refine cN [0] (.b (inSB N C k p)) (hIn) (leC leZ) (⟨rfl,trivial⟩) ?_
 refine rF ?_
 cases hs:inSB N C k p with
 |true=>
  have hpost:=AddPost.stay hA (inSB_iff.1 hs)
  refine cS (λ h=>?_) λ h=>?_
  ·exact WP.ret (Ends.newE [0] (⟨rfl,C,rfl,hpost⟩) (.inl rfl) (by rfl) (by exact byObl) (leC leZ) rfl rfl (ren_u0) (sc_u0 _ _))
  ·cases h
 |false=>
  have hno:¬InS N C k p:=λ h=>by rw[inSB_iff.2 h] at hs;cases hs
  refine cF ?_
  have hst:=AddInv.start hk hA
  have hroom:=hA.room k (Nat.le_refl _) hk
  have hk16:k<16:=by omega
  refine WP.seqG ⟨lst [(0,.p 0 [] 0),(1,.i .i64 (k:Int)),(5,.p 1 [] 0)],[.var (chn N (C.addG k p)),.var (pl p)]⟩ ?_ ?_
  ·refine WP.da (by kernel_rfl) 10 (by kernel_rfl) ?_
   refine WA.takesD T false tok [0,1,2,3,4,5,6,11,12] (f':=6) (by kernel_rfl) (by rfl) (by rfl) (by exact byObl) (by rfl) (by rfl) ?_
   by_cases hg:C.gens k=[]
   ·have hG:gnF C.gens k=.ns:=by unfold gnF;rw[hg];rfl
    refine WA.allT [7,8] (by kernel_rfl) (by simp) ?_;intro i' hi';simp only[List.mem_cons,List.not_mem_nil,or_false] at hi'
    rcases hi' with rfl|rfl
    ·refine⟨_,_,_,rfl,by rfl,by rfl,.inl (MK.q (load_gen0 tok rfl (by rfl) rfl hk16 hG ?_ rfl)),?_⟩
     ·show 0+1+k*1=1+k;omega
     refine WA.allT [8] (by kernel_rfl) (by simp) ?_;intro i' hi';simp only[List.mem_cons,List.not_mem_nil,or_false] at hi'
     subst hi'
     refine⟨_,_,_,rfl,by rfl,by rfl,.inl (MK.q (evalOp_q tok (wm:=false) (by rfl) (by rfl) (by exact byObl))),?_⟩
     refine WA.allT [9] (by kernel_rfl) (by simp) ?_;intro i' hi';simp only[List.mem_cons,List.not_mem_nil,or_false] at hi'
     subst hi'
     refine⟨_,_,_,rfl,by rfl,by rfl,.inl (MK.of tok (wm:=false) (by rfl) (by exact byObl) (by rfl) (by exact byObl)),?_⟩
     refine WA.allT [10] (by kernel_rfl) (by simp) ?_;intro i' hi';simp only[List.mem_cons,List.not_mem_nil,or_false] at hi'
     subst hi'
     refine⟨_,_,_,rfl,by rfl,by rfl,.inr ⟨by decide,TK.of tok (wm:=false) (by rfl) (by exact byObl)⟩,?_⟩
     refine WA.allT [13] (by kernel_rfl) (by simp) ?_;intro i' hi';simp only[List.mem_cons,List.not_mem_nil,or_false] at hi'
     subst hi'
     refine⟨_,_,_,rfl,by rfl,by rfl,.inl (MK.q (evalOp_q tok (wm:=false) (by rfl) (by rfl) (by exact byObl))),?_⟩
     refine WA.allT [14] (by kernel_rfl) (by simp) ?_;intro i' hi';simp only[List.mem_cons,List.not_mem_nil,or_false] at hi'
     subst hi'
     refine⟨_,_,_,rfl,by rfl,by rfl,.inr ⟨by decide,TK.ofOK (store_gen (G:=gnF C.gens) (v:=.sl 3 0 1 16) tok rfl (by rfl) (by rfl) rfl hk16 (by rw[hG];rfl) rfl ?_ (by rfl))⟩,?_⟩
     ·show 0+1+k*1=1+k;omega
     refine WA.end rfl (by kernel_rfl) (noPan ?_)
     refine Ghost.trans (Ghost.at (r:=3) (R':=.row 25 1 16 (rowP [p])) rfl (le_row (Nat.le_refl _) (λ j hj=>by obtain rfl:j=0:=(by have:j<1:=hj;omega);rfl))) ?_
     refine Ghost.trans (Ghost.giveGen (r:=2) hk16 (fup_same _ _ _) (by decide) rfl (Nat.le_refl _)) ?_
     exact Ghost.cut (Nat.le_refl _) (tauOf [0,1]) [(0,.p 0 [] 0),(1,.i .i64 (k:Int)),(5,.p 1 [] 0)] [.var (chn N (C.addG k p)),.var (pl p)] (Taken.of [0,1] (by repeat (first|exact trivial|(refine lC ?_ ?_;first|exact byLz|(exact le_var (by unfold chn;rw[gn_add,fup_fup,hg];rfl))|exact byLeq))) rfl rfl) (by exact bySlots)
    ·refine⟨_,_,_,rfl,by rfl,by rfl,.inl (MK.q (evalOp_q tok (wm:=false) (by rfl) (by rfl) (by exact byObl))),?_⟩
     refine WA.allT [7,9] (by kernel_rfl) (by simp) ?_;intro i' hi';simp only[List.mem_cons,List.not_mem_nil,or_false] at hi'
     rcases hi' with rfl|rfl
     ·refine⟨_,_,_,rfl,by rfl,by rfl,.inl (MK.q (load_gen0 tok rfl (by rfl) rfl hk16 hG ?_ rfl)),?_⟩
      ·show 0+1+k*1=1+k;omega
      refine WA.allT [9] (by kernel_rfl) (by simp) ?_;intro i' hi';simp only[List.mem_cons,List.not_mem_nil,or_false] at hi'
      subst hi'
      refine⟨_,_,_,rfl,by rfl,by rfl,.inl (MK.of tok (wm:=false) (by rfl) (by exact byObl) (by rfl) (by exact byObl)),?_⟩
      refine WA.allT [10] (by kernel_rfl) (by simp) ?_;intro i' hi';simp only[List.mem_cons,List.not_mem_nil,or_false] at hi'
      subst hi'
      refine⟨_,_,_,rfl,by rfl,by rfl,.inr ⟨by decide,TK.of tok (wm:=false) (by rfl) (by exact byObl)⟩,?_⟩
      refine WA.allT [13] (by kernel_rfl) (by simp) ?_;intro i' hi';simp only[List.mem_cons,List.not_mem_nil,or_false] at hi'
      subst hi'
      refine⟨_,_,_,rfl,by rfl,by rfl,.inl (MK.q (evalOp_q tok (wm:=false) (by rfl) (by rfl) (by exact byObl))),?_⟩
      refine WA.allT [14] (by kernel_rfl) (by simp) ?_;intro i' hi';simp only[List.mem_cons,List.not_mem_nil,or_false] at hi'
      subst hi'
      refine⟨_,_,_,rfl,by rfl,by rfl,.inr ⟨by decide,TK.ofOK (store_gen (G:=gnF C.gens) (v:=.sl 3 0 1 16) tok rfl (by rfl) (by rfl) rfl hk16 (by rw[hG];rfl) rfl ?_ (by rfl))⟩,?_⟩
      ·show 0+1+k*1=1+k;omega
      refine WA.end rfl (by kernel_rfl) (noPan ?_)
      refine Ghost.trans (Ghost.at (r:=3) (R':=.row 25 1 16 (rowP [p])) rfl (le_row (Nat.le_refl _) (λ j hj=>by obtain rfl:j=0:=(by have:j<1:=hj;omega);rfl))) ?_
      refine Ghost.trans (Ghost.giveGen (r:=2) hk16 (fup_same _ _ _) (by decide) rfl (Nat.le_refl _)) ?_
      exact Ghost.cut (Nat.le_refl _) (tauOf [0,1]) [(0,.p 0 [] 0),(1,.i .i64 (k:Int)),(5,.p 1 [] 0)] [.var (chn N (C.addG k p)),.var (pl p)] (Taken.of [0,1] (by repeat (first|exact trivial|(refine lC ?_ ?_;first|exact byLz|(exact le_var (by unfold chn;rw[gn_add,fup_fup,hg];rfl))|exact byLeq))) rfl rfl) (by exact bySlots)
     ·refine⟨_,_,_,rfl,by rfl,by rfl,.inl (MK.of tok (wm:=false) (by rfl) (by exact byObl) (by rfl) (by exact byObl)),?_⟩
      refine WA.allT [7] (by kernel_rfl) (by simp) ?_;intro i' hi';simp only[List.mem_cons,List.not_mem_nil,or_false] at hi'
      subst hi'
      refine⟨_,_,_,rfl,by rfl,by rfl,.inl (MK.q (load_gen0 tok rfl (by rfl) rfl hk16 hG ?_ rfl)),?_⟩
      ·show 0+1+k*1=1+k;omega
      refine WA.allT [10] (by kernel_rfl) (by simp) ?_;intro i' hi';simp only[List.mem_cons,List.not_mem_nil,or_false] at hi'
      subst hi'
      refine⟨_,_,_,rfl,by rfl,by rfl,.inr ⟨by decide,TK.of tok (wm:=false) (by rfl) (by exact byObl)⟩,?_⟩
      refine WA.allT [13] (by kernel_rfl) (by simp) ?_;intro i' hi';simp only[List.mem_cons,List.not_mem_nil,or_false] at hi'
      subst hi'
      refine⟨_,_,_,rfl,by rfl,by rfl,.inl (MK.q (evalOp_q tok (wm:=false) (by rfl) (by rfl) (by exact byObl))),?_⟩
      refine WA.allT [14] (by kernel_rfl) (by simp) ?_;intro i' hi';simp only[List.mem_cons,List.not_mem_nil,or_false] at hi'
      subst hi'
      refine⟨_,_,_,rfl,by rfl,by rfl,.inr ⟨by decide,TK.ofOK (store_gen (G:=gnF C.gens) (v:=.sl 3 0 1 16) tok rfl (by rfl) (by rfl) rfl hk16 (by rw[hG];rfl) rfl ?_ (by rfl))⟩,?_⟩
      ·show 0+1+k*1=1+k;omega
      refine WA.end rfl (by kernel_rfl) (noPan ?_)
      refine Ghost.trans (Ghost.at (r:=3) (R':=.row 25 1 16 (rowP [p])) rfl (le_row (Nat.le_refl _) (λ j hj=>by obtain rfl:j=0:=(by have:j<1:=hj;omega);rfl))) ?_
      refine Ghost.trans (Ghost.giveGen (r:=2) hk16 (fup_same _ _ _) (by decide) rfl (Nat.le_refl _)) ?_
      exact Ghost.cut (Nat.le_refl _) (tauOf [0,1]) [(0,.p 0 [] 0),(1,.i .i64 (k:Int)),(5,.p 1 [] 0)] [.var (chn N (C.addG k p)),.var (pl p)] (Taken.of [0,1] (by repeat (first|exact trivial|(refine lC ?_ ?_;first|exact byLz|(exact le_var (by unfold chn;rw[gn_add,fup_fup,hg];rfl))|exact byLeq))) rfl rfl) (by exact bySlots)
   ·have hG:gnF C.gens k=.ow 25 (C.gens k).length 16 (rowP (C.gens k)):=gnD_of hg
    have hlen:(C.gens k++[p]).length=(C.gens k).length+1:=by simp
    refine WA.allT [7,8] (by kernel_rfl) (by simp) ?_;intro i' hi';simp only[List.mem_cons,List.not_mem_nil,or_false] at hi'
    rcases hi' with rfl|rfl
    ·refine⟨_,_,_,rfl,by rfl,by rfl,.inl (MK.q (load_gen tok rfl (by rfl) rfl hk16 hG (by decide) ?_ (r:=2) rfl rfl)),?_⟩
     ·show 0+1+k*1=1+k;omega
     refine WA.allT [8] (by kernel_rfl) (by simp) ?_;intro i' hi';simp only[List.mem_cons,List.not_mem_nil,or_false] at hi'
     subst hi'
     refine⟨_,_,_,rfl,by rfl,by rfl,.inl (MK.q (evalOp_q tok (wm:=false) (by rfl) (by rfl) (by exact byObl))),?_⟩
     refine WA.allT [9] (by kernel_rfl) (by simp) ?_;intro i' hi';simp only[List.mem_cons,List.not_mem_nil,or_false] at hi'
     subst hi'
     refine⟨_,_,_,rfl,by rfl,by rfl,.inl (MK.of tok (wm:=false) (by rfl) (by exact byObl) (by rfl) (by exact byObl)),?_⟩
     refine WA.allT [10] (by kernel_rfl) (by simp) ?_;intro i' hi';simp only[List.mem_cons,List.not_mem_nil,or_false] at hi'
     subst hi'
     refine⟨_,_,_,rfl,by rfl,by rfl,.inr ⟨by decide,TK.of tok (wm:=false) (by rfl) (by exact byObl)⟩,?_⟩
     refine WA.allT [13] (by kernel_rfl) (by simp) ?_;intro i' hi';simp only[List.mem_cons,List.not_mem_nil,or_false] at hi'
     subst hi'
     refine⟨_,_,_,rfl,by rfl,by rfl,.inl (MK.q (evalOp_q tok (wm:=false) (by rfl) (by rfl) (by exact byObl))),?_⟩
     refine WA.allT [14] (by kernel_rfl) (by simp) ?_;intro i' hi';simp only[List.mem_cons,List.not_mem_nil,or_false] at hi'
     subst hi'
     refine⟨_,_,_,rfl,by rfl,by rfl,.inr ⟨by decide,TK.ofOK (store_gen (G:=fup (gnF C.gens) k (.sl 2 0 (C.gens k).length 16)) (v:=.sl 4 0 ((C.gens k).length+1) 16) tok rfl (by rfl) (by rfl) rfl hk16 (by rw[fup_same];rfl) rfl ?_ (by rfl))⟩,?_⟩
     ·show 0+1+k*1=1+k;omega
     refine WA.end rfl (by kernel_rfl) (noPan ?_)
     refine Ghost.trans (Ghost.at (r:=4) (R':=.row 25 ((C.gens k).length+1) 16 (rowP (C.gens k++[p]))) rfl (le_row (Nat.le_refl _) (λ j hj=>ap_row1 rfl _ _ j hj))) ?_
     refine Ghost.trans (Ghost.giveGen (r:=3) hk16 (fup_same _ _ _) (by decide) rfl (Nat.le_refl _)) ?_
     exact Ghost.cut (Nat.le_refl _) (tauOf [0,1]) [(0,.p 0 [] 0),(1,.i .i64 (k:Int)),(5,.p 1 [] 0)] [.var (chn N (C.addG k p)),.var (pl p)] (Taken.of [0,1] (by repeat (first|exact trivial|(refine lC ?_ ?_;first|exact byLz|(exact le_var (by unfold chn;rw[gn_add,fup_fup,fup_fup,hlen];rfl))|exact byLeq))) rfl rfl) (by exact bySlots)
    ·refine⟨_,_,_,rfl,by rfl,by rfl,.inl (MK.q (evalOp_q tok (wm:=false) (by rfl) (by rfl) (by exact byObl))),?_⟩
     refine WA.allT [7,9] (by kernel_rfl) (by simp) ?_;intro i' hi';simp only[List.mem_cons,List.not_mem_nil,or_false] at hi'
     rcases hi' with rfl|rfl
     ·refine⟨_,_,_,rfl,by rfl,by rfl,.inl (MK.q (load_gen tok rfl (by rfl) rfl hk16 hG (by decide) ?_ (r:=2) rfl rfl)),?_⟩
      ·show 0+1+k*1=1+k;omega
      refine WA.allT [9] (by kernel_rfl) (by simp) ?_;intro i' hi';simp only[List.mem_cons,List.not_mem_nil,or_false] at hi'
      subst hi'
      refine⟨_,_,_,rfl,by rfl,by rfl,.inl (MK.of tok (wm:=false) (by rfl) (by exact byObl) (by rfl) (by exact byObl)),?_⟩
      refine WA.allT [10] (by kernel_rfl) (by simp) ?_;intro i' hi';simp only[List.mem_cons,List.not_mem_nil,or_false] at hi'
      subst hi'
      refine⟨_,_,_,rfl,by rfl,by rfl,.inr ⟨by decide,TK.of tok (wm:=false) (by rfl) (by exact byObl)⟩,?_⟩
      refine WA.allT [13] (by kernel_rfl) (by simp) ?_;intro i' hi';simp only[List.mem_cons,List.not_mem_nil,or_false] at hi'
      subst hi'
      refine⟨_,_,_,rfl,by rfl,by rfl,.inl (MK.q (evalOp_q tok (wm:=false) (by rfl) (by rfl) (by exact byObl))),?_⟩
      refine WA.allT [14] (by kernel_rfl) (by simp) ?_;intro i' hi';simp only[List.mem_cons,List.not_mem_nil,or_false] at hi'
      subst hi'
      refine⟨_,_,_,rfl,by rfl,by rfl,.inr ⟨by decide,TK.ofOK (store_gen (G:=fup (gnF C.gens) k (.sl 2 0 (C.gens k).length 16)) (v:=.sl 4 0 ((C.gens k).length+1) 16) tok rfl (by rfl) (by rfl) rfl hk16 (by rw[fup_same];rfl) rfl ?_ (by rfl))⟩,?_⟩
      ·show 0+1+k*1=1+k;omega
      refine WA.end rfl (by kernel_rfl) (noPan ?_)
      refine Ghost.trans (Ghost.at (r:=4) (R':=.row 25 ((C.gens k).length+1) 16 (rowP (C.gens k++[p]))) rfl (le_row (Nat.le_refl _) (λ j hj=>ap_row1 rfl _ _ j hj))) ?_
      refine Ghost.trans (Ghost.giveGen (r:=3) hk16 (fup_same _ _ _) (by decide) rfl (Nat.le_refl _)) ?_
      exact Ghost.cut (Nat.le_refl _) (tauOf [0,1]) [(0,.p 0 [] 0),(1,.i .i64 (k:Int)),(5,.p 1 [] 0)] [.var (chn N (C.addG k p)),.var (pl p)] (Taken.of [0,1] (by repeat (first|exact trivial|(refine lC ?_ ?_;first|exact byLz|(exact le_var (by unfold chn;rw[gn_add,fup_fup,fup_fup,hlen];rfl))|exact byLeq))) rfl rfl) (by exact bySlots)
     ·refine⟨_,_,_,rfl,by rfl,by rfl,.inl (MK.of tok (wm:=false) (by rfl) (by exact byObl) (by rfl) (by exact byObl)),?_⟩
      refine WA.allT [7] (by kernel_rfl) (by simp) ?_;intro i' hi';simp only[List.mem_cons,List.not_mem_nil,or_false] at hi'
      subst hi'
      refine⟨_,_,_,rfl,by rfl,by rfl,.inl (MK.q (load_gen tok rfl (by rfl) rfl hk16 hG (by decide) ?_ (r:=3) rfl rfl)),?_⟩
      ·show 0+1+k*1=1+k;omega
      refine WA.allT [10] (by kernel_rfl) (by simp) ?_;intro i' hi';simp only[List.mem_cons,List.not_mem_nil,or_false] at hi'
      subst hi'
      refine⟨_,_,_,rfl,by rfl,by rfl,.inr ⟨by decide,TK.of tok (wm:=false) (by rfl) (by exact byObl)⟩,?_⟩
      refine WA.allT [13] (by kernel_rfl) (by simp) ?_;intro i' hi';simp only[List.mem_cons,List.not_mem_nil,or_false] at hi'
      subst hi'
      refine⟨_,_,_,rfl,by rfl,by rfl,.inl (MK.q (evalOp_q tok (wm:=false) (by rfl) (by rfl) (by exact byObl))),?_⟩
      refine WA.allT [14] (by kernel_rfl) (by simp) ?_;intro i' hi';simp only[List.mem_cons,List.not_mem_nil,or_false] at hi'
      subst hi'
      refine⟨_,_,_,rfl,by rfl,by rfl,.inr ⟨by decide,TK.ofOK (store_gen (G:=fup (gnF C.gens) k (.sl 3 0 (C.gens k).length 16)) (v:=.sl 4 0 ((C.gens k).length+1) 16) tok rfl (by rfl) (by rfl) rfl hk16 (by rw[fup_same];rfl) rfl ?_ (by rfl))⟩,?_⟩
      ·show 0+1+k*1=1+k;omega
      refine WA.end rfl (by kernel_rfl) (noPan ?_)
      refine Ghost.trans (Ghost.at (r:=4) (R':=.row 25 ((C.gens k).length+1) 16 (rowP (C.gens k++[p]))) rfl (le_row (Nat.le_refl _) (λ j hj=>ap_row1 rfl _ _ j hj))) ?_
      refine Ghost.trans (Ghost.giveGen (r:=3) hk16 (fup_same _ _ _) (by decide) rfl (Nat.le_refl _)) ?_
      exact Ghost.cut (Nat.le_refl _) (tauOf [0,1]) [(0,.p 0 [] 0),(1,.i .i64 (k:Int)),(5,.p 1 [] 0)] [.var (chn N (C.addG k p)),.var (pl p)] (Taken.of [0,1] (by repeat (first|exact trivial|(refine lC ?_ ?_;first|exact byLz|(exact le_var (by unfold chn;rw[gn_add,fup_fup,fup_fup,hlen];rfl))|exact byLeq))) rfl rfl) (by exact bySlots)
  refine rS ?_
  refine WP.block ?_
  refine WP.loopH (⟨λ z:Nat×Chn=>z.1<=N/\AddInv N k p C z.1 z.2,λ z=>[(0,.p 0 [] 0),(1,.i .i64 (k:Int)),(5,.p 1 [] 0),(6,.i .i64 (z.1:Int))],λ z=>[.var (chn N z.2),.var (pl p)],λ z=>N-z.1⟩) ((0,C.addG k p)) (⟨Nat.zero_le _,hst⟩) (gC [0,1] (leC (leC leZ))) ?_
  rintro⟨x,D⟩ ⟨hx,hD⟩
  dsimp only at hx hD
  dsimp only[Hd.at]
  refine WP.seq ?_
  refine rS ?_
  refine cI (λ hc=>?_) λ hc=>?_
  ·have hx:x<N:=by have:=of_decide_eq_true hc;omega
   clear hc
   refine WP.seq (WP.block ?_)
   refine rS ?_
   cases hh:D.has k x with
   |true=>
    have hfr:=free_ext (has:=C.has) (has':=D.has) N (Nat.le_refl _) hD.ext.hs
    have hTk:=hD.ci.T.np k x hk hh
    have hS:=IH _ D (hD.pre hk hA hh) hfr
    unfold StepOk at hS
    refine cS (λ h=>?_) λ h=>?_
    ·refine WP.da (by kernel_rfl) 16 (by kernel_rfl) ?_
     refine WA.takes T false tok [0,1,2,3,4,5,6,7,8,9,10,11] (f':=5) (by kernel_rfl) (by rfl) (by rfl) (by rfl) (by exact byObl) (by rfl) (by rfl) ?_
     refine WA.takes T false tok [12,13,14] (f':=2) (by kernel_rfl) (by rfl) (by rfl) (by rfl) (by exact byObl) (by rfl) (by rfl) ?_
     refine WA.all [15] (by kernel_rfl) (by simp) ?_;intro i' hi';simp only[List.mem_cons,List.not_mem_nil,or_false] at hi'
     subst hi'
     refine⟨_,_,_,rfl,by rfl,by rfl,MK.callP (l01Then_fn (D.tab k x) p N hN hTk.perm.lt) (by rfl) (by simp[Sc,sc_pl,sc_ds,pl_ne,ds_ne]),?_⟩
     refine WA.tail (by rfl) (by rfl) (by kernel_rfl) ?_
     refine WPL.callE [0] (hS) (leC leZ) (by rfl) (by rfl) (by exact byArgs) (by rfl) (by rfl) (by simp[Sc,sc_pl,sc_ds]) ?_
     rintro _ _ ⟨rfl,E,rfl,hE⟩
     refine⟨by exact byAllc,u0D,ren_u0,sc_u0 _ _,?_⟩
     refine WPL.mem (by rfl) ?_
     refine rF ?_
     refine noPan ?_
     refine rE ?_
     refine Again.next ((x+1,E)) (gC [0,1] (leC (leC leZ))) (⟨hx,hD.step hk hh hE⟩) (by dsimp only;omega)
    ·simp[hh] at h
   |false=>
    refine cS (λ h=>?_) λ h=>?_
    ·simp[hh] at h
    ·refine rE ?_
     refine Again.next ((x+1,D)) (gC [0,1] (leC (leC leZ))) (⟨hx,hD.skip hh⟩) (by dsimp only;omega)
  ·have hx:x=N:=by have:=of_decide_eq_false hc;omega
   subst hx
   have hpost:=hD.done hN hk hA hno
   exact Ends.newE [0] (⟨rfl,D,rfl,hpost⟩) (.inr rfl) (by rfl) (by exact byObl) (leC leZ) rfl rfl (ren_u0) (sc_u0 _ _)
theorem step_fn(N:Nat)(hN:N<=16)(k:Nat)(hk:k<N)(p:Nat->Nat)(C:Chn)(hS:StepPre N k p C)(IHA:∀q D,k+1<N->AddPre N (k+1) q D->freeF D.has N<=freeF C.has N->AddOk N (k+1) q D)(IHS:∀q D,StepPre N k q D->freeF D.has N+1<=freeF C.has N->StepOk N k q D):StepOk N k p C:=by
 have hp:=hS.grp.np (hS.ci.gn hk)
 have hpk:=hp.perm.lt k hk
 have hk16:k<16:=by omega
 have hlen:=hS.len
 unfold StepOk
 refine FnS.intoE T tok Tryz.func124 (by rfl) rfl rfl rfl (by simp) ?_
 refine rS ?_
 refine rS ?_
 refine WP.seq ?_
 refine rS ?_
 cases hh:C.has k (p k) with
 |true=>
  refine cS (λ h=>?_) λ h=>?_
  ·by_cases hk1:k+1<N
   ·have hA:=IHA _ C hk1 (hS.left hN hk1 hh) (Nat.le_refl _)
    unfold AddOk at hA
    refine WP.seq ?_
    refine rS ?_
    refine cS (λ h2=>?_) λ h2=>?_
    ·refine WP.da (by kernel_rfl) 22 (by kernel_rfl) ?_
     refine WA.takes T false tok [0,1,2,3,4,5,6,7,8,9,10,11] (f':=11) (by kernel_rfl) (by rfl) (by rfl) (by rfl) (by exact byObl) (by rfl) (by rfl) ?_
     refine WA.takes T false tok [12,13,14,15,17,18,19,20] (f':=3) (by kernel_rfl) (by rfl) (by rfl) (by rfl) (by exact byObl) (by rfl) (by rfl) ?_
     refine WA.all [16] (by kernel_rfl) (by simp) ?_;intro i' hi';simp only[List.mem_cons,List.not_mem_nil,or_false] at hi'
     subst hi'
     refine⟨_,_,_,rfl,by rfl,by rfl,MK.callP (l01Back_fn (C.tab k (p k)) N hN (hS.ci.T.np k _ hk hh).perm.lt) (by rfl) (by simp[Sc,sc_pl,sc_ds,pl_ne,ds_ne]),?_⟩
     refine WA.all [21] (by kernel_rfl) (by simp) ?_;intro i' hi';simp only[List.mem_cons,List.not_mem_nil,or_false] at hi'
     subst hi'
     refine⟨_,_,_,rfl,by rfl,by rfl,MK.callP (l01Then_fn p (backTo (C.tab k (p k)) N) N hN hp.perm.lt) (by rfl) (by simp[Sc,sc_pl,sc_ds,pl_ne,ds_ne]),?_⟩
     refine WA.tail (by rfl) (by rfl) (by kernel_rfl) ?_
     refine WPL.callE [0] (hA) (leC leZ) (by rfl) (by rfl) (by exact byArgs) (by rfl) (by rfl) (by simp[Sc,sc_pl,sc_ds]) ?_
     rintro _ _ ⟨rfl,D,rfl,hD⟩
     refine⟨by exact byAllc,u0D,ren_u0,sc_u0 _ _,?_⟩
     refine WPL.mem (by rfl) ?_
     have hpost:=StepPost.left hN hk1 hS hh hD
     refine rF ?_
     refine noPan ?_
     exact WP.ret (Ends.newE [0] (⟨rfl,D,rfl,hpost⟩) (.inl rfl) (by rfl) (by exact byObl) (leC leZ) rfl rfl (ren_u0) (sc_u0 _ _))
    ·have h2:=of_decide_eq_false h2
     exact absurd (by exact_mod_cast hk1) h2
   ·have hpost:=StepPost.last hN (by omega) hS hh
    refine WP.seq ?_
    refine rS ?_
    refine cS (λ h2=>?_) λ h2=>?_
    ·have h2:=of_decide_eq_true h2
     exact absurd (by exact_mod_cast h2) hk1
    ·exact WP.ret (Ends.newE [0] (⟨rfl,C,rfl,hpost⟩) (.inl rfl) (by rfl) (by exact byObl) (leC leZ) rfl rfl (ren_u0) (sc_u0 _ _))
  ·simp[hh] at h
 |false=>
  have hst:=StepInv.start hN hk hS hh
  refine cS (λ h=>?_) λ h=>?_
  ·simp[hh] at h
  refine rS ?_
  refine WP.seq ?_
  refine WP.da (by kernel_rfl) 8 (by kernel_rfl) ?_
  refine WA.takes T false tok [0,1,2,3,4,5,6,7] (f':=1) (by kernel_rfl) (by rfl) (by rfl) (by rfl) (by exact byObl) (by rfl) (by rfl) ?_
  refine WA.tail (by rfl) (by rfl) (by kernel_rfl) ?_
  refine rF ?_
  refine noPan ?_
  refine rS ?_
  refine WP.block ?_
  refine WP.loopH (⟨λ z:Nat×Chn=>z.1<=(C.gens k).length/\StepInv N k p C z.1 z.2,λ z=>[(0,.p 0 [] 0),(1,.i .i64 (k:Int)),(5,.p 1 [] 0),(7,.i .i64 (z.1:Int))],λ z=>[.var (chn N z.2),.var (pl p)],λ z=>(C.gens k).length-z.1⟩) ((0,C.put k p)) (⟨Nat.zero_le _,hst⟩) (gC [0,1] (by repeat (first|exact trivial|(refine lC ?_ ?_;first|exact byLz|(exact le_var (ch_up N _ _ _ k (p k) p).symm)|exact byLeq)))) ?_
  rintro⟨i,D⟩ ⟨hi,hD⟩
  dsimp only at hi hD
  dsimp only[Hd.at]
  have hgk:D.gens k=C.gens k:=hD.gen k (Nat.le_refl _)
  by_cases hg:C.gens k=[]
  ·have hG:gnF D.gens k=.ns:=by unfold gnF;rw[hgk,hg];rfl
   have h0:(C.gens k).length=0:=by rw[hg];rfl
   obtain rfl:i=0:=by omega
   refine WP.seq ?_
   refine WP.rw ?_
   refine rU 6 ?_
   refine WPL.op (by rfl) (by rfl) (QOK.op (load_gen0 tok rfl (by rfl) rfl hk16 hG ?_ rfl)) ?_
   ·show 0+1+k*1=1+k;omega
   refine rF ?_
   refine cI (λ hc=>?_) λ hc=>?_
   ·simp at hc
   ·have hD0:StepInv N k p C (C.gens k).length D:=by rw[h0];exact hD
    have hpost:=hD0.done hN hk hS
    exact Ends.newE [0] (⟨rfl,D,rfl,hpost⟩) (.inr rfl) (by rfl) (by exact byObl) (leC leZ) rfl rfl (ren_u0) (sc_u0 _ _)
  ·have hG:gnF D.gens k=.ow 25 (C.gens k).length 16 (rowP (C.gens k)):=by unfold gnF;rw[hgk];exact gnD_of hg
   refine WP.seq ?_
   refine WP.rw ?_
   refine rU 6 ?_
   refine WPL.op (by rfl) (by rfl) (QOK.op (load_gen tok rfl (by rfl) rfl hk16 hG (by decide) ?_ (r:=2) rfl rfl)) ?_
   ·show 0+1+k*1=1+k;omega
   refine rF ?_
   refine WP.ghost (Ghost.giveGen (r:=1) hk16 (fup_same _ _ _) (by decide) rfl (Nat.le_refl _)) ?_
   refine WP.ghost (gC [0,1] (by repeat (first|exact trivial|(refine lC ?_ ?_;first|exact byLz|(exact le_var (by rw[fup_fup,fup_self hG];rfl))|exact byLeq))) (l:=[(0,.p 0 [] 0),(1,.i .i64 (k:Int)),(5,.p 1 [] 0),(7,.i .i64 (i:Int)),(72,.b (decide ((i:Int)<((C.gens k).length:Int))))]) (m':=[.var (chn N D),.var (pl p)])) ?_
   refine cI (λ hc=>?_) λ hc=>?_
   ·have hi:i<(C.gens k).length:=by have:=of_decide_eq_true hc;omega
    clear hc
    have hS2:=IHS _ D (hD.pre hk hS hi) hD.free
    unfold StepOk at hS2
    refine WP.seq (WP.block ?_)
    refine WP.da (by kernel_rfl) 17 (by kernel_rfl) ?_
    refine WA.takes T false tok [0,1,2,3,4,5,6,7] (f':=10) (by kernel_rfl) (by rfl) (by rfl) (by rfl) (by exact byObl) (by rfl) (by rfl) ?_
    refine WA.take (i:=8) (by rfl) (by decide) (by kernel_rfl) (by kernel_rfl) (by kernel_rfl) (by rfl) (by rfl) (load_gen tok rfl (by rfl) rfl hk16 hG (by decide) ?_ (r:=2) rfl rfl) ?_
    ·show 0+1+k*1=1+k;omega
    refine WA.takes T false tok [9,10,11,12,13,14,15] (f':=2) (by kernel_rfl) (by rfl) (by rfl) (by rfl) (by exact byObl) (by rfl) (by rfl) ?_
    refine WA.all [16] (by kernel_rfl) (by simp) ?_;intro i' hi';simp only[List.mem_cons,List.not_mem_nil,or_false] at hi'
    subst hi'
    refine⟨_,_,_,rfl,by rfl,by rfl,MK.callP (l01Then_fn p ((C.gens k).getD i λ _=>0) N hN hp.perm.lt) (by rfl) (by simp[Sc,sc_pl,sc_ds,pl_ne,ds_ne]),?_⟩
    refine WA.tail (by rfl) (by rfl) (by kernel_rfl) ?_
    refine WPL.ghost (Ghost.giveGen (r:=1) hk16 (fup_same _ _ _) (by decide) rfl (Nat.le_refl _)) ?_
    refine WPL.callE [0] (hS2) (LeAll.cons (by rfl) (by first|with_reducible exact Root.Le.refl _|with_reducible exact le_dead|(exact le_var (by rw[fup_fup,fup_self hG];rfl))|exact byLeq) (by exact byCon) (leZ)) (by rfl) (by rfl) (by exact byArgs) (by rfl) (by rfl) (by simp[Sc,sc_pl,sc_ds]) ?_
    rintro _ _ ⟨rfl,E,rfl,hE⟩
    refine⟨by exact byAllc,u0D,ren_u0,sc_u0 _ _,?_⟩
    refine WPL.mem (by rfl) ?_
    refine rF ?_
    refine noPan ?_
    refine rE ?_
    refine Again.next ((i+1,E)) (gC [0,1] (leC (leC leZ))) (⟨hi,hD.step hk hS hE⟩) (by dsimp only;omega)
   ·have hi:i=(C.gens k).length:=by have:=of_decide_eq_false hc;omega
    subst hi
    have hpost:=hD.done hN hk hS
    exact Ends.newE [0] (⟨rfl,D,rfl,hpost⟩) (.inr rfl) (by rfl) (by exact byObl) (leC leZ) rfl rfl (ren_u0) (sc_u0 _ _)
theorem chain_fn(N:Nat)(hN:N<=16):∀μ:Nat,(∀k p C,k<N->AddPre N k p C->40*freeF C.has N+2*(N-k)+1<μ->AddOk N k p C)/\(∀k p C,k<N->StepPre N k p C->40*freeF C.has N+2*(N-k)<μ->StepOk N k p C)
 |0=>⟨λ _ _ _ _ _ h=>absurd h (Nat.not_lt_zero _),λ _ _ _ _ _ h=>absurd h (Nat.not_lt_zero _)⟩
 |μ+1=>by
  obtain⟨ihA,ihS⟩:=chain_fn N hN μ
  refine⟨λ k p C hk hA hm=>add_fn N hN k hk p C hA λ q D hS hf=>ihS k q D hk hS (by omega),λ k p C hk hS hm=>step_fn N hN k hk p C hS (λ q D hk1 hA hf=>ihA (k+1) q D hk1 hA (by omega)) λ q D hS2 hf=>ihS k q D hk hS2 (by omega)⟩
theorem l03Add_fn(N:Nat)(hN:N<=16)(k:Nat)(hk:k<N)(p:Nat->Nat)(C:Chn)(hA:AddPre N k p C):AddOk N k p C:=(chain_fn N hN _).1 k p C hk hA (Nat.lt_succ_self _)
end Go.Proofs.YthjnmlpibafbnaaGreat
