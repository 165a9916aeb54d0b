import Derived.Test.YthjnmlpibafbnaaGreatX105
import Derived.Test.YthjnmlpibafbnaaGreatX6
import Derived.Test.YthjnmlpibafbnaaGreatL35
import Derived.Test.YthjnmlpibafbnaaGreatX94
namespace Go.Proofs.YthjnmlpibafbnaaGreat
open Go.RowKit DM
set_option linter.unusedSimpArgs false
set_option linter.unusedVariables false
set_option maxRecDepth 100000
set_option maxHeartbeats 1000000
noncomputable def blT (n:Int)(b w:Nat->Nat):Dat×List Root:=bif desB n b w then(t2 (.sl 0 0 (blsL n.toNat b w (n.toNat-1)).length 1) (.i .i64 0),[.row 30 (blsL n.toNat b w (n.toNat-1)).length 1 (rowsR (blsL n.toNat b w (n.toNat-1)))]) else(t2 .ns (.i .i64 1),[])
theorem specBlocks_fn(n:Int)(b w:Nat->Nat)(hb:∀i,b i<256)(hw:∀i,w i<256):FnS Tryz.prog 17 [ds_ n b w] [] (λ r m'=>r=(blT n b w).1/\m'=(blT n b w).2):=by
 cases hc:desB n b w
 ·have e:blT n b w=(t2 .ns (.i .i64 1),[]):=by unfold blT;rw[hc];rfl
  rw[e]
  refine FnS.intoN T tok Tryz.func17 (by rfl) rfl rfl rfl (by simp) ?_
  refine rS ?_
  refine WP.seq ?_
  refine WP.rw ?_
  refine rU 1 ?_
  refine cA (hc▸l01Is_fn n b w hb hw) ?_
  refine rF ?_
  refine cS (λ h=>?_) λ h=>?_
  ·refine rS ?_
   exact WP.ret (Ends.new [] (by rfl) (by exact byObl) leZ rfl rfl (ren_t2 ⟨rfl,trivial⟩ ⟨rfl,trivial⟩) (sc_t2 trivial trivial))
  ·cases h
 ·obtain⟨N,rfl,hD⟩:=des_of_B hc
  have e:blT N b w=(t2 (.sl 0 0 (blsL N b w (N-1)).length 1) (.i .i64 0),[.row 30 (blsL N b w (N-1)).length 1 (rowsR (blsL N b w (N-1)))]):=by unfold blT;rw[hc];rfl
  rw[e]
  have hbl:=l03Blocks_fn N b w hD.le hD.pos hD.pb.lt hD.pw.lt
  generalize blsL N b w (N-1)=B at*
  refine FnS.intoN T tok Tryz.func17 (by rfl) rfl rfl rfl (by simp) ?_
  refine rS ?_
  refine WP.seq ?_
  refine WP.rw ?_
  refine rU 1 ?_
  refine cA (hc▸l01Is_fn N b w hb hw) ?_
  refine rF ?_
  refine cF ?_
  refine WP.rw ?_
  refine rU 1 ?_
  refine cN [] (.sl 1 0 B.length 1) (hbl) leZ (rfl) ?_
  refine rF ?_
  exact WP.ret (Ends.new [1] (by rfl) (by exact byObl) (leC leZ) rfl rfl (ren_t2 rfl ⟨rfl,trivial⟩) (sc_t2 (sc_sl rfl) trivial))
def prB(N:Nat)(B:List (List Nat)):Bool:=decide (B.length=0)||decide ((B.getD 0 []).length=N)
theorem srt_first{B:List (List Nat)}(h:Srt B){i:Nat}(hi:i<B.length):(B.getD 0 []).length<=(B.getD i []).length:=by
 cases i with
 |zero=>exact Nat.le_refl _
 |succ i=>
  have h1:=List.pairwise_iff_getElem.1 h 0 (i+1) (by omega) hi (by omega)
  simp only[List.getD_eq_getElem?_getD,List.getElem?_eq_getElem hi,List.getElem?_eq_getElem (show 0<B.length by omega),Option.getD_some]
  unfold befL at h1
  split at h1
  ·omega
  ·split at h1
   ·omega
   ·omega
noncomputable def prR (n:Int)(b w:Nat->Nat):Dat:=bif desB n b w then t2 (.b (prB n.toNat (blsL n.toNat b w (n.toNat-1)))) (.i .i64 0) else t2 (.b false) (.i .i64 1)
theorem prR_form(n:Int)(b w:Nat->Nat):∃r c,prR n b w=t2 (.b r) (.i .i64 c):=by
 unfold prR
 cases desB n b w
 ·exact⟨_,_,rfl⟩
 ·exact⟨_,_,rfl⟩
theorem implPrim_fn(n:Int)(b w:Nat->Nat)(hb:∀i,b i<256)(hw:∀i,w i<256):FnP Tryz.prog 18 [ds_ n b w] (prR n b w):=by
 have hbl:=implBlocks_fn n b w hb hw
 cases hc:desB n b w
 ·have e:prR n b w=t2 (.b false) (.i .i64 1):=by unfold prR;rw[hc];rfl
  have e':blR n b w=(t2 .ns (.i .i64 1),[]):=by unfold blR;rw[hc];rfl
  rw[e]
  rw[e'] at hbl
  refine FnS.into T tok Tryz.func18 (by rfl) rfl rfl rfl (by simp) ?_
  refine rS ?_
  refine WP.rw ?_
  refine rU 1 ?_
  refine cN [] (t2 .ns (.i .i64 1)) (hbl) leZ (ren_t2 ⟨rfl,trivial⟩ ⟨rfl,trivial⟩) ?_
  refine rF ?_
  refine WP.seq ?_
  refine rS ?_
  refine WP.block ?_
  refine WP.loopH (⟨λ _:Nat=>True,λ i=>[(1,.p 0 [] 0),(2,.b false),(3,.i .i64 0),(5,.i .i64 1),(13,.ns),(14,.i .i64 0),(15,.i .i64 0)],λ i=>[.var (ds_ n b w)],λ i=>0⟩) (0) (trivial) (gC [0] (leC leZ)) ?_
  intro i _
  dsimp only[Hd.at]
  refine rS ?_
  refine WP.seq ?_
  refine cI (λ hc2=>?_) λ hc2=>?_
  ·simp at hc2
  ·refine rS ?_
   exact WP.ret (Ends.val (by rfl) (by exact byObl) (by rfl) (by exact sc_t2 trivial trivial))
 ·obtain⟨N,rfl,hD⟩:=des_of_B hc
  have e:prR N b w=t2 (.b (prB N (blsL N b w (N-1)))) (.i .i64 0):=by unfold prR;rw[hc];rfl
  have e':blR N b w=(t2 (.sl 0 0 (blsL N b w (N-1)).length 1) (.i .i64 0),[.row 30 (blsL N b w (N-1)).length 1 (rowsF (blsL N b w (N-1)))]):=by unfold blR;rw[hc];rfl
  rw[e]
  rw[e'] at hbl
  have hsrt:=(bls_srt N b w (N-1)).1
  have hbl1:=bls_len N b w (N-1)
  have hbs:=bls_small N b w (N-1)
  have hN:=hD.le
  have hN1:=hD.pos
  generalize blsL N b w (N-1)=B at*
  refine FnS.into T tok Tryz.func18 (by rfl) rfl rfl rfl (by simp) ?_
  refine rS ?_
  refine WP.rw ?_
  refine rU 1 ?_
  refine cN [] (t2 (.sl 1 0 B.length 1) (.i .i64 0)) (hbl) leZ (ren_t2 rfl ⟨rfl,trivial⟩) ?_
  refine rF ?_
  refine WP.seq ?_
  refine rS ?_
  refine WP.block ?_
  refine WP.loopH (⟨λ i:Nat=>i<=B.length/\∀j,j<i->(B.getD j []).length=N,λ i=>[(1,.p 0 [] 0),(2,.b false),(3,.i .i64 0),(5,.i .i64 0),(13,.sl 1 0 B.length 1),(14,.i .i64 (B.length:Int)),(15,.i .i64 (i:Int))],λ i=>[.var (ds_ N b w),.ro B.length 1 (rowsF B)],λ i=>B.length-i⟩) (0) (⟨Nat.zero_le _,λ j hj=>absurd hj (Nat.not_lt_zero _)⟩) (gC [0,1] (leC (leC leZ))) ?_
  intro i hi
  dsimp only at hi
  dsimp only[Hd.at]
  obtain⟨hi1,hi2⟩:=hi
  have hbi:=hbs i
  refine rS ?_
  refine WP.seq ?_
  refine cI (λ hc=>?_) λ hc=>?_
  ·have hi:i<B.length:=by have:=of_decide_eq_true hc;omega
   clear hc
   have hs:=srt_first hsrt hi
   refine WP.seq (WP.block ?_)
   refine rS ?_
   refine rS ?_
   refine cQ (λ h=>?_) λ h=>?_
   ·have h:(B.getD i []).length≠N:=by simp[addrAt0] at h;simp;omega
    refine rS ?_
    exact WP.ret (Ends.val (by rfl) (by exact byObl) (by show t2 (.b false) (.i .i64 0)=_;rw[show prB N B=false from by unfold prB;rw[decide_eq_false (by omega),decide_eq_false (by omega)];rfl]) (by exact sc_t2 trivial trivial))
   ·have h:(B.getD i []).length=N:=by simp[addrAt0] at h;simp;omega
    refine WP.skip ?_
    refine rE ?_
    refine Again.next (i+1) (gC [0,1] (leC (leC leZ))) (⟨hi,λ j hj=>by
     by_cases e:j=i
     ·subst e;exact h
     ·exact hi2 j (by omega)⟩) (by dsimp only;omega)
  ·have hi:i=B.length:=by have:=of_decide_eq_false hc;omega
   subst hi
   clear hc
   have hp:prB N B=true:=by
    unfold prB
    by_cases h0:B.length=0
    ·rw[decide_eq_true h0];rfl
    ·rw[decide_eq_false h0,decide_eq_true (hi2 0 (by omega))];rfl
   rw[hp]
   refine rS ?_
   exact WP.ret (Ends.val (by rfl) (by exact byObl) (by rfl) (by exact sc_t2 trivial trivial))
theorem specPrim_fn(n:Int)(b w:Nat->Nat)(hb:∀i,b i<256)(hw:∀i,w i<256):FnP Tryz.prog 19 [ds_ n b w] (prR n b w):=by
 cases hc:desB n b w
 ·have e:prR n b w=t2 (.b false) (.i .i64 1):=by unfold prR;rw[hc];rfl
  rw[e]
  refine FnS.into T tok Tryz.func19 (by rfl) rfl rfl rfl (by simp) ?_
  refine rS ?_
  refine WP.seq ?_
  refine WP.rw ?_
  refine rU 1 ?_
  refine cA (hc▸l01Is_fn n b w hb hw) ?_
  refine rF ?_
  refine cS (λ h=>?_) λ h=>?_
  ·refine rS ?_
   exact WP.ret (Ends.val (by rfl) (by exact byObl) (by rfl) (by exact sc_t2 trivial trivial))
  ·cases h
 ·obtain⟨N,rfl,hD⟩:=des_of_B hc
  have e:prR N b w=t2 (.b (prB N (blsL N b w (N-1)))) (.i .i64 0):=by unfold prR;rw[hc];rfl
  rw[e]
  have hbl:=l03Blocks_fn N b w hD.le hD.pos hD.pb.lt hD.pw.lt
  have hbl1:=bls_len N b w (N-1)
  have hbs:=bls_small N b w (N-1)
  have hN:=hD.le
  generalize blsL N b w (N-1)=B at*
  refine FnS.into T tok Tryz.func19 (by rfl) rfl rfl rfl (by simp) ?_
  refine rS ?_
  refine WP.seq ?_
  refine WP.rw ?_
  refine rU 1 ?_
  refine cA (hc▸l01Is_fn N b w hb hw) ?_
  refine rF ?_
  refine cF ?_
  refine WP.rw ?_
  refine rU 1 ?_
  refine cN [] (.sl 1 0 B.length 1) (hbl) leZ (rfl) ?_
  refine rF ?_
  refine WP.seq ?_
  refine WP.drawsQ (by kernel_rfl) (by kernel_rfl) ?_
  refine WQ.run T false 3 tok (by rfl) (by rfl) (by exact byObl) ?_
  cases h0:decide ((B.length:Int)=0)
  ·have h0:B.length≠0:=by have:=of_decide_eq_false h0;omega
   have hp:prB N B=decide (((B.getD 0 []).length:Int)=N):=by
    unfold prB
    rw[decide_eq_false h0,Bool.false_or]
    by_cases h1:(B.getD 0 []).length=N
    ·rw[decide_eq_true h1,decide_eq_true (by omega)]
    ·rw[decide_eq_false h1,decide_eq_false (by omega)]
   rw[hp]
   refine WQ.fin T false tok (by rfl) (by rfl) (by exact byObl) ?_
   exact WP.ret (Ends.val (by rfl) (by exact byObl) (by rfl) (by exact sc_t2 trivial trivial))
  ·have h0:B.length=0:=by have:=of_decide_eq_true h0;omega
   have hp:prB N B=true:=by unfold prB;rw[decide_eq_true h0];rfl
   rw[hp]
   refine WQ.fin T false tok (by rfl) (by rfl) (by exact byObl) ?_
   exact WP.ret (Ends.val (by rfl) (by exact byObl) (by rfl) (by exact sc_t2 trivial trivial))
def AllN(N:Nat)(C:Chn)(k:Nat):Prop:=∀p,Np N p->(dfsE N C.has C.tab k p).length<=1000000->FnS Tryz.prog 56 [.p 0 [] 0,.i .i64 ((k:Int)-1),pl p,.ns] [.var (chn N C)] λ r m'=>r=.sl 1 0 (dfsE N C.has C.tab k p).length 16/\m'=[.var (chn N C),.row 25 (dfsE N C.has C.tab k p).length 16 (rowP (dfsE N C.has C.tab k p))]
def AllS(N:Nat)(C:Chn)(k:Nat):Prop:=∀p (L:List (Nat->Nat)),Np N p->(L++dfsE N C.has C.tab k p).length<=1000000->FnS Tryz.prog 56 [.p 0 [] 0,.i .i64 ((k:Int)-1),pl p,.sl 1 0 L.length 16] [.var (chn N C),.row 25 L.length 16 (rowP L)] λ r m'=>r=.sl 2 0 (L++dfsE N C.has C.tab k p).length 16/\m'=[.var (chn N C),.dead,.row 25 (L++dfsE N C.has C.tab k p).length 16 (rowP (L++dfsE N C.has C.tab k p))]
theorem all_zero(N:Nat)(C:Chn):AllN N C 0/\AllS N C 0:=by
 have hSc:∀(k e n:Nat) (L:List (Nat->Nat)),Sc k (.ow e n 16 (rowP L)):=λ k _ _ L j _=>sc_row k L j
 refine⟨λ p hp _=>?_,λ p L hp hl=>?_⟩
 ·have e:dfsE N C.has C.tab 0 p=[p]:=rfl
  rw[e]
  refine FnS.intoN T tok Tryz.func56 (by rfl) rfl rfl rfl (by simp) ?_
  refine rS ?_
  refine WP.seq ?_
  refine rS ?_
  refine cS (λ h=>?_) λ h=>?_
  ·refine rS ?_
   exact WP.ret (Ends.new [0,3] (by rfl) (by exact byObl) (by repeat (first|exact trivial|(refine lC ?_ ?_;first|exact byLz|(exact le_row (Nat.le_refl _) (λ j hj=>by obtain rfl:j=0:=(by have:j<1:=hj;omega);rfl))|exact byLeq))) rfl rfl (rfl) (sc_sl rfl))
  ·simp at h
 ·have e:dfsE N C.has C.tab 0 p=[p]:=rfl
  rw[e] at hl ⊢
  have hLen:(L++[p]).length=L.length+1:=by simp
  refine FnS.intoN T tok Tryz.func56 (by rfl) rfl rfl rfl (by simp) ?_
  refine rS ?_
  refine WP.seq ?_
  refine rS ?_
  refine cS (λ h=>?_) λ h=>?_
  ·refine rS ?_
   exact WP.ret (Ends.new [0,1,4] (by rfl) (by exact byObl) (by repeat (first|exact trivial|(refine lC ?_ ?_;first|exact byLz|(exact le_row (Nat.le_of_eq hLen) (λ j hj=>ap_row1 rfl _ _ j (by omega)))|exact byLeq))) rfl rfl (renD_len hLen rfl) (sc_sl rfl))
  ·simp at h
theorem alln_step(N:Nat)(hN:N<=16)(C:Chn)(hT:TblOk N C.has C.tab)(i:Nat)(hi:i<N)(ihN:AllN N C i)(ihS:AllS N C i):AllN N C (i+1):=by
 have hSc:∀(k e n:Nat) (L:List (Nat->Nat)),Sc k (.ow e n 16 (rowP L)):=λ k _ _ L j _=>sc_row k L j
 intro p hp hl
 have hend:(dfsE N C.has C.tab (i+1) p)=(accE N C.has C.tab i p N):=rfl
 have hii:=(hT.diag i hi).1
 have hlow:∀y,y<i->C.has i y=false:=λ y hy=>by
  cases e:C.has i y
  ·rfl
  ·have:=hT.ge hi e;omega
 have hbd:∀y,y<=N->(accE N C.has C.tab i p y).length<=1000000:=λ y hy=>by
  have h1:=accE_le N C.has C.tab i p y (N-y)
  rw[show y+(N-y)=N by omega] at h1
  rw[hend] at hl
  omega
 rw[hend]
 have ei:((i+1:Nat):Int)-1=(i:Int):=by omega
 rw[ei]
 refine FnS.intoN T tok Tryz.func56 (by rfl) rfl rfl rfl (by simp) ?_
 refine rS ?_
 refine WP.seq ?_
 refine rS ?_
 refine cS (λ h=>?_) λ h=>?_
 ·have h:=of_decide_eq_true h;omega
 clear h
 refine WP.seq ?_
 refine rS ?_
 refine WP.block ?_
 refine WP.loopH (⟨λ z:Nat ⊕ Nat=>(match z with| .inl y=>y<=i| .inr y=>i<y/\y<=N),λ z=>(match z with| .inl y=>[(0,.p 0 [] 0),(1,.i .i64 (i:Int)),(3,.ns),(6,.p 1 [] 0),(9,.i .i64 (y:Int))]| .inr y=>[(0,.p 0 [] 0),(1,.i .i64 (i:Int)),(3,.sl 2 0 (accE N C.has C.tab i p y).length 16),(6,.p 1 [] 0),(9,.i .i64 (y:Int))]),λ z=>(match z with| .inl y=>[.var (chn N C),.var (pl p)]| .inr y=>[.var (chn N C),.var (pl p),.row 25 (accE N C.has C.tab i p y).length 16 (rowP (accE N C.has C.tab i p y))]),λ z=>(match z with| .inl y=>N+1-y| .inr y=>N+1-y)⟩) ((Sum.inl 0:Nat ⊕ Nat)) (Nat.zero_le _) (gC [0,1] (leC (leC leZ))) ?_
 rintro(y|y) hy
 ·dsimp only at hy
  dsimp only[Hd.at]
  have hyN:y<N:=by omega
  refine WP.seq ?_
  refine rS ?_
  refine cI (λ hc=>?_) λ hc=>?_
  ·clear hc
   refine WP.seq (WP.block ?_)
   refine rS ?_
   by_cases hyi:y=i
   ·subst hyi
    have ht:=hT.np y y hi hii
    have e0:accE N C.has C.tab y p y=[]:=accE_none hlow
    have e:accE N C.has C.tab y p (y+1)=dfsE N C.has C.tab y (mulF N p (C.tab y y)):=by rw[accE_yes hii,e0,List.nil_append]
    have hb:=hbd (y+1) (by omega)
    rw[e] at hb
    have hrec:=ihN (mulF N p (C.tab y y)) (mul_np hp ht) hb
    rw[<-e] at hrec
    refine cS (λ h=>?_) λ h=>?_
    ·refine WP.da (by kernel_rfl) 18 (by kernel_rfl) ?_
     refine WA.takes T false tok [0,1,2,3,4,5,6,7,8,9,10,11] (f':=8) (by kernel_rfl) (by rfl) (by rfl) (by rfl) (by exact byObl) (by rfl) (by rfl) ?_
     refine WA.takes T false tok [12,13,14,15,17] (f':=3) (by kernel_rfl) (by rfl) (by rfl) (by rfl) (by exact byObl) (by rfl) (by rfl) ?_
     refine WA.all [16] (by kernel_rfl) (by simp) ?_;intro i' hi';simp only[List.mem_cons,List.not_mem_nil,or_false] at hi'
     subst hi'
     refine⟨_,_,_,rfl,by rfl,by rfl,MK.callP (l01Then_fn p (C.tab y y) N hN hp.perm.lt) (by rfl) (by simp[Sc,sc_pl,sc_ds,pl_ne,ds_ne]),?_⟩
     refine WA.tail (by rfl) (by rfl) (by kernel_rfl) ?_
     refine cN [0] (.sl 2 0 (accE N C.has C.tab y p (y+1)).length 16) (hrec) (leC leZ) (rfl) ?_
     refine rF ?_
     refine noPan ?_
     refine rE ?_
     refine Again.next ((Sum.inr (y+1):Nat ⊕ Nat)) (gC [0,1,2] (leC (leC (leC leZ)))) (⟨Nat.lt_succ_self _,by omega⟩) (by dsimp only;omega)
    ·simp[hii] at h
   ·have hlt:y<i:=by omega
    have hh:=hlow y hlt
    refine cS (λ h=>?_) λ h=>?_
    ·simp[hh] at h
    ·refine rE ?_
     refine Again.next ((Sum.inl (y+1):Nat ⊕ Nat)) (gC [0,1] (leC (leC leZ))) (hlt) (by dsimp only;omega)
  ·have:=of_decide_eq_false hc;omega
 ·dsimp only at hy
  dsimp only[Hd.at]
  obtain⟨hy1,hy2⟩:=hy
  refine WP.seq ?_
  refine rS ?_
  refine cI (λ hc=>?_) λ hc=>?_
  ·have hyN:y<N:=by have:=of_decide_eq_true hc;omega
   clear hc
   refine WP.seq (WP.block ?_)
   refine rS ?_
   cases hh:C.has i y with
   |true=>
    have ht:=hT.np i y hi hh
    have e:(accE N C.has C.tab i p (y+1))=(accE N C.has C.tab i p y)++dfsE N C.has C.tab i (mulF N p (C.tab i y)):=by rw[accE_yes hh]
    have hb:=hbd (y+1) (by omega)
    rw[e] at hb
    have hrec:=ihS (mulF N p (C.tab i y)) (accE N C.has C.tab i p y) (mul_np hp ht) hb
    rw[<-e] at hrec
    refine cS (λ h=>?_) λ h=>?_
    ·refine WP.da (by kernel_rfl) 18 (by kernel_rfl) ?_
     refine WA.takes T false tok [0,1,2,3,4,5,6,7,8,9,10,11] (f':=8) (by kernel_rfl) (by rfl) (by rfl) (by rfl) (by exact byObl) (by rfl) (by rfl) ?_
     refine WA.takes T false tok [12,13,14,15,17] (f':=3) (by kernel_rfl) (by rfl) (by rfl) (by rfl) (by exact byObl) (by rfl) (by rfl) ?_
     refine WA.all [16] (by kernel_rfl) (by simp) ?_;intro i' hi';simp only[List.mem_cons,List.not_mem_nil,or_false] at hi'
     subst hi'
     refine⟨_,_,_,rfl,by rfl,by rfl,MK.callP (l01Then_fn p (C.tab i y) N hN hp.perm.lt) (by rfl) (by simp[Sc,sc_pl,sc_ds,pl_ne,ds_ne]),?_⟩
     refine WA.tail (by rfl) (by rfl) (by kernel_rfl) ?_
     refine cN [0,2] (.sl 3 0 (accE N C.has C.tab i p (y+1)).length 16) (hrec) (leC (leC leZ)) (rfl) ?_
     refine rF ?_
     refine noPan ?_
     refine rE ?_
     refine Again.next ((Sum.inr (y+1):Nat ⊕ Nat)) (gC [0,1,3] (leC (leC (leC leZ)))) (⟨by omega,by omega⟩) (by dsimp only;omega)
    ·simp[hh] at h
   |false=>
    have e:(accE N C.has C.tab i p (y+1))=(accE N C.has C.tab i p y):=by rw[accE_no hh]
    have hLen:=congrArg List.length e
    refine cS (λ h=>?_) λ h=>?_
    ·simp[hh] at h
    ·refine rE ?_
     refine Again.next ((Sum.inr (y+1):Nat ⊕ Nat)) (gC [0,1,2] (by repeat (first|exact trivial|(refine lC ?_ ?_;first|exact byLz|(exact le_row (Nat.le_of_eq hLen) (λ j _=>by rw[e]))|exact byLeq)))) (⟨by omega,by omega⟩) (by dsimp only;omega)
  ·have hyN:y=N:=by have:=of_decide_eq_false hc;omega
   subst hyN
   clear hc
   refine rS ?_
   exact WP.ret (Ends.new [0,2] (by rfl) (by exact byObl) (leC (leC leZ)) rfl rfl (rfl) (sc_sl rfl))
theorem alls_step(N:Nat)(hN:N<=16)(C:Chn)(hT:TblOk N C.has C.tab)(i:Nat)(hi:i<N)(ihN:AllN N C i)(ihS:AllS N C i):AllS N C (i+1):=by
 have hSc:∀(k e n:Nat) (L:List (Nat->Nat)),Sc k (.ow e n 16 (rowP L)):=λ k _ _ L j _=>sc_row k L j
 intro p L hp hl
 have hend:(L++dfsE N C.has C.tab (i+1) p)=(L++accE N C.has C.tab i p N):=rfl
 have hii:=(hT.diag i hi).1
 have hlow:∀y,y<i->C.has i y=false:=λ y hy=>by
  cases e:C.has i y
  ·rfl
  ·have:=hT.ge hi e;omega
 have hbd:∀y,y<=N->(L++accE N C.has C.tab i p y).length<=1000000:=λ y hy=>by
  have h1:=accE_le N C.has C.tab i p y (N-y)
  rw[show y+(N-y)=N by omega] at h1
  rw[hend] at hl
  rw[List.length_append] at hl ⊢;omega
 rw[hend]
 have ei:((i+1:Nat):Int)-1=(i:Int):=by omega
 rw[ei]
 refine FnS.intoN T tok Tryz.func56 (by rfl) rfl rfl rfl (by simp) ?_
 refine rS ?_
 refine WP.seq ?_
 refine rS ?_
 refine cS (λ h=>?_) λ h=>?_
 ·have h:=of_decide_eq_true h;omega
 clear h
 refine WP.seq ?_
 refine rS ?_
 refine WP.block ?_
 refine WP.loopH (⟨λ z:Nat ⊕ Nat=>(match z with| .inl y=>y<=i| .inr y=>i<y/\y<=N),λ z=>(match z with| .inl y=>[(0,.p 0 [] 0),(1,.i .i64 (i:Int)),(3,.sl 1 0 L.length 16),(6,.p 2 [] 0),(9,.i .i64 (y:Int))]| .inr y=>[(0,.p 0 [] 0),(1,.i .i64 (i:Int)),(3,.sl 3 0 (L++accE N C.has C.tab i p y).length 16),(6,.p 2 [] 0),(9,.i .i64 (y:Int))]),λ z=>(match z with| .inl y=>[.var (chn N C),.row 25 L.length 16 (rowP L),.var (pl p)]| .inr y=>[.var (chn N C),.dead,.var (pl p),.row 25 (L++accE N C.has C.tab i p y).length 16 (rowP (L++accE N C.has C.tab i p y))]),λ z=>(match z with| .inl y=>N+1-y| .inr y=>N+1-y)⟩) ((Sum.inl 0:Nat ⊕ Nat)) (Nat.zero_le _) (gC [0,1,2] (leC (leC (leC leZ)))) ?_
 rintro(y|y) hy
 ·dsimp only at hy
  dsimp only[Hd.at]
  have hyN:y<N:=by omega
  refine WP.seq ?_
  refine rS ?_
  refine cI (λ hc=>?_) λ hc=>?_
  ·clear hc
   refine WP.seq (WP.block ?_)
   refine rS ?_
   by_cases hyi:y=i
   ·subst hyi
    have ht:=hT.np y y hi hii
    have e0:accE N C.has C.tab y p y=[]:=accE_none hlow
    have e:accE N C.has C.tab y p (y+1)=dfsE N C.has C.tab y (mulF N p (C.tab y y)):=by rw[accE_yes hii,e0,List.nil_append]
    have hb:=hbd (y+1) (by omega)
    rw[e] at hb
    have hrec:=ihS (mulF N p (C.tab y y)) L (mul_np hp ht) hb
    rw[<-e] at hrec
    refine cS (λ h=>?_) λ h=>?_
    ·refine WP.da (by kernel_rfl) 18 (by kernel_rfl) ?_
     refine WA.takes T false tok [0,1,2,3,4,5,6,7,8,9,10,11] (f':=8) (by kernel_rfl) (by rfl) (by rfl) (by rfl) (by exact byObl) (by rfl) (by rfl) ?_
     refine WA.takes T false tok [12,13,14,15,17] (f':=3) (by kernel_rfl) (by rfl) (by rfl) (by rfl) (by exact byObl) (by rfl) (by rfl) ?_
     refine WA.all [16] (by kernel_rfl) (by simp) ?_;intro i' hi';simp only[List.mem_cons,List.not_mem_nil,or_false] at hi'
     subst hi'
     refine⟨_,_,_,rfl,by rfl,by rfl,MK.callP (l01Then_fn p (C.tab y y) N hN hp.perm.lt) (by rfl) (by simp[Sc,sc_pl,sc_ds,pl_ne,ds_ne]),?_⟩
     refine WA.tail (by rfl) (by rfl) (by kernel_rfl) ?_
     refine cN [0,1] (.sl 3 0 (L++accE N C.has C.tab y p (y+1)).length 16) (hrec) (leC (leC leZ)) (rfl) ?_
     refine rF ?_
     refine noPan ?_
     refine rE ?_
     refine Again.next ((Sum.inr (y+1):Nat ⊕ Nat)) (gC [0,1,2,3] (leC (leC (leC (leC leZ))))) (⟨Nat.lt_succ_self _,by omega⟩) (by dsimp only;omega)
    ·simp[hii] at h
   ·have hlt:y<i:=by omega
    have hh:=hlow y hlt
    refine cS (λ h=>?_) λ h=>?_
    ·simp[hh] at h
    ·refine rE ?_
     refine Again.next ((Sum.inl (y+1):Nat ⊕ Nat)) (gC [0,1,2] (leC (leC (leC leZ)))) (hlt) (by dsimp only;omega)
  ·have:=of_decide_eq_false hc;omega
 ·dsimp only at hy
  dsimp only[Hd.at]
  obtain⟨hy1,hy2⟩:=hy
  refine WP.seq ?_
  refine rS ?_
  refine cI (λ hc=>?_) λ hc=>?_
  ·have hyN:y<N:=by have:=of_decide_eq_true hc;omega
   clear hc
   refine WP.seq (WP.block ?_)
   refine rS ?_
   cases hh:C.has i y with
   |true=>
    have ht:=hT.np i y hi hh
    have e:(L++accE N C.has C.tab i p (y+1))=(L++accE N C.has C.tab i p y)++dfsE N C.has C.tab i (mulF N p (C.tab i y)):=by rw[accE_yes hh, <-List.append_assoc]
    have hb:=hbd (y+1) (by omega)
    rw[e] at hb
    have hrec:=ihS (mulF N p (C.tab i y)) (L++accE N C.has C.tab i p y) (mul_np hp ht) hb
    rw[<-e] at hrec
    refine cS (λ h=>?_) λ h=>?_
    ·refine WP.da (by kernel_rfl) 18 (by kernel_rfl) ?_
     refine WA.takes T false tok [0,1,2,3,4,5,6,7,8,9,10,11] (f':=8) (by kernel_rfl) (by rfl) (by rfl) (by rfl) (by exact byObl) (by rfl) (by rfl) ?_
     refine WA.takes T false tok [12,13,14,15,17] (f':=3) (by kernel_rfl) (by rfl) (by rfl) (by rfl) (by exact byObl) (by rfl) (by rfl) ?_
     refine WA.all [16] (by kernel_rfl) (by simp) ?_;intro i' hi';simp only[List.mem_cons,List.not_mem_nil,or_false] at hi'
     subst hi'
     refine⟨_,_,_,rfl,by rfl,by rfl,MK.callP (l01Then_fn p (C.tab i y) N hN hp.perm.lt) (by rfl) (by simp[Sc,sc_pl,sc_ds,pl_ne,ds_ne]),?_⟩
     refine WA.tail (by rfl) (by rfl) (by kernel_rfl) ?_
     refine cN [0,3] (.sl 4 0 (L++accE N C.has C.tab i p (y+1)).length 16) (hrec) (leC (leC leZ)) (rfl) ?_
     refine rF ?_
     refine noPan ?_
     refine rE ?_
     refine Again.next ((Sum.inr (y+1):Nat ⊕ Nat)) (gC [0,1,2,4] (leC (leC (leC (leC leZ))))) (⟨by omega,by omega⟩) (by dsimp only;omega)
    ·simp[hh] at h
   |false=>
    have e:(L++accE N C.has C.tab i p (y+1))=(L++accE N C.has C.tab i p y):=by rw[accE_no hh]
    have hLen:=congrArg List.length e
    refine cS (λ h=>?_) λ h=>?_
    ·simp[hh] at h
    ·refine rE ?_
     refine Again.next ((Sum.inr (y+1):Nat ⊕ Nat)) (gC [0,1,2,3] (by repeat (first|exact trivial|(refine lC ?_ ?_;first|exact byLz|(exact le_row (Nat.le_of_eq hLen) (λ j _=>by rw[e]))|exact byLeq)))) (⟨by omega,by omega⟩) (by dsimp only;omega)
  ·have hyN:y=N:=by have:=of_decide_eq_false hc;omega
   subst hyN
   clear hc
   refine rS ?_
   exact WP.ret (Ends.new [0,1,3] (by rfl) (by exact byObl) (leC (leC (leC leZ))) rfl rfl (rfl) (sc_sl rfl))
theorem all_fn(N:Nat)(hN:N<=16)(C:Chn)(hT:TblOk N C.has C.tab):∀k,k<=N->AllN N C k/\AllS N C k
 |0,_=>all_zero N C
 |k+1,hk=>by
  obtain⟨h1,h2⟩:=all_fn N hN C hT k (by omega)
  exact⟨alln_step N hN C hT k hk h1 h2,alls_step N hN C hT k hk h1 h2⟩
end Go.Proofs.YthjnmlpibafbnaaGreat
