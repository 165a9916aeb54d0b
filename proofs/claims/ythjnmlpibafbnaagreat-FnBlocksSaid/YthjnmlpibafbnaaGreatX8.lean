import Derived.Test.YthjnmlpibafbnaaGreatX3
import Derived.Test.YthjnmlpibafbnaaGreatD31
import Derived.Test.YthjnmlpibafbnaaGreatX130
import Derived.Test.YthjnmlpibafbnaaGreatD18
namespace Go.Proofs.YthjnmlpibafbnaaGreat
open Go.RowKit DM
set_option linter.unusedSimpArgs false
set_option linter.unusedVariables false
set_option maxRecDepth 100000
set_option maxHeartbeats 1000000
theorem l01Same_fn(n:Nat)(hn:n<=16):FnP Tryz.prog 57 [.i .i64 n] (pl (fillF (λ i=>i) n)):=by
 refine FnS.into T tok Tryz.func57 (by rfl) rfl rfl rfl (by simp) ?_
 refine rS ?_
 refine rS ?_
 refine WP.seq ?_
 refine rS ?_
 refine WP.block ?_
 refine WP.loopS [4,6,7,8,9,10,11,12,13,14] (λ k:Nat=>k<=n) (λ k=>[(4,.i .i64 k)]) (λ k=>[.var (pl λ _=>0),.var (pl (fillF (λ i=>i) k))]) (λ k=>n-k) 0 (by omega) (by rfl) (by rw[fill_zero];rfl) ?_
 intro k hk g
 refine WP.seq ?_
 refine rS ?_
 refine cI (λ hc=>?_) λ hc=>?_
 ·have hk:k<n:=by have:=of_decide_eq_true hc;omega
  refine WP.seq (WP.block ?_)
  refine rE ?_
  refine rE ?_
  refine⟨k+1,by omega,by omega,by(dsimp only;(repeat (first|(with_reducible exact Agree.refl)|((with_reducible refine Agree.hd ?_);exact rfl)|((with_reducible refine Agree.fup ?_ ?_);exact rfl)|((with_reducible refine Agree.inner ?_ ?_ ?_);exact rfl;exact rfl)))),by first|rfl|simp[Slots],by first|rfl|(simp only[upd,pl,dsf,cast1,Int.toNat_natCast,fup_u8,fup_b,fup_i64,dsf_up0,dsf_up1,dsf_up2];done)|(simp only[upd,pl,dsf,cast1,Int.toNat_natCast,fup_u8,fup_b,fup_i64,dsf_up0,dsf_up1,dsf_up2];first|(rw[fill_step (λ i=>i)];done)|(rw[fill_step (λ i=>i)];rfl))⟩
 ·have hk:k=n:=by have:=of_decide_eq_false hc;omega
  subst hk
  refine rS ?_
  exact WP.ret (Ends.val (by rfl) (by exact byObl) (by rfl) (by exact sc_pl _ _))
theorem same_fn(n:Nat)(hn:n<=16):FnP Tryz.prog 84 [.i .i64 n] (pl (fillF (λ i=>i) n)):=by
 refine FnS.into T tok Tryz.func84 (by rfl) rfl rfl rfl (by simp) ?_
 refine rS ?_
 refine rS ?_
 refine WP.seq ?_
 refine rS ?_
 refine WP.block ?_
 refine WP.loopS [4,7,8,9,10,11,12,13,14] (λ k:Nat=>k<=n) (λ k=>[(7,.i .i64 k)]) (λ k=>[.var (pl λ _=>0),.var (pl (fillF (λ i=>i) k))]) (λ k=>n-k) 0 (by omega) (by rfl) (by rw[fill_zero];rfl) ?_
 intro k hk g
 refine rS ?_
 refine WP.seq ?_
 refine cI (λ hc=>?_) λ hc=>?_
 ·have hk:k<n:=by have:=of_decide_eq_true hc;omega
  refine WP.seq (WP.block ?_)
  refine rS ?_
  refine rE ?_
  refine rE ?_
  refine⟨k+1,by omega,by omega,by(dsimp only;(repeat (first|(with_reducible exact Agree.refl)|((with_reducible refine Agree.hd ?_);exact rfl)|((with_reducible refine Agree.fup ?_ ?_);exact rfl)|((with_reducible refine Agree.inner ?_ ?_ ?_);exact rfl;exact rfl)))),by first|rfl|simp[Slots],by first|rfl|(simp only[upd,pl,dsf,cast1,Int.toNat_natCast,fup_u8,fup_b,fup_i64,dsf_up0,dsf_up1,dsf_up2];done)|(simp only[upd,pl,dsf,cast1,Int.toNat_natCast,fup_u8,fup_b,fup_i64,dsf_up0,dsf_up1,dsf_up2];first|(rw[fill_step (λ i=>i)];done)|(rw[fill_step (λ i=>i)];rfl))⟩
 ·have hk:k=n:=by have:=of_decide_eq_false hc;omega
  subst hk
  refine rS ?_
  exact WP.ret (Ends.val (by rfl) (by exact byObl) (by rfl) (by exact sc_pl _ _))
theorem l01Turn_fn(n:Nat)(h1:1<=n)(hn:n<=16):FnP Tryz.prog 93 [.i .i64 n] (pl (fillF (λ i=>(i+1) % n) n)):=by
 refine FnS.into T tok Tryz.func93 (by rfl) rfl rfl rfl (by simp) ?_
 refine rS ?_
 refine rS ?_
 refine WP.seq ?_
 refine rS ?_
 refine WP.block ?_
 refine WP.loopS [4,6,7,8,9,10,11,12,13,14,15,16,17] (λ k:Nat=>k<=n) (λ k=>[(4,.i .i64 k)]) (λ k=>[.var (pl λ _=>0),.var (pl (fillF (λ i=>(i+1) % n) k))]) (λ k=>n-k) 0 (by omega) (by rfl) (by rw[fill_zero];rfl) ?_
 intro k hk g
 refine WP.seq ?_
 refine rS ?_
 refine cI (λ hc=>?_) λ hc=>?_
 ·have hk:k<n:=by have:=of_decide_eq_true hc;omega
  have e1:((k:Int)+1).tmod n=(((k+1) % n:Nat):Int):=by rw[Int.tmod_eq_emod_of_nonneg (by omega)];simp
  have e2:=Nat.mod_lt (k+1) (show 0<n by omega)
  refine WP.seq (WP.block ?_)
  refine WP.region ?_
  refine rU 5 ?_
  rw[e1]
  refine rF ?_
  refine rE ?_
  refine⟨k+1,by omega,by omega,by(dsimp only;(repeat (first|(with_reducible exact Agree.refl)|((with_reducible refine Agree.hd ?_);exact rfl)|((with_reducible refine Agree.fup ?_ ?_);exact rfl)|((with_reducible refine Agree.inner ?_ ?_ ?_);exact rfl;exact rfl)))),by first|rfl|simp[Slots],by first|rfl|(simp only[upd,pl,dsf,cast1,Int.toNat_natCast,fup_u8,fup_b,fup_i64,dsf_up0,dsf_up1,dsf_up2];done)|(simp only[upd,pl,dsf,cast1,Int.toNat_natCast,fup_u8,fup_b,fup_i64,dsf_up0,dsf_up1,dsf_up2];first|(rw[fill_step (λ i=>(i+1) % n)];done)|(rw[fill_step (λ i=>(i+1) % n)];rfl))⟩
 ·have hk:k=n:=by have:=of_decide_eq_false hc;omega
  subst hk
  refine rS ?_
  exact WP.ret (Ends.val (by rfl) (by exact byObl) (by rfl) (by exact sc_pl _ _))
theorem l01Back_fn(p:Nat->Nat)(n:Nat)(hn:n<=16)(hp:∀i,i<n->p i<n):FnP Tryz.prog 114 [pl p,.i .i64 n] (pl (backTo p n)):=by
 refine FnS.into T tok Tryz.func114 (by rfl) rfl rfl rfl (by simp) ?_
 refine rS ?_
 refine rS ?_
 refine WP.seq ?_
 refine rS ?_
 refine WP.block ?_
 refine WP.loopS [6,8,9,10,11,12,13,14,15,16,17,18] (λ k:Nat=>k<=n) (λ k=>[(6,.i .i64 k)]) (λ k=>[.var (pl p),.var (pl λ _=>0),.var (pl (backTo p k))]) (λ k=>n-k) 0 (by omega) (by rfl) (by rfl) ?_
 intro k hk g
 refine WP.seq ?_
 refine rS ?_
 refine cI (λ hc=>?_) λ hc=>?_
 ·have hk:k<n:=by have:=of_decide_eq_true hc;omega
  have hpk:=hp k hk
  refine WP.seq (WP.block ?_)
  refine rE ?_
  refine rE ?_
  refine⟨k+1,by omega,by omega,by(dsimp only;(repeat (first|(with_reducible exact Agree.refl)|((with_reducible refine Agree.hd ?_);exact rfl)|((with_reducible refine Agree.fup ?_ ?_);exact rfl)|((with_reducible refine Agree.inner ?_ ?_ ?_);exact rfl;exact rfl)))),by first|rfl|simp[Slots],by first|rfl|(simp only[upd,pl,dsf,cast1,Int.toNat_natCast,fup_u8,fup_b,fup_i64,dsf_up0,dsf_up1,dsf_up2];done)|(simp only[upd,pl,dsf,cast1,Int.toNat_natCast,fup_u8,fup_b,fup_i64,dsf_up0,dsf_up1,dsf_up2];first|(rfl;done)|(rfl;rfl))⟩
 ·have hk:k=n:=by have:=of_decide_eq_false hc;omega
  subst hk
  refine rS ?_
  exact WP.ret (Ends.val (by rfl) (by exact byObl) (by rfl) (by exact sc_pl _ _))
theorem back_fn(p:Nat->Nat)(n:Nat)(hn:n<=16)(hp:∀i,i<n->p i<n):FnP Tryz.prog 90 [pl p,.i .i64 n] (pl (backTo p n)):=by
 refine FnS.into T tok Tryz.func90 (by rfl) rfl rfl rfl (by simp) ?_
 refine rS ?_
 refine rS ?_
 refine WP.seq ?_
 refine rS ?_
 refine WP.block ?_
 refine WP.loopS [6,9,10,11,12,13,14,15,16,17,18] (λ k:Nat=>k<=n) (λ k=>[(9,.i .i64 k)]) (λ k=>[.var (pl p),.var (pl λ _=>0),.var (pl (backTo p k))]) (λ k=>n-k) 0 (by omega) (by rfl) (by rfl) ?_
 intro k hk g
 refine rS ?_
 refine WP.seq ?_
 refine cI (λ hc=>?_) λ hc=>?_
 ·have hk:k<n:=by have:=of_decide_eq_true hc;omega
  have hpk:=hp k hk
  refine WP.seq (WP.block ?_)
  refine rS ?_
  refine rE ?_
  refine rE ?_
  refine⟨k+1,by omega,by omega,by(dsimp only;(repeat (first|(with_reducible exact Agree.refl)|((with_reducible refine Agree.hd ?_);exact rfl)|((with_reducible refine Agree.fup ?_ ?_);exact rfl)|((with_reducible refine Agree.inner ?_ ?_ ?_);exact rfl;exact rfl)))),by first|rfl|simp[Slots],by first|rfl|(simp only[upd,pl,dsf,cast1,Int.toNat_natCast,fup_u8,fup_b,fup_i64,dsf_up0,dsf_up1,dsf_up2];done)|(simp only[upd,pl,dsf,cast1,Int.toNat_natCast,fup_u8,fup_b,fup_i64,dsf_up0,dsf_up1,dsf_up2];first|(rfl;done)|(rfl;rfl))⟩
 ·have hk:k=n:=by have:=of_decide_eq_false hc;omega
  subst hk
  refine rS ?_
  exact WP.ret (Ends.val (by rfl) (by exact byObl) (by rfl) (by exact sc_pl _ _))
theorem l01Then_fn(p q:Nat->Nat)(n:Nat)(hn:n<=16)(hp:∀i,i<n->p i<n):FnP Tryz.prog 66 [pl p,pl q,.i .i64 n] (pl (fillF (λ i=>q (p i)) n)):=by
 refine FnS.into T tok Tryz.func66 (by rfl) rfl rfl rfl (by simp) ?_
 refine rS ?_
 refine rS ?_
 refine WP.seq ?_
 refine rS ?_
 refine WP.block ?_
 refine WP.loopS [8,10,11,12,13,14,15,16,17,18,19,20,21] (λ k:Nat=>k<=n) (λ k=>[(8,.i .i64 k)]) (λ k=>[.var (pl p),.var (pl q),.var (pl λ _=>0),.var (pl (fillF (λ i=>q (p i)) k))]) (λ k=>n-k) 0 (by omega) (by rfl) (by rw[fill_zero];rfl) ?_
 intro k hk g
 refine WP.seq ?_
 refine rS ?_
 refine cI (λ hc=>?_) λ hc=>?_
 ·have hk:k<n:=by have:=of_decide_eq_true hc;omega
  have hpk:=hp k hk
  refine WP.seq (WP.block ?_)
  refine rE ?_
  refine rE ?_
  refine⟨k+1,by omega,by omega,by(dsimp only;(repeat (first|(with_reducible exact Agree.refl)|((with_reducible refine Agree.hd ?_);exact rfl)|((with_reducible refine Agree.fup ?_ ?_);exact rfl)|((with_reducible refine Agree.inner ?_ ?_ ?_);exact rfl;exact rfl)))),by first|rfl|simp[Slots],by first|rfl|(simp only[upd,pl,dsf,cast1,Int.toNat_natCast,fup_u8,fup_b,fup_i64,dsf_up0,dsf_up1,dsf_up2];done)|(simp only[upd,pl,dsf,cast1,Int.toNat_natCast,fup_u8,fup_b,fup_i64,dsf_up0,dsf_up1,dsf_up2];first|(rw[fill_step (λ i=>q (p i))];done)|(rw[fill_step (λ i=>q (p i))];rfl))⟩
 ·have hk:k=n:=by have:=of_decide_eq_false hc;omega
  subst hk
  refine rS ?_
  exact WP.ret (Ends.val (by rfl) (by exact byObl) (by rfl) (by exact sc_pl _ _))
theorem then_fn(p q:Nat->Nat)(n:Nat)(hn:n<=16)(hp:∀i,i<n->p i<n):FnP Tryz.prog 85 [pl p,pl q,.i .i64 n] (pl (fillF (λ i=>q (p i)) n)):=by
 refine FnS.into T tok Tryz.func85 (by rfl) rfl rfl rfl (by simp) ?_
 refine rS ?_
 refine rS ?_
 refine WP.seq ?_
 refine rS ?_
 refine WP.block ?_
 refine WP.loopS [8,11,12,13,14,15,16,17,18,19,20,21] (λ k:Nat=>k<=n) (λ k=>[(11,.i .i64 k)]) (λ k=>[.var (pl p),.var (pl q),.var (pl λ _=>0),.var (pl (fillF (λ i=>q (p i)) k))]) (λ k=>n-k) 0 (by omega) (by rfl) (by rw[fill_zero];rfl) ?_
 intro k hk g
 refine rS ?_
 refine WP.seq ?_
 refine cI (λ hc=>?_) λ hc=>?_
 ·have hk:k<n:=by have:=of_decide_eq_true hc;omega
  have hpk:=hp k hk
  refine WP.seq (WP.block ?_)
  refine rS ?_
  refine rE ?_
  refine rE ?_
  refine⟨k+1,by omega,by omega,by(dsimp only;(repeat (first|(with_reducible exact Agree.refl)|((with_reducible refine Agree.hd ?_);exact rfl)|((with_reducible refine Agree.fup ?_ ?_);exact rfl)|((with_reducible refine Agree.inner ?_ ?_ ?_);exact rfl;exact rfl)))),by first|rfl|simp[Slots],by first|rfl|(simp only[upd,pl,dsf,cast1,Int.toNat_natCast,fup_u8,fup_b,fup_i64,dsf_up0,dsf_up1,dsf_up2];done)|(simp only[upd,pl,dsf,cast1,Int.toNat_natCast,fup_u8,fup_b,fup_i64,dsf_up0,dsf_up1,dsf_up2];first|(rw[fill_step (λ i=>q (p i))];done)|(rw[fill_step (λ i=>q (p i))];rfl))⟩
 ·have hk:k=n:=by have:=of_decide_eq_false hc;omega
  subst hk
  refine rS ?_
  exact WP.ret (Ends.val (by rfl) (by exact byObl) (by rfl) (by exact sc_pl _ _))
theorem l01SameI_fn(n:Int)(hn:n<=0):FnP Tryz.prog 57 [.i .i64 n] (pl (fillF (λ i=>i) n.toNat)):=by
 have e:pl (fillF (λ i=>i) n.toNat)=pl λ _=>0:=by
  rw[show n.toNat=0 by omega,fill_zero]
 rw[e]
 refine FnS.into T tok Tryz.func57 (by rfl) rfl rfl rfl (by simp) ?_
 refine rS ?_
 refine rS ?_
 refine WP.seq ?_
 refine rS ?_
 refine WP.block ?_
 refine WP.loopH (⟨λ k:Nat=>k=0,λ k=>[(0,.i .i64 n),(2,.p 0 [] 0),(3,.p 1 [] 0),(4,.i .i64 (k:Int))],λ k=>[.var (pl λ _=>0),.var (pl λ _=>0)],λ k=>0⟩) (0) (rfl) (gC [0,1] (leC (leC leZ))) ?_
 intro k hk
 dsimp only at hk
 subst hk
 dsimp only[Hd.at]
 refine WP.seq ?_
 refine rS ?_
 refine cI (λ hc=>?_) λ hc=>?_
 ·have hc:=of_decide_eq_true hc
  exact absurd hc (by omega)
 ·refine rS ?_
  exact WP.ret (Ends.val (by rfl) (by exact byObl) (by rfl) (by exact sc_pl _ _))
structure Bt(b:Nat)(p:Nat->Nat):Prop where
 lt:∀i,p i<b
 z:∀i,16<=i->p i=0
theorem Bt.up{b:Nat}{p:Nat->Nat}(h:Bt b p){i v:Nat}(hi:i<16)(hv:v<b):Bt b (up p i v):=⟨λ k=>by
 unfold Go.Proofs.YthjnmlpibafbnaaGreat.up
 split
 ·exact hv
 ·exact h.lt k,λ k hk=>by rw[up_ne _ _ (by omega)];exact h.z k hk⟩
theorem Bt.mono{b c:Nat}{p:Nat->Nat}(h:Bt b p)(hb:b<=c):Bt c p:=⟨λ i=>Nat.lt_of_lt_of_le (h.lt i) hb,h.z⟩
def bN(n:Int):Nat:=if 1<=n then n.toNat else 1
theorem bN_le{n:Int}(hn:n<=16):bN n<=16:=by unfold bN;split<;>omega
theorem bN_pos(n:Int):1<=bN n:=by unfold bN;split<;>omega
theorem bN_nat{n:Nat}(h:1<=n):bN n=n:=by unfold bN;rw[if_pos (by omega)];rfl
theorem bt_fill{n:Int}(hn:n<=16):Bt (bN n) (fillF (λ i=>i) n.toNat):=⟨λ i=>by
 have:=bN_pos n
 show(if i<n.toNat then i else 0)<bN n
 split
 ·unfold bN;rw[if_pos (by omega)];assumption
 ·exact this,λ i hi=>by
 show(if i<n.toNat then i else 0)=0
 rw[if_neg (by omega)]⟩
theorem l01SameA_fn(n:Int)(hn:n<=16):∃p:Nat->Nat,Bt (bN n) p/\FnP Tryz.prog 57 [.i .i64 n] (pl p):=by
 by_cases h:n<=0
 ·exact⟨_,bt_fill hn,l01SameI_fn n h⟩
 ·obtain⟨N,rfl⟩:∃N:Nat,n=N:=⟨n.toNat,by omega⟩
  exact⟨_,bt_fill hn,l01Same_fn N (by omega)⟩
theorem l01DrawPlaces_fn(len:Nat)(g:Nat->Nat)(hg:∀j,g j<256)(a:Nat)(h:Int)(n:Int)(hn:n<=16)(hn2:-9223372036854775808<n)(ha:a<=len)(hl:len<=4294967296):
  FnS Tryz.prog 116 [.p 0 [] 0,.i .i64 n] [.var (srcD len g a h)] λ r m'=>∃(p:Nat->Nat) (a':Nat) (h':Int),r=pl p/\Bt (bN n) p/\a'<=len/\m'=[.var (srcD len g a' h')]:=by
 have hSc:∀(k:Nat) (h:Int),Sc k (srcD len g a h):=λ k h=>sc_src k len g a h
 obtain⟨p,hp,hsm⟩:=l01SameA_fn n hn
 have hnx:=l01Next_fn len g hg a h 8 ha hl
 refine FnS.intoE T tok Tryz.func116 (by rfl) rfl rfl rfl (by simp) ?_
 refine rS ?_
 refine WP.rw ?_
 refine rU 1 ?_
 refine cA (hsm) ?_
 refine rF ?_
 refine WP.seq ?_
 refine WP.rw ?_
 refine rU 1 ?_
 refine WPL.callE [0] (hnx) (leC leZ) (by rfl) (by rfl) (by exact byArgs) (by rfl) (by rfl) (by simp[Sc,sc_pl,sc_ds]) ?_
 rintro _ _ ⟨x,a',h',rfl,hx1,_,ha',rfl⟩
 refine⟨⟨λ d hd=>by cases hd;exact sc_src _ _ _ _ _,trivial⟩,.i .i64 x,⟨rfl,trivial⟩,trivial,?_⟩
 refine WPL.mem (by rfl) ?_
 have hSc:∀(k:Nat) (h:Int),Sc k (srcD len g a' h):=λ k h=>sc_src k len g a' h
 refine rF ?_
 refine cS (λ hx=>?_) λ hx=>?_
 ·refine rS ?_
  exact WP.ret (Ends.newE [0] (⟨p,a',h',rfl,hp,ha',rfl⟩) (.inl rfl) (by rfl) (by exact byObl) (leC leZ) rfl rfl (⟨rfl,sc_pl _ _⟩) (sc_pl _ _))
 clear hx
 refine WP.seq ?_
 refine rS ?_
 refine WP.block ?_
 refine WP.loopH (⟨λ z:Int×(Nat->Nat)×Nat×Int=>z.1<=15/\Bt (bN n) z.2.1/\z.2.2.1<=len,λ z=>[(0,.p 0 [] 0),(4,.p 1 [] 0),(5,.p 2 [] 0),(6,.i .i64 z.1)],λ z=>[.var (srcD len g z.2.2.1 z.2.2.2),.var (pl λ _=>0),.var (pl z.2.1)],λ z=>z.1.toNat⟩) ((n-1,p,a',h')) (⟨by omega,hp,ha'⟩) (gC [0,1,2] (leC (leC (leC leZ)))) ?_
 rintro⟨i,q,c,h1⟩ ⟨hi,hq,hcl⟩
 dsimp only at hi hq hcl
 dsimp only[Hd.at]
 have hSc:∀(k:Nat) (h:Int),Sc k (srcD len g c h):=λ k h=>sc_src k len g c h
 refine WP.seq ?_
 refine rS ?_
 refine cI (λ hc=>?_) λ hc=>?_
 ·obtain⟨k,rfl⟩:∃k:Nat,i=k:=⟨i.toNat,by have:=of_decide_eq_true hc;omega⟩
  have hk0:0<k:=by have:=of_decide_eq_true hc;omega
  clear hc
  have hnx2:=l01Next_fn len g hg c h1 ((k:Int)+1) hcl hl
  refine WP.seq (WP.block ?_)
  refine WP.rw ?_
  refine rU 3 ?_
  refine WPL.callE [0] (hnx2) (leC leZ) (by rfl) (by rfl) (by exact byArgs) (by rfl) (by rfl) (by simp[Sc,sc_pl,sc_ds]) ?_
  rintro _ _ ⟨y,c',h2,rfl,hy1,_,hc',rfl⟩
  obtain⟨y0,y1⟩:=hy1 (by omega)
  obtain⟨t,rfl⟩:∃t:Nat,y=t:=⟨y.toNat,by omega⟩
  refine⟨⟨λ d hd=>by cases hd;exact sc_src _ _ _ _ _,trivial⟩,.i .i64 (t:Int),⟨rfl,trivial⟩,trivial,?_⟩
  refine WPL.mem (by rfl) ?_
  have hSc:∀(k:Nat) (h:Int),Sc k (srcD len g c' h):=λ k h=>sc_src k len g c' h
  have hb16:=bN_le hn
  have hqk:=hq.lt k
  have hqt:=hq.lt t
  have hup:Bt (bN n) (up (up q k (q t)) t (q k)):=(hq.up (by omega) hqt).up (by omega) hqk
  refine rF ?_
  refine rS ?_
  refine rS ?_
  refine WP.ghost (gC [0,1,2] (leC (leC (leC leZ))) (l:=[(0,.p 0 [] 0),(4,.p 1 [] 0),(5,.p 2 [] 0),(6,.i .i64 (k:Int)),(7,.i .i64 (t:Int)),(8,.i .u8 ((q k:Nat):Int))]) (m':=[.var (srcD len g c' h2),.var (pl λ _=>0),.var (pl (up q k (q t)))])) ?_
  refine rE ?_
  refine rE ?_
  refine Again.next (((k:Int)-1,up (up q k (q t)) t (q k),c',h2)) (gC [0,1,2] (leC (leC (leC leZ)))) (⟨by omega,hup,hc'⟩) (by dsimp only;omega)
 ·refine rS ?_
  exact WP.ret (Ends.newE [0] (⟨q,c,h1,rfl,hq,hcl,rfl⟩) (.inl rfl) (by rfl) (by exact byObl) (leC leZ) rfl rfl (⟨rfl,sc_pl _ _⟩) (sc_pl _ _))
theorem minD_ok{P:Program}{o:Oper}{fr:Nat->Dat}{m:List Root}{x y:Operand}{ts:Array TypeId}{k:IntKind}{a b:Int}(ho:o.op=.call { callee:=.builtin .min,args:=#[x,y],argTypes:=ts })(hx:ev fr x=.i k a)(hy:ev fr y=.i k b):QOK P o fr m (.i k (if b<a then b else a)) m:=
 .of_run λ N ρ ac w hf hr=>by
  obtain⟨h0,_⟩:=ev_eq hf (x:=x) hx (by simp)
  obtain⟨h1,_⟩:=ev_eq hf (x:=y) hy (by simp)
  refine⟨?_,trivial,trivial,trivial⟩
  simp[execOp,ho,resolve,invoke,builtin,h0,h1,enc,leaf,Builtin.min_,Builtin.min2,Result.andThen]
theorem l01Pairs_fn(len:Nat)(g:Nat->Nat)(hg:∀j,g j<256)(a:Nat)(h:Int)(n:Nat)(most:Int)(hn1:1<=n)(hn:n<=16)(hm:most<=1000)(ha:a<=len)(hl:len<=4294967296):
  FnS Tryz.prog 115 [.p 0 [] 0,.i .i64 (n:Int),.i .i64 most] [.var (srcD len g a h)] λ r m'=>∃(p:Nat->Nat) (a':Nat) (h':Int),r=pl p/\Bt n p/\a'<=len/\m'=[.var (srcD len g a' h')]:=by
 have hSc:∀(k:Nat) (h:Int),Sc k (srcD len g a h):=λ k h=>sc_src k len g a h
 have hdp:=l01DrawPlaces_fn len g hg a h (n:Int) (by omega) (by omega) ha hl
 refine FnS.intoE T tok Tryz.func115 (by rfl) rfl rfl rfl (by simp) ?_
 refine rS ?_
 refine WP.rw ?_
 refine rU 2 ?_
 refine WPL.callE [0] (hdp) (leC leZ) (by rfl) (by rfl) (by exact byArgs) (by rfl) (by rfl) (by simp[Sc,sc_pl,sc_ds]) ?_
 rintro _ _ ⟨p,a',h',rfl,hp,ha',rfl⟩
 rw[bN_nat hn1] at hp
 refine⟨⟨λ d hd=>by cases hd;exact sc_src _ _ _ _ _,trivial⟩,pl p,⟨rfl,sc_pl _ _⟩,sc_pl _ _,?_⟩
 refine WPL.mem (by rfl) ?_
 have hSc:∀(k:Nat) (h:Int),Sc k (srcD len g a' h):=λ k h=>sc_src k len g a' h
 refine rU 1 ?_
 refine cA (l01Same_fn n hn) ?_
 refine rF ?_
 refine WP.seq ?_
 refine rS ?_
 refine WP.block ?_
 refine WP.loopH (⟨λ z:Nat×(Nat->Nat)×Nat×Int=>z.1<=n/\Bt n z.2.1/\z.2.2.1<=len,λ z=>[(0,.p 0 [] 0),(1,.i .i64 (n:Int)),(2,.i .i64 most),(6,.p 1 [] 0),(7,.p 2 [] 0),(8,.p 3 [] 0),(9,.i .i64 (z.1:Int))],λ z=>[.var (srcD len g z.2.2.1 z.2.2.2),.var (pl λ _=>0),.var (pl p),.var (pl z.2.1)],λ z=>n-z.1⟩) ((0,fillF (λ i=>i) n,a',h')) (⟨Nat.zero_le _,by have:=bt_fill (n:=(n:Int)) (by omega);rw[bN_nat hn1] at this;exact this,ha'⟩) (gC [0,1,2,3] (leC (leC (leC (leC leZ))))) ?_
 rintro⟨x,q,c,h1⟩ ⟨hx,hq,hcl⟩
 dsimp only at hx hq hcl
 dsimp only[Hd.at]
 have hSc:∀(k:Nat) (h:Int),Sc k (srcD len g c h):=λ k h=>sc_src k len g c h
 refine WP.seq ?_
 refine rS ?_
 refine cI (λ hc=>?_) λ hc=>?_
 ·have hx:x<n:=by have:=of_decide_eq_true hc;omega
  clear hc
  have hnx:=l01Next_fn len g hg c h1 most hcl hl
  refine WP.block ?_
  refine WP.rw ?_
  refine rU 2 ?_
  refine WPL.callE [0] (hnx) (leC leZ) (by rfl) (by rfl) (by exact byArgs) (by rfl) (by rfl) (by simp[Sc,sc_pl,sc_ds]) ?_
  rintro _ _ ⟨y,c',h2,rfl,hy1,hy0,hc',rfl⟩
  obtain⟨t,rfl,htm⟩:∃t:Nat,y=t/\t<=1000:=by
   by_cases h:1<=most
   ·obtain⟨g1,g2⟩:=hy1 h;exact⟨y.toNat,by omega,by omega⟩
   ·have:=hy0 (by omega);exact⟨0,by omega,by omega⟩
  refine⟨⟨λ d hd=>by cases hd;exact sc_src _ _ _ _ _,trivial⟩,.i .i64 (t:Int),⟨rfl,trivial⟩,trivial,?_⟩
  refine WPL.mem (by rfl) ?_
  have hSc:∀(k:Nat) (h:Int),Sc k (srcD len g c' h):=λ k h=>sc_src k len g c' h
  refine rU 4 ?_
  refine WPL.op (by rfl) (by rfl) (QOK.op (minD_ok rfl rfl rfl)) ?_
  obtain⟨L,eL,hL1,hL2⟩:∃L:Nat,(if(n:Int)-(x:Int)<1+(t:Int) then(n:Int)-(x:Int) else 1+(t:Int))=(L:Int)/\1<=L/\x+L<=n:=by
   split
   ·exact⟨n-x,by omega,by omega,by omega⟩
   ·exact⟨1+t,by omega,by omega,by omega⟩
  rw[eL]
  refine rF ?_
  refine WP.seq ?_
  refine rS ?_
  refine WP.block ?_
  refine WP.loopH (⟨λ z:Nat×(Nat->Nat)=>z.1<=L/\Bt n z.2,λ z=>[(0,.p 0 [] 0),(1,.i .i64 (n:Int)),(2,.i .i64 most),(6,.p 1 [] 0),(7,.p 2 [] 0),(8,.p 3 [] 0),(9,.i .i64 (x:Int)),(10,.i .i64 (L:Int)),(11,.i .i64 (z.1:Int))],λ z=>[.var (srcD len g c' h2),.var (pl λ _=>0),.var (pl p),.var (pl z.2)],λ z=>L-z.1⟩) ((0,q)) (⟨Nat.zero_le _,hq⟩) (gC [0,1,2,3] (leC (leC (leC (leC leZ))))) ?_
  rintro⟨j,q1⟩ ⟨hj,hq1⟩
  dsimp only at hj hq1
  dsimp only[Hd.at]
  refine WP.seq ?_
  refine rS ?_
  refine cI (λ hc=>?_) λ hc=>?_
  ·have hj:j<L:=by have:=of_decide_eq_true hc;omega
   clear hc
   have hb0:0<=((j:Int)+1).tmod (L:Int):=Int.tmod_nonneg _ (by omega)
   have hb1:((j:Int)+1).tmod (L:Int)<L:=Int.tmod_lt_of_pos _ (by omega)
   have hp1:=hp.lt ((x:Int)+(j:Int)).toNat
   have hp2:=hp.lt (x+j)
   have hp3:=hp.lt ((x:Int)+((j:Int)+1).tmod (L:Int)).toNat
   refine WP.seq (WP.block ?_)
   refine WP.da (by kernel_rfl) 14 (by kernel_rfl) ?_
   refine WA.takes T false tok [0,1,2,3,4,5,6,7,8,9,10] (f':=4) (by kernel_rfl) (by rfl) (by rfl) (by rfl) (by exact byObl) (by rfl) (by rfl) ?_
   refine WA.takes T false tok [11,12,13] (f':=1) (by kernel_rfl) (by rfl) (by rfl) (by rfl) (by exact byObl) (by rfl) (by rfl) ?_
   refine WA.tail (by rfl) (by rfl) (by kernel_rfl) ?_
   refine rF ?_
   refine noPan ?_
   refine rE ?_
   refine Again.next ((j+1,up q1 (p ((x:Int)+(j:Int)).toNat) (p ((x:Int)+((j:Int)+1).tmod (L:Int)).toNat))) (gC [0,1,2,3] (leC (leC (leC (leC leZ))))) (⟨by omega,hq1.up (by omega) hp3⟩) (by dsimp only;omega)
  ·have hj:j=L:=by have:=of_decide_eq_false hc;omega
   subst hj
   clear hc
   refine rE ?_
   refine Again.next ((x+j,q1,c',h2)) (gC [0,1,2,3] (leC (leC (leC (leC leZ))))) (⟨by omega,hq1,hc'⟩) (by dsimp only;omega)
 ·refine rS ?_
  exact WP.ret (Ends.newE [0] (⟨q,c,h1,rfl,hq,hcl,rfl⟩) (.inl rfl) (by rfl) (by exact byObl) (leC leZ) rfl rfl (⟨rfl,sc_pl _ _⟩) (sc_pl _ _))
theorem l01Star_fn(n:Nat)(h1:1<=n)(hn:n<=16):FnP Tryz.prog 65 [.i .i64 n] (ds_ n (fillF (λ i=>(i+1) % n) n) (fillF (λ i=>i) n)):=by
 refine FnS.into T tok Tryz.func65 (by rfl) rfl rfl rfl (by simp) ?_
 refine rS ?_
 refine WP.rw ?_
 refine rU 2 ?_
 refine cA (l01Turn_fn n h1 hn) ?_
 refine rU 1 ?_
 refine cA (l01Same_fn n hn) ?_
 refine rF ?_
 exact WP.ret (Ends.val (by rfl) (by exact byObl) (by exact dsf_of rfl rfl rfl λ _=>rfl) (by exact sc_ds _ _ _ _))
end Go.Proofs.YthjnmlpibafbnaaGreat

namespace Go.Proofs.YthjnmlpibafbnaaGreat
open Go.RowKit DM
def bytesF(Q:List Nat)(j:Nat):Dat:=.i .u8 ((Q.getD j 0:Nat):Int)
theorem ap_bytes(Q:List Nat)(y:Nat)(z:Dat)(j:Nat)(hj:j<Q.length+1):bytesF (Q++[y]) j=apF Q.length (bytesF Q) 0 (fup (λ _=>z) 0 (.i .u8 ((y:Nat):Int))) j:=by
 unfold apF bytesF
 by_cases h:j<Q.length
 ·rw[show Nat.blt j Q.length=true from by rw[Nat.blt_eq];exact h]
  simp[List.getD_eq_getElem?_getD,List.getElem?_append_left h]
 ·have e:j=Q.length:=by omega
  subst e
  rw[show Nat.blt Q.length Q.length=false from by cases hh:Nat.blt Q.length Q.length with|false=>rfl|true=>rw[Nat.blt_eq] at hh;omega]
  simp[List.getD_eq_getElem?_getD,fup]
def bst(y:Nat)(s:List Nat×(Nat->Bool)):List Nat×(Nat->Bool):=bif s.2 y then s else(s.1++[y],up s.2 y true)
theorem bst_new{y:Nat}{Q:List Nat}{met:Nat->Bool}(h:met y=false):bst y (Q,met)=(Q++[y],up met y true):=by
 show(bif met y then _ else _)=_
 rw[h];rfl
theorem bst_old{y:Nat}{Q:List Nat}{met:Nat->Bool}(h:met y=true):bst y (Q,met)=(Q,met):=by
 show(bif met y then _ else _)=_
 rw[h];rfl
def brun(p q:Nat->Nat):Nat->Nat->List Nat×(Nat->Bool)->List Nat×(Nat->Bool)
 |0,_,s=>s
 |k+1,i,s=>if i<s.1.length then brun p q k (i+1) (bst (q (s.1.getD i 0)) (bst (p (s.1.getD i 0)) s)) else s
def bmu(i:Nat)(s:List Nat×(Nat->Bool)):Nat:=2*cntU 16 s.2+s.1.length-i
structure BInv(n:Nat)(s:List Nat×(Nat->Bool)):Prop where
 small:∀x∈s.1,x<n
 len:s.1.length+cntU 16 s.2<=16
theorem BInv.get{n:Nat}{s:List Nat×(Nat->Bool)}(h:BInv n s){i:Nat}(hi:i<s.1.length):s.1.getD i 0<n:=by
 rw[List.getD_eq_getElem?_getD,List.getElem?_eq_getElem hi]
 exact h.small _ (List.getElem_mem hi)
theorem cntU_up{met:Nat->Bool}{y:Nat}(hy:y<16)(h:met y=false):cntU 16 met=cntU 16 (up met y true)+1:=
 (cntU_set (i:=y) (f:=met) (g:=up met y true) h (up_same _ _ _) (λ _ hj=>up_ne _ _ hj) (n:=16)).1 hy
theorem BInv.bst{n:Nat}(hn:n<=16){s:List Nat×(Nat->Bool)}(h:BInv n s){y:Nat}(hy:y<n):BInv n (bst y s):=by
 unfold Go.Proofs.YthjnmlpibafbnaaGreat.bst
 cases hm:s.2 y with
 |true=>exact h
 |false=>
  have hc:=cntU_up (met:=s.2) (y:=y) (by omega) hm
  refine⟨λ x hx=>?_,?_⟩
  ·simp only[cond_false,List.mem_append,List.mem_singleton] at hx
   rcases hx with hx|rfl
   ·exact h.small x hx
   ·exact hy
  ·have:=h.len
   simp only[cond_false,List.length_append,List.length_singleton]
   omega
theorem bmu_bst{n:Nat}(hn:n<=16){s:List Nat×(Nat->Bool)}{y:Nat}(hy:y<n)(i:Nat)(hi:i<=s.1.length):bmu i (bst y s)<=bmu i s/\s.1.length<=(bst y s).1.length:=by
 unfold bst bmu
 cases hm:s.2 y with
 |true=>exact⟨Nat.le_refl _,Nat.le_refl _⟩
 |false=>
  have hc:=cntU_up (met:=s.2) (y:=y) (by omega) hm
  simp only[cond_false,List.length_append,List.length_singleton]
  constructor<;>omega
theorem bmu_round{n:Nat}(hn:n<=16){p q:Nat->Nat}(hp:∀i,i<n->p i<n)(hq:∀i,i<n->q i<n){s:List Nat×(Nat->Bool)}(h:BInv n s){i:Nat}(hi:i<s.1.length):
  BInv n (bst (q (s.1.getD i 0)) (bst (p (s.1.getD i 0)) s))/\bmu (i+1) (bst (q (s.1.getD i 0)) (bst (p (s.1.getD i 0)) s))<bmu i s:=by
 have hx:=h.get hi
 have h1:=h.bst hn (hp _ hx)
 have h2:=h1.bst hn (hq _ hx)
 obtain⟨g1,g2⟩:=bmu_bst hn (s:=s) (hp _ hx) i (by omega)
 obtain⟨g3,g4⟩:=bmu_bst hn (s:=bst (p (s.1.getD i 0)) s) (hq _ hx) i (by omega)
 refine⟨h2,?_⟩
 have:bmu (i+1) (bst (q (s.1.getD i 0)) (bst (p (s.1.getD i 0)) s))+1=bmu i (bst (q (s.1.getD i 0)) (bst (p (s.1.getD i 0)) s)):=by
  unfold bmu;omega
 omega
theorem brun_more{n:Nat}(hn:n<=16){p q:Nat->Nat}(hp:∀i,i<n->p i<n)(hq:∀i,i<n->q i<n):∀(k k' i:Nat) (s:List Nat×(Nat->Bool)),BInv n s->bmu i s<=k->bmu i s<=k'->brun p q k i s=brun p q k' i s
 |0,0,i,s,_,_,_=>rfl
 |0,k'+1,i,s,h,hk,_=>by
  simp only[brun]
  rw[if_neg (by unfold bmu at hk;omega)]
 |k+1,0,i,s,h,_,hk=>by
  simp only[brun]
  rw[if_neg (by unfold bmu at hk;omega)]
 |k+1,k'+1,i,s,h,hk,hk'=>by
  simp only[brun]
  split
  ·rename_i hi
   obtain⟨g1,g2⟩:=bmu_round hn hp hq h hi
   exact brun_more hn hp hq k k' (i+1) _ g1 (by omega) (by omega)
  ·rfl
def bres(p q:Nat->Nat)(i:Nat)(s:List Nat×(Nat->Bool)):List Nat×(Nat->Bool):=brun p q (bmu i s) i s
theorem bres_step{n:Nat}(hn:n<=16){p q:Nat->Nat}(hp:∀i,i<n->p i<n)(hq:∀i,i<n->q i<n){i:Nat}{s:List Nat×(Nat->Bool)}(h:BInv n s)(hi:i<s.1.length):
  bres p q (i+1) (bst (q (s.1.getD i 0)) (bst (p (s.1.getD i 0)) s))=bres p q i s:=by
 obtain⟨g1,g2⟩:=bmu_round hn hp hq h hi
 unfold bres
 rw[show bmu i s=(bmu i s-1)+1 by omega]
 simp only[brun,if_pos hi]
 exact brun_more hn hp hq _ _ _ _ g1 (Nat.le_refl _) (by omega)
theorem bres_end{p q:Nat->Nat}{i:Nat}{s:List Nat×(Nat->Bool)}(hi:¬i<s.1.length):bres p q i s=s:=by
 unfold bres
 cases bmu i s with
 |zero=>rfl
 |succ k=>simp only[brun,if_neg hi]
def b0:List Nat×(Nat->Bool):=([0],up (λ _=>false) 0 true)
theorem b0_inv{n:Nat}(h1:1<=n):BInv n b0:=⟨λ x hx=>by simp[b0] at hx;omega,by show 1+cntU 16 _<=16;decide⟩
def bfs(p q:Nat->Nat):List Nat:=(bres p q 0 b0).1
end Go.Proofs.YthjnmlpibafbnaaGreat

namespace Go.Proofs.YthjnmlpibafbnaaGreat
open Go.RowKit DM
set_option linter.unusedSimpArgs false
set_option linter.unusedVariables false
set_option maxRecDepth 100000
set_option maxHeartbeats 1000000
theorem l01Connected_fn(p q:Nat->Nat)(n:Nat)(h1:1<=n)(hn:n<=16)(hp:∀i,i<n->p i<n)(hq:∀i,i<n->q i<n):FnP Tryz.prog 72 [.i .i64 n,pl p,pl q] (.b (decide (((bfs p q).length:Int)=n))):=by
 refine FnS.into T tok Tryz.func72 (by rfl) rfl rfl rfl (by simp) ?_
 refine rS ?_
 refine rS ?_
 refine rS ?_
 refine WP.seq ?_
 refine rS ?_
 refine WP.block ?_
 refine WP.loopH (⟨λ x:Nat×(List Nat×(Nat->Bool))=>BInv n x.2/\x.1<=x.2.1.length/\bres p q x.1 x.2=bres p q 0 b0,λ x=>[(0,.i .i64 n),(4,.p 0 [] 0),(5,.p 1 [] 0),(7,.p 2 [] 0),(8,.sl 3 0 x.2.1.length 1),(9,.i .i64 (x.1:Int))],λ x=>[.var (pl p),.var (pl q),.var (bl x.2.2),.row 5 x.2.1.length 1 (bytesF x.2.1)],λ x=>bmu x.1 x.2⟩) ((0,b0)) (⟨b0_inv h1,by decide,rfl⟩) (gC [0,1,3,2] (by repeat (first|exact trivial|(refine lC ?_ ?_;first|exact byLz|(exact le_row (Nat.le_refl _) (λ j hj=>by obtain rfl:j=0:=(by have:j<1:=hj;omega);rfl))|exact byLeq)))) ?_
 rintro⟨i,Q,met⟩ ⟨hI,hle,hF⟩
 simp only at hI hle hF
 dsimp only[Hd.at]
 refine WP.seq ?_
 refine rS ?_
 refine cI (λ hc=>?_) λ hc=>?_
 ·have hi:i<Q.length:=by have:=of_decide_eq_true hc;omega
  clear hc
  have hx:Q.getD i 0<n:=hI.get hi
  have hpx:=hp _ hx
  have hqx:=hq _ hx
  have hI1:=hI.bst hn hpx
  have hI2:=hI1.bst hn hqx
  refine WP.seq (WP.block ?_)
  refine WP.seq ?_
  refine WP.da (by kernel_rfl) 12 (by kernel_rfl) ?_
  refine WA.takes T false tok [0,1,2,3,4,5] (f':=8) (by kernel_rfl) (by rfl) (by rfl) (by rfl) (by exact byObl) (by rfl) (by rfl) ?_
  refine WA.takes T false tok [6,7,8,9,10,11] (f':=2) (by kernel_rfl) (by rfl) (by rfl) (by rfl) (by exact byObl) (by rfl) (by rfl) ?_
  refine WA.tail (by rfl) (by rfl) (by kernel_rfl) ?_
  refine rF ?_
  refine noPan ?_
  refine rS ?_
  refine WP.block ?_
  refine WP.loopH (⟨λ x:Nat×(List Nat×(Nat->Bool))=>BInv n x.2/\((x.1=0/\x.2=(Q,met))\/(x.1=1/\x.2=bst (p (Q.getD i 0)) (Q,met))\/(x.1=2/\x.2=bst (q (Q.getD i 0)) (bst (p (Q.getD i 0)) (Q,met)))),λ x=>[(0,.i .i64 n),(4,.p 0 [] 0),(5,.p 1 [] 0),(7,.p 2 [] 0),(8,.sl 3 0 x.2.1.length 1),(9,.i .i64 (i:Int)),(10,.sl 4 0 2 1),(11,.i .i64 (x.1:Int))],λ x=>[.var (pl p),.var (pl q),.var (bl x.2.2),.row 5 x.2.1.length 1 (bytesF x.2.1),.row 5 2 1 (bytesF [p (Q.getD i 0),q (Q.getD i 0)])],λ x=>2-x.1⟩) ((0,(Q,met))) (⟨hI,.inl ⟨rfl,rfl⟩⟩) (gC [0,1,2,3,4] (by repeat (first|exact trivial|(refine lC ?_ ?_;first|exact byLz|(exact le_row (Nat.le_refl _) (λ j hj=>by rcases j with _|_|j<;>first|rfl|omega))|exact byLeq)))) ?_
  rintro⟨k,R,mt⟩ ⟨hJ,hk⟩
  simp only at hJ hk
  dsimp only[Hd.at]
  refine WP.seq ?_
  refine rS ?_
  refine cI (λ hc=>?_) λ hc=>?_
  ·have hk2:k<2:=by have:=of_decide_eq_true hc;omega
   clear hc
   refine WP.seq (WP.block ?_)
   have hy:[p (Q.getD i 0),q (Q.getD i 0)].getD k 0<n/\((k+1=1/\bst ([p (Q.getD i 0),q (Q.getD i 0)].getD k 0) (R,mt)=bst (p (Q.getD i 0)) (Q,met))\/(k+1=2/\bst ([p (Q.getD i 0),q (Q.getD i 0)].getD k 0) (R,mt)=bst (q (Q.getD i 0)) (bst (p (Q.getD i 0)) (Q,met)))):=by
    rcases hk with⟨rfl,e⟩|⟨rfl,e⟩|⟨rfl,e⟩
    ·exact⟨hpx,.inl ⟨rfl,by rw[e];rfl⟩⟩
    ·exact⟨hqx,.inr ⟨rfl,by rw[e];rfl⟩⟩
    ·omega
   obtain⟨hy1,hy2⟩:=hy
   have hJ1:=hJ.bst hn hy1
   have hlen:R.length<=16:=by have:=hJ.len;simp only at this;omega
   generalize hyy:[p (Q.getD i 0),q (Q.getD i 0)].getD k 0=y at hy1 hy2 hJ1
   have hb:bytesF [p (Q.getD i 0),q (Q.getD i 0)] k=.i .u8 ((y:Nat):Int):=by unfold bytesF;rw[hyy]
   have hy16:[p (Q.getD i 0),q (Q.getD i 0)].getD k 0<16:=by omega
   refine rS ?_
   cases hm:mt y
   ·have e1:bst y (R,mt)=(R++[y],up mt y true):=bst_new hm
    refine cS (λ h=>?_) λ h=>?_
    ·refine rS ?_
     refine rE ?_
     refine rE ?_
     refine Again.next ((k+1,(R++[y],up mt y true))) (gC [0,1,2,6,4] (by repeat (first|exact trivial|(refine lC ?_ ?_;first|exact byLz|(first|exact le_row (by simp) (λ j hj=>(ap_bytes R y _ j (by simpa using hj)).trans (by unfold bytesF;rw[<-hyy];rfl))|exact le_var (by rw[<-hyy];exact byVareq))|exact byLeq)))) (⟨e1▸hJ1,.inr (e1▸hy2)⟩) (by dsimp only;omega)
    ·have h2:(!mt ([p (Q.getD i 0),q (Q.getD i 0)].getD k 0))=_:=h;rw[hyy,hm] at h2;cases h2
   ·have e1:bst y (R,mt)=(R,mt):=bst_old hm
    refine cS (λ h=>?_) λ h=>?_
    ·have h2:(!mt ([p (Q.getD i 0),q (Q.getD i 0)].getD k 0))=_:=h;rw[hyy,hm] at h2;cases h2
    ·refine rE ?_
     refine Again.next ((k+1,(R,mt))) (gC [0,1,2,3,4] (leC (leC (leC (leC (leC leZ)))))) (⟨hJ,.inr (e1▸hy2)⟩) (by dsimp only;omega)
  ·have hk:k=2/\(R,mt)=bst (q (Q.getD i 0)) (bst (p (Q.getD i 0)) (Q,met)):=by
    have:=of_decide_eq_false hc
    rcases hk with⟨rfl,_⟩|⟨rfl,_⟩|h
    ·simp at this
    ·simp at this
    ·exact h
   obtain⟨rfl,e⟩:=hk
   have hr:=bmu_round hn hp hq hI hi
   have hs:=bres_step hn hp hq hI hi
   simp only at hr hs
   rw[<-e] at hr hs
   have hl:=bmu_bst hn (s:=(Q,met)) hpx i (by simp only;omega)
   have hl2:=bmu_bst hn (s:=bst (p (Q.getD i 0)) (Q,met)) hqx i (by simp only at hl ⊢;omega)
   rw[<-e] at hl2
   simp only at hl hl2
   have hQl:Q.length<=16:=by have:=hI.len;simp only at this;omega
   refine rE ?_
   refine Again.next ((i+1,(R,mt))) (gC [0,1,2,3] (leC (leC (leC (leC leZ))))) (⟨hr.1,by simp only;omega,hs.trans hF⟩) (by exact hr.2)
 ·have hi:¬i<Q.length:=by have:=of_decide_eq_false hc;omega
  have hB:bfs p q=Q:=by unfold bfs;rw[<-hF,bres_end hi]
  refine rS ?_
  rw[hB]
  exact WP.ret (Ends.val (by rfl) (by exact byObl) (by rfl) (by trivial))
def sel(p q:Nat->Nat)(k:Nat):Nat->Nat:=bif Nat.beq k 0 then p else q
theorem reached_fn(p q:Nat->Nat)(n:Nat)(h1:1<=n)(hn:n<=16)(hp:∀i,i<n->p i<n)(hq:∀i,i<n->q i<n):FnR Tryz.prog 41 [.i .i64 n,.sl 0 0 2 16] [.ro 2 16 (λ k=>pl (sel p q k))] (.i .i64 ((bfs p q).length:Int)):=by
 refine FnS.into T tok Tryz.func41 (by rfl) rfl rfl rfl (by simp) ?_
 refine rS ?_
 refine rS ?_
 refine rS ?_
 refine WP.seq ?_
 refine rS ?_
 refine WP.block ?_
 refine WP.loopH (⟨λ x:Nat×(List Nat×(Nat->Bool))=>BInv n x.2/\x.1<=x.2.1.length/\bres p q x.1 x.2=bres p q 0 b0,λ x=>[(1,.sl 0 0 2 16),(5,.p 1 [] 0),(6,.sl 2 0 x.2.1.length 1),(7,.i .i64 (x.1:Int))],λ x=>[.ro 2 16 (λ k=>pl (sel p q k)),.var (bl x.2.2),.row 5 x.2.1.length 1 (bytesF x.2.1)],λ x=>bmu x.1 x.2⟩) ((0,b0)) (⟨b0_inv h1,by decide,rfl⟩) (gC [0,1,2] (by repeat (first|exact trivial|(refine lC ?_ ?_;first|exact byLz|(exact le_row (Nat.le_refl _) (λ j hj=>by obtain rfl:j=0:=(by have:j<1:=hj;omega);rfl))|exact byLeq)))) ?_
 rintro⟨i,Q,met⟩ ⟨hI,hle,hF⟩
 simp only at hI hle hF
 dsimp only[Hd.at]
 refine WP.seq ?_
 refine rS ?_
 refine cI (λ hc=>?_) λ hc=>?_
 ·have hi:i<Q.length:=by have:=of_decide_eq_true hc;omega
  clear hc
  have hx:Q.getD i 0<n:=hI.get hi
  have hpx:=hp _ hx
  have hqx:=hq _ hx
  have hI1:=hI.bst hn hpx
  have hI2:=hI1.bst hn hqx
  refine WP.seq (WP.block ?_)
  refine rS ?_
  refine WP.block ?_
  refine WP.loopH (⟨λ x:Nat×(List Nat×(Nat->Bool))=>BInv n x.2/\i<x.2.1.length/\x.2.1.getD i 0=Q.getD i 0/\((x.1=0/\x.2=(Q,met))\/(x.1=1/\x.2=bst (p (Q.getD i 0)) (Q,met))\/(x.1=2/\x.2=bst (q (Q.getD i 0)) (bst (p (Q.getD i 0)) (Q,met)))),λ x=>[(1,.sl 0 0 2 16),(5,.p 1 [] 0),(6,.sl 2 0 x.2.1.length 1),(7,.i .i64 (i:Int)),(19,.sl 0 0 2 16),(20,.i .i64 2),(21,.i .i64 (x.1:Int))],λ x=>[.ro 2 16 (λ k=>pl (sel p q k)),.var (bl x.2.2),.row 5 x.2.1.length 1 (bytesF x.2.1)],λ x=>2-x.1⟩) ((0,(Q,met))) (⟨hI,hi,rfl,.inl ⟨rfl,rfl⟩⟩) (gC [0,1,2] (leC (leC (leC leZ)))) ?_
  rintro⟨k,R,mt⟩ ⟨hJ,hiR,hgR,hk⟩
  simp only at hJ hk hiR hgR
  dsimp only[Hd.at]
  refine rS ?_
  refine WP.seq ?_
  refine cI (λ hc=>?_) λ hc=>?_
  ·have hk2:k<2:=by have:=of_decide_eq_true hc;omega
   clear hc
   refine WP.seq (WP.block ?_)
   have hy:sel p q k (Q.getD i 0)<n/\((k+1=1/\bst (sel p q k (Q.getD i 0)) (R,mt)=bst (p (Q.getD i 0)) (Q,met))\/(k+1=2/\bst (sel p q k (Q.getD i 0)) (R,mt)=bst (q (Q.getD i 0)) (bst (p (Q.getD i 0)) (Q,met)))):=by
    rcases hk with⟨rfl,e⟩|⟨rfl,e⟩|⟨rfl,e⟩
    ·exact⟨hpx,.inl ⟨rfl,by rw[e];rfl⟩⟩
    ·exact⟨hqx,.inr ⟨rfl,by rw[e];rfl⟩⟩
    ·omega
   obtain⟨hy1,hy2⟩:=hy
   have hJ1:=hJ.bst hn hy1
   have hlen:R.length<=16:=by have:=hJ.len;simp only at this;omega
   generalize hyy:sel p q k (Q.getD i 0)=y at hy1 hy2 hJ1
   have hyR:sel p q k (R.getD i 0)=y:=by rw[hgR,hyy]
   have hx16:R.getD i 0<16:=by omega
   have hy16:sel p q k (R.getD i 0)<16:=by omega
   refine rS ?_
   refine rS ?_
   refine rS ?_
   cases hm:mt y
   ·have e1:bst y (R,mt)=(R++[y],up mt y true):=bst_new hm
    refine cS (λ h=>?_) λ h=>?_
    ·refine rS ?_
     refine rE ?_
     refine rE ?_
     refine Again.next ((k+1,(R++[y],up mt y true))) (gC [0,1,5] (by repeat (first|exact trivial|(refine lC ?_ ?_;first|exact byLz|(first|exact le_row (by simp) (λ j hj=>(ap_bytes R y _ j (by simpa using hj)).trans (by unfold bytesF;rw[<-hyR];rfl))|exact le_var (by rw[<-hyR];exact byVareq))|exact byLeq)))) (⟨e1▸hJ1,by simp;omega,by rw[<-hgR];simp only[List.getD_eq_getElem?_getD];rw[List.getElem?_append_left hiR],.inr (e1▸hy2)⟩) (by dsimp only;omega)
    ·have h2:(!mt (sel p q k (R.getD i 0)))=_:=h;rw[hyR,hm] at h2;cases h2
   ·have e1:bst y (R,mt)=(R,mt):=bst_old hm
    refine cS (λ h=>?_) λ h=>?_
    ·have h2:(!mt (sel p q k (R.getD i 0)))=_:=h;rw[hyR,hm] at h2;cases h2
    ·refine rE ?_
     refine Again.next ((k+1,(R,mt))) (gC [0,1,2] (leC (leC (leC leZ)))) (⟨hJ,hiR,hgR,.inr (e1▸hy2)⟩) (by dsimp only;omega)
  ·have hk:k=2/\(R,mt)=bst (q (Q.getD i 0)) (bst (p (Q.getD i 0)) (Q,met)):=by
    have:=of_decide_eq_false hc
    rcases hk with⟨rfl,_⟩|⟨rfl,_⟩|h
    ·simp at this
    ·simp at this
    ·exact h
   obtain⟨rfl,e⟩:=hk
   have hr:=bmu_round hn hp hq hI hi
   have hs:=bres_step hn hp hq hI hi
   simp only at hr hs
   rw[<-e] at hr hs
   have hQl:Q.length<=16:=by have:=hI.len;simp only at this;omega
   refine rE ?_
   refine Again.next ((i+1,(R,mt))) (gC [0,1,2] (leC (leC (leC leZ)))) (⟨hr.1,by simp only;omega,hs.trans hF⟩) (by exact hr.2)
 ·have hi:¬i<Q.length:=by have:=of_decide_eq_false hc;omega
  have hB:bfs p q=Q:=by unfold bfs;rw[<-hF,bres_end hi]
  refine rS ?_
  rw[hB]
  exact WP.ret (Ends.val (by rfl) (by exact byObl) (by rfl) (by trivial))
end Go.Proofs.YthjnmlpibafbnaaGreat
