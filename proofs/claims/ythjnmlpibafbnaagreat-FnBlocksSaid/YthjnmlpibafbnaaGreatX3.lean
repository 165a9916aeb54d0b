import Derived.Test.YthjnmlpibafbnaaGreatL0
namespace Go.Proofs.YthjnmlpibafbnaaGreat
open Go.RowKit DM
set_option linter.unusedSimpArgs false
set_option linter.unusedVariables false
set_option maxRecDepth 100000
set_option maxHeartbeats 1000000
theorem l01In_fn(n lo hi:Int):FnP Tryz.prog 35 [.i .i64 n,.i .i64 lo,.i .i64 hi] (.b (decide (lo<=n)&&decide (n<=hi))):=by
 refine FnS.into T tok Tryz.func35 (by rfl) rfl rfl rfl (by simp) ?_
 refine rS ?_
 refine WP.rw ?_
 refine rU 4 ?_
 cases hc:decide (lo<=n)
 ·refine rF ?_
  exact WP.ret (Ends.val (by rfl) (by exact byObl) (by rfl) (by trivial))
 ·refine rF ?_
  exact WP.ret (Ends.val (by rfl) (by exact byObl) (by rfl) (by trivial))
theorem isSize_fn(n:Int):FnP Tryz.prog 75 [.i .i64 n] (.b (decide (1<=n)&&decide (n<=16))):=by
 refine FnS.into T tok Tryz.func75 (by rfl) rfl rfl rfl (by simp) ?_
 refine rS ?_
 refine WP.rw ?_
 refine rU 3 ?_
 cases hc:decide (1<=n)
 ·refine rF ?_
  exact WP.ret (Ends.val (by rfl) (by exact byObl) (by rfl) (by trivial))
 ·refine rF ?_
  exact WP.ret (Ends.val (by rfl) (by exact byObl) (by rfl) (by trivial))
end Go.Proofs.YthjnmlpibafbnaaGreat
namespace Go.Proofs.YthjnmlpibafbnaaGreat
open Go.RowKit DM
set_option linter.unusedSimpArgs false
set_option linter.unusedVariables false
set_option maxRecDepth 100000
set_option maxHeartbeats 1000000
theorem l01Perm_fn(p:Nat->Nat)(hb:∀i,p i<256)(n:Int):FnP Tryz.prog 71 [pl p,.i .i64 n] (.b (permB p n)):=by
 refine FnS.into T tok Tryz.func71 (by rfl) rfl rfl rfl (by simp) ?_
 refine rS ?_
 refine WP.seq ?_
 refine WP.rw ?_
 refine rU 1 ?_
 refine cA (l01In_fn n 1 16) ?_
 refine rF ?_
 refine cS (λ hc=>?_) λ hc=>?_
 ·have e:permB p n=false:=permB_false λ h=>by simp at hc;omega
  refine rS ?_
  exact WP.ret (Ends.val (by rfl) (by exact byObl) (by rw[e];rfl) (by trivial))
 obtain⟨N,rfl⟩:∃N:Nat,n=N:=⟨n.toNat,by simp at hc;omega⟩
 have hN:1<=N/\N<=16:=by simp at hc;omega
 clear hc
 refine rS ?_
 refine WP.seq ?_
 refine rS ?_
 refine WP.block ?_
 refine WP.loopS [4,6,11,12,13,14,15,16,17,18,19,20,21,22,23,24,25,26,27,28,29,30,31,32,33,34,35,36,37,38,39,40] (λ x:Nat×(Nat->Bool)=>x.1<=16/\Pre N p x.1/\Met N p x.1 x.2) (λ x=>[(6,.i .i64 x.1)]) (λ x=>[.var (pl p),.var (bl x.2)]) (λ x=>16-x.1) (0,λ _=>false) ⟨by simp,λ i hi=>absurd hi (Nat.not_lt_zero _),λ v=>by simp⟩ (by rfl) (by rfl) ?_
 rintro⟨k,met⟩ ⟨hk,hp,hm⟩ g
 simp only at hk hp hm
 dsimp only
 refine WP.seq ?_
 refine rS ?_
 refine cI (λ hc=>?_) λ hc=>?_
 ·have hk:k<16:=by have:=of_decide_eq_true hc;omega
  clear hc
  refine WP.seq (WP.block ?_)
  refine WP.block ?_
  refine rS ?_
  refine cQ (λ hc=>?_) λ hc=>?_
  ·have hc:=of_decide_eq_true hc
   refine rS ?_
   refine cS (λ h1=>?_) λ h1=>?_
   ·refine rS ?_
    have e:permB p N=false:=permB_false λ _ h=>by
     have:=(h k (by omega)).2 (by simp;omega)
     simp[this] at h1
    exact WP.ret (Ends.val (by rfl) (by exact byObl) (by rw[e];rfl) (by trivial))
   ·have h1:p k=0:=by simpa using h1
    refine rE ?_
    refine⟨(k+1,met),by exact⟨by omega,hp.over (by omega) h1,hm.over (by omega)⟩,by(simp only[];omega),by(dsimp only;(repeat (first|(with_reducible exact Agree.refl)|((with_reducible refine Agree.hd ?_);exact rfl)|((with_reducible refine Agree.fup ?_ ?_);exact rfl)|((with_reducible refine Agree.inner ?_ ?_ ?_);exact rfl;exact rfl)))),by first|rfl|simp[Slots],by first|rfl|(simp only[upd,pl,dsf,cast1,Int.toNat_natCast,fup_u8,fup_b,fup_i64,dsf_up0,dsf_up1,dsf_up2];done)|(simp only[upd,pl,dsf,cast1,Int.toNat_natCast,fup_u8,fup_b,fup_i64,dsf_up0,dsf_up1,dsf_up2];first|(rfl;done)|(rfl;rfl))⟩
  ·have hc:k<N:=by have:=of_decide_eq_false hc;omega
   have hbk:=hb k
   refine WP.rw ?_
   refine rU 7 ?_
   cases h1:decide ((N:Int)<=(p (k:Int).toNat:Int))
   ·have h1:p k<N:=by have:=of_decide_eq_false h1;simp at this;omega
    refine rF ?_
    refine cQ (λ h2=>?_) λ h2=>?_
    ·refine rS ?_
     have e:permB p N=false:=permB_false λ _=>by
      simpa using not_pre_met hm hc hk (by simpa using h2)
     exact WP.ret (Ends.val (by rfl) (by exact byObl) (by rw[e];rfl) (by trivial))
    ·have h2:met (p k)=false:=by simpa using h2
     refine rE ?_
     refine rE ?_
     refine⟨(k+1,up met (p k) true),by exact⟨by omega,hp.step hm hc h1 h2,hm.step hc⟩,by(simp only[];omega),by(dsimp only;(repeat (first|(with_reducible exact Agree.refl)|((with_reducible refine Agree.hd ?_);exact rfl)|((with_reducible refine Agree.fup ?_ ?_);exact rfl)|((with_reducible refine Agree.inner ?_ ?_ ?_);exact rfl;exact rfl)))),by first|rfl|simp[Slots],by first|rfl|(simp only[upd,pl,dsf,cast1,Int.toNat_natCast,fup_u8,fup_b,fup_i64,dsf_up0,dsf_up1,dsf_up2];done)|(simp only[upd,pl,dsf,cast1,Int.toNat_natCast,fup_u8,fup_b,fup_i64,dsf_up0,dsf_up1,dsf_up2];first|(rfl;done)|(rfl;rfl))⟩
   ·have h1:=of_decide_eq_true h1
    have e:permB p N=false:=permB_false λ _ h=>by
     have:=((h k (by omega)).1 (by simpa using hc)).1
     simp at h1 this;omega
    refine rF ?_
    refine cQ (λ h2=>?_) λ h2=>?_
    ·refine rS ?_
     exact WP.ret (Ends.val (by rfl) (by exact byObl) (by rw[e];rfl) (by trivial))
    ·cases h2
 ·have hk:k=16:=by have:=of_decide_eq_false hc;omega
  subst hk
  have e:permB p N=true:=permB_true hN.1 hN.2 hp
  refine rS ?_
  exact WP.ret (Ends.val (by rfl) (by exact byObl) (by rw[e];rfl) (by trivial))
end Go.Proofs.YthjnmlpibafbnaaGreat
namespace Go.Proofs.YthjnmlpibafbnaaGreat
open Go.RowKit DM
set_option linter.unusedSimpArgs false
set_option linter.unusedVariables false
set_option maxRecDepth 100000
set_option maxHeartbeats 1000000
theorem IsPermutation_fn(p:Nat->Nat)(hb:∀i,p i<256)(n:Int):FnP Tryz.prog 40 [pl p,.i .i64 n] (.b (permB p n)):=by
 refine FnS.into T tok Tryz.func40 (by rfl) rfl rfl rfl (by simp) ?_
 refine rS ?_
 refine WP.seq ?_
 refine WP.rw ?_
 refine rU 1 ?_
 refine cA (isSize_fn n) ?_
 refine rF ?_
 refine cS (λ hc=>?_) λ hc=>?_
 ·have e:permB p n=false:=permB_false λ h=>by simp at hc;omega
  refine rS ?_
  exact WP.ret (Ends.val (by rfl) (by exact byObl) (by rw[e];rfl) (by trivial))
 obtain⟨N,rfl⟩:∃N:Nat,n=N:=⟨n.toNat,by simp at hc;omega⟩
 have hN:1<=N/\N<=16:=by simp at hc;omega
 clear hc
 refine rS ?_
 refine WP.seq ?_
 refine rS ?_
 refine WP.block ?_
 refine WP.loopS [4,6,7,13,14,15,16,17,18,19,20,21,22,23,24,25,26,27,28,29,30,31,32,33] (λ x:Nat×(Nat->Bool)=>x.1<=16/\Pre N p x.1/\Met N p x.1 x.2) (λ x=>[(13,.i .i64 x.1)]) (λ x=>[.var (pl p),.var (bl x.2)]) (λ x=>16-x.1) (0,λ _=>false) ⟨by simp,λ i hi=>absurd hi (Nat.not_lt_zero _),λ v=>by simp⟩ (by rfl) (by rfl) ?_
 rintro⟨k,met⟩ ⟨hk,hp,hm⟩ g
 simp only at hk hp hm
 dsimp only
 refine rS ?_
 refine WP.seq ?_
 refine cI (λ hc=>?_) λ hc=>?_
 ·have hk:k<16:=by have:=of_decide_eq_true hc;omega
  clear hc
  refine WP.seq (WP.block ?_)
  refine rS ?_
  refine WP.seq ?_
  refine rS ?_
  refine cS (λ hc=>?_) λ hc=>?_
  ·have hc:=of_decide_eq_true hc
   refine WP.seq ?_
   refine rS ?_
   refine cS (λ h1=>?_) λ h1=>?_
   ·refine rS ?_
    have e:permB p N=false:=permB_false λ _ h=>by
     have:=(h k (by omega)).2 (by simp;omega)
     simp[this] at h1
    exact WP.ret (Ends.val (by rfl) (by exact byObl) (by rw[e];rfl) (by trivial))
   ·have h1:p k=0:=by simpa using h1
    refine WP.exit ?_
    refine rE ?_
    refine⟨(k+1,met),by exact⟨by omega,hp.over (by omega) h1,hm.over (by omega)⟩,by(simp only[];omega),by(dsimp only;(repeat (first|(with_reducible exact Agree.refl)|((with_reducible refine Agree.hd ?_);exact rfl)|((with_reducible refine Agree.fup ?_ ?_);exact rfl)|((with_reducible refine Agree.inner ?_ ?_ ?_);exact rfl;exact rfl)))),by first|rfl|simp[Slots],by first|rfl|(simp only[upd,pl,dsf,cast1,Int.toNat_natCast,fup_u8,fup_b,fup_i64,dsf_up0,dsf_up1,dsf_up2];done)|(simp only[upd,pl,dsf,cast1,Int.toNat_natCast,fup_u8,fup_b,fup_i64,dsf_up0,dsf_up1,dsf_up2];first|(rfl;done)|(rfl;rfl))⟩
  ·have hc:k<N:=by have:=of_decide_eq_false hc;omega
   have hbk:=hb k
   refine WP.seq ?_
   refine WP.rw ?_
   refine rU 5 ?_
   cases h1:decide ((N:Int)<=(p (k:Int).toNat:Int))
   ·have h1:p k<N:=by have:=of_decide_eq_false h1;simp at this;omega
    refine rF ?_
    refine cS (λ h2=>?_) λ h2=>?_
    ·refine rS ?_
     have e:permB p N=false:=permB_false λ _=>by
      simpa using not_pre_met hm hc hk (by simpa using h2)
     exact WP.ret (Ends.val (by rfl) (by exact byObl) (by rw[e];rfl) (by trivial))
    ·have h2:met (p k)=false:=by simpa using h2
     refine rE ?_
     refine rE ?_
     refine⟨(k+1,up met (p k) true),by exact⟨by omega,hp.step hm hc h1 h2,hm.step hc⟩,by(simp only[];omega),by(dsimp only;(repeat (first|(with_reducible exact Agree.refl)|((with_reducible refine Agree.hd ?_);exact rfl)|((with_reducible refine Agree.fup ?_ ?_);exact rfl)|((with_reducible refine Agree.inner ?_ ?_ ?_);exact rfl;exact rfl)))),by first|rfl|simp[Slots],by first|rfl|(simp only[upd,pl,dsf,cast1,Int.toNat_natCast,fup_u8,fup_b,fup_i64,dsf_up0,dsf_up1,dsf_up2];done)|(simp only[upd,pl,dsf,cast1,Int.toNat_natCast,fup_u8,fup_b,fup_i64,dsf_up0,dsf_up1,dsf_up2];first|(rfl;done)|(rfl;rfl))⟩
   ·have h1:=of_decide_eq_true h1
    have e:permB p N=false:=permB_false λ _ h=>by
     have:=((h k (by omega)).1 (by simpa using hc)).1
     simp at h1 this;omega
    refine rF ?_
    refine cS (λ h2=>?_) λ h2=>?_
    ·refine rS ?_
     exact WP.ret (Ends.val (by rfl) (by exact byObl) (by rw[e];rfl) (by trivial))
    ·cases h2
 ·have hk:k=16:=by have:=of_decide_eq_false hc;omega
  subst hk
  have e:permB p N=true:=permB_true hN.1 hN.2 hp
  refine rS ?_
  exact WP.ret (Ends.val (by rfl) (by exact byObl) (by rw[e];rfl) (by trivial))
end Go.Proofs.YthjnmlpibafbnaaGreat
