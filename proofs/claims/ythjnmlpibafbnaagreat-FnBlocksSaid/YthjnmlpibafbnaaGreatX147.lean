import Derived.Test.YthjnmlpibafbnaaGreatX6
import Derived.Test.YthjnmlpibafbnaaGreatD17
import Derived.Test.YthjnmlpibafbnaaGreatL0
namespace Go.Proofs.YthjnmlpibafbnaaGreat
open Go.RowKit DM
set_option linter.unusedSimpArgs false
set_option linter.unusedVariables false
set_option maxRecDepth 100000
set_option maxHeartbeats 1000000
set_option maxHeartbeats 8000000
theorem bt_id{n:Nat}(h1:1<=n)(hn:n<=16):Bt n (fillF (λ i=>i) n):=by
 have:=bt_fill (n:=(n:Int)) (by omega)
 rwa [bN_nat h1,Int.toNat_natCast] at this
theorem bt_chain{n:Nat}(h1:1<=n)(hn:n<=16):∀k,k+1<=n->Bt n (chainB n k)/\Bt n (chainW n k)
 |0,_=>⟨bt_id h1 hn,bt_id h1 hn⟩
 |k+1,h=>by
  obtain⟨b,w⟩:=bt_chain h1 hn k (by omega)
  unfold chainB chainW
  split
  ·exact⟨b,(w.up (by omega) (by omega)).up (by omega) (by omega)⟩
  ·exact⟨(b.up (by omega) (by omega)).up (by omega) (by omega),w⟩
theorem bt_then{n:Nat}{p q:Nat->Nat}(h1:1<=n)(hn:n<=16)(hq:Bt n q):Bt n (fillF (λ i=>q (p i)) n):=⟨λ i=>by
 show(if i<n then q (p i) else 0)<n
 split
 ·exact hq.lt _
 ·omega,λ i hi=>by
 show(if i<n then q (p i) else 0)=0
 rw[if_neg (by omega)]⟩
theorem td_nat(x b:Nat):((x:Nat):Int).tdiv (b:Int)=((x / b:Nat):Int):=by rw[Int.tdiv_eq_ediv_of_nonneg (by omega)];simp
theorem tm_nat(x b:Nat):((x:Nat):Int).tmod (b:Int)=((x % b:Nat):Int):=by rw[Int.tmod_eq_emod_of_nonneg (by omega)];simp
theorem tm_one(x b:Nat):(((x:Nat):Int)+1).tmod (b:Int)=(((x+1) % b:Nat):Int):=by rw[show((x:Nat):Int)+1=((x+1:Nat):Int) by omega];exact tm_nat _ _
theorem l03Draw_fn(len:Nat)(g:Nat->Nat)(hg:∀j,g j<256)(a:Nat)(h:Int)(ha:a<=len)(hl:len<=4294967296):
  FnS Tryz.prog 30 [.p 0 [] 0] [.var (srcD len g a h)] λ r m'=>∃(n:Int) (b w:Nat->Nat) (a':Nat) (h':Int),r=ds_ n b w/\-1<=n/\n<=17/\Bt 256 b/\Bt 256 w/\a'<=len/\m'=[.var (srcD len g a' h')]:=by
 have hSc:∀(k a:Nat) (h:Int),Sc k (srcD len g a h):=λ k a h=>sc_src k len g a h
 have sc_ch:=hSc
 have hnx:=l01Next_fn len g hg a h 6 ha hl
 refine FnS.intoE T tok Tryz.func30 (by rfl) rfl rfl rfl (by simp) ?_
 refine rS ?_
 refine WP.seq ?_
 refine WP.rw ?_
 refine rU 1 ?_
 refine WPL.callE [0] (hnx) (leC leZ) (by rfl) (by rfl) (by exact byArgs) (by rfl) (by rfl) (by simp[Sc,sc_pl,sc_ds]) ?_
 rintro _ _ ⟨y,a1,h1,rfl,_,_,ha1,rfl⟩
 refine⟨⟨λ d hd=>by cases hd;exact sc_src _ _ _ _ _,trivial⟩,.i .i64 y,⟨rfl,trivial⟩,trivial,?_⟩
 refine WPL.mem (by rfl) ?_
 refine rF ?_
 refine WP.block ?_
 have hn16:=l01Next_fn len g hg a1 h1 16 ha1 hl
 refine rS ?_
 refine cQ (λ hy=>?_) λ hy=>?_
 ·refine WP.rw ?_
  refine rU 1 ?_
  refine WPL.callE [0] (hn16) (leC leZ) (by rfl) (by rfl) (by exact byArgs) (by rfl) (by rfl) (by simp[Sc,sc_pl,sc_ds]) ?_
  rintro _ _ ⟨z,a2,h2,rfl,hz,_,ha2,rfl⟩
  obtain⟨z0,z1⟩:=hz (by omega)
  obtain⟨n,rfl,hn1,hn⟩:∃n:Nat,z=(n:Int)-1/\1<=n/\n<=16:=⟨(z+1).toNat,by omega,by omega,by omega⟩
  refine⟨⟨λ d hd=>by cases hd;exact sc_src _ _ _ _ _,trivial⟩,.i .i64 ((n:Int)-1),⟨rfl,trivial⟩,trivial,?_⟩
  refine WPL.mem (by rfl) ?_
  refine rU 1 ?_
  rw[show(1:Int)+((n:Int)-1)=n by omega]
  refine rF ?_
  obtain⟨hb,hw⟩:=bt_chain hn1 hn (n-1) (by omega)
  refine WP.rw ?_
  refine rU 1 ?_
  refine cA (l01Chain_fn n hn1 hn) ?_
  refine rF ?_
  refine WP.ghost (gC [0,1] (leC (leC leZ)) (l:=[(2,.p 1 [] 0)]) (m':=[.var (srcD len g a2 h2),.var (ds_ n (chainB n (n-1)) (chainW n (n-1)))])) ?_
  exact WP.ret (Ends.newE [0] (⟨n,_,_,a2,h2,rfl,by omega,by omega,hb.mono (by omega),hw.mono (by omega),ha2,rfl⟩) (.inl rfl) (by rfl) (by exact byObl) (leC leZ) rfl rfl (⟨rfl,sc_ds _ _ _ _⟩) (sc_ds _ _ _ _))
 refine rS ?_
 refine cQ (λ hy2=>?_) λ hy2=>?_
 ·have hn4:=l01Next_fn len g hg a1 h1 4 ha1 hl
  refine WP.rw ?_
  refine rU 1 ?_
  refine WPL.callE [0] (hn4) (leC leZ) (by rfl) (by rfl) (by exact byArgs) (by rfl) (by rfl) (by simp[Sc,sc_pl,sc_ds]) ?_
  rintro _ _ ⟨z,a2,h2,rfl,hz,_,ha2,rfl⟩
  obtain⟨z0,z1⟩:=hz (by omega)
  obtain⟨p,rfl,hp1,hp⟩:∃n:Nat,z=(n:Int)-1/\1<=n/\n<=4:=⟨(z+1).toNat,by omega,by omega,by omega⟩
  refine⟨⟨λ d hd=>by cases hd;exact sc_src _ _ _ _ _,trivial⟩,.i .i64 ((p:Int)-1),⟨rfl,trivial⟩,trivial,?_⟩
  refine WPL.mem (by rfl) ?_
  refine rU 2 ?_
  rw[show(1:Int)+((p:Int)-1)=p by omega]
  have hn4b:=l01Next_fn len g hg a2 h2 4 ha2 hl
  refine WPL.callE [0] (hn4b) (leC leZ) (by rfl) (by rfl) (by exact byArgs) (by rfl) (by rfl) (by simp[Sc,sc_pl,sc_ds]) ?_
  rintro _ _ ⟨z,a3,h3,rfl,hz,_,ha3,rfl⟩
  obtain⟨z0,z1⟩:=hz (by omega)
  obtain⟨q,rfl,hq1,hq⟩:∃n:Nat,z=(n:Int)-1/\1<=n/\n<=4:=⟨(z+1).toNat,by omega,by omega,by omega⟩
  refine⟨⟨λ d hd=>by cases hd;exact sc_src _ _ _ _ _,trivial⟩,.i .i64 ((q:Int)-1),⟨rfl,trivial⟩,trivial,?_⟩
  refine WPL.mem (by rfl) ?_
  refine rU 1 ?_
  rw[show(1:Int)+((q:Int)-1)=q by omega]
  refine rF ?_
  obtain⟨n,hpq,hn1,hn⟩:∃n:Nat,(p:Int)*(q:Int)=n/\1<=n/\n<=16:=⟨p*q,by push_cast;rfl,Nat.mul_pos hp1 hq1,Nat.le_trans (Nat.mul_le_mul hp hq) (by decide)⟩
  have hpq':p*q=n:=by
   have:((p*q:Nat):Int)=n:=by push_cast;exact hpq
   omega
  refine WP.rw ?_
  refine rU 3 ?_
  rw[hpq]
  refine rF ?_
  refine WP.seq ?_
  refine rS ?_
  refine WP.block ?_
  have hz0:Bt 256 (λ _=>0):=⟨λ _=>by decide,λ _ _=>rfl⟩
  refine WP.loopH (⟨λ z:Nat×(Nat->Nat)×(Nat->Nat)=>z.1<=n/\Bt 256 z.2.1/\Bt 256 z.2.2,λ z=>[(2,.p 1 [] 0),(4,.i .i64 (p:Int)),(5,.i .i64 (q:Int)),(6,.p 2 [] 0),(7,.i .i64 (z.1:Int))],λ z=>[.var (srcD len g a3 h3),.var (ds_ 0 (λ _=>0) (λ _=>0)),.var (ds_ n z.2.1 z.2.2)],λ z=>n-z.1⟩) ((0,(λ _=>0),(λ _=>0))) (⟨Nat.zero_le _,hz0,hz0⟩) (gC [0,1,2] (leC (leC (leC leZ)))) ?_
  rintro⟨x,b,w⟩ ⟨hx,hb,hw⟩
  dsimp only at hx hb hw
  dsimp only[Hd.at]
  refine WP.seq ?_
  refine WP.rw ?_
  refine rU 4 ?_
  rw[hpq]
  refine rF ?_
  refine cI (λ hc=>?_) λ hc=>?_
  ·have hx:x<n:=by have:=of_decide_eq_true hc;omega
   clear hc
   have hx16:x<16:=by omega
   have td:=td_nat x q
   have tm:=tm_nat x q
   have hr:x % q<q:=Nat.mod_lt _ hq1
   have hv1:(x / q+1) % p<p:=Nat.mod_lt _ hp1
   have hv2:(x % q+1) % q<q:=Nat.mod_lt _ hq1
   have hu1:(x / q+1) % p*q<=12:=Nat.le_trans (Nat.mul_le_mul (show(x / q+1) % p<=3 by omega) hq) (by decide)
   have hu2:x / q*q<=16:=Nat.le_trans (Nat.div_mul_le_self x q) (by omega)
   have hd1:x / q<=16:=Nat.le_trans (Nat.div_le_self x q) (by omega)
   have t1:=tm_one (x / q) p
   have t2:=tm_one (x % q) q
   generalize x / q=d at*
   generalize x % q=r at*
   generalize (d+1) % p=v at*
   generalize (r+1) % q=s at*
   obtain⟨u,hu,hu1⟩:∃u:Nat,(v:Int)*(q:Int)=u/\u<=12:=⟨v*q,by push_cast;rfl,hu1⟩
   obtain⟨e,he,hu2⟩:∃e:Nat,(d:Int)*(q:Int)=e/\e<=16:=⟨d*q,by push_cast;rfl,hu2⟩
   refine WP.seq (WP.block ?_)
   refine WP.seq ?_
   refine WP.da (by kernel_rfl) 15 (by kernel_rfl) ?_
   refine WA.takes T false tok [0,1,2,3] (f':=13) (by kernel_rfl) (by rfl) (by rfl) (by rfl) (by exact byObl) (by rfl) (by rfl) ?_
   rw[td]
   refine WA.takes T false tok [4,5,6] (f':=10) (by kernel_rfl) (by rfl) (by rfl) (by rfl) (by exact byObl) (by rfl) (by rfl) ?_
   rw[t1]
   refine WA.takes T false tok [7,8] (f':=8) (by kernel_rfl) (by rfl) (by rfl) (by rfl) (by exact byObl) (by rfl) (by rfl) ?_
   rw[hu]
   refine WA.takes T false tok [9,10,11] (f':=5) (by kernel_rfl) (by rfl) (by rfl) (by rfl) (by exact byObl) (by rfl) (by rfl) ?_
   rw[tm]
   refine WA.takes T false tok [12] (f':=4) (by kernel_rfl) (by rfl) (by rfl) (by rfl) (by exact byObl) (by rfl) (by rfl) ?_
   rw[show(u:Int)+(r:Int)=((u+r:Nat):Int) by push_cast;rfl]
   have hc1:u+r<=255:=by omega
   generalize u+r=c1 at*
   refine WA.takes T false tok [13,14] (f':=2) (by kernel_rfl) (by rfl) (by rfl) (by rfl) (by exact byObl) (by rfl) (by rfl) ?_
   refine WA.tail (by rfl) (by rfl) (by kernel_rfl) ?_
   refine rF ?_
   refine noPan ?_
   refine WP.mem (by simp only[upd,pl,dsf,cast1,Int.toNat_natCast,fup_u8,fup_b,fup_i64,dsf_up0,dsf_up1,dsf_up2];rfl) ?_
   refine WP.da (by kernel_rfl) 15 (by kernel_rfl) ?_
   refine WA.takes T false tok [0,1,2,3] (f':=13) (by kernel_rfl) (by rfl) (by rfl) (by rfl) (by exact byObl) (by rfl) (by rfl) ?_
   rw[td]
   refine WA.takes T false tok [4,5] (f':=11) (by kernel_rfl) (by rfl) (by rfl) (by rfl) (by exact byObl) (by rfl) (by rfl) ?_
   rw[he]
   refine WA.takes T false tok [6,7,8] (f':=8) (by kernel_rfl) (by rfl) (by rfl) (by rfl) (by exact byObl) (by rfl) (by rfl) ?_
   rw[tm]
   refine WA.takes T false tok [9,10,11] (f':=5) (by kernel_rfl) (by rfl) (by rfl) (by rfl) (by exact byObl) (by rfl) (by rfl) ?_
   rw[t2]
   refine WA.takes T false tok [12] (f':=4) (by kernel_rfl) (by rfl) (by rfl) (by rfl) (by exact byObl) (by rfl) (by rfl) ?_
   rw[show(e:Int)+(s:Int)=((e+s:Nat):Int) by push_cast;rfl]
   have hc2:e+s<=255:=by omega
   generalize e+s=c2 at*
   refine WA.takes T false tok [13,14] (f':=2) (by kernel_rfl) (by rfl) (by rfl) (by rfl) (by exact byObl) (by rfl) (by rfl) ?_
   refine WA.tail (by rfl) (by rfl) (by kernel_rfl) ?_
   refine rF ?_
   refine noPan ?_
   refine rE ?_
   refine Again.next ((x+1,up b x c1,up w x c2)) (gC [0,1,2] (leC (leC (leC leZ)))) (⟨by omega,hb.up hx16 (by omega),hw.up hx16 (by omega)⟩) (by dsimp only;omega)
  clear hc
  refine rS ?_
  refine WP.ghost (gC [0,1] (leC (leC leZ)) (l:=[(2,.p 1 [] 0)]) (m':=[.var (srcD len g a3 h3),.var (ds_ n b w)])) ?_
  exact WP.ret (Ends.newE [0] (⟨n,b,w,a3,h3,rfl,by omega,by omega,hb,hw,ha3,rfl⟩) (.inl rfl) (by rfl) (by exact byObl) (leC leZ) rfl rfl (⟨rfl,sc_ds _ _ _ _⟩) (sc_ds _ _ _ _))
 refine rS ?_
 refine cQ (λ hy3=>?_) λ hy3=>?_
 ·refine WP.rw ?_
  refine rU 1 ?_
  refine WPL.callE [0] (hn16) (leC leZ) (by rfl) (by rfl) (by exact byArgs) (by rfl) (by rfl) (by simp[Sc,sc_pl,sc_ds]) ?_
  rintro _ _ ⟨z,a2,h2,rfl,hz,_,ha2,rfl⟩
  obtain⟨z0,z1⟩:=hz (by omega)
  obtain⟨n,rfl,hn1,hn⟩:∃n:Nat,z=(n:Int)-1/\1<=n/\n<=16:=⟨(z+1).toNat,by omega,by omega,by omega⟩
  refine⟨⟨λ d hd=>by cases hd;exact sc_src _ _ _ _ _,trivial⟩,.i .i64 ((n:Int)-1),⟨rfl,trivial⟩,trivial,?_⟩
  refine WPL.mem (by rfl) ?_
  refine rU 1 ?_
  rw[show(1:Int)+((n:Int)-1)=n by omega]
  refine rF ?_
  have hb:=bt_star hn1 hn
  have hw0:=bt_id hn1 hn
  have hst:=l01Star_fn n hn1 hn
  generalize fillF (λ i=>(i+1) % n) n=b at*
  generalize fillF (λ i=>i) n=w0 at*
  refine WP.rw ?_
  refine rU 1 ?_
  refine cA (hst) ?_
  refine rF ?_
  have hn6:=l01Next_fn len g hg a2 h2 6 ha2 hl
  refine WP.seq ?_
  refine WP.rw ?_
  refine rU 1 ?_
  refine WPL.callE [0] (hn6) (leC leZ) (by rfl) (by rfl) (by exact byArgs) (by rfl) (by rfl) (by simp[Sc,sc_pl,sc_ds]) ?_
  rintro _ _ ⟨z,a3,h3,rfl,hz,_,ha3,rfl⟩
  obtain⟨z0,z1⟩:=hz (by omega)
  obtain⟨k0,rfl⟩:∃k:Nat,z=k:=⟨z.toNat,by omega⟩
  refine⟨⟨λ d hd=>by cases hd;exact sc_src _ _ _ _ _,trivial⟩,.i .i64 (k0:Int),⟨rfl,trivial⟩,trivial,?_⟩
  refine WPL.mem (by rfl) ?_
  refine rF ?_
  refine WP.block ?_
  refine WP.loopH (⟨λ z:Nat×(Nat->Nat)=>z.1<=6/\Bt n z.2,λ z=>[(2,.p 1 [] 0),(8,.i .i64 (n:Int)),(9,.p 2 [] 0),(10,.i .i64 (z.1:Int))],λ z=>[.var (srcD len g a3 h3),.var (ds_ 0 (λ _=>0) (λ _=>0)),.var (ds_ n b z.2)],λ z=>z.1⟩) ((k0,w0)) (⟨by omega,hw0⟩) (gC [0,1,2] (leC (leC (leC leZ)))) ?_
  rintro⟨k,w⟩ ⟨hk,hw⟩
  dsimp only at hk hw
  dsimp only[Hd.at]
  refine WP.seq ?_
  refine rS ?_
  refine cI (λ hc=>?_) λ hc=>?_
  ·have hk0:0<k:=by have:=of_decide_eq_true hc;omega
   clear hc
   have hth:=l01Then_fn w b n hn (λ i _=>hw.lt i)
   have hw2:=bt_then (p:=w) hn1 hn hb
   generalize fillF (λ i=>b (w i)) n=w2 at*
   refine WP.seq (WP.block ?_)
   refine WP.region ?_
   refine rU 5 ?_
   refine cA (hth) ?_
   refine rF ?_
   refine rE ?_
   rw[show((k:Nat):Int)-1=((k-1:Nat):Int) by omega]
   refine Again.next ((k-1,w2)) (gC [0,1,2] (leC (leC (leC leZ)))) (⟨by omega,hw2⟩) (by(dsimp only;omega))
  clear hc
  refine rS ?_
  refine WP.ghost (gC [0,1] (leC (leC leZ)) (l:=[(2,.p 1 [] 0)]) (m':=[.var (srcD len g a3 h3),.var (ds_ n b w)])) ?_
  exact WP.ret (Ends.newE [0] (⟨n,b,w,a3,h3,rfl,by omega,by omega,hb.mono (by omega),hw.mono (by omega),ha3,rfl⟩) (.inl rfl) (by rfl) (by exact byObl) (leC leZ) rfl rfl (⟨rfl,sc_ds _ _ _ _⟩) (sc_ds _ _ _ _))
 refine rS ?_
 refine cQ (λ hy4=>?_) λ hy4=>?_
 ·have hsp:=l01Spoil_fn len g hg a1 h1 16 (by omega) (by omega) ha1 hl
  refine WP.rw ?_
  refine rU 1 ?_
  refine WPL.callE [0] (hsp) (leC leZ) (by rfl) (by rfl) (by exact byArgs) (by rfl) (by rfl) (by simp[Sc,sc_pl,sc_ds]) ?_
  rintro _ _ ⟨n,b,w,a2,h2,rfl,hn1,hn2,hb,hw,ha2,rfl⟩
  refine⟨⟨λ d hd=>by cases hd;exact sc_src _ _ _ _ _,trivial⟩,ds_ n b w,⟨rfl,sc_ds _ _ _ _⟩,sc_ds _ _ _ _,?_⟩
  refine WPL.mem (by rfl) ?_
  refine rF ?_
  refine WP.ghost (gC [0,1] (leC (leC leZ)) (l:=[(2,.p 1 [] 0)]) (m':=[.var (srcD len g a2 h2),.var (ds_ n b w)])) ?_
  exact WP.ret (Ends.newE [0] (⟨n,b,w,a2,h2,rfl,hn1,hn2,hb,hw,ha2,rfl⟩) (.inl rfl) (by rfl) (by exact byObl) (leC leZ) rfl rfl (⟨rfl,sc_ds _ _ _ _⟩) (sc_ds _ _ _ _))
 refine WP.skip ?_
 let F:Nat->Int:=λ j=>if j=0 then 5 else if j=1 then 7 else 9
 have hF:∀j,1<=F j/\F j<=16:=λ j=>by
  show 1<=(if j=0 then(5:Int) else if j=1 then 7 else 9)/\(if j=0 then(5:Int) else if j=1 then 7 else 9)<=16
  split
  ·omega
  ·split<;>omega
 have hpk:=l01Pick_fn len g hg a1 h1 3 F (by omega) (by omega) ha1 hl
 refine WP.rw ?_
 refine rU 3 ?_
 refine WPL.callE [0,2] (hpk) (by repeat (first|exact trivial|(refine lC ?_ ?_;first|exact byLz|(exact le_row (Nat.le_refl _) (λ j hj=>by obtain rfl|rfl|rfl:j=0\/j=1\/j=2:=(by omega)<;>rfl))|exact byLeq))) (by rfl) (by rfl) (by exact byArgs) (by rfl) (by rfl) (by simp[Sc,sc_pl,sc_ds]) ?_
 rintro _ _ ⟨j1,a2,h2,rfl,_,ha2,rfl⟩
 refine⟨⟨λ d hd=>by cases hd;exact sc_src _ _ _ _ _,λ d hd=>by cases hd;exact λ _ _=>trivial,trivial⟩,.i .i64 (F j1),⟨rfl,trivial⟩,trivial,?_⟩
 refine WPL.mem (by rfl) ?_
 have hsp:=l01Spoil_fn len g hg a2 h2 (F j1) (hF _).1 (hF _).2 ha2 hl
 refine WPL.callE [0] (hsp) (leC leZ) (by rfl) (by rfl) (by exact byArgs) (by rfl) (by rfl) (by simp[Sc,sc_pl,sc_ds]) ?_
 rintro _ _ ⟨n,b,w,a3,h3,rfl,hn1,hn2,hb,hw,ha3,rfl⟩
 refine⟨⟨λ d hd=>by cases hd;exact sc_src _ _ _ _ _,trivial⟩,ds_ n b w,⟨rfl,sc_ds _ _ _ _⟩,sc_ds _ _ _ _,?_⟩
 refine WPL.mem (by rfl) ?_
 refine rF ?_
 refine WP.ghost (gC [0,1] (leC (leC leZ)) (l:=[(2,.p 1 [] 0)]) (m':=[.var (srcD len g a3 h3),.var (ds_ n b w)])) ?_
 exact WP.ret (Ends.newE [0] (⟨n,b,w,a3,h3,rfl,hn1,hn2,hb,hw,ha3,rfl⟩) (.inl rfl) (by rfl) (by exact byObl) (leC leZ) rfl rfl (⟨rfl,sc_ds _ _ _ _⟩) (sc_ds _ _ _ _))
end Go.Proofs.YthjnmlpibafbnaaGreat

namespace Go.Proofs.YthjnmlpibafbnaaGreat.DM
open Go.RowKit
def dropO:Nat->Code->Option Code
 |0,c=>some c
 |k+1,.seq _ b=>dropO k b
 |_+1,_=>none
theorem WP.seqX{P:Program}{N K:Nat}{Q:Exit->St->Prop}{x y:Code}{s:St}{α:Type}(C:α->Prop)(I:α->St)(h:WP P N K x (Then (λ s'=>∃z,C z/\Ghost K s' (I z)) Q) s)(k:∀z,C z->WP P N K y Q (I z)):WP P N K (.seq x y) Q s:=by
 refine WP.seq (h.mono ?_)
 intro e s' h
 cases e with
 |normal=>
  obtain⟨z,hz,hg⟩:=h
  exact WP.ghost hg (k z hz)
 |_=>exact h
end Go.Proofs.YthjnmlpibafbnaaGreat.DM

namespace Go.Proofs.YthjnmlpibafbnaaGreat
open Go.RowKit DM
set_option linter.unusedSimpArgs false
set_option linter.unusedVariables false
set_option maxRecDepth 100000
set_option maxHeartbeats 1000000
theorem wq{N K n fuel i:Nat}{Q:Exit->St->Prop}{ops:Array Oper}{listed:Array Bool}{fr:Nat->Dat}{m m':List Root}{o:Oper}{v:Dat}{ps:List Prop}(k:WA Tryz.prog N K ops Q n fuel (listed.setIfInBounds i true) ⟨putO fr o.dst v,m'⟩)(ho:ops[i]? =some o:=by rfl)(hq:isQ o.op=true:=by rfl)(h:evalOp T false o.op fr m=some (ps,v,m'):=by rfl)(hg:gd ops o fr=some true:=by rfl)(hd:dstOK N o.dst=true:=by rfl)(hp:AllP ps:=by exact byObl):WAE2 Tryz.prog N K ops Q n fuel listed fr m i:=WAE2.q tok ho hq h hg hd hp k
theorem wt{N K n fuel i:Nat}{Q:Exit->St->Prop}{ops:Array Oper}{listed:Array Bool}{fr:Nat->Dat}{m m':List Root}{o:Oper}{v:Dat}{ps:List Prop}(k:WA Tryz.prog N K ops Q n fuel (listed.setIfInBounds i true) ⟨putO fr o.dst v,m'⟩)(hn:n<=i:=by decide)(ho:ops[i]? =some o:=by rfl)(h:evalOp T false o.op fr m=some (ps,v,m'):=by rfl)(hg:gd ops o fr=some true:=by rfl)(hd:dstOK N o.dst=true:=by rfl)(hp:AllP ps:=by exact byObl):WAE2 Tryz.prog N K ops Q n fuel listed fr m i:=WAE2.t tok hn ho h hg hd hp k
theorem wC{N K n fuel:Nat}{Q:Exit->St->Prop}{ops:Array Oper}{listed:Array Bool}{fr:Nat->Dat}{m:List Root}(ts:List Nat)(l:List (Nat×Dat))(m':List Root)(h:LeAll K m ts m')(k:WA Tryz.prog N K ops Q n fuel listed ⟨lst l,m'⟩)(hd:DM.distinct ts=true:=by rfl)(hs:startsWith K 0 ts=true:=by rfl)(hl:SlotsR (tauOf ts) m'.length fr l:=by exact bySlots):WA Tryz.prog N K ops Q n fuel listed ⟨fr,m⟩:=WA.cut (tauOf ts) K l m' (Nat.le_refl _) (Taken.of ts h hd hs) hl k
theorem w1{N K n fuel:Nat}{Q:Exit->St->Prop}{ops:Array Oper}{listed:Array Bool}{fr:Nat->Dat}{m:List Root}(i:Nat)(h:WAE2 Tryz.prog N K ops Q n fuel listed fr m i)(hr:Region.ready .any ops listed=[i]:=by kernel_rfl):WA Tryz.prog N K ops Q n (fuel+1) listed ⟨fr,m⟩:=WA.allTE1 i hr h
theorem w2{N K n fuel:Nat}{Q:Exit->St->Prop}{ops:Array Oper}{listed:Array Bool}{fr:Nat->Dat}{m:List Root}(i j:Nat)(h:WAE2 Tryz.prog N K ops Q n fuel listed fr m i)(h2:WAE2 Tryz.prog N K ops Q n fuel listed fr m j)(hr:Region.ready .any ops listed=[i,j]:=by kernel_rfl):WA Tryz.prog N K ops Q n (fuel+1) listed ⟨fr,m⟩:=WA.allTE2 i j hr h h2
theorem w3{N K n fuel:Nat}{Q:Exit->St->Prop}{ops:Array Oper}{listed:Array Bool}{fr:Nat->Dat}{m:List Root}(i j l:Nat)(h:WAE2 Tryz.prog N K ops Q n fuel listed fr m i)(h2:WAE2 Tryz.prog N K ops Q n fuel listed fr m j)(h3:WAE2 Tryz.prog N K ops Q n fuel listed fr m l)(hr:Region.ready .any ops listed=[i,j,l]:=by kernel_rfl):WA Tryz.prog N K ops Q n (fuel+1) listed ⟨fr,m⟩:=WA.allTE3 i j l hr h h2 h3
theorem wm{N K n fuel i:Nat}{Q:Exit->St->Prop}{ops:Array Oper}{listed:Array Bool}{fr:Nat->Dat}{m m' m2:List Root}{o:Oper}{v v2:Dat}{ps ps2:List Prop}(k:WA Tryz.prog N K ops Q n fuel (listed.setIfInBounds i true) ⟨putO fr o.dst v,m'⟩)(ho:ops[i]? =some o:=by rfl)(hg:gd ops o fr=some true:=by rfl)(hd:dstOK N o.dst=true:=by rfl)(h:evalOp T false o.op fr m=some (ps,v,m'):=by rfl)(hp:AllP ps:=by exact byObl)(h2:evalOp T false o.op fr (m.map λ _=>.dead)=some (ps2,v2,m2):=by rfl)(hp2:AllP ps2:=by exact byObl):WAE2 Tryz.prog N K ops Q n fuel listed fr m i:=⟨o,_,ho,hg,hd,.inl (MKE.of (MK.of tok h hp h2 hp2)),λ _ _ ⟨e1,e2⟩=>by subst e1;subst e2;exact k⟩
theorem wd{N K n fuel:Nat}{Q:Exit->St->Prop}{l:List Oper}{listed listed':Array Bool}{fr fr':Nat->Dat}{m:List Root}{ps:List Prop}(is:List Nat)(f':Nat)(k:WA Tryz.prog N K l.toArray Q n f' listed' ⟨fr',m⟩)(hB:takesWB l.toArray is listed=true:=by kernel_rfl)(hI:incr is 0=true:=by rfl)(h:evD T false N l.toArray (List.replicate m.length .dead) (pickI is 0 l) fr=some (ps,fr'):=by rfl)(hp:AllP ps:=by exact byObl)(hl:takesL is listed=listed':=by rfl)(hf:Nat.beq (f'+is.length) fuel=true:=by rfl):WA Tryz.prog N K l.toArray Q n fuel listed ⟨fr,m⟩:=WA.takesD T false tok is hB hI h hp hl hf k
theorem w4{N K n fuel:Nat}{Q:Exit->St->Prop}{ops:Array Oper}{listed:Array Bool}{fr:Nat->Dat}{m:List Root}(i j l q:Nat)(h:WAE2 Tryz.prog N K ops Q n fuel listed fr m i)(h2:WAE2 Tryz.prog N K ops Q n fuel listed fr m j)(h3:WAE2 Tryz.prog N K ops Q n fuel listed fr m l)(h4:WAE2 Tryz.prog N K ops Q n fuel listed fr m q)(hr:Region.ready .any ops listed=[i,j,l,q]:=by kernel_rfl):WA Tryz.prog N K ops Q n (fuel+1) listed ⟨fr,m⟩:=WA.allTE [i,j,l,q] hr (by simp) (List.forall_mem_cons.2 ⟨h,List.forall_mem_cons.2 ⟨h2,List.forall_mem_cons.2 ⟨h3,List.forall_mem_cons.2 ⟨h4,λ _ h=>(by cases h)⟩⟩⟩⟩)
theorem wp{N K n fuel i:Nat}{Q:Exit->St->Prop}{ops:Array Oper}{listed:Array Bool}{fr:Nat->Dat}{m:List Root}{dst:Tmp}{args:List Operand}{tys:Array TypeId}{t:TypeId}{pos:String}{after:Array Edge}{gg:Option (Nat×Bool)}{f:FuncId}{xs:List Dat}{r:Dat}(h:FnP Tryz.prog f xs r)(k:WA Tryz.prog N K ops Q n fuel (listed.setIfInBounds i true) ⟨putO fr (some dst) r,m⟩)(ho:ops[i]? =some { dst:=some dst,op:=.call { callee:=.value (.func f),args:=args.toArray,argTypes:=tys },type:=t,pos:=pos,after:=after,guard:=gg }:=by rfl)(hg:gd ops { dst:=some dst,op:=.call { callee:=.value (.func f),args:=args.toArray,argTypes:=tys },type:=t,pos:=pos,after:=after,guard:=gg } fr=some true:=by rfl)(hd:dstOK N (some dst)=true:=by rfl)(hx:args.map (ev fr)=xs:=by rfl)(hsc:∀x∈xs,Sc 0 x/\x≠.un:=by simp[Sc,sc_pl,sc_ds,pl_ne,ds_ne]):WAE2 Tryz.prog N K ops Q n fuel listed fr m i:=⟨_,_,ho,hg,hd,.inl (MKE.of (MK.callP h hx hsc)),λ _ _ ⟨e1,e2⟩=>by subst e1;subst e2;exact k⟩
theorem wn{N K n fuel i:Nat}{Q:Exit->St->Prop}{ops:Array Oper}{listed:Array Bool}{fr:Nat->Dat}{m m0 m1 mm:List Root}{dst:Tmp}{args:List Operand}{tys:Array TypeId}{t:TypeId}{pos:String}{after:Array Edge}{gg:Option (Nat×Bool)}{f:FuncId}{xs:List Dat}{r0:Dat}(ts:List Nat)(r':Dat)(h:FnS Tryz.prog f xs m0 λ r m'=>r=r0/\m'=m1)(hl:LeAll 0 m ts m0)(k:WA Tryz.prog N K ops Q n fuel (listed.setIfInBounds i true) ⟨putO fr (some dst) r',mm⟩)(ho:ops[i]? =some { dst:=some dst,op:=.call { callee:=.value (.func f),args:=args.toArray,argTypes:=tys },type:=t,pos:=pos,after:=after,guard:=gg }:=by rfl)(hn:n<=i:=by decide)(hg:gd ops { dst:=some dst,op:=.call { callee:=.value (.func f),args:=args.toArray,argTypes:=tys },type:=t,pos:=pos,after:=after,guard:=gg } fr=some true:=by rfl)(hd:dstOK N (some dst)=true:=by rfl)(hk:sameKind m ts m0=true:=by rfl)(hdi:DM.distinct ts=true:=by rfl)(hx:ArgsR (tauOf ts) fr xs args:=by exact byArgs)(hsc:∀x∈xs,Sc m0.length x:=by simp[Sc,sc_pl,sc_ds])(hc:AllC0 m1:=by exact byAllc)(hr:renD (invT ts m.length) r0 r':=by rfl)(hs:Sc (putBack m ts m0 m1).length r':=by exact bySc)(hm:putBack m ts m0 m1=mm:=by rfl):WAE2 Tryz.prog N K ops Q n fuel listed fr m i:=⟨_,_,ho,hg,hd,.inr ⟨hn,TKE.of (TK.callN ts r' h hl hk hdi hx hsc hc hr hs hm)⟩,λ _ _ ⟨e1,e2⟩=>by subst e1;subst e2;exact k⟩
theorem wo{N K n fuel i:Nat}{Q:Exit->St->Prop}{ops:Array Oper}{listed:Array Bool}{fr:Nat->Dat}{m m':List Root}{o:Oper}{v:Dat}(h:QOK Tryz.prog o fr m v m')(k:WA Tryz.prog N K ops Q n fuel (listed.setIfInBounds i true) ⟨putO fr o.dst v,m'⟩)(ho:ops[i]? =some o:=by rfl)(hg:gd ops o fr=some true:=by rfl)(hd:dstOK N o.dst=true:=by rfl):WAE2 Tryz.prog N K ops Q n fuel listed fr m i:=⟨o,_,ho,hg,hd,.inl (MKE.of (MK.q h)),λ _ _ ⟨e1,e2⟩=>by subst e1;subst e2;exact k⟩
theorem wx{N K n fuel i:Nat}{Q:Exit->St->Prop}{ops:Array Oper}{listed:Array Bool}{fr:Nat->Dat}{m m':List Root}{o:Oper}{v:Dat}(h:OpOK Tryz.prog o fr m v m')(k:WA Tryz.prog N K ops Q n fuel (listed.setIfInBounds i true) ⟨putO fr o.dst v,m'⟩)(ho:ops[i]? =some o:=by rfl)(hn:n<=i:=by decide)(hg:gd ops o fr=some true:=by rfl)(hd:dstOK N o.dst=true:=by rfl):WAE2 Tryz.prog N K ops Q n fuel listed fr m i:=⟨o,_,ho,hg,hd,.inr ⟨hn,TKE.of (TK.ofOK h)⟩,λ _ _ ⟨e1,e2⟩=>by subst e1;subst e2;exact k⟩
def DrB(n:Int)(b w:Nat->Nat):Prop:=-1<=n/\n<=17/\Bt 256 b/\Bt 256 w
theorem wE{N K n fuel i:Nat}{Q:Exit->St->Prop}{ops:Array Oper}{listed:Array Bool}{fr:Nat->Dat}{m:List Root}{dst:Tmp}{f:FuncId}{args:List Operand}{tys:Array TypeId}{t:TypeId}{pos:String}{after:Array Edge}{gg:Option (Nat×Bool)}{xs:List Dat}{d0:Dat}{Qf:Dat->List Root->Prop}{α:Type}(C:α->Prop)(R S:α->Dat)(M:α->List Root)(h:FnS Tryz.prog f xs [.var d0] Qf)(hQ:∀r m',Qf r m'->∃x,C x/\r=R x/\m'=[.var (S x)])(hR:∀x τ,renD τ (R x) (R x))(hRs:∀x k,Sc k (R x))(hSs:∀x k,Sc k (S x))(hl:LeAll 0 m [3] [.var d0])(hk:sameKind m [3] [.var d0]=true)(hx:ArgsR (tauOf [3]) fr xs args)(hsc:∀x∈xs,Sc 1 x)(ho:ops[i]? =some { dst:=some dst,op:=.call { callee:=.value (.func f),args:=args.toArray,argTypes:=tys },type:=t,pos:=pos,after:=after,guard:=gg })(hn:n<=i)(hg:gd ops { dst:=some dst,op:=.call { callee:=.value (.func f),args:=args.toArray,argTypes:=tys },type:=t,pos:=pos,after:=after,guard:=gg } fr=some true)(hd:dstOK N (some dst)=true)(hM:∀x,putBack m [3] [.var d0] [.var (S x)]=M x)(k:∀x,C x->WA Tryz.prog N K ops Q n fuel (listed.setIfInBounds i true) ⟨putO fr (some dst) (R x),M x⟩):WAE2 Tryz.prog N K ops Q n fuel listed fr m i:=
 ⟨_,λ v m'=>∃x,C x/\v=R x/\m'=M x,ho,hg,hd,.inr ⟨hn,TKE.call [3] h hl hk rfl hx hsc λ r m1 hq=>by
  obtain⟨x,hc,rfl,rfl⟩:=hQ r m1 hq
  exact⟨⟨λ d hd=>by cases hd;exact hSs x _,trivial⟩,R x,hR x _,hRs x _,x,hc,rfl,hM x⟩⟩,λ v m' ⟨x,hc,e1,e2⟩=>by subst e1;subst e2;exact k x hc⟩
theorem wNy{N K n fuel i:Nat}{Q:Exit->St->Prop}{ops:Array Oper}{listed:Array Bool}{fr:Nat->Dat}{m:List Root}{dst:Tmp}{f:FuncId}{args:List Operand}{tys:Array TypeId}{t:TypeId}{pos:String}{after:Array Edge}{gg:Option (Nat×Bool)}{xs:List Dat}{len a:Nat}{g:Nat->Nat}{h:Int}{nn:Int}(M:Nat->Int->List Root)(hs:FnS Tryz.prog f xs [.var (srcD len g a h)] λ r m'=>∃(x:Int) (a':Nat) (h':Int),r=.i .i64 x/\(1<=nn->0<=x/\x<nn)/\(nn<1->x=0)/\a'<=len/\m'=[.var (srcD len g a' h')])(k:∀(y:Int) (a':Nat) (h':Int),0<=y->(y<nn\/y=0)->a'<=len->WA Tryz.prog N K ops Q n fuel (listed.setIfInBounds i true) ⟨putO fr (some dst) (.i .i64 y),M a' h'⟩)(ho:ops[i]? =some { dst:=some dst,op:=.call { callee:=.value (.func f),args:=args.toArray,argTypes:=tys },type:=t,pos:=pos,after:=after,guard:=gg }:=by rfl)(hl:LeAll 0 m [3] [.var (srcD len g a h)]:=by exact leC leZ)(hk:sameKind m [3] [.var (srcD len g a h)]=true:=by rfl)(hx:ArgsR (tauOf [3]) fr xs args:=by exact byArgs)(hsc:∀x∈xs,Sc 1 x:=by simp[Sc,sc_pl,sc_ds])(hn:n<=i:=by decide)(hg:gd ops { dst:=some dst,op:=.call { callee:=.value (.func f),args:=args.toArray,argTypes:=tys },type:=t,pos:=pos,after:=after,guard:=gg } fr=some true:=by rfl)(hd:dstOK N (some dst)=true:=by rfl)(hM:∀a' h',putBack m [3] [.var (srcD len g a h)] [.var (srcD len g a' h')]=M a' h':=by intro _ _;rfl):WAE2 Tryz.prog N K ops Q n fuel listed fr m i:=
 wE (α:=Int×Nat×Int) (λ z=>(0<=z.1/\(z.1<nn\/z.1=0))/\z.2.1<=len) (λ z=>.i .i64 z.1) (λ z=>srcD len g z.2.1 z.2.2) (λ z=>M z.2.1 z.2.2) hs (λ r m' ⟨x,a',h',e1,q1,q2,q3,e2⟩=>⟨(x,a',h'),⟨by by_cases c:1<=nn;{ exact⟨(q1 c).1,.inl (q1 c).2⟩ };{ rw[q2 (by omega)];exact⟨Int.le_refl 0,.inr rfl⟩ },q3⟩,e1,e2⟩) (λ x τ=>⟨rfl,trivial⟩) (λ _ _=>trivial) (λ _ _=>sc_src _ _ _ _ _) hl hk hx hsc ho hn hg hd (λ _=>hM _ _) (λ z hz=>k z.1 z.2.1 z.2.2 hz.1.1 hz.1.2 hz.2)
end Go.Proofs.YthjnmlpibafbnaaGreat
