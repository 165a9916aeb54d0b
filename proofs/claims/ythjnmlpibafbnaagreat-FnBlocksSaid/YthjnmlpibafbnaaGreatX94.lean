import Derived.Test.YthjnmlpibafbnaaGreatX83
import Derived.Test.YthjnmlpibafbnaaGreatX85
import Derived.Test.YthjnmlpibafbnaaGreatL45
import Derived.Test.YthjnmlpibafbnaaGreatX62
import Derived.Test.YthjnmlpibafbnaaGreatShelf
import Derived.Test.YthjnmlpibafbnaaGreatX6
import Derived.Test.YthjnmlpibafbnaaGreatD31
import Derived.Test.YthjnmlpibafbnaaGreatL33
namespace Go.Proofs.YthjnmlpibafbnaaGreat
open Go.RowKit DM
set_option linter.unusedSimpArgs false
set_option linter.unusedVariables false
set_option maxRecDepth 100000
set_option maxHeartbeats 1000000
theorem take_snoc{L:List (Nat->Nat)}{i:Nat}(h:i<L.length):L.take (i+1)=L.take i++[L.getD i λ _=>0]:=by
 rw[List.take_add_one,List.getElem?_eq_getElem h]
 simp[List.getD_eq_getElem?_getD,List.getElem?_eq_getElem h]
theorem l03Made_fn(N:Nat)(h1:1<=N)(hN:N<=16)(L:List (Nat->Nat))(hL:∀g∈L,Np N g)(hl:L.length<=1000):FnS Tryz.prog 88 [.sl 0 0 L.length 16,.i .i64 (N:Int)] [.row 25 L.length 16 (rowP L)] λ r m'=>r=.p 1 [] 0/\∃C,m'=[.row 25 L.length 16 (rowP L),.var (chn N C)]/\Chain N L C:=by
 refine FnS.intoE T tok Tryz.func88 (by rfl) rfl rfl rfl (by simp) ?_
 refine rS ?_
 refine WP.rw ?_
 refine rU 1 ?_
 refine cN [] (.p 1 [] 0) (l03Start_fn N hN) leZ (rfl) ?_
 refine rF ?_
 refine WP.seq ?_
 refine rS ?_
 refine WP.block ?_
 refine WP.loopH (⟨λ z:Nat×Chn=>z.1<=L.length/\Chain N (L.take z.1) z.2,λ z=>[(0,.sl 0 0 L.length 16),(1,.i .i64 (N:Int)),(5,.p 1 [] 0),(6,.i .i64 (z.1:Int))],λ z=>[.row 25 L.length 16 (rowP L),.var (chn N z.2)],λ z=>L.length-z.1⟩) ((0,chn0 N)) (⟨Nat.zero_le _,Chain.start N hN⟩) (gC [0,1] (leC (leC leZ))) ?_
 rintro⟨i,C⟩ ⟨hi,hC⟩
 dsimp only at hi hC
 dsimp only[Hd.at]
 refine WP.seq ?_
 refine rS ?_
 refine cI (λ hc=>?_) λ hc=>?_
 ·have hi:i<L.length:=by have:=of_decide_eq_true hc;omega
  clear hc
  have hp:Np N (L.getD i λ _=>0):=hL _ (getDf_mem hi)
  have hA:=l03Add_fn N hN 0 (by omega) (L.getD i λ _=>0) C (hC.pre hp)
  unfold AddOk at hA
  refine WP.seq (WP.block ?_)
  refine WP.region ?_
  refine rU 5 ?_
  refine WPL.callE [1] (hA) (leC leZ) (by rfl) (by rfl) (by exact byArgs) (by rfl) (by rfl) (by simp[Sc,sc_pl,sc_ds]) ?_
  rintro _ _ ⟨rfl,D,rfl,hD⟩
  refine⟨by exact byAllc,u0D,ren_u0,sc_u0 _ _,?_⟩
  refine WPL.mem (by rfl) ?_
  refine rF ?_
  refine rE ?_
  refine Again.next ((i+1,D)) (gC [0,1] (leC (leC leZ))) (⟨hi,by dsimp only;rw[take_snoc hi];exact hC.add (λ g hg=>hL g (List.mem_of_mem_take hg)) hp hD⟩) (by dsimp only;omega)
 ·have hi:i=L.length:=by have:=of_decide_eq_false hc;omega
  subst hi
  rw[List.take_length] at hC
  refine rS ?_
  exact WP.ret (Ends.newE [0,1] (⟨rfl,C,rfl,hC⟩) (.inl rfl) (by rfl) (by exact byObl) (leC (leC leZ)) rfl rfl (rfl) (sc_p rfl))
theorem l03Of_fn(N:Nat)(b w:Nat->Nat)(h1:1<=N)(hN:N<=16)(hb:Np N b)(hw:Np N w):FnS Tryz.prog 54 [ds_ N b w] [] λ r m'=>r=.p 0 [] 0/\∃C,m'=[.var (chn N C)]/\Chain N [b,w] C:=by
 have hL:∀g∈[b,w],Np N g:=λ g hg=>by
  simp only[List.mem_cons,List.not_mem_nil,or_false] at hg
  rcases hg with rfl|rfl
  ·exact hb
  ·exact hw
 refine FnS.intoE T tok Tryz.func54 (by rfl) rfl rfl rfl (by simp) ?_
 refine rS ?_
 refine WP.rw ?_
 refine rU 7 ?_
 refine WPL.callE [1] (l03Made_fn N h1 hN [b,w] hL (by simp)) (LeAll.cons (by rfl) (by first|with_reducible exact Root.Le.refl _|with_reducible exact le_dead|(exact le_row (Nat.le_refl _) row_two)|exact byLeq) (by exact byCon) (leZ)) (by rfl) (by rfl) (by exact byArgs) (by rfl) (by rfl) (by simp[Sc,sc_pl,sc_ds]) ?_
 rintro _ _ ⟨rfl,C,rfl,hok⟩
 refine⟨by exact byAllc,.p 2 [] 0,rfl,sc_p rfl,?_⟩
 refine WPL.mem (by rfl) ?_
 refine rF ?_
 exact WP.ret (Ends.newE [2] (⟨rfl,C,rfl,hok⟩) (.inl rfl) (by rfl) (by exact byObl) (leC leZ) rfl rfl (rfl) (sc_p rfl))
theorem tmodC(x y:Nat):Int.tmod (x:Int) (y:Int)=((x % y:Nat):Int):=(Int.ofNat_tmod x y).symm
theorem tdivC(x y:Nat):Int.tdiv (x:Int) (y:Int)=((x / y:Nat):Int):=(Int.ofNat_tdiv x y).symm
theorem gcd_fn(a b:Nat)(ha:a<=720720)(hb:b<=720720):FnP Tryz.prog 91 [.i .i64 (a:Int),.i .i64 (b:Int)] (.i .i64 ((Nat.gcd a b:Nat):Int)):=by
 refine FnS.into T tok Tryz.func91 (by rfl) rfl rfl rfl (by simp) ?_
 refine rS ?_
 refine WP.seq (WP.block ?_)
 refine WP.loopH (⟨λ s:Nat×Nat=>s.1<=720720/\s.2<=720720/\Nat.gcd s.1 s.2=Nat.gcd a b,λ s=>[(0,.i .i64 (s.1:Int)),(1,.i .i64 (s.2:Int))],λ s=>[],λ s=>s.2⟩) ((a,b)) (⟨ha,hb,rfl⟩) (gC [] leZ) ?_
 rintro⟨x,y⟩ ⟨hx,hy,hg⟩
 simp only at hx hy hg
 dsimp only[Hd.at]
 refine WP.seq ?_
 refine rS ?_
 refine cI (λ hc=>?_) λ hc=>?_
 ·have hy0:y≠0:=by
   intro e;subst e;simp at hc
  clear hc
  have hlt:=Nat.mod_lt x (show y>0 by omega)
  refine WP.block ?_
  refine WP.drawsQ (by kernel_rfl) (by kernel_rfl) ?_
  refine WQ.fin T false tok (by rfl) (by rfl) (by exact byObl) ?_
  rw[tmodC]
  refine Again.next ((y,x % y)) (gC [] leZ) (⟨hy,by omega,by rw[<-hg];simp only;rw[Nat.gcd_comm x y,Nat.gcd_rec y x,Nat.gcd_comm]⟩) (by dsimp only;omega)
 ·have hy0:y=0:=by simpa using hc
  subst hy0
  rw[Nat.gcd_zero_right] at hg
  refine WP.rw ?_
  refine rU 3 ?_
  refine WPL.op (by rfl) (by rfl) (QOK.op (max_ok rfl rfl rfl)) ?_
  rw[if_neg (show¬((x:Int)<0-(x:Int)) by omega),hg]
  refine rF ?_
  exact WP.ret (Ends.val (by rfl) (by exact byObl) (by rfl) (by trivial))
theorem order_fn(p:Nat->Nat)(n:Nat)(hn:n<=16)(hp:Perm n p):FnP Tryz.prog 61 [pl p,.i .i64 n] (.i .i64 ((lcmTo (tyN (cycs p n) n) (tyN (cycs p n) n).length:Nat):Int)):=by
 have hty:=typeOf_fn p n hn hp
 have hlens:=cycs_lens hn hp
 have hlen:(cycs p n).length<=n:=cyTo_len p n
 have hmem:∀x∈tyN (cycs p n) n,1<=x/\x<=16:=λ x hx=>by
  have:=dTo_mem _ n n (Nat.le_refl _) x hx;omega
 have hDl:=tyN_len hlens
 generalize tyN (cycs p n) n=D at*
 have hle:=λ{i} hi=>lcmTo_le hmem (i:=i) hi
 refine FnS.into T tok Tryz.func61 (by rfl) rfl rfl rfl (by simp) ?_
 refine rS ?_
 refine rS ?_
 refine WP.seq ?_
 refine WP.rw ?_
 refine rU 2 ?_
 refine cN [] (.sl 1 0 D.length 1) (hty) leZ (rfl) ?_
 refine rF ?_
 refine WP.block ?_
 refine WP.loopH (⟨λ i:Nat=>i<=D.length,λ i=>[(5,.i .i64 ((lcmTo D i:Nat):Int)),(10,.sl 0 0 D.length 1),(11,.i .i64 (D.length:Int)),(12,.i .i64 (i:Int))],λ i=>[.row 2 D.length 1 (numsF D)],λ i=>D.length-i⟩) (0) (Nat.zero_le _) (gC [1] (leC leZ)) ?_
 intro i hi
 dsimp only at hi
 dsimp only[Hd.at]
 refine rS ?_
 refine WP.seq ?_
 refine cI (λ hc=>?_) λ hc=>?_
 ·have hi:i<D.length:=by have:=of_decide_eq_true hc;omega
  clear hc
  obtain⟨h1,h2⟩:=hle (i:=i) (by omega)
  obtain⟨h3,h4⟩:=hle (i:=i+1) (by omega)
  have hx:=hmem _ (getD_mem hi)
  have hg:=Nat.gcd_pos_of_pos_left (D.getD i 0) h1
  have hst:lcmTo D (i+1)=lcmTo D i / Nat.gcd (lcmTo D i) (D.getD i 0)*D.getD i 0:=rfl
  have hdl:=Nat.div_le_self (lcmTo D i) (Nat.gcd (lcmTo D i) (D.getD i 0))
  have hcall:=gcd_fn (lcmTo D i) (D.getD i 0) h2 (by omega)
  generalize hG:Nat.gcd (lcmTo D i) (D.getD i 0)=G at*
  refine WP.seq (WP.block ?_)
  refine rS ?_
  have hdl0:(0:Int)<=((lcmTo D i / G:Nat):Int):=Int.natCast_nonneg _
  have hmul:(((lcmTo D i / G:Nat):Int))*((D.getD i 0:Nat):Int)=((lcmTo D (i+1):Nat):Int):=by rw[hst];exact(Int.natCast_mul _ _).symm
  refine WP.region ?_
  refine rU 3 ?_
  refine cA (hcall) ?_
  refine WPL.run T false 1 tok (by rfl) (by(simp only[tdivC];show(((G:Nat):Int)≠0)/\InR .i64 (((lcmTo D i / G:Nat)):Int);refine⟨by omega,?_⟩;simp only[InR];omega)) ?_
  rw[tdivC]
  refine WPL.run T false 2 tok (by rfl) (by(show InR .i64 ((((lcmTo D i / G:Nat):Int))*((D.getD i 0:Nat):Int));rw[hmul];simp only[InR];omega)) ?_
  have hmul':(((lcmTo D i / G:Nat):Int))*((D.getD (addrAt 0 ((i:Nat):Int).toNat) 0:Nat):Int)=((lcmTo D (i+1):Nat):Int):=hmul
  rw[hmul']
  refine rF ?_
  refine rE ?_
  refine Again.next (i+1) (gC [0] (leC leZ)) (hi) (by dsimp only;omega)
 ·have hi:i=D.length:=by have:=of_decide_eq_false hc;omega
  subst hi
  refine rS ?_
  exact WP.ret (Ends.val (by rfl) (by exact byObl) (by rfl) (by trivial))
theorem l01Common_fn(D:List Nat)(hl:D.length<=65536)(hmem:∀x∈D,1<=x/\x<=16):FnR Tryz.prog 63 [.sl 0 0 D.length 1] [.ro D.length 1 (numsF D)] (.i .i64 ((lcmTo D D.length:Nat):Int)):=by
 have hle:=λ{i} hi=>lcmTo_le hmem (i:=i) hi
 refine FnS.into T tok Tryz.func63 (by rfl) rfl rfl rfl (by simp) ?_
 refine rS ?_
 refine rS ?_
 refine WP.seq ?_
 refine rS ?_
 refine WP.block ?_
 refine WP.loopH (⟨λ i:Nat=>i<=D.length,λ i=>[(0,.sl 0 0 D.length 1),(3,.i .i64 ((lcmTo D i:Nat):Int)),(4,.i .i64 (i:Int))],λ i=>[.ro D.length 1 (numsF D)],λ i=>D.length-i⟩) (0) (Nat.zero_le _) (gC [0] (leC leZ)) ?_
 intro i hi
 dsimp only at hi
 dsimp only[Hd.at]
 refine WP.seq ?_
 refine rS ?_
 refine cI (λ hc=>?_) λ hc=>?_
 ·have hi:i<D.length:=by have:=of_decide_eq_true hc;omega
  clear hc
  obtain⟨h1,h2⟩:=hle (i:=i) (by omega)
  obtain⟨h3,h4⟩:=hle (i:=i+1) (by omega)
  have hx:=hmem _ (getD_mem hi)
  have hg:=Nat.gcd_pos_of_pos_left (D.getD i 0) h1
  have hst:lcmTo D (i+1)=lcmTo D i / Nat.gcd (lcmTo D i) (D.getD i 0)*D.getD i 0:=rfl
  have hdl:=Nat.div_le_self (lcmTo D i) (Nat.gcd (lcmTo D i) (D.getD i 0))
  generalize hG:Nat.gcd (lcmTo D i) (D.getD i 0)=G at*
  have hdl0:(0:Int)<=((lcmTo D i / G:Nat):Int):=Int.natCast_nonneg _
  have hmul:(((lcmTo D i / G:Nat):Int))*((D.getD i 0:Nat):Int)=((lcmTo D (i+1):Nat):Int):=by rw[hst];exact(Int.natCast_mul _ _).symm
  refine WP.seq (WP.block ?_)
  refine WP.dw (by kernel_rfl) (by kernel_rfl) ?_
  refine WQ.fin T false tok (by rfl) (by rfl) (by exact byObl) ?_
  refine WP.seq (WP.block ?_)
  refine WP.loopH (⟨λ s:Nat×Nat=>s.1<=720720/\s.2<=720720/\Nat.gcd s.1 s.2=G,λ s=>[(0,.sl 0 0 D.length 1),(3,.i .i64 ((lcmTo D i:Nat):Int)),(4,.i .i64 (i:Int)),(5,.i .i64 (s.1:Int)),(6,.i .i64 (s.2:Int))],λ s=>[.ro D.length 1 (numsF D)],λ s=>s.2⟩) ((lcmTo D i,D.getD i 0)) (⟨h2,by simp only;omega,hG⟩) (gC [0] (leC leZ)) ?_
  rintro⟨x,y⟩ ⟨gx,gy,gg⟩
  simp only at gx gy gg
  dsimp only[Hd.at]
  refine WP.seq ?_
  refine rS ?_
  refine cI (λ hc=>?_) λ hc=>?_
  ·have hy0:0<y:=by have:=of_decide_eq_true hc;omega
   clear hc
   have hlt:=Nat.mod_lt x hy0
   refine WP.block ?_
   refine rS ?_
   rw[tmodC]
   refine rS ?_
   refine rE ?_
   refine Again.next ((y,x % y)) (gC [0] (leC leZ)) (⟨gy,by omega,by rw[<-gg];simp only;rw[Nat.gcd_comm x y,Nat.gcd_rec y x,Nat.gcd_comm]⟩) (by dsimp only;omega)
  ·have hy0:y=0:=by have:=of_decide_eq_false hc;omega
   subst hy0
   rw[Nat.gcd_zero_right] at gg
   subst gg
   refine WP.drawsQ (by kernel_rfl) (by kernel_rfl) ?_
   refine WQ.run T false 3 tok (by rfl) (by rfl) (by(simp only[tdivC];show((x:Int)≠0)/\InR .i64 (((lcmTo D i / x:Nat)):Int);refine⟨by omega,?_⟩;simp only[InR];omega)) ?_
   rw[tdivC]
   refine WQ.run T false 4 tok (by rfl) (by rfl) (by exact byObl) ?_
   refine WQ.run T false 1 tok (by rfl) (by rfl) (by(show InR .i64 ((((lcmTo D i / x:Nat):Int))*((D.getD i 0:Nat):Int));rw[hmul];simp only[InR];omega)) ?_
   have hmul':(((lcmTo D i / x:Nat):Int))*((D.getD (addrAt 0 ((i:Nat):Int).toNat) 0:Nat):Int)=((lcmTo D (i+1):Nat):Int):=hmul
   rw[hmul']
   refine WQ.fin T false tok (by rfl) (by rfl) (by exact byObl) ?_
   refine rE ?_
   refine Again.next (i+1) (gC [0] (leC leZ)) (hi) (by dsimp only;omega)
 ·have hi:i=D.length:=by have:=of_decide_eq_false hc;omega
  subst hi
  refine rS ?_
  exact WP.ret (Ends.val (by rfl) (by exact byObl) (by rfl) (by trivial))
def cgq(N:Nat)(b w:Nat->Nat)(j:Nat):Nat:=lcmTo ((pasL N b w).getD j []) ((pasL N b w).getD j []).length
def cgS(o N:Nat)(b w:Nat->Nat):Nat->Nat
 |0=>0
 |k+1=>cgS o N b w k+o / cgq N b w k
theorem cgS_le(o N:Nat)(b w:Nat->Nat):∀k,cgS o N b w k<=k*o
 |0=>Nat.zero_le _
 |k+1=>by
  have:=cgS_le o N b w k
  have h:=Nat.div_le_self o (cgq N b w k)
  simp only[cgS,Nat.succ_mul];omega
def cgV(o N:Nat)(b w:Nat->Nat):Int:=1-(((cgS o N b w 3:Nat):Int)-(o:Int)).tdiv 2
noncomputable def cgR (n:Int)(b w:Nat->Nat):Dat:=bif desB n b w then t2 (.i .i64 (cgV (ordG n.toNat [b,w]) n.toNat b w)) (.i .i64 0) else t2 (.i .i64 0) (.i .i64 1)
theorem pas_mem{N:Nat}{b w:Nat->Nat}(hD:Des N b w)(j:Nat):∀x∈(pasL N b w).getD j [],1<=x/\x<=16:=by
 have go:∀{p:Nat->Nat},Perm N p->∀x∈tyN (cycs p N) N,1<=x/\x<=16:=λ hp x hx=>by
  have:=dTo_mem _ N N (Nat.le_refl _) x hx
  have:=hD.le
  omega
 rcases j with _|_|_|j
 ·exact go hD.pb
 ·exact go hD.pw
 ·exact go (perm_face hD)
 ·intro x hx;simp[pasL] at hx
theorem three_perm{N:Nat}{b w:Nat->Nat}(hD:Des N b w){j:Nat}(hj:j<3):Perm N ([b,w,faceF N b w].getD j λ _=>0)/\(pasL N b w).getD j []=tyN (cycs ([b,w,faceF N b w].getD j λ _=>0) N) N:=by
 rcases j with _|_|_|j
 ·exact⟨hD.pb,rfl⟩
 ·exact⟨hD.pw,rfl⟩
 ·exact⟨perm_face hD,rfl⟩
 ·omega
theorem cgq_pos{N:Nat}{b w:Nat->Nat}(hD:Des N b w)(j:Nat):0<cgq N b w j/\cgq N b w j<=720720:=lcmTo_le (pas_mem hD j) (Nat.le_refl _)
theorem row_three{b w f:Nat->Nat}{z:Nat->Dat}:∀j,j<3->rowP [b,w,f] j=fup (fup (fup z 0 (pl b)) 1 (pl w)) 2 (pl f) j
 |0,_=>rfl
 |1,_=>rfl
 |2,_=>rfl
 |_+3,h=>by omega
theorem implClosure_fn(n:Int)(b w:Nat->Nat)(hb:∀i,b i<256)(hw:∀i,w i<256)(hbz:∀i,16<=i->b i=0)(hwz:∀i,16<=i->w i=0):FnP Tryz.prog 24 [ds_ n b w] (cgR n b w):=by
 have hgo:=implGroupOrder_fn n b w hb hw hbz hwz
 cases hc:desB n b w
 ·have e:cgR n b w=t2 (.i .i64 0) (.i .i64 1):=by unfold cgR;rw[hc];rfl
  have eg:goR n b w=t2 (.i .i64 0) (.i .i64 1):=by unfold goR;rw[hc];rfl
  rw[eg] at hgo
  refine FnS.into T tok Tryz.func24 (by rfl) rfl rfl rfl (by simp) ?_
  refine rS ?_
  refine WP.rw ?_
  refine rU 1 ?_
  refine cA (hgo) ?_
  refine rF ?_
  refine WP.seq ?_
  refine rS ?_
  refine cS (λ h=>?_) λ h=>?_
  ·refine rS ?_
   rw[e]
   exact WP.ret (Ends.val (by rfl) (by exact byObl) (by rfl) (by exact sc_t2 trivial trivial))
  ·cases h
 ·obtain⟨N,rfl,hD,hnb,hnw⟩:=des_np hc hbz hwz
  have e:cgR N b w=t2 (.i .i64 (cgV (ordG N [b,w]) N b w)) (.i .i64 0):=by unfold cgR;rw[hc];rfl
  have eg:goR N b w=t2 (.i .i64 ((ordG N [b,w]:Nat):Int)) (.i .i64 0):=by unfold goR;rw[hc];rfl
  have hole:ordG N [b,w]<=20922789888000:=ordG_le hD.le (des_L hnb hnw)
  rw[eg] at hgo
  rw[e]
  generalize ordG N [b,w]=o at*
  refine FnS.into T tok Tryz.func24 (by rfl) rfl rfl rfl (by simp) ?_
  refine rS ?_
  refine WP.rw ?_
  refine rU 1 ?_
  refine cA (hgo) ?_
  refine rF ?_
  refine WP.seq ?_
  refine rS ?_
  refine cF ?_
  refine rS ?_
  refine WP.seq ?_
  refine WP.seq ?_
  refine WP.da (by kernel_rfl) 9 (by kernel_rfl) ?_
  refine WA.takesD T false tok [8] (f':=8) (by kernel_rfl) (by rfl) (by rfl) (by exact byObl) (by rfl) (by rfl) ?_
  refine WA.takes T false tok [0,1,2,3,4] (f':=3) (by kernel_rfl) (by rfl) (by rfl) (by rfl) (by exact byObl) (by rfl) (by rfl) ?_
  refine WA.all [5] (by kernel_rfl) (by simp) ?_;intro i' hi';simp only[List.mem_cons,List.not_mem_nil,or_false] at hi'
  subst hi'
  refine⟨_,_,_,rfl,by rfl,by rfl,MK.callP (face_fn N b w hD) (by rfl) (by simp[Sc,sc_pl,sc_ds,pl_ne,ds_ne]),?_⟩
  refine WA.all [6] (by kernel_rfl) (by simp) ?_;intro i' hi';simp only[List.mem_cons,List.not_mem_nil,or_false] at hi'
  subst hi'
  refine⟨_,_,_,rfl,by rfl,by rfl,MK.of tok (wm:=false) (by rfl) (by exact byObl) (by rfl) (by exact byObl),?_⟩
  refine WA.takes T false tok [7] (f':=0) (by kernel_rfl) (by rfl) (by rfl) (by rfl) (by exact byObl) (by rfl) (by rfl) ?_
  refine WA.end rfl (by kernel_rfl) (noPan ?_)
  refine WP.block ?_
  refine WP.loopH (⟨λ z:Nat×Int=>z.1<=3/\z.2=(cgS o N b w z.1:Int)-(o:Int),λ z=>[(1,.p 0 [] 0),(4,.i .i64 (o:Int)),(6,.i .i64 z.2),(25,.sl 1 0 3 16),(26,.i .i64 3),(27,.i .i64 (z.1:Int))],λ z=>[.var (ds_ N b w),.row 25 3 16 (rowP [b,w,faceF N b w])],λ z=>3-z.1⟩) ((0,-(o:Int))) (⟨Nat.zero_le _,by simp[cgS]⟩) (gC [0,1] (by repeat (first|exact trivial|(refine lC ?_ ?_;first|exact byLz|(exact le_row (Nat.le_refl _) row_three)|exact byLeq)))) ?_
  rintro⟨k,s⟩ ⟨hk,hs⟩
  dsimp only at hk hs
  dsimp only[Hd.at]
  refine rS ?_
  refine WP.seq ?_
  refine cI (λ hc=>?_) λ hc=>?_
  ·have hk:k<3:=by have:=of_decide_eq_true hc;omega
   clear hc
   obtain⟨hpk,hpas⟩:=three_perm hD hk
   have hord:=order_fn ([b,w,faceF N b w].getD k λ _=>0) N hD.le hpk
   rw[<-hpas] at hord
   have hq:=cgq_pos hD k
   have hs1:=cgS_le o N b w k
   have hs2:=cgS_le o N b w (k+1)
   have hs3:cgS o N b w (k+1)=cgS o N b w k+o / cgq N b w k:=rfl
   have hd1:=Nat.div_le_self o (cgq N b w k)
   have h3o:k*o<=2*o:=Nat.mul_le_mul_right _ (by omega)
   have h3o2:(k+1)*o<=3*o:=Nat.mul_le_mul_right _ (by omega)
   refine WP.seq (WP.block ?_)
   refine rS ?_
   refine WP.region ?_
   refine rU 5 ?_
   refine cA (hord) ?_
   rw[show lcmTo ((pasL N b w).getD k []) ((pasL N b w).getD k []).length=cgq N b w k from rfl]
   generalize cgq N b w k=q at*
   have htd:=tdivC o q
   generalize o / q=d at*
   refine rU 1 ?_
   rw[htd]
   refine rF ?_
   refine rE ?_
   refine Again.next ((k+1,s+(d:Int))) (gC [0,1] (leC (leC leZ))) (⟨hk,by dsimp only;rw[hs3];omega⟩) (by dsimp only;omega)
  ·have hk:k=3:=by have:=of_decide_eq_false hc;omega
   subst hk
   have hs1:=cgS_le o N b w 3
   have hv:1-s.tdiv 2=cgV o N b w:=by unfold cgV;rw[hs]
   have hlo:-20922789888000<=s.tdiv 2/\s.tdiv 2<=62768369664000:=by
    rcases Int.le_total 0 s with h0|h0
    ·rw[Int.tdiv_eq_ediv_of_nonneg h0];omega
    ·have:=Int.neg_tdiv s 2
     have h1:(-s).tdiv 2=(-s) / 2:=Int.tdiv_eq_ediv_of_nonneg (by omega)
     omega
   refine rS ?_
   rw[hv]
   exact WP.ret (Ends.val (by rfl) (by exact byObl) (by rfl) (by exact sc_t2 trivial trivial))
theorem specClosure_fn(n:Int)(b w:Nat->Nat)(hb:∀i,b i<256)(hw:∀i,w i<256)(hbz:∀i,16<=i->b i=0)(hwz:∀i,16<=i->w i=0):FnP Tryz.prog 25 [ds_ n b w] (cgR n b w):=by
 refine FnS.into T tok Tryz.func25 (by rfl) rfl rfl rfl (by simp) ?_
 refine rS ?_
 refine WP.seq ?_
 cases hc:desB n b w
 ·have e:cgR n b w=t2 (.i .i64 0) (.i .i64 1):=by unfold cgR;rw[hc];rfl
  refine WP.rw ?_
  refine rU 1 ?_
  refine cA (hc▸l01Is_fn n b w hb hw) ?_
  refine rF ?_
  refine cS (λ h=>?_) λ h=>?_
  ·refine rS ?_
   rw[e]
   exact WP.ret (Ends.val (by rfl) (by exact byObl) (by rfl) (by exact sc_t2 trivial trivial))
  ·cases h
 ·obtain⟨N,rfl,hD,hnb,hnw⟩:=des_np hc hbz hwz
  have e:cgR N b w=t2 (.i .i64 (cgV (ordG N [b,w]) N b w)) (.i .i64 0):=by unfold cgR;rw[hc];rfl
  have hole:ordG N [b,w]<=20922789888000:=ordG_le hD.le (des_L hnb hnw)
  have hpas:=l01Passport_fn N b w hD
  rw[e]
  refine WP.rw ?_
  refine rU 1 ?_
  refine cA (hc▸l01Is_fn N b w hb hw) ?_
  refine rF ?_
  refine cF ?_
  refine WP.seqG ⟨lst [(1,.p 0 [] 0),(4,.i .i64 ((ordG N [b,w]:Nat):Int)),(5,.sl 1 0 3 1),(6,.i .i64 0)],[.var (ds_ N b w),.row 30 3 1 (rowsF (pasL N b w))]⟩ ?_ ?_
  ·refine WP.da (by kernel_rfl) 2 (by kernel_rfl) ?_
   refine WA.allE [0,3] (by kernel_rfl) (by simp) ?_;intro i' hi';simp only[List.mem_cons,List.not_mem_nil,or_false] at hi'
   rcases hi' with rfl|rfl
   ·refine⟨_,_,rfl,by rfl,by rfl,MKE.of (MK.q (evalOp_q tok (wm:=false) (by rfl) (by rfl) (by exact byObl))),?_⟩;rintro _ _ ⟨rfl,rfl⟩
    refine WA.allE [1,3] (by kernel_rfl) (by simp) ?_;intro i' hi';simp only[List.mem_cons,List.not_mem_nil,or_false] at hi'
    rcases hi' with rfl|rfl
    ·refine⟨_,λ v m'=>v=.p 1 [] 0/\∃C,m'=[.var (ds_ N b w),.var (chn N C)]/\Chain N [b,w] C,rfl,by rfl,by rfl,MKE.call [] (l03Of_fn N b w hD.pos hD.le hnb hnw) leZ (by rfl) (.inl rfl) (by rfl) (by exact byArgs) (by simp[Sc,sc_pl,sc_ds]) ?_,?_⟩
     ·rintro _ _ ⟨rfl,C,rfl,hok⟩
      exact⟨by exact byAllc,.p 1 [] 0,rfl,sc_p rfl,rfl,C,rfl,hok⟩
     rintro _ _ ⟨rfl,C,rfl,hok⟩
     have hO:=l03Order_fn N hD.le C hok.ci.T
     rw[(hok.done hD.le hD.pos (des_L hnb hnw)).1.ord] at hO
     refine WA.allT [2,3] (by kernel_rfl) (by simp) ?_;intro i' hi';simp only[List.mem_cons,List.not_mem_nil,or_false] at hi'
     rcases hi' with rfl|rfl
     ·refine⟨_,_,_,rfl,by rfl,by rfl,.inr ⟨by decide,TK.callN [1] (.i .i64 ((ordG N [b,w]:Nat):Int)) (hO) (leC leZ) (by rfl) (by rfl) (by exact byArgs) (by simp[Sc,sc_pl,sc_ds]) (by exact byAllc) (⟨rfl,trivial⟩) (by exact bySc) rfl⟩,?_⟩
      refine WA.allT [3] (by kernel_rfl) (by simp) ?_;intro i' hi';simp only[List.mem_cons,List.not_mem_nil,or_false] at hi'
      subst hi'
      refine⟨_,_,_,rfl,by rfl,by rfl,.inl (MK.q (evalOp_q tok (wm:=false) (by rfl) (by rfl) (by exact⟨rfl,pl_ds _ _ _⟩))),?_⟩
      refine WA.allT [4] (by kernel_rfl) (by simp) ?_;intro i' hi';simp only[List.mem_cons,List.not_mem_nil,or_false] at hi'
      subst hi'
      refine⟨_,_,_,rfl,by rfl,by rfl,.inl (MK.call [] (.sl 2 0 3 1) (hpas) leZ (by rfl) (by exact .inl rfl) (by rfl) (by exact byArgs) (by simp[Sc,sc_pl,sc_ds]) (by exact byAllc) (by exact rfl) (by exact bySc) (by rfl)),?_⟩
      refine WA.move 5 (by rfl) (by first|exact .inl rfl|exact .inr rfl) (by kernel_rfl) (by kernel_rfl) (by rfl) (by rfl) ?_
      refine WA.move 6 (by rfl) (by first|exact .inl rfl|exact .inr rfl) (by kernel_rfl) (by kernel_rfl) (by rfl) (by rfl) ?_
      refine WA.move 7 (by rfl) (by first|exact .inl rfl|exact .inr rfl) (by kernel_rfl) (by kernel_rfl) (by rfl) (by rfl) ?_
      refine WA.end rfl (by kernel_rfl) (noPan ?_)
      exact Ghost.cut (Nat.le_refl _) (tauOf [0,2]) [(1,.p 0 [] 0),(4,.i .i64 ((ordG N [b,w]:Nat):Int)),(5,.sl 1 0 3 1),(6,.i .i64 0)] [.var (ds_ N b w),.row 30 3 1 (rowsF (pasL N b w))] (Taken.of [0,2] (leC (leC leZ)) rfl rfl) (by exact bySlots)
     ·refine⟨_,_,_,rfl,by rfl,by rfl,.inl (MK.q (evalOp_q tok (wm:=false) (by rfl) (by rfl) (by exact⟨rfl,pl_ds _ _ _⟩))),?_⟩
      refine WA.allT [2] (by kernel_rfl) (by simp) ?_;intro i' hi';simp only[List.mem_cons,List.not_mem_nil,or_false] at hi'
      subst hi'
      refine⟨_,_,_,rfl,by rfl,by rfl,.inr ⟨by decide,TK.callN [1] (.i .i64 ((ordG N [b,w]:Nat):Int)) (hO) (leC leZ) (by rfl) (by rfl) (by exact byArgs) (by simp[Sc,sc_pl,sc_ds]) (by exact byAllc) (⟨rfl,trivial⟩) (by exact bySc) rfl⟩,?_⟩
      refine WA.allT [4] (by kernel_rfl) (by simp) ?_;intro i' hi';simp only[List.mem_cons,List.not_mem_nil,or_false] at hi'
      subst hi'
      refine⟨_,_,_,rfl,by rfl,by rfl,.inl (MK.call [] (.sl 2 0 3 1) (hpas) leZ (by rfl) (by exact .inl rfl) (by rfl) (by exact byArgs) (by simp[Sc,sc_pl,sc_ds]) (by exact byAllc) (by exact rfl) (by exact bySc) (by rfl)),?_⟩
      refine WA.move 5 (by rfl) (by first|exact .inl rfl|exact .inr rfl) (by kernel_rfl) (by kernel_rfl) (by rfl) (by rfl) ?_
      refine WA.move 6 (by rfl) (by first|exact .inl rfl|exact .inr rfl) (by kernel_rfl) (by kernel_rfl) (by rfl) (by rfl) ?_
      refine WA.move 7 (by rfl) (by first|exact .inl rfl|exact .inr rfl) (by kernel_rfl) (by kernel_rfl) (by rfl) (by rfl) ?_
      refine WA.end rfl (by kernel_rfl) (noPan ?_)
      exact Ghost.cut (Nat.le_refl _) (tauOf [0,2]) [(1,.p 0 [] 0),(4,.i .i64 ((ordG N [b,w]:Nat):Int)),(5,.sl 1 0 3 1),(6,.i .i64 0)] [.var (ds_ N b w),.row 30 3 1 (rowsF (pasL N b w))] (Taken.of [0,2] (leC (leC leZ)) rfl rfl) (by exact bySlots)
    ·refine⟨_,_,rfl,by rfl,by rfl,MKE.of (MK.q (evalOp_q tok (wm:=false) (by rfl) (by rfl) (by exact byObl))),?_⟩;rintro _ _ ⟨rfl,rfl⟩
     refine WA.allE [1] (by kernel_rfl) (by simp) ?_;intro i' hi';simp only[List.mem_cons,List.not_mem_nil,or_false] at hi'
     subst hi'
     refine⟨_,λ v m'=>v=.p 1 [] 0/\∃C,m'=[.var (ds_ N b w),.var (chn N C)]/\Chain N [b,w] C,rfl,by rfl,by rfl,MKE.call [] (l03Of_fn N b w hD.pos hD.le hnb hnw) leZ (by rfl) (.inl rfl) (by rfl) (by exact byArgs) (by simp[Sc,sc_pl,sc_ds]) ?_,?_⟩
     ·rintro _ _ ⟨rfl,C,rfl,hok⟩
      exact⟨by exact byAllc,.p 1 [] 0,rfl,sc_p rfl,rfl,C,rfl,hok⟩
     rintro _ _ ⟨rfl,C,rfl,hok⟩
     have hO:=l03Order_fn N hD.le C hok.ci.T
     rw[(hok.done hD.le hD.pos (des_L hnb hnw)).1.ord] at hO
     refine WA.allT [2] (by kernel_rfl) (by simp) ?_;intro i' hi';simp only[List.mem_cons,List.not_mem_nil,or_false] at hi'
     subst hi'
     refine⟨_,_,_,rfl,by rfl,by rfl,.inr ⟨by decide,TK.callN [1] (.i .i64 ((ordG N [b,w]:Nat):Int)) (hO) (leC leZ) (by rfl) (by rfl) (by exact byArgs) (by simp[Sc,sc_pl,sc_ds]) (by exact byAllc) (⟨rfl,trivial⟩) (by exact bySc) rfl⟩,?_⟩
     refine WA.allT [4] (by kernel_rfl) (by simp) ?_;intro i' hi';simp only[List.mem_cons,List.not_mem_nil,or_false] at hi'
     subst hi'
     refine⟨_,_,_,rfl,by rfl,by rfl,.inl (MK.call [] (.sl 2 0 3 1) (hpas) leZ (by rfl) (by exact .inl rfl) (by rfl) (by exact byArgs) (by simp[Sc,sc_pl,sc_ds]) (by exact byAllc) (by exact rfl) (by exact bySc) (by rfl)),?_⟩
     refine WA.move 5 (by rfl) (by first|exact .inl rfl|exact .inr rfl) (by kernel_rfl) (by kernel_rfl) (by rfl) (by rfl) ?_
     refine WA.move 6 (by rfl) (by first|exact .inl rfl|exact .inr rfl) (by kernel_rfl) (by kernel_rfl) (by rfl) (by rfl) ?_
     refine WA.move 7 (by rfl) (by first|exact .inl rfl|exact .inr rfl) (by kernel_rfl) (by kernel_rfl) (by rfl) (by rfl) ?_
     refine WA.end rfl (by kernel_rfl) (noPan ?_)
     exact Ghost.cut (Nat.le_refl _) (tauOf [0,2]) [(1,.p 0 [] 0),(4,.i .i64 ((ordG N [b,w]:Nat):Int)),(5,.sl 1 0 3 1),(6,.i .i64 0)] [.var (ds_ N b w),.row 30 3 1 (rowsF (pasL N b w))] (Taken.of [0,2] (leC (leC leZ)) rfl rfl) (by exact bySlots)
   ·refine⟨_,_,rfl,by rfl,by rfl,MKE.of (MK.q (evalOp_q tok (wm:=false) (by rfl) (by rfl) (by exact byObl))),?_⟩;rintro _ _ ⟨rfl,rfl⟩
    refine WA.allE [0] (by kernel_rfl) (by simp) ?_;intro i' hi';simp only[List.mem_cons,List.not_mem_nil,or_false] at hi'
    subst hi'
    refine⟨_,_,rfl,by rfl,by rfl,MKE.of (MK.q (evalOp_q tok (wm:=false) (by rfl) (by rfl) (by exact byObl))),?_⟩;rintro _ _ ⟨rfl,rfl⟩
    refine WA.allE [1] (by kernel_rfl) (by simp) ?_;intro i' hi';simp only[List.mem_cons,List.not_mem_nil,or_false] at hi'
    subst hi'
    refine⟨_,λ v m'=>v=.p 1 [] 0/\∃C,m'=[.var (ds_ N b w),.var (chn N C)]/\Chain N [b,w] C,rfl,by rfl,by rfl,MKE.call [] (l03Of_fn N b w hD.pos hD.le hnb hnw) leZ (by rfl) (.inl rfl) (by rfl) (by exact byArgs) (by simp[Sc,sc_pl,sc_ds]) ?_,?_⟩
    ·rintro _ _ ⟨rfl,C,rfl,hok⟩
     exact⟨by exact byAllc,.p 1 [] 0,rfl,sc_p rfl,rfl,C,rfl,hok⟩
    rintro _ _ ⟨rfl,C,rfl,hok⟩
    have hO:=l03Order_fn N hD.le C hok.ci.T
    rw[(hok.done hD.le hD.pos (des_L hnb hnw)).1.ord] at hO
    refine WA.allT [2] (by kernel_rfl) (by simp) ?_;intro i' hi';simp only[List.mem_cons,List.not_mem_nil,or_false] at hi'
    subst hi'
    refine⟨_,_,_,rfl,by rfl,by rfl,.inr ⟨by decide,TK.callN [1] (.i .i64 ((ordG N [b,w]:Nat):Int)) (hO) (leC leZ) (by rfl) (by rfl) (by exact byArgs) (by simp[Sc,sc_pl,sc_ds]) (by exact byAllc) (⟨rfl,trivial⟩) (by exact bySc) rfl⟩,?_⟩
    refine WA.allT [4] (by kernel_rfl) (by simp) ?_;intro i' hi';simp only[List.mem_cons,List.not_mem_nil,or_false] at hi'
    subst hi'
    refine⟨_,_,_,rfl,by rfl,by rfl,.inl (MK.call [] (.sl 2 0 3 1) (hpas) leZ (by rfl) (by exact .inl rfl) (by rfl) (by exact byArgs) (by simp[Sc,sc_pl,sc_ds]) (by exact byAllc) (by exact rfl) (by exact bySc) (by rfl)),?_⟩
    refine WA.move 5 (by rfl) (by first|exact .inl rfl|exact .inr rfl) (by kernel_rfl) (by kernel_rfl) (by rfl) (by rfl) ?_
    refine WA.move 6 (by rfl) (by first|exact .inl rfl|exact .inr rfl) (by kernel_rfl) (by kernel_rfl) (by rfl) (by rfl) ?_
    refine WA.move 7 (by rfl) (by first|exact .inl rfl|exact .inr rfl) (by kernel_rfl) (by kernel_rfl) (by rfl) (by rfl) ?_
    refine WA.end rfl (by kernel_rfl) (noPan ?_)
    exact Ghost.cut (Nat.le_refl _) (tauOf [0,2]) [(1,.p 0 [] 0),(4,.i .i64 ((ordG N [b,w]:Nat):Int)),(5,.sl 1 0 3 1),(6,.i .i64 0)] [.var (ds_ N b w),.row 30 3 1 (rowsF (pasL N b w))] (Taken.of [0,2] (leC (leC leZ)) rfl rfl) (by exact bySlots)
  generalize ordG N [b,w]=o at*
  refine WP.seq ?_
  refine rS ?_
  refine WP.block ?_
  refine WP.loopH (⟨λ z:Nat×Nat=>z.1<=3/\z.2=cgS o N b w z.1,λ z=>[(1,.p 0 [] 0),(4,.i .i64 (o:Int)),(5,.sl 1 0 3 1),(6,.i .i64 (z.2:Int)),(7,.i .i64 (z.1:Int))],λ z=>[.var (ds_ N b w),.ro 3 1 (rowsF (pasL N b w))],λ z=>3-z.1⟩) ((0,0)) (⟨Nat.zero_le _,rfl⟩) (gC [0,1] (leC (leC leZ))) ?_
  rintro⟨k,s⟩ ⟨hk,hs⟩
  dsimp only at hk hs
  dsimp only[Hd.at]
  refine WP.seq ?_
  refine rS ?_
  refine cI (λ hc=>?_) λ hc=>?_
  ·have hk:k<3:=by have:=of_decide_eq_true hc;omega
   clear hc
   have hcom:=l01Common_fn ((pasL N b w).getD k []) (by have:=pas_len hD k;omega) (pas_mem hD k)
   have hq:=cgq_pos hD k
   have hs2:=cgS_le o N b w (k+1)
   have hs3:cgS o N b w (k+1)=cgS o N b w k+o / cgq N b w k:=rfl
   have hd1:=Nat.div_le_self o (cgq N b w k)
   have h3o2:(k+1)*o<=3*o:=Nat.mul_le_mul_right _ (by omega)
   refine WP.seq (WP.block ?_)
   refine WP.region ?_
   refine rU 6 ?_
   refine cR [2] (hcom) (LeAll.cons (by rfl) (by first|with_reducible exact Root.Le.refl _|with_reducible exact le_dead|(exact le_ro (Nat.le_refl _) (λ _ _=>rfl))|exact byLeq) (by exact byCon) (leZ)) ?_
   rw[show lcmTo ((pasL N b w).getD k []) ((pasL N b w).getD k []).length=cgq N b w k from rfl]
   generalize cgq N b w k=q at*
   have htd:=tdivC o q
   generalize o / q=d at*
   refine rU 1 ?_
   rw[htd]
   refine rF ?_
   refine rE ?_
   refine Again.next ((k+1,s+d)) (gC [0,1] (leC (leC leZ))) (⟨hk,by dsimp only;rw[hs3];omega⟩) (by dsimp only;omega)
  ·have hk:k=3:=by have:=of_decide_eq_false hc;omega
   subst hk
   have hs1:=cgS_le o N b w 3
   have hv:1-(((s:Nat):Int)-(o:Int)).tdiv 2=cgV o N b w:=by unfold cgV;rw[hs]
   have hlo:-20922789888000<=((s:Int)-(o:Int)).tdiv 2/\((s:Int)-(o:Int)).tdiv 2<=62768369664000:=by
    generalize hx:(s:Int)-(o:Int)=x
    rcases Int.le_total 0 x with h0|h0
    ·rw[Int.tdiv_eq_ediv_of_nonneg h0];omega
    ·have:=Int.neg_tdiv x 2
     have h1:(-x).tdiv 2=(-x) / 2:=Int.tdiv_eq_ediv_of_nonneg (by omega)
     omega
   refine rS ?_
   rw[hv]
   exact WP.ret (Ends.val (by rfl) (by exact byObl) (by rfl) (by exact sc_t2 trivial trivial))
theorem bitsMul1_fn(N:Nat)(hN:N<=65536):FnP Tryz.prog 74 [.i .u64 (1:Int),.i .u64 (N:Int)] (t2 (.i .u64 0) (.i .u64 (N:Int))):=by
 refine⟨callFunc_run Tryz.func74 rfl rfl,λ ρ w hr hx=>?_⟩
 have hcall:=Any.bits_Mul Tryz.laysL212 1 N (by omega) (by omega) w
 change Calls Tryz.prog 74 _ _ _ at hcall
 have e1:1*N / 18446744073709551616=0:=by omega
 have e2:1*N % 18446744073709551616=N:=by omega
 rw[e1,e2] at hcall
 refine hcall.mono ?_
 rintro e w' ⟨rfl,rfl⟩
 exact⟨t2 (.i .u64 0) (.i .u64 (N:Int)),ρ,[],rfl,sc_t2 trivial trivial,ok_t2 ⟨trivial,trivial⟩ ⟨trivial,trivial⟩,hr,Tr.refl _ _ _,rfl,sc_t2 trivial trivial⟩
theorem repeat_fn(N:Nat)(h1:1<=N)(hN:N<=16):FnS Tryz.prog 38 [.sl 0 0 1 1,.i .i64 (N:Int)] [.ro 1 1 (intD λ _=>-1)] (λ r m'=>r=.sl 1 0 N 1/\m'=[.ro 1 1 (intD λ _=>-1),.row 2 N 1 (intD λ _=>-1)]):=by
 refine FnS.intoN T tok Tryz.func38 (by rfl) rfl rfl rfl (by simp) ?_
 refine rS ?_
 refine WP.seq ?_
 refine rS ?_
 refine cS (λ h=>?_) λ h=>?_
 ·have:=of_decide_eq_true h;omega
 clear h
 refine WP.rw ?_
 refine rU 5 ?_
 refine cA (bitsMul1_fn N (by omega)) ?_
 refine rF ?_
 refine WP.seq ?_
 refine rS ?_
 refine cS (λ h=>?_) λ h=>?_
 ·simp at h;omega
 clear h
 refine rS ?_
 refine WP.rw ?_
 refine rU 2 ?_
 refine WPL.op (by rfl) (by rfl) (ok_copy (F:=λ _=>0) (G:=λ _=>-1) (k:=1) (n:=N) (n2:=1) (off:=0) (off2:=0) (len:=N) (len2:=1) tok rfl rfl rfl rfl rfl rfl rfl (.inr rfl) (by simp only[Nat.min_def];split<;>omega) (by omega) (by omega) (by omega)) ?_
 refine rF ?_
 refine WP.seq (WP.block ?_)
 refine WP.loopH (⟨λ c:Nat=>1<=c/\c<=N,λ c=>[(7,.sl 1 0 N 1),(8,.i .i64 (c:Int))],λ c=>[.ro 1 1 (intD λ _=>-1),.row 2 N 1 (intD λ j=>if j<c then-1 else 0)],λ c=>N-c⟩) (1) (⟨Nat.le_refl _,h1⟩) (gC [0,1] (by repeat (first|exact trivial|(refine lC ?_ ?_;first|exact byLz|(exact le_row (Nat.le_refl _) (λ j hj=>by unfold intD cpF;congr 1;simp))|exact byLeq)))) ?_
 rintro c ⟨hc1,hc2⟩
 dsimp only[Hd.at]
 refine WP.seq ?_
 refine rS ?_
 refine cI (λ hc=>?_) λ hc=>?_
 ·have hcN:c<N:=by have:=of_decide_eq_true hc;omega
  clear hc
  refine WP.block ?_
  refine WP.da (by kernel_rfl) 7 (by kernel_rfl) ?_
  refine WA.move 0 (by rfl) (by first|exact .inl rfl|exact .inr rfl) (by kernel_rfl) (by kernel_rfl) (by rfl) (by rfl) ?_
  refine WA.move 1 (by rfl) (by first|exact .inl rfl|exact .inr rfl) (by kernel_rfl) (by kernel_rfl) (by rfl) (by rfl) ?_
  refine WA.move 2 (by rfl) (by first|exact .inl rfl|exact .inr rfl) (by kernel_rfl) (by kernel_rfl) (by rfl) (by rfl) ?_
  refine WA.take (i:=3) (by rfl) (by decide) (by kernel_rfl) (by kernel_rfl) (by kernel_rfl) (by rfl) (by rfl) (sll_ok (l:=c) (n:=N) (off:=0) (len:=N) tok rfl rfl rfl rfl rfl rfl rfl (by omega) (by omega)) ?_
  refine WA.move 4 (by rfl) (by first|exact .inl rfl|exact .inr rfl) (by kernel_rfl) (by kernel_rfl) (by rfl) (by rfl) ?_
  refine WA.move 5 (by rfl) (by first|exact .inl rfl|exact .inr rfl) (by kernel_rfl) (by kernel_rfl) (by rfl) (by rfl) ?_
  refine WA.take (i:=6) (by rfl) (by decide) (by kernel_rfl) (by kernel_rfl) (by kernel_rfl) (by rfl) (by rfl) (slh_ok (h:=c) (n:=N) (off:=0) tok rfl rfl rfl rfl rfl rfl rfl (by omega)) ?_
  refine WA.tail (by rfl) (by rfl) (by kernel_rfl) ?_
  refine WPL.op (by rfl) (by rfl) (ok_copy (F:=λ j=>if j<c then-1 else 0) (G:=λ j=>if j<c then-1 else 0) (k:=Nat.min c (N-c)) (n:=N) (n2:=N) (off:=0+c) (off2:=0) (len:=N-c) (len2:=c) tok rfl rfl rfl rfl rfl rfl rfl (.inl ⟨_,rfl⟩) rfl (by simp only[Nat.min_def];split<;>omega) (by simp only[Nat.min_def];split<;>omega) (by omega)) ?_
  have hk:Nat.min c (N-c)<=c/\Nat.min c (N-c)<=N-c/\1<=Nat.min c (N-c):=by simp only[Nat.min_def];split<;>omega
  generalize Nat.min c (N-c)=k at*
  refine rF ?_
  refine noPan ?_
  rw[show((c:Nat):Int)+((k:Nat):Int)=((c+k:Nat):Int) from rfl]
  have hle:∀j,intD (λ j=>if j<c+k then-1 else 0) j=intD (cpF (λ j=>if j<c then-1 else 0) (λ j=>if j<c then-1 else 0) (0+c) 0 k) j:=λ j=>by
   unfold intD cpF
   congr 1
   show(if j<c+k then(-1:Int) else 0)=if 0+c<=j/\j<0+c+k then(if 0+(j-(0+c))<c then-1 else 0) else(if j<c then-1 else 0)
   by_cases a1:j<c
   ·rw[if_pos (show j<c+k by omega),if_neg (show¬(0+c<=j/\j<0+c+k) by omega),if_pos a1]
   ·by_cases a2:j<c+k
    ·rw[if_pos a2,if_pos (show 0+c<=j/\j<0+c+k by omega),if_pos (show 0+(j-(0+c))<c by omega)]
    ·rw[if_neg a2,if_neg (show¬(0+c<=j/\j<0+c+k) by omega),if_neg a1]
  refine Again.next (c+k) (gC [0,1] (by repeat (first|exact trivial|(refine lC ?_ ?_;first|exact byLz|(exact le_row (Nat.le_refl _) (λ j hj=>hle j))|exact byLeq)))) (⟨by omega,by omega⟩) (by dsimp only;omega)
 ·have hcN:c=N:=by have:=of_decide_eq_false hc;omega
  subst hcN
  refine rS ?_
  exact WP.ret (Ends.new [0,1] (by rfl) (by exact byObl) (by repeat (first|exact trivial|(refine lC ?_ ?_;first|exact byLz|(exact le_row (Nat.le_refl _) (λ j hj=>by simp only[intD,if_pos hj]))|exact byLeq))) rfl rfl (rfl) (sc_sl rfl))
def inI(n:Int)(x:Int):Bool:=decide (0<=x)&&decide (x<n)
def allI(n:Int)(g:Nat->Int):Nat->Bool
 |0=>true
 |k+1=>allI n g k&&inI n (g k)
theorem allI_iff{n:Int}{g:Nat->Int}:∀{m:Nat},allI n g m=true↔∀k,k<m->inI n (g k)=true
 |0=>⟨λ _ k h=>absurd h (Nat.not_lt_zero _),λ _=>rfl⟩
 |m+1=>by
  rw[allI,Bool.and_eq_true,allI_iff (m:=m)]
  constructor
  ·rintro⟨h1,h2⟩ k hk
   by_cases e:k=m
   ·subst e;exact h2
   ·exact h1 k (by omega)
  ·exact λ h=>⟨λ k hk=>h k (by omega),h m (by omega)⟩
theorem allI_no{n:Int}{g:Nat->Int}{m k:Nat}(hk:k<m)(h:inI n (g k)=false):allI n g m=false:=by
 cases e:allI n g m with
 |false=>rfl
 |true=>rw[allI_iff.1 e k hk] at h;cases h
theorem isDartI_fn(n:Int)(b w:Nat->Nat)(m:Nat)(g:Nat->Int)(hl:m<=4294967296):FnR Tryz.prog 32 [ds_ n b w,.sl 0 0 m 1] [.ro m 1 (λ i=>.i .i64 (g i))] (.b (allI n g m)):=by
 refine FnS.into T tok Tryz.func32 (by rfl) rfl rfl rfl (by simp) ?_
 refine rS ?_
 refine WP.seq ?_
 refine rS ?_
 refine WP.block ?_
 refine WP.loopH (⟨λ k:Nat=>k<=m/\∀j,j<k->inI n (g j)=true,λ k=>[(2,.p 1 [] 0),(7,.sl 0 0 m 1),(8,.i .i64 (m:Int)),(9,.i .i64 (k:Int))],λ k=>[.ro m 1 (λ i=>.i .i64 (g i)),.var (ds_ n b w)],λ k=>m-k⟩) (0) (⟨Nat.zero_le _,λ j hj=>absurd hj (Nat.not_lt_zero _)⟩) (gC [0,1] (leC (leC leZ))) ?_
 rintro k ⟨hk,hall⟩
 dsimp only[Hd.at]
 refine rS ?_
 refine WP.seq ?_
 refine cI (λ hc=>?_) λ hc=>?_
 ·have hk:k<m:=by have:=of_decide_eq_true hc;omega
  clear hc
  refine WP.seq (WP.block ?_)
  refine rS ?_
  refine WP.seq ?_
  refine WP.region ?_
  refine rU 2 ?_
  have hno:=allI_no (n:=n) (g:=g) hk
  have hyes:inI n (g k)=true->∀j,j<k+1->inI n (g j)=true:=λ h j hj=>by
   by_cases e:j=k
   ·subst e;exact h
   ·exact hall j (by omega)
  have hx:g (addrAt 0 ((k:Nat):Int).toNat)=g k:=by rw[show addrAt 0 ((k:Nat):Int).toNat=k by simp[addrAt0]]
  rw[hx]
  generalize g k=x at hno hyes hx ⊢
  cases h1:decide (x<0)
  ·have h1':0<=x:=by have:=of_decide_eq_false h1;omega
   refine rF ?_
   refine cS (λ h=>?_) λ h=>?_
   ·have h:=of_decide_eq_true h
    rw[hno (by simp[inI];omega)]
    refine rS ?_
    exact WP.ret (Ends.val (by rfl) (by exact byObl) (by rfl) (by trivial))
   ·have h:=of_decide_eq_false h
    refine rE ?_
    refine Again.next (k+1) (gC [0,1] (leC (leC leZ))) (⟨hk,hyes (by simp[inI];omega)⟩) (by dsimp only;omega)
  ·have h1':x<0:=of_decide_eq_true h1
   refine rF ?_
   refine cS (λ h=>?_) λ h=>?_
   ·rw[hno (by simp[inI];omega)]
    refine rS ?_
    exact WP.ret (Ends.val (by rfl) (by exact byObl) (by rfl) (by trivial))
   ·cases h
 ·have hk:k=m:=by have:=of_decide_eq_false hc;omega
  subst hk
  rw[allI_iff.2 hall]
  refine rS ?_
  exact WP.ret (Ends.val (by rfl) (by exact byObl) (by rfl) (by trivial))
def setD(l:List Nat)(j:Nat):Dat:=.i .u32 ((l.getD j 0:Nat):Int)
theorem ap_sets(l:List Nat)(y:Nat)(z:Dat)(j:Nat)(hj:j<l.length+1):setD (l++[y]) j=apF l.length (setD l) 0 (fup (λ _=>z) 0 (.i .u32 ((y:Nat):Int))) j:=by
 unfold setD apF
 by_cases h:j<l.length
 ·rw[getD_snoc_lt l y 0 h,blt_true h];rfl
 ·obtain rfl:j=l.length:=by omega
  rw[getD_snoc,blt_false h]
  simp[fup]
def idxF(l:List Nat)(y:Nat):Nat->Int
 |0=>-1
 |k+1=>if idxF l y k<0 then(if l.getD k 0=y then(k:Int) else-1) else idxF l y k
theorem idx_neg{l:List Nat}{y:Nat}:∀k,idxF l y k<0↔∀j,j<k->l.getD j 0≠y
 |0=>⟨λ _ j h=>absurd h (Nat.not_lt_zero _),λ _=>by simp[idxF]⟩
 |k+1=>by
  have ih:=idx_neg (l:=l) (y:=y) k
  simp only[idxF]
  by_cases h:idxF l y k<0
  ·rw[if_pos h]
   have h':=ih.1 h
   by_cases e:l.getD k 0=y
   ·rw[if_pos e]
    exact⟨λ h=>by omega,λ h=>absurd e (h k (by omega))⟩
   ·rw[if_neg e]
    refine⟨λ _ j hj=>?_,λ _=>by omega⟩
    by_cases e2:j=k
    ·subst e2;exact e
    ·exact h' j (by omega)
  ·rw[if_neg h]
   exact⟨λ h2=>absurd h2 h,λ h2=>absurd (ih.2 λ j hj=>h2 j (by omega)) h⟩
theorem idx_no{l:List Nat}{y:Nat}:∀{k:Nat},(∀j,j<k->l.getD j 0≠y)->idxF l y k=-1
 |0,_=>rfl
 |k+1,h=>by
  simp only[idxF]
  rw[idx_no (k:=k) λ j hj=>h j (by omega),if_pos (by decide),if_neg (h k (by omega))]
theorem idx_at{l:List Nat}{y k n:Nat}(hk:k<n)(h:∀j,j<k->l.getD j 0≠y)(hy:l.getD k 0=y):idxF l y n=k:=by
 induction n with
 |zero=>exact absurd hk (Nat.not_lt_zero _)
 |succ n ih=>
  simp only[idxF]
  by_cases e:k=n
  ·subst e;rw[idx_no h,if_pos (by decide),if_pos hy]
  ·have:=ih (by omega)
   rw[this,if_neg (by omega)]
theorem idx_mem(l:List Nat)(y:Nat):decide (idxF l y l.length>=0)=decide (y∈l):=by
 have h:=idx_neg (l:=l) (y:=y) l.length
 by_cases hm:y∈l
 ·rw[decide_eq_true hm]
  refine decide_eq_true ?_
  obtain⟨j,hj,e⟩:=List.getElem_of_mem hm
  refine Int.not_lt.1 λ h2=>h.1 h2 j hj ?_
  rw[List.getD_eq_getElem?_getD,List.getElem?_eq_getElem hj]
  exact e
 ·rw[decide_eq_false hm]
  refine decide_eq_false λ h2=>?_
  have h3:idxF l y l.length<0:=h.2 λ j hj e=>hm (by
   rw[<-e,List.getD_eq_getElem?_getD,List.getElem?_eq_getElem hj]
   exact List.getElem_mem hj)
  omega
theorem indexU_fn(l:List Nat)(y:Nat)(hl:l.length<=4294967296)(hy:y<65536):FnR Tryz.prog 73 [.sl 0 0 l.length 1,.i .u32 (y:Int)] [.ro l.length 1 (setD l)] (.i .i64 (idxF l y l.length)):=by
 refine FnS.into T tok Tryz.func73 (by rfl) rfl rfl rfl (by simp) ?_
 refine rS ?_
 refine WP.seq ?_
 refine rS ?_
 refine WP.block ?_
 refine WP.loopH (⟨λ k:Nat=>k<=l.length/\∀j,j<k->l.getD j 0≠y,λ k=>[(0,.sl 0 0 l.length 1),(1,.i .u32 (y:Int)),(7,.i .i64 (l.length:Int)),(8,.i .i64 (k:Int))],λ k=>[.ro l.length 1 (setD l)],λ k=>l.length-k⟩) (0) (⟨Nat.zero_le _,λ j hj=>absurd hj (Nat.not_lt_zero _)⟩) (gC [0] (leC leZ)) ?_
 rintro k ⟨hk,hall⟩
 dsimp only[Hd.at]
 refine rS ?_
 refine WP.seq ?_
 refine cI (λ hc=>?_) λ hc=>?_
 ·have hk:k<l.length:=by have:=of_decide_eq_true hc;omega
  clear hc
  refine WP.seq (WP.block ?_)
  refine rS ?_
  refine WP.seq ?_
  refine rE ?_
  have ek:addrAt 0 ((k:Nat):Int).toNat=k:=by simp[addrAt0]
  refine cS (λ h=>?_) λ h=>?_
  ·have h:=of_decide_eq_true h
   rw[ek] at h
   have e:idxF l y l.length=k:=idx_at hk hall (by omega)
   rw[e]
   refine rS ?_
   exact WP.ret (Ends.val (by rfl) (by exact byObl) (by rfl) (by trivial))
  ·have h:=of_decide_eq_false h
   rw[ek] at h
   refine rE ?_
   refine Again.next (k+1) (gC [0] (leC leZ)) (⟨hk,λ j hj=>by
    by_cases e:j=k
    ·subst e;omega
    ·exact hall j (by omega)⟩) (by dsimp only;omega)
 ·have hk:k=l.length:=by have:=of_decide_eq_false hc;omega
  subst hk
  have e:idxF l y l.length=-1:=idx_no hall
  rw[e]
  refine rS ?_
  exact WP.ret (Ends.val (by rfl) (by exact byObl) (by rfl) (by trivial))
theorem containsU_fn(l:List Nat)(y:Nat)(hl:l.length<=4294967296)(hy:y<65536):FnR Tryz.prog 37 [.sl 0 0 l.length 1,.i .u32 (y:Int)] [.ro l.length 1 (setD l)] (.b (decide (y∈l))):=by
 have hi:=indexU_fn l y hl hy
 refine FnS.into T tok Tryz.func37 (by rfl) rfl rfl rfl (by simp) ?_
 refine rS ?_
 refine WP.rw ?_
 refine rU 2 ?_
 refine cR [0] (hi) (leC leZ) ?_
 refine rF ?_
 rw[idx_mem]
 exact WP.ret (Ends.val (by rfl) (by exact byObl) (by rfl) (by trivial))
end Go.Proofs.YthjnmlpibafbnaaGreat
