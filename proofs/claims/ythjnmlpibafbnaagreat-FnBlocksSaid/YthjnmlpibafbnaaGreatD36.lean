import Derived.Test.YthjnmlpibafbnaaGreatX122
import Derived.Test.YthjnmlpibafbnaaGreatX124
import Derived.Test.YthjnmlpibafbnaaGreatL35
import Derived.Test.YthjnmlpibafbnaaGreatX83
import Derived.Test.YthjnmlpibafbnaaGreatD34
namespace Go.Proofs.YthjnmlpibafbnaaGreat
open Go.RowKit DM
set_option linter.unusedSimpArgs false
set_option linter.unusedVariables false
set_option maxRecDepth 100000
set_option maxHeartbeats 1000000
theorem specElementTypes_fn(n:Int)(b w:Nat->Nat)(hb:∀i,b i<256)(hw:∀i,w i<256)(hbz:∀i,16<=i->b i=0)(hwz:∀i,16<=i->w i=0):FnS Tryz.prog 23 [ds_ n b w] [] (λ r m'=>r=(etT n b w).1/\m'=(etT n b w).2):=by
 have hSc:∀(k e n:Nat) (L:List (Nat->Nat)),Sc k (.ow e n 16 (rowP L)):=λ k _ _ L j _=>sc_row k L j
 cases hc:desB n b w
 ·have e:etT n b w=(t3 .ns .ns (.i .i64 1),[]):=by unfold etT;rw[hc];rfl
  rw[e]
  refine FnS.intoN T tok Tryz.func23 (by rfl) rfl rfl rfl (by simp) ?_
  refine rS ?_
  refine WP.seq ?_
  refine WP.rw ?_
  refine rU 1 ?_
  refine cA (hc▸l01Is_fn n b w hb hw) ?_
  refine rF ?_
  refine cS (λ h=>?_) λ h=>?_
  ·refine rS ?_
   exact WP.ret (Ends.new [] (by rfl) (by exact byObl) leZ rfl rfl (ren3 ⟨rfl,trivial⟩ ⟨rfl,trivial⟩ ⟨rfl,trivial⟩) (sc_t3 trivial trivial trivial))
  ·cases h
 obtain⟨N,rfl,hD,hnb,hnw⟩:=des_np hc hbz hwz
 cases ho:decide ((5000:Int)<(ordG N [b,w]:Nat))
 case' false=>have e:etT N b w=(t3 (.sl 0 0 (etD N [b,w]).length 1) (.sl 1 0 (etD N [b,w]).length 1) (.i .i64 0),[.row 30 (etD N [b,w]).length 1 (rowsR (etD N [b,w])),.row 2 (etD N [b,w]).length 1 (numsF (etC N [b,w]))]):=by unfold etT;rw[hc,show decide ((5000:Int)<(ordG (N:Int).toNat [b,w]:Nat))=false from ho];rfl
 case' true=>have e:etT N b w=(t3 .ns .ns (.i .i64 3),[]):=by unfold etT;rw[hc,show decide ((5000:Int)<(ordG (N:Int).toNat [b,w]:Nat))=true from ho];rfl
 all_goals
  rw[e]
  refine FnS.intoN T tok Tryz.func23 (by rfl) rfl rfl rfl (by simp) ?_
  refine rS ?_
  refine WP.seq ?_
  refine WP.rw ?_
  refine rU 1 ?_
  refine cA (hc▸l01Is_fn N b w hb hw) ?_
  refine rF ?_
  refine cF ?_
  refine WP.rw ?_
  refine rU 1 ?_
  refine WPL.callE [] (l03Of_fn N b w hD.pos hD.le hnb hnw) leZ (by rfl) (by rfl) (by exact byArgs) (by rfl) (by rfl) (by simp[Sc,sc_pl,sc_ds]) ?_
  rintro _ _ ⟨rfl,C,rfl,hok⟩
  refine⟨by exact byAllc,.p 1 [] 0,rfl,sc_p rfl,?_⟩
  refine WPL.mem (by rfl) ?_
  refine rF ?_
  have hO:=l03Order_fn N hD.le C hok.ci.T
  rw[(hok.done hD.le hD.pos (des_L hnb hnw)).1.ord] at hO
  refine WP.seq ?_
  refine WP.rw ?_
  refine rU 1 ?_
  refine cN [1] (.i .i64 ((ordG N [b,w]:Nat):Int)) (hO) (leC leZ) (⟨rfl,trivial⟩) ?_
  refine rF ?_
  rw[ho]
  refine cS (λ h=>?_) λ h=>?_
 case true.true.refine_1=>
  refine rS ?_
  exact WP.ret (Ends.new [] (by rfl) (by exact byObl) leZ rfl rfl (ren3 ⟨rfl,trivial⟩ ⟨rfl,trivial⟩ ⟨rfl,trivial⟩) (sc_t3 trivial trivial trivial))
 case true.true.refine_2=>cases h
 case true.false.refine_1=>cases h
 clear h
 have hN:=hD.le
 have hT:=hok.ci.T
 have hord:ordF 16 C.has N<=5000:=by
  rw[hT.ord16 hN,(hok.done hN hD.pos (des_L hnb hnw)).1.ord]
  have:=of_decide_eq_false ho;omega
 have hEok:ElOk N [b,w] (elsE N C.has C.tab N):=els_ok hN (des_L hnb hnw) hT λ g _=>by
  have:=(hok.done hN hD.pos (des_L hnb hnw)).2 g
  unfold InS at this
  rwa [Nat.sub_zero] at this
 have hEl:=els_le hN hT (Nat.le_refl N)
 have hall:=(all_fn N hN C hT N (Nat.le_refl _)).1 (sameF N) (one_np N) (by rw[dfs_all hN hT];omega)
 rw[dfs_all hN hT] at hall
 change FnS _ _ [.p 0 [] 0,.i .i64 ((N:Int)-1),pl (fillF (λ i=>i) N),.ns] _ _ at hall
 have hEnp:∀p∈elsE N C.has C.tab N,Np N p:=λ p hp=>((hEok.mem p).1 hp).np (des_L hnb hnw)
 obtain⟨hR1,hR2⟩:=et_of hEok (.refl _)
 generalize elsE N C.has C.tab N=E at*
 have hE5:E.length<=5000:=by omega
 refine WP.seqG ⟨lst [(1,.p 0 [] 0),(6,.sl 1 0 E.length 16),(7,.sl 2 0 0 1),(8,.sl 3 0 0 1)],[.var (ds_ N b w),.ro E.length 16 (rowP E),.row 30 0 1 (rowsR []),.row 2 0 1 (numsF [])]⟩ ?_ ?_
 ·refine WP.ghost (s':=⟨lst [(1,.p 0 [] 0),(5,.p 1 [] 0)],[.var (ds_ N b w),.var (chn N C)]⟩) ?_ (reg6 hN hE5 hall)
  exact Ghost.cut (Nat.le_refl _) (tauOf [0,1]) [(1,.p 0 [] 0),(5,.p 1 [] 0)] [.var (ds_ N b w),.var (chn N C)] (Taken.of [0,1] (leC (leC leZ)) rfl rfl) (by exact bySlots)
 generalize hTe:tyL N E=TL at*
 have hTl:TL.length=E.length:=by rw[<-hTe,tyL_len]
 have hTs:∀l∈TL,l.length<=16:=by rw[<-hTe];exact tyL_small hN hEnp
 refine WP.seq ?_
 refine rS ?_
 refine WP.block ?_
 refine WP.loopH (⟨λ i:Nat=>i<=E.length,λ i=>[(1,.p 0 [] 0),(6,.sl 1 0 E.length 16),(7,.sl 2 0 (dL (TL.take i)).length 1),(8,.sl 3 0 (dL (TL.take i)).length 1),(9,.i .i64 (i:Int))],λ i=>[.var (ds_ N b w),.ro E.length 16 (rowP E),.row 30 (dL (TL.take i)).length 1 (rowsR (dL (TL.take i))),.row 2 (dL (TL.take i)).length 1 (numsF (cnX (TL.take i) (dL (TL.take i))))],λ i=>E.length-i⟩) (0) (Nat.zero_le _) (gC [0,1,2,3] (by repeat (first|exact trivial|(refine lC ?_ ?_;first|exact byLz|(exact le_row (Nat.le_refl _) (λ j hj=>rfl))|exact byLeq)))) ?_
 intro i hi
 dsimp only at hi
 dsimp only[Hd.at]
 have hDl:(dL (TL.take i)).length<=5000:=by
  have:=dL_len (TL.take i)
  rw[List.length_take] at this;omega
 refine WP.seq ?_
 refine rS ?_
 refine cI (λ hc=>?_) λ hc=>?_
 ·have hi:i<E.length:=by have:=of_decide_eq_true hc;omega
  clear hc
  have hpm:E.getD i (λ _=>0)∈E:=by
   rw[List.getD_eq_getElem?_getD,List.getElem?_eq_getElem hi];exact List.getElem_mem hi
  have hpn:=hEnp _ hpm
  have htk:=tyL_take N E hi
  rw[hTe] at htk
  have hty:=l01Type_fn (E.getD i λ _=>0) N hN hpn.perm
  have hol:=tyN_small hN hpn.perm
  have hDs:∀j,((dL (TL.take i)).getD j []).length<=65536:=λ j=>Nat.le_trans (dL_small (λ l hl=>hTs l (List.mem_of_mem_take hl)) j) (by omega)
  have hdn:=dL_snoc (TL.take i) (tyN (cycs (E.getD i λ _=>0) N) N)
  have hsrt:=dL_ok (TL.take i)
  rw[<-htk] at hdn
  have hcn:∀a t j,a<(dL (TL.take i)).length->(dL (TL.take i)).getD a []=t->j<(dL (TL.take i)).length->(cnX (TL.take i++[t]) (dL (TL.take i))).getD j 0=if j=a then(cnX (TL.take i) (dL (TL.take i))).getD a 0+1 else(cnX (TL.take i) (dL (TL.take i))).getD j 0:=λ a t j ha e hj=>cnX_hit hsrt.1 ha e hj
  have hcw:=λ t h1 h2 a=>cnX_new (X:=TL.take i) (D:=dL (TL.take i)) (t:=t) h1 h2 a
  have hCl:=cnX_len (TL.take i) (dL (TL.take i))
  have hCb:=λ j=>cnX_le (TL.take i) (dL (TL.take i)) j
  have hXl:(TL.take i).length<=5000:=by rw[List.length_take];omega
  generalize hown:tyN (cycs (E.getD i λ _=>0) N) N=own at*
  have hgi:E.getD (addrAt 0 ((i:Nat):Int).toNat) (λ _=>0)=E.getD i λ _=>0:=by rw[addrAt0];rfl
  refine WP.seq (WP.block ?_)
  refine WP.seq ?_
  refine WP.da (by kernel_rfl) 7 (by kernel_rfl) ?_
  refine WA.takes T false tok [0,1,2,3,4,5] (f':=3) (by kernel_rfl) (by rfl) (by rfl) (by rfl) (by exact byObl) (by rfl) (by rfl) ?_
  rw[hgi]
  refine WA.all [6] (by kernel_rfl) (by simp) ?_;intro i' hi';simp only[List.mem_cons,List.not_mem_nil,or_false] at hi'
  subst hi'
  refine⟨_,_,_,rfl,by rfl,by rfl,MK.call [] (.sl 4 0 own.length 1) (hty) leZ (by rfl) (by exact .inl rfl) (by rfl) (by exact byArgs) (by simp[Sc,sc_pl,sc_ds]) (by exact byAllc) (by exact rfl) (by exact bySc) (by rfl),?_⟩
  refine WA.tail (by rfl) (by rfl) (by kernel_rfl) ?_
  refine rF ?_
  refine noPan ?_
  have hLen0:=congrArg List.length hdn
  have hgo:dL (TL.take (i+1))=insX own (dL (TL.take i)):=hdn
  have hcg:cnX (TL.take (i+1)) (dL (TL.take (i+1)))=cnX (TL.take i++[own]) (insX own (dL (TL.take i))):=by rw[hgo,htk]
  have hlo:own.length<=65536:=by omega
  have hnin:=λ h=>insX_not (t:=own) hsrt.1 h
  have hmm:=hsrt.2
  generalize cnX (TL.take i) (dL (TL.take i))=Cn at*
  generalize dL (TL.take i)=D at*
  refine WP.seqG ⟨lst [(1,.p 0 [] 0),(6,.sl 1 0 E.length 16),(7,.sl 2 0 D.length 1),(8,.sl 3 0 D.length 1),(9,.i .i64 (i:Int)),(10,.sl 4 0 own.length 1),(11,.i .i64 ((atX own D:Nat):Int))],[.var (ds_ N b w),.ro E.length 16 (rowP E),.row 30 D.length 1 (rowsR D),.row 2 D.length 1 (numsF Cn),.ro own.length 1 (numsF own)]⟩ ?_ ?_
  ·refine WP.block ?_
   refine WP.loopH (⟨λ a:Nat=>a<=D.length/\∀j,j<a->lexL (D.getD j []) own<0,λ a=>[(1,.p 0 [] 0),(6,.sl 1 0 E.length 16),(7,.sl 2 0 D.length 1),(8,.sl 3 0 D.length 1),(9,.i .i64 (i:Int)),(10,.sl 4 0 own.length 1),(11,.i .i64 (a:Int))],λ a=>[.var (ds_ N b w),.ro E.length 16 (rowP E),.row 30 D.length 1 (rowsR D),.row 2 D.length 1 (numsF Cn),.ro own.length 1 (numsF own)],λ a=>D.length-a⟩) (0) (⟨Nat.zero_le _,λ j hj=>absurd hj (Nat.not_lt_zero _)⟩) (gC [0,1,2,3,4] (leC (leC (leC (leC (leC leZ)))))) ?_
   intro a ha
   dsimp only at ha
   dsimp only[Hd.at]
   obtain⟨ha1,ha2⟩:=ha
   refine WP.seq ?_
   refine WP.rw ?_
   refine rU 5 ?_
   cases hc:decide ((a:Int)<D.length)
   ·have ha:¬a<D.length:=by have:=of_decide_eq_false hc;omega
    refine rF ?_
    refine cI (λ h=>?_) λ h=>?_
    ·cases h
    have e:=atX_eq ha1 ha2 (λ h=>absurd h ha)
    rw[<-e]
    exact Ghost.cut (Nat.le_refl _) (tauOf [0,1,2,3,4]) [(1,.p 0 [] 0),(6,.sl 1 0 E.length 16),(7,.sl 2 0 D.length 1),(8,.sl 3 0 D.length 1),(9,.i .i64 (i:Int)),(10,.sl 4 0 own.length 1),(11,.i .i64 (a:Int))] [.var (ds_ N b w),.ro E.length 16 (rowP E),.row 30 D.length 1 (rowsR D),.row 2 D.length 1 (numsF Cn),.ro own.length 1 (numsF own)] (Taken.of [0,1,2,3,4] (leC (leC (leC (leC (leC leZ))))) rfl rfl) (by exact bySlots)
   ·have ha:a<D.length:=by have:=of_decide_eq_true hc;omega
    refine rU 5 ?_
    refine cR [5,4] (l03Less_fn (D.getD a []) own (hDs a) hlo) (leC (leC leZ)) ?_
    refine rF ?_
    refine cI (λ h=>?_) λ h=>?_
    ·have h:=of_decide_eq_true h
     refine WP.block ?_
     refine rE ?_
     refine Again.next (a+1) (gC [0,1,2,3,4] (leC (leC (leC (leC (leC leZ)))))) (⟨ha,λ j hj=>by
      by_cases e:j=a
      ·subst e;exact h
      ·exact ha2 j (by omega)⟩) (by dsimp only;omega)
    ·have h:=of_decide_eq_false h
     have e:=atX_eq ha1 ha2 (λ _=>h)
     rw[<-e]
     exact Ghost.cut (Nat.le_refl _) (tauOf [0,1,2,3,4]) [(1,.p 0 [] 0),(6,.sl 1 0 E.length 16),(7,.sl 2 0 D.length 1),(8,.sl 3 0 D.length 1),(9,.i .i64 (i:Int)),(10,.sl 4 0 own.length 1),(11,.i .i64 (a:Int))] [.var (ds_ N b w),.ro E.length 16 (rowP E),.row 30 D.length 1 (rowsR D),.row 2 D.length 1 (numsF Cn),.ro own.length 1 (numsF own)] (Taken.of [0,1,2,3,4] (leC (leC (leC (leC (leC leZ))))) rfl rfl) (by exact bySlots)
  ·have ha1:=atX_le own D
   have hih:=@insX_hit own D
   have hin:=@insX_new own D
   generalize atX own D=a at*
   have hCa:Cn.getD (addrAt 0 ((a:Nat):Int).toNat) 0<=5000:=Nat.le_trans (hCb _) hXl
   have hCa2:Cn.getD a 0<=5000:=Nat.le_trans (hCb _) hXl
   have hLn:1+(D.length-a)=1+(D.length-a):=rfl
   have htR:∀k,k<a->rowsR D k=rowsR (D.take a) k:=λ k hk=>by
    unfold rowsR
    simp only[List.getD_eq_getElem?_getD]
    rw[List.getElem?_take_of_lt hk]
   have htN:∀k,k<a->numsF Cn k=numsF (Cn.take a) k:=λ k hk=>by
    unfold numsF
    simp only[List.getD_eq_getElem?_getD]
    rw[List.getElem?_take_of_lt hk]
   refine WP.seq ?_
   refine WP.rw ?_
   refine rU 5 ?_
   cases hc:decide ((a:Int)<D.length)
   ·obtain rfl:a=D.length:=by have:=of_decide_eq_false hc;omega
    refine rF ?_
    refine cQ (λ h=>?_) λ h=>?_
    ·cases h
    refine WP.skip ?_
    have hno:¬(D.length<D.length/\lexL (D.getD D.length []) own=0):=λ h=>absurd h.1 (Nat.lt_irrefl _)
    have e0:=hin hno
    have e2:=hcw own (λ h=>hnin hno ((hmm own).2 h)) (hnin hno) D.length
    rw[e0] at hgo hcg
    rw[e2] at hcg
    have hLen:(dL (TL.take (i+1))).length=0+D.length+(1+(D.length-D.length)):=by
     rw[hgo,List.length_append,List.length_cons,List.length_take,List.length_drop];omega
    have hjR:∀(z:Nat->Dat) j,j<0+D.length+(1+(D.length-D.length))->rowsR (dL (TL.take (i+1))) j=apF (0+D.length) (apF 0 z 0 (rowsR D)) 0 (rowsR (own::D.drop D.length)) j:=λ z j hj=>by
     rw[hgo]
     exact rowsR_join (D.take D.length) (own::D.drop D.length) (by rw[List.length_take];omega) (by rw[List.length_cons,List.length_take,List.length_drop];omega) z _ htR
    have hjN:∀(z:Nat->Dat) j,j<0+D.length+(1+(D.length-D.length))->numsF (cnX (TL.take (i+1)) (dL (TL.take (i+1)))) j=apF (0+D.length) (apF 0 z 0 (numsF Cn)) 0 (numsF (1::Cn.drop D.length)) j:=λ z j hj=>by
     rw[hcg]
     exact numsF_join (Cn.take D.length) (1::Cn.drop D.length) (by rw[List.length_take];omega) (by rw[List.length_cons,List.length_take,List.length_drop];omega) z _ htN
    refine WP.seqG ⟨lst [(1,.p 0 [] 0),(6,.sl 1 0 E.length 16),(7,.sl 2 0 D.length 1),(8,.sl 3 0 D.length 1),(9,.i .i64 (i:Int)),(11,.i .i64 ((D.length:Nat):Int)),(12,.sl 4 0 (1+(D.length-D.length)) 1),(13,.sl 5 0 (1+(D.length-D.length)) 1)],[.var (ds_ N b w),.ro E.length 16 (rowP E),.row 30 D.length 1 (rowsR D),.row 2 D.length 1 (numsF Cn),.row 30 (1+(D.length-D.length)) 1 (rowsR (own::D.drop D.length)),.row 2 (1+(D.length-D.length)) 1 (numsF (1::Cn.drop D.length))]⟩ ?_ ?_
    ·refine WP.ghost (s':=⟨lst [(1,.p 0 [] 0),(6,.sl 1 0 E.length 16),(7,.sl 2 0 D.length 1),(8,.sl 3 0 D.length 1),(9,.i .i64 (i:Int)),(10,.sl 4 0 own.length 1),(11,.i .i64 ((D.length:Nat):Int))],[.var (ds_ N b w),.ro E.length 16 (rowP E),.row 30 D.length 1 (rowsR D),.row 2 D.length 1 (numsF Cn),.ro own.length 1 (numsF own)]⟩) ?_ (reg15e (b:=b) (w:=w) (N:=N) (E:=E) (i:=i) hCl hol hDl)
     exact Ghost.cut (Nat.le_refl _) (tauOf [0,1,2,3,4]) [(1,.p 0 [] 0),(6,.sl 1 0 E.length 16),(7,.sl 2 0 D.length 1),(8,.sl 3 0 D.length 1),(9,.i .i64 (i:Int)),(10,.sl 4 0 own.length 1),(11,.i .i64 ((D.length:Nat):Int))] [.var (ds_ N b w),.ro E.length 16 (rowP E),.row 30 D.length 1 (rowsR D),.row 2 D.length 1 (numsF Cn),.ro own.length 1 (numsF own)] (Taken.of [0,1,2,3,4] (leC (leC (leC (leC (leC leZ))))) rfl rfl) (by exact bySlots)
    ·refine WP.rw ?_
     refine rU 3 ?_
     refine WPL.op (by rfl) (by rfl) (QOK.op (slh_ok (h:=D.length) tok rfl rfl rfl rfl rfl rfl rfl (by omega))) ?_
     refine WPL.fin T false tok (by rfl) (by exact⟨by omega,by omega,by omega,by omega,by omega,by show _<=4294967296;omega⟩) ?_
     refine WP.region ?_
     refine rU 3 ?_
     refine WPL.op (by rfl) (by rfl) (QOK.op (slh_ok (h:=D.length) tok rfl rfl rfl rfl rfl rfl rfl (by omega))) ?_
     refine WPL.fin T false tok (by rfl) (by exact⟨by omega,by omega,by omega,by omega,by omega,by show _<=4294967296;omega⟩) ?_
     refine rE ?_
     refine Again.next (i+1) (gC [0,1,8,11] (by repeat (first|exact trivial|(refine lC ?_ ?_;first|exact byLz|(first|exact le_row (Nat.le_of_eq hLen) (λ j hj=>hjR _ j (by omega))|exact le_row (Nat.le_of_eq hLen) (λ j hj=>hjN _ j (by omega)))|exact byLeq)))) (hi) (by dsimp only;omega)
   ·have ha:a<D.length:=by have:=of_decide_eq_true hc;omega
    refine rU 5 ?_
    refine cR [5,4] (l03Less_fn (D.getD a []) own (hDs a) hlo) (leC (leC leZ)) ?_
    refine rF ?_
    refine cQ (λ h=>?_) λ h=>?_
    ·have h:lexL (D.getD a []) own=0:=by simpa using h
     have e0:=hih ⟨ha,h⟩
     have e1:=lex_eq.1 h
     rw[e0] at hgo hcg
     have hLen:=congrArg List.length hgo
     have hcj:∀j,j<D.length->numsF (cnX (TL.take (i+1)) (dL (TL.take (i+1)))) j=fup (numsF Cn) a (.i .i64 ((Cn.getD a 0:Nat)+1:Int)) j:=λ j hj=>by
      rw[hcg]
      unfold numsF
      rw[hcn a own j ha e1 hj]
      by_cases hja:j=a
      ·subst hja;rw[if_pos rfl,fup_same];rfl
      ·rw[if_neg hja,fup_ne _ _ hja]
     refine rS ?_
     refine WP.exit ?_
     refine rE ?_
     refine Again.next (i+1) (gC [0,1,2,3] (by repeat (first|exact trivial|(refine lC ?_ ?_;first|exact byLz|(first|exact le_row (Nat.le_of_eq hLen) (λ j hj=>hcj j (by omega))|exact le_row (Nat.le_of_eq hLen) (λ j _=>by rw[hgo]))|exact byLeq)))) (hi) (by dsimp only;omega)
    ·have h:lexL (D.getD a []) own≠0:=by simpa using h
     refine WP.skip ?_
     have hno:¬(a<D.length/\lexL (D.getD a []) own=0):=λ h2=>h h2.2
     have e0:=hin hno
     have e2:=hcw own (λ h=>hnin hno ((hmm own).2 h)) (hnin hno) a
     rw[e0] at hgo hcg
     rw[e2] at hcg
     have hLen:(dL (TL.take (i+1))).length=0+a+(1+(D.length-a)):=by
      rw[hgo,List.length_append,List.length_cons,List.length_take,List.length_drop];omega
     have hjR:∀(z:Nat->Dat) j,j<0+a+(1+(D.length-a))->rowsR (dL (TL.take (i+1))) j=apF (0+a) (apF 0 z 0 (rowsR D)) 0 (rowsR (own::D.drop a)) j:=λ z j hj=>by
      rw[hgo]
      exact rowsR_join (D.take a) (own::D.drop a) (by rw[List.length_take];omega) (by rw[List.length_cons,List.length_take,List.length_drop];omega) z _ htR
     have hjN:∀(z:Nat->Dat) j,j<0+a+(1+(D.length-a))->numsF (cnX (TL.take (i+1)) (dL (TL.take (i+1)))) j=apF (0+a) (apF 0 z 0 (numsF Cn)) 0 (numsF (1::Cn.drop a)) j:=λ z j hj=>by
      rw[hcg]
      exact numsF_join (Cn.take a) (1::Cn.drop a) (by rw[List.length_take];omega) (by rw[List.length_cons,List.length_take,List.length_drop];omega) z _ htN
     refine WP.seqG ⟨lst [(1,.p 0 [] 0),(6,.sl 1 0 E.length 16),(7,.sl 2 0 D.length 1),(8,.sl 3 0 D.length 1),(9,.i .i64 (i:Int)),(11,.i .i64 ((a:Nat):Int)),(12,.sl 4 0 (1+(D.length-a)) 1),(13,.sl 5 0 (1+(D.length-a)) 1)],[.var (ds_ N b w),.ro E.length 16 (rowP E),.row 30 D.length 1 (rowsR D),.row 2 D.length 1 (numsF Cn),.row 30 (1+(D.length-a)) 1 (rowsR (own::D.drop a)),.row 2 (1+(D.length-a)) 1 (numsF (1::Cn.drop a))]⟩ ?_ ?_
     ·refine WP.ghost (s':=⟨lst [(1,.p 0 [] 0),(6,.sl 1 0 E.length 16),(7,.sl 2 0 D.length 1),(8,.sl 3 0 D.length 1),(9,.i .i64 (i:Int)),(10,.sl 4 0 own.length 1),(11,.i .i64 ((a:Nat):Int))],[.var (ds_ N b w),.ro E.length 16 (rowP E),.row 30 D.length 1 (rowsR D),.row 2 D.length 1 (numsF Cn),.ro own.length 1 (numsF own)]⟩) ?_ (reg15l (b:=b) (w:=w) (N:=N) (E:=E) (i:=i) hCl hol hDl ha)
      exact Ghost.cut (Nat.le_refl _) (tauOf [0,1,2,3,4]) [(1,.p 0 [] 0),(6,.sl 1 0 E.length 16),(7,.sl 2 0 D.length 1),(8,.sl 3 0 D.length 1),(9,.i .i64 (i:Int)),(10,.sl 4 0 own.length 1),(11,.i .i64 ((a:Nat):Int))] [.var (ds_ N b w),.ro E.length 16 (rowP E),.row 30 D.length 1 (rowsR D),.row 2 D.length 1 (numsF Cn),.ro own.length 1 (numsF own)] (Taken.of [0,1,2,3,4] (leC (leC (leC (leC (leC leZ))))) rfl rfl) (by exact bySlots)
     ·refine WP.rw ?_
      refine rU 3 ?_
      refine WPL.op (by rfl) (by rfl) (QOK.op (slh_ok (h:=a) tok rfl rfl rfl rfl rfl rfl rfl (by omega))) ?_
      refine WPL.fin T false tok (by rfl) (by exact⟨by omega,by omega,by omega,by omega,by omega,by show _<=4294967296;omega⟩) ?_
      refine WP.region ?_
      refine rU 3 ?_
      refine WPL.op (by rfl) (by rfl) (QOK.op (slh_ok (h:=a) tok rfl rfl rfl rfl rfl rfl rfl (by omega))) ?_
      refine WPL.fin T false tok (by rfl) (by exact⟨by omega,by omega,by omega,by omega,by omega,by show _<=4294967296;omega⟩) ?_
      refine rE ?_
      refine Again.next (i+1) (gC [0,1,8,11] (by repeat (first|exact trivial|(refine lC ?_ ?_;first|exact byLz|(first|exact le_row (Nat.le_of_eq hLen) (λ j hj=>hjR _ j (by omega))|exact le_row (Nat.le_of_eq hLen) (λ j hj=>hjN _ j (by omega)))|exact byLeq)))) (hi) (by dsimp only;omega)
 ·have hi:i=E.length:=by have:=of_decide_eq_false hc;omega
  clear hc
  have hX:TL.take i=TL:=by rw[hi, <-hTl,List.take_length]
  rw[hX] at*
  rw[<-hR1, <-hR2]
  refine rS ?_
  exact WP.ret (Ends.new [2,3] (by rfl) (by exact byObl) (leC (leC leZ)) rfl rfl (ren3 rfl rfl ⟨rfl,trivial⟩) (sc_t3 (sc_sl rfl) (sc_sl rfl) trivial))
theorem elements_fn(N:Nat)(hN:N<=16)(has:Nat->Nat->Bool)(tab:Nat->Nat->Nat->Nat)(hT:TblOk N has tab)(hO:ordF 16 has N<=5000):
  FnS Tryz.prog 52 [.p 0 [] 0] [.var (grD N has tab)] λ r m'=>r=.sl 1 0 (elsE N has tab N).length 16/\m'=[.var (grD N has tab),.row 25 (elsE N has tab N).length 16 (rowP (elsE N has tab N))]:=by
 have hels:∀d,d<=N->(elsE N has tab d).length<=5000:=λ d hd=>Nat.le_trans (els_le hN hT hd) hO
 have hSc:∀(k e n:Nat) (L:List (Nat->Nat)),Sc k (.ow e n 16 (rowP L)):=λ k _ _ L j _=>sc_row k L j
 refine FnS.intoN T tok Tryz.func52 (by rfl) rfl rfl rfl (by simp) ?_
 refine rS ?_
 refine WP.rw ?_
 refine rU 4 ?_
 refine cA (same_fn N hN) ?_
 refine rF ?_
 refine WP.seq ?_
 refine rS ?_
 refine WP.block ?_
 refine WP.loopH (⟨λ z:Nat×List (Nat->Nat)=>z.1<=N/\z.2=elsE N has tab (N-z.1),λ z=>[(0,.p 0 [] 0),(3,.sl 1 0 z.2.length 16),(4,.i .i64 ((z.1:Int)-1))],λ z=>[.var (grD N has tab),.row 25 z.2.length 16 (rowP z.2)],λ z=>z.1⟩) ((N,[sameF N])) (⟨Nat.le_refl _,by rw[Nat.sub_self];rfl⟩) (gC [0,1] (by repeat (first|exact trivial|(refine lC ?_ ?_;first|exact byLz|(exact le_row (Nat.le_refl _) (λ j hj=>by obtain rfl:j=0:=(by have:j<1:=hj;omega);rfl))|exact byLeq)))) ?_
 rintro⟨k,E⟩ ⟨hk,hE⟩
 dsimp only at hk hE
 dsimp only[Hd.at]
 have hEl:=hels (N-k) (by omega)
 rw[<-hE] at hEl
 refine WP.seq ?_
 refine rS ?_
 refine cI (λ hc=>?_) λ hc=>?_
 ·obtain⟨i,rfl⟩:∃i,k=i+1:=⟨k-1,by have:=of_decide_eq_true hc;omega⟩
  clear hc
  have hi:i<N:=by omega
  have ei:((i+1:Nat):Int)-1=(i:Int):=by omega
  have hE':levE N has tab i E=elsE N has tab (N-i):=by
   rw[hE,show N-i=(N-(i+1))+1 by omega]
   show _=levE N has tab (N-((N-(i+1))+1)) _
   rw[show N-((N-(i+1))+1)=i by omega]
  have hEl':=hels (N-i) (by omega)
  rw[<-hE'] at hEl'
  have hnp:∀p∈E,Np N p:=λ p hp=>(InT.np hT (by omega) ((els_mem hN hT (by omega) p).1 (hE▸hp))).1
  rw[ei]
  refine WP.seq (WP.block ?_)
  refine rS ?_
  refine WP.seq ?_
  refine rS ?_
  refine WP.block ?_
  refine WP.loopH (⟨λ j:Nat=>j<=E.length,λ j=>[(0,.p 0 [] 0),(4,.i .i64 (i:Int)),(5,.sl 2 0 (levE N has tab i (E.take j)).length 16),(26,.sl 1 0 E.length 16),(27,.i .i64 (E.length:Int)),(28,.i .i64 (j:Int))],λ j=>[.var (grD N has tab),.ro E.length 16 (rowP E),.row 25 (levE N has tab i (E.take j)).length 16 (rowP (levE N has tab i (E.take j)))],λ j=>E.length-j⟩) (0) (Nat.zero_le _) (gC [0,1,2] (by repeat (first|exact trivial|(refine lC ?_ ?_;first|exact byLz|(exact le_row (Nat.le_refl _) (λ j hj=>absurd hj (Nat.not_lt_zero _)))|exact byLeq)))) ?_
  intro j hj
  dsimp only at hj
  dsimp only[Hd.at]
  refine rS ?_
  refine WP.seq ?_
  refine cI (λ hc=>?_) λ hc=>?_
  ·have hj:j<E.length:=by have:=of_decide_eq_true hc;omega
   clear hc
   have hst:=levE_take N has tab i E hj
   have hpm:E.getD j (λ _=>0)∈E:=by
    rw[List.getD_eq_getElem?_getD,List.getElem?_eq_getElem hj];exact List.getElem_mem hj
   have hbd:∀y,y<=16->(levE N has tab i (E.take j)++rowE N has tab i (E.getD j λ _=>0) y).length<=5000:=λ y hy=>by
    have h1:=levE_len N has tab i (E.take j)
    have h2:=levE_len N has tab i E
    have h3:=rowE_len N has tab i (E.getD j λ _=>0) y
    have h4:cntB (has i) y<=cntB (has i) 16:=by
     rw[<-ysL_len, <-ysL_len]
     unfold ysL
     exact((List.range_sublist.2 hy).filter _).length_le
    have h5:=Nat.mul_le_mul_right (cntB (has i) 16) (show(E.take j).length+1<=E.length by rw[List.length_take];omega)
    rw[Nat.add_mul] at h5
    rw[List.length_append];omega
   have hp:=hnp _ hpm
   generalize hpE:E.getD j (λ _=>0)=p at*
   have hpA:E.getD (addrAt 0 ((j:Nat):Int).toNat) (λ _=>0)=p:=by rw[addrAt0];exact hpE
   generalize levE N has tab i (E.take j)=F0 at*
   refine WP.seq (WP.block ?_)
   refine rS ?_
   refine rS ?_
   refine WP.block ?_
   have hLen:(F0++rowE N has tab i p 0).length=F0.length:=by rw[rowE_zero,List.append_nil]
   refine WP.loopH (⟨λ y:Nat=>y<=16,λ y=>[(0,.p 0 [] 0),(4,.i .i64 (i:Int)),(5,.sl 2 0 (F0++rowE N has tab i p y).length 16),(7,.p 3 [] 0),(26,.sl 1 0 E.length 16),(27,.i .i64 (E.length:Int)),(28,.i .i64 (j:Int)),(37,.ar 16 1 λ k=>.b (has i k)),(38,.i .i64 (y:Int))],λ y=>[.var (grD N has tab),.ro E.length 16 (rowP E),.row 25 (F0++rowE N has tab i p y).length 16 (rowP (F0++rowE N has tab i p y)),.var (pl p)],λ y=>16-y⟩) (0) (Nat.zero_le _) (gC [0,1,2,3] (by repeat (first|exact trivial|(refine lC ?_ ?_;first|exact byLz|(first|exact le_var (congrArg pl hpA).symm|exact le_row (Nat.le_of_eq hLen) (λ j hj=>by rw[rowE_zero,List.append_nil]))|exact byLeq)))) ?_
   clear hLen
   intro y hy
   dsimp only at hy
   dsimp only[Hd.at]
   refine rS ?_
   refine WP.seq ?_
   refine cI (λ hc=>?_) λ hc=>?_
   ·have hy:y<16:=by have:=of_decide_eq_true hc;omega
    clear hc
    have hb1:=hbd y (by omega)
    refine WP.seq (WP.block ?_)
    refine rS ?_
    refine rS ?_
    cases hh:has i y with
    |true=>
     have e:=rowE_yes (n:=N) (tab:=tab) (p:=p) hh
     have hLen:(F0++rowE N has tab i p (y+1)).length=(F0++rowE N has tab i p y).length+1:=by rw[e];simp[Nat.add_assoc]
     generalize hF1:F0++rowE N has tab i p y=F1 at*
     have e2:F0++rowE N has tab i p (y+1)=F1++[mulF N p (tab i y)]:=by rw[e, <-List.append_assoc,hF1]
     have hyN:y<N:=hT.lt _ _ hi hh
     refine cS (λ h=>?_) λ h=>?_
     ·refine WP.da (by kernel_rfl) 16 (by kernel_rfl) ?_
      refine WA.takes T false tok [0,1,2,3,4,5,6,7,8,9] (f':=8) (by kernel_rfl) (by rfl) (by rfl) (by rfl) (by exact byObl) (by rfl) (by rfl) ?_
      refine WA.takes T false tok [10,11,12,13] (f':=4) (by kernel_rfl) (by rfl) (by rfl) (by rfl) (by exact byObl) (by rfl) (by rfl) ?_
      refine WA.all [14] (by kernel_rfl) (by simp) ?_;intro i' hi';simp only[List.mem_cons,List.not_mem_nil,or_false] at hi'
      subst hi'
      refine⟨_,_,_,rfl,by rfl,by rfl,MK.callP (then_fn p (tab i y) N hN hp.perm.lt) (by rfl) (by simp[Sc,sc_pl,sc_ds,pl_ne,ds_ne]),?_⟩
      refine WA.all [15] (by kernel_rfl) (by simp) ?_;intro i' hi';simp only[List.mem_cons,List.not_mem_nil,or_false] at hi'
      subst hi'
      refine⟨_,_,_,rfl,by rfl,by rfl,MK.of tok (wm:=false) (by rfl) (by exact byObl) (by rfl) (by exact byObl),?_⟩
      refine WA.tail (by rfl) (by rfl) (by kernel_rfl) ?_
      refine rF ?_
      refine noPan ?_
      refine rE ?_
      refine Again.next (y+1) (gC [0,1,5,3] (by repeat (first|exact trivial|(refine lC ?_ ?_;first|exact byLz|(exact le_row (Nat.le_of_eq hLen) (λ j hj=>by rw[e2];exact ap_row1 rfl _ _ j (by omega)))|exact byLeq)))) (hy) (by dsimp only;omega)
     ·simp[hh] at h
    |false=>
     have e:=rowE_no (n:=N) (tab:=tab) (p:=p) hh
     refine cS (λ h=>?_) λ h=>?_
     ·simp[hh] at h
     ·have hLen:(F0++rowE N has tab i p (y+1)).length=(F0++rowE N has tab i p y).length:=by rw[e]
      refine rE ?_
      refine Again.next (y+1) (gC [0,1,2,3] (by repeat (first|exact trivial|(refine lC ?_ ?_;first|exact byLz|(exact le_row (Nat.le_of_eq hLen) (λ j hj=>by rw[e]))|exact byLeq)))) (hy) (by dsimp only;omega)
   ·have hy:y=16:=by have:=of_decide_eq_false hc;omega
    subst hy
    clear hc
    have hLen:=congrArg List.length hst
    refine rE ?_
    refine Again.next (j+1) (gC [0,1,2] (by repeat (first|exact trivial|(refine lC ?_ ?_;first|exact byLz|(exact le_row (Nat.le_of_eq hLen) (λ j hj=>by rw[hst]))|exact byLeq)))) (hj) (by dsimp only;omega)
  ·have hj:j=E.length:=by have:=of_decide_eq_false hc;omega
   subst hj
   clear hc
   rw[List.take_length] at*
   refine rE ?_
   refine rE ?_
   refine Again.next ((i,levE N has tab i E)) (gC [0,2] (leC (leC leZ))) (⟨by omega,hE'⟩) (by dsimp only;omega)
 ·have hk:k=0:=by have:=of_decide_eq_false hc;omega
  subst hk
  clear hc
  rw[Nat.sub_zero] at hE
  subst hE
  refine rS ?_
  exact WP.ret (Ends.new [0,1] (by rfl) (by exact byObl) (leC (leC leZ)) rfl rfl (rfl) (sc_sl rfl))
end Go.Proofs.YthjnmlpibafbnaaGreat

namespace Go.Proofs.YthjnmlpibafbnaaGreat.DM
open Go.RowKit
set_option linter.unusedVariables false
set_option linter.unusedSimpArgs false
section
variable {P:Program}{T:TyEnv}{N K:Nat}{Q:Exit->St->Prop}{fr:Nat->Dat}{m:List Root}
theorem nav_up{f:Nat->Dat}{i n t:Nat}{e0:TypeId}{v:RV}{a b c:Nat}{q:List Nat}{e:TypeId}{k s:Nat}{g:Nat->Dat}(hq:q≠[])(h:nav (.ow e0 n t (fup f i (.sa v a b c))) q=some (.ow e k s g)):nav (.ow e0 n t f) q=some (.ow e k s g):=by
 cases q with
 |nil=>exact absurd rfl hq
 |cons j q=>
  simp only[nav] at h ⊢
  split at h
  ·rename_i hj
   rw[if_pos hj]
   by_cases e1:j=i
   ·subst e1
    rw[fup_same] at h
    cases q with
    |nil=>simp[nav] at h
    |cons x q=>simp[nav] at h
   ·rw[fup_ne _ _ e1] at h;exact h
  ·cases h
theorem cells_up{ρ:Rho}{A:List Nat->RV}{f:Nat->Dat}{i n t r a b c:Nat}(hf:f i=.sl r a b c):cells ρ A (.ar n t (fup f i (.sa (ρ r []) a b c)))=cells ρ A (.ar n t f):=by
 simp only[cells]
 refine flatMap_congr λ j _=>?_
 by_cases e1:j=i
 ·subst e1;rw[fup_same,hf];simp[cells,leaf]
 ·rw[fup_ne _ _ e1]
theorem Rep.giveUp{ρ:Rho}{w:World}(h:Rep ρ m w){k i:Nat}{e0:TypeId}{n t r a b c:Nat}{f:Nat->Dat}(hk:m[k]? =some (.row e0 n t f))(hf:f i=.sl r a b c):
  Rep ρ (m.set k (.row e0 n t (fup f i (.sa (ρ r []) a b c)))) w/\TrK K ρ m w ρ (m.set k (.row e0 n t (fup f i (.sa (ρ r []) a b c)))) w:=by
 have hkl:k<m.length:=(List.getElem?_eq_some_iff.1 hk).1
 have get:∀{j:Nat}{R:Root},(m.set k (.row e0 n t (fup f i (.sa (ρ r []) a b c))))[j]? =some R->(j=k/\R=.row e0 n t (fup f i (.sa (ρ r []) a b c)))\/(j≠k/\m[j]? =some R):=λ{j R} hj=>by
  by_cases e:k=j
  ·subst e;rw[List.getElem?_set_self hkl] at hj;exact .inl ⟨rfl,(Option.some.inj hj).symm⟩
  ·rw[List.getElem?_set_ne e] at hj;exact .inr ⟨λ h=>e h.symm,hj⟩
 have place:∀{j:Nat}{R:Root}{q:List Nat},(m.set k (.row e0 n t (fup f i (.sa (ρ r []) a b c))))[j]? =some R->At R q->∃R0,m[j]? =some R0/\At R0 q:=λ{j R q} hj hq=>by
  rcases get hj with⟨rfl,rfl⟩|⟨_,h1⟩
  ·refine⟨_,hk,?_⟩
   by_cases e:q=[]
   ·subst e;exact .inl ⟨rfl,rfl⟩
   ·rcases hq with⟨h1,_⟩|⟨d,e',n',s',g',h1,h2⟩
    ·exact absurd h1 e
    ·cases h1;exact .inr ⟨_,e',n',s',g',rfl,nav_up e h2⟩
  ·exact⟨R,h1,hq⟩
 have placeO:∀{j:Nat}{R:Root}{q:List Nat},(m.set k (.row e0 n t (fup f i (.sa (ρ r []) a b c))))[j]? =some R->R.mine=true->AtO R q->∃R0,m[j]? =some R0/\R0.mine=true/\AtO R0 q:=λ{j R q} hj hm hq=>by
  rcases get hj with⟨rfl,rfl⟩|⟨_,h1⟩
  ·refine⟨_,hk,rfl,?_⟩
   by_cases e:q=[]
   ·subst e;exact .inl ⟨rfl,rfl⟩
   ·rcases hq with⟨h1,_⟩|⟨d,e',n',s',g',h1,h2,h3⟩
    ·exact absurd h1 e
    ·cases h1;exact .inr ⟨_,e',n',s',g',rfl,nav_up e h2,h3⟩
  ·exact⟨R,h1,hm,hq⟩
 refine⟨⟨λ j d hj=>?_,λ j R d q e n' s g hj hm hc hn hq=>?_,λ j R d q e n' s g hj hm hc hn=>?_,λ j R q j' R' q' hj hj' hm hq hq' hnl hd=>?_,λ j R d hj hc=>?_,λ j b' l hj=>?_⟩,⟨rfl,rfl,Nat.le_refl _,rfl,Nat.le_refl _,λ _ _=>rfl,λ _ _ _=>rfl,λ j R q hj hm hq=>.inr ?_,λ j R q hj hq hnl=>.inr ?_⟩⟩
 ·rcases get hj with⟨_,h1⟩|⟨_,h1⟩
  ·cases h1
  ·exact h.var j d h1
 ·rcases get hj with⟨rfl,rfl⟩|⟨_,h1⟩
  ·cases hc
   by_cases e1:q=[]
   ·subst e1
    simp only[nav,Option.some.injEq,Dat.ow.injEq] at hn
    obtain⟨rfl,rfl,rfl,rfl⟩:=hn
    exact(h.row j _ _ [] e0 n t f hk rfl rfl rfl (.inl rfl)).cells (cells_up hf)
   ·exact h.row j _ _ q e n' s g hk rfl rfl (nav_up e1 hn) hq
  ·exact h.row j R d q e n' s g h1 hm hc hn hq
 ·rcases get hj with⟨rfl,rfl⟩|⟨_,h1⟩
  ·cases hc
   rcases hm with hm|⟨h2,h3⟩
   ·cases hm
   ·exact h.ro j _ _ q e n' s g hk (.inr ⟨h2,h3⟩) rfl (nav_up h2 hn)
  ·exact h.ro j R d q e n' s g h1 hm hc hn
 ·obtain⟨R0,g1,g2,g3⟩:=placeO hj hm hq
  obtain⟨R0',g1',g2'⟩:=place hj' hq'
  exact h.sep j R0 q j' R0' q' g1 g1' g2 g3 g2' hnl hd
 ·rw[List.length_set]
  rcases get hj with⟨rfl,rfl⟩|⟨_,h1⟩
  ·cases hc
   obtain⟨h2,h3⟩:=h.wf j _ _ hk rfl
   refine⟨λ x hx=>?_,λ x hx=>?_⟩
   ·by_cases e1:x=i
    ·subst e1
     rw[fup_same]
     have:=h2 x hx
     rw[hf] at this
     exact this
    ·rw[fup_ne _ _ e1];exact h2 x hx
   ·by_cases e1:x=i
    ·subst e1;rw[fup_same];trivial
    ·rw[fup_ne _ _ e1];exact h3 x hx
  ·exact h.wf j R d h1 hc
 ·rcases get hj with⟨_,h1⟩|⟨_,h1⟩
  ·cases h1
  ·exact h.mp j b' l h1
 ·obtain⟨R0,g1,g2,g3⟩:=placeO hj hm hq
  exact⟨j,R0,q,g1,g2,g3,rfl⟩
 ·obtain⟨R0,g1,g2⟩:=place hj hq
  exact⟨j,R0,q,g1,g2,hnl,rfl⟩
theorem WP.giveUp{x:Code}{k i:Nat}{e0:TypeId}{n t r a b c:Nat}{f:Nat->Dat}(hk:m[k]? =some (.row e0 n t f))(hf:f i=.sl r a b c)(h:∀v:RV,WP P N K x Q ⟨fr,m.set k (.row e0 n t (fup f i (.sa v a b c)))⟩):WP P N K x Q ⟨fr,m⟩:=by
 intro ρ a' w ⟨h1,h2,h3,h4⟩
 obtain⟨g1,g2⟩:=h3.giveUp (K:=K) hk hf
 refine wp_mono (h (ρ r []) ρ a' w ⟨?_,h2,g1,?_⟩) λ _ _ _ q=>Real.tr g2 q
 ·simpa using h1
 ·simpa using h4
theorem load_row(hT:TOK P T){o:Oper}{t:TypeId}{x:Operand}{r j off:Nat}{e0 by0 e1 e n k s s':Nat}{z0:Dat}{f g:Nat->Dat}(ho:o.op=.load t x)(hx:ev fr x=.p r [j] off)(ht:T t=some ⟨.slice e0,1,by0,z0⟩)(hR:m[r]? =some (.row e1 n s f))(hf:f j=.ow e k s' g)(he:Nat.beq e 0=false)(hj:j<n)(hoff:0+j*s=off):
  QOK P o fr m (.sl m.length 0 k s') (m.set r (.row e1 n s (fup f j (.sl m.length 0 k s')))++[.row e k s' g]):=by
 refine load_own hT (R:=.row e1 n s f) (ps:=[j<n]) ho hx ht hR rfl ?_ he hj ?_
 ·show(match DM.navE (f j) [] with|some (ps,x)=>some ((j<n)::ps,x)|none=>none)=_
  rw[hf];rfl
 ·exact hoff
end
end Go.Proofs.YthjnmlpibafbnaaGreat.DM
