import Derived.Test.YthjnmlpibafbnaaGreatL45
import Derived.Test.YthjnmlpibafbnaaGreatD36
import Derived.Test.YthjnmlpibafbnaaGreatX62
import Derived.Test.YthjnmlpibafbnaaGreatX102
import Derived.Test.YthjnmlpibafbnaaGreatX122
namespace Go.Proofs.YthjnmlpibafbnaaGreat
open Go.RowKit DM
open Go.Sort (SWO)
set_option linter.unusedSimpArgs false
set_option linter.unusedVariables false
set_option maxRecDepth 100000
set_option maxHeartbeats 1000000
theorem lex_swo:SWO λ l k:List Nat=>decide (lexL l k<0):=by
 refine⟨λ x=>?_,λ x y z h1 h2=>?_,λ x y z h1 h2=>?_⟩
 ·rw[decide_eq_false_iff_not];exact lex_irr x
 ·rw[decide_eq_true_eq] at*;exact lex_trans h1 h2
 ·rw[decide_eq_false_iff_not] at*
  intro h3
  have a1:=lex_rng x y
  have a2:=lex_anti x y
  by_cases e:lexL x y=0
  ·rw[lex_eq.1 e] at h3;exact h2 h3
  ·exact h2 (lex_trans (show lexL y x<0 by omega) h3)
theorem compare_enter:∀args w,(callFunc 46 args).run Tryz.prog w=.ok (.enter 46 args) w:=callFunc_run Tryz.func46 rfl rfl
noncomputable def etR (n:Int)(b w:Nat->Nat):Dat×List Root:=
 bif desB n b w then
  bif decide ((5000:Int)<(ordG n.toNat [b,w]:Nat)) then(t3 .ns .ns (.i .i64 3),[])
  else(t3 (.sl 0 0 (etD n.toNat [b,w]).length 1) (.sl 1 0 (etD n.toNat [b,w]).length 1) (.i .i64 0),[.row 30 (etD n.toNat [b,w]).length 1 (rowsF (etD n.toNat [b,w])),.row 2 (etD n.toNat [b,w]).length 1 (numsF (etC n.toNat [b,w]))])
 else(t3 .ns .ns (.i .i64 1),[])
theorem implElementTypes_fn(n:Int)(b w:Nat->Nat)(hb:∀i,b i<256)(hw:∀i,w i<256)(hbz:∀i,16<=i->b i=0)(hwz:∀i,16<=i->w i=0):FnS Tryz.prog 22 [ds_ n b w] [] (λ r m'=>r=(etR n b w).1/\m'=(etR n b w).2):=by
 cases hc:desB n b w
 ·have e:etR n b w=(t3 .ns .ns (.i .i64 1),[]):=by unfold etR;rw[hc];rfl
  rw[e]
  refine FnS.intoN T tok Tryz.func22 (by rfl) rfl rfl rfl (by simp) ?_
  refine rS ?_
  refine WP.seq ?_
  refine WP.rw ?_
  refine rU 1 ?_
  refine cA (hc▸implIsDessin_fn n b w hb hw) ?_
  refine rF ?_
  refine cS (λ h=>?_) λ h=>?_
  ·refine rS ?_
   exact WP.ret (Ends.new [] (by rfl) (by exact byObl) leZ rfl rfl (ren3 ⟨rfl,trivial⟩ ⟨rfl,trivial⟩ ⟨rfl,trivial⟩) (sc_t3 trivial trivial trivial))
  ·cases h
 obtain⟨N,rfl,hD,hnb,hnw⟩:=des_np hc hbz hwz
 cases ho:decide ((5000:Int)<(ordG N [b,w]:Nat))
 case' false=>have e:etR N b w=(t3 (.sl 0 0 (etD N [b,w]).length 1) (.sl 1 0 (etD N [b,w]).length 1) (.i .i64 0),[.row 30 (etD N [b,w]).length 1 (rowsF (etD N [b,w])),.row 2 (etD N [b,w]).length 1 (numsF (etC N [b,w]))]):=by unfold etR;rw[hc,show decide ((5000:Int)<(ordG (N:Int).toNat [b,w]:Nat))=false from ho];rfl
 case' true=>have e:etR N b w=(t3 .ns .ns (.i .i64 3),[]):=by unfold etR;rw[hc,show decide ((5000:Int)<(ordG (N:Int).toNat [b,w]:Nat))=true from ho];rfl
 all_goals
  rw[e]
  refine FnS.intoN T tok Tryz.func22 (by rfl) rfl rfl rfl (by simp) ?_
  refine rS ?_
  refine WP.seq ?_
  refine WP.rw ?_
  refine rU 1 ?_
  refine cA (hc▸implIsDessin_fn N b w hb hw) ?_
  refine rF ?_
  refine cF ?_
  refine WP.rw ?_
  refine rU 1 ?_
  refine WPL.callE [] (groupOfDessin_fn N b w hD.le hnb hnw) leZ (by rfl) (by rfl) (by exact byArgs) (by rfl) (by rfl) (by simp[Sc,sc_pl,sc_ds]) ?_
  rintro _ _ ⟨rfl,has,tab,rfl,hok⟩
  refine⟨by exact byAllc,.p 1 [] 0,rfl,sc_p rfl,?_⟩
  refine WPL.mem (by rfl) ?_
  refine rF ?_
  have hO:=gorder_fn N hD.le has tab hok.1
  rw[hok.ord hD.le] at hO
  refine WP.seq ?_
  refine WP.rw ?_
  refine rU 1 ?_
  refine cN [1] (.i .i64 ((ordG N [b,w]:Nat):Int)) (hO) (leC leZ) (⟨rfl,trivial⟩) ?_
  refine rF ?_
  rw[ho]
  refine cS (λ h=>?_) λ h=>?_
 case true.true.refine_1=>
  refine rS ?_
  exact WP.ret (Ends.new [] (by rfl) (by exact byObl) leZ rfl rfl (ren3 ⟨rfl,trivial⟩ ⟨rfl,trivial⟩ ⟨rfl,trivial⟩) (sc_t3 trivial trivial trivial))
 case true.true.refine_2=>cases h
 case true.false.refine_1=>cases h
 clear h
 have hN:=hD.le
 have hT:=hok.1
 have hord:ordF 16 has N<=5000:=by
  rw[hok.ord hN]
  have:=of_decide_eq_false ho;omega
 have hEok:ElOk N [b,w] (elsE N has tab N):=els_ok hN (des_L hnb hnw) hT hok.2.2.2
 have hel:=elements_fn N hN has tab hT hord
 have hE5:=Nat.le_trans (els_le hN hT (Nat.le_refl N)) hord
 have hEnp:∀p∈elsE N has tab N,Np N p:=λ p hp=>((hEok.mem p).1 hp).np (des_L hnb hnw)
 have hR:=λ TL h=>et_of hEok (T:=TL) h
 generalize elsE N has tab N=E at*
 have hSc:∀(k e n:Nat) (L:List (Nat->Nat)),Sc k (.ow e n 16 (rowP L)):=λ k _ _ L j _=>sc_row k L j
 refine rS ?_
 refine WP.seq ?_
 refine WP.rw ?_
 refine rU 1 ?_
 refine cN [1] (.sl 3 0 E.length 16) (hel) (leC leZ) (rfl) ?_
 refine rF ?_
 generalize hTe:tyL N E=TL at*
 have hTl:TL.length=E.length:=by rw[<-hTe,tyL_len]
 have hTs:∀l∈TL,l.length<=16:=by rw[<-hTe];exact tyL_small hN hEnp
 refine WP.block ?_
 refine WP.loopH (⟨λ i:Nat=>i<=E.length,λ i=>[(1,.p 0 [] 0),(6,.sl 1 0 i 1),(24,.sl 2 0 E.length 16),(25,.i .i64 (E.length:Int)),(26,.i .i64 (i:Int))],λ i=>[.var (ds_ N b w),.row 30 i 1 (rowsF (TL.take i)),.ro E.length 16 (rowP E)],λ i=>E.length-i⟩) (0) (Nat.zero_le _) (gC [0,2,3] (by repeat (first|exact trivial|(refine lC ?_ ?_;first|exact byLz|(exact le_row (Nat.le_refl _) (λ j hj=>absurd hj (Nat.not_lt_zero _)))|exact byLeq)))) ?_
 intro i hi
 dsimp only at hi
 dsimp only[Hd.at]
 refine rS ?_
 refine WP.seq ?_
 refine cI (λ hc=>?_) λ hc=>?_
 ·have hi:i<E.length:=by have:=of_decide_eq_true hc;omega
  clear hc
  have hpm:E.getD i (λ _=>0)∈E:=by
   rw[List.getD_eq_getElem?_getD,List.getElem?_eq_getElem hi];exact List.getElem_mem hi
  have hpn:=hEnp _ hpm
  have htk:=tyL_take N E hi
  rw[hTe] at htk
  have hty:=typeOf_fn (E.getD i λ _=>0) N hN hpn.perm
  generalize hown:tyN (cycs (E.getD i λ _=>0) N) N=own at*
  have hgi:E.getD (addrAt 0 ((i:Nat):Int).toNat) (λ _=>0)=E.getD i λ _=>0:=by rw[addrAt0];rfl
  have hap:∀g j,j<i+1->rowsF (TL.take (i+1)) j=fup (apF i (rowsF (TL.take i)) 0 g) i (owN own) j:=λ g j hj=>by
   have h2:(TL.take i).length=i:=by rw[List.length_take];omega
   have:=ap_rows (TL.take i) own g j (by rw[h2];exact hj)
   rw[h2, <-htk] at this
   exact this
  refine WP.seq (WP.block ?_)
  refine rS ?_
  refine WP.region ?_
  refine rU 4 ?_
  rw[hgi]
  refine cN [] (.sl 4 0 own.length 1) (hty) leZ (rfl) ?_
  refine rF ?_
  refine rE ?_
  refine Again.step (Ghost.giveLast 6 4 (by rfl) rfl rfl (by rfl) (by rfl) (Nat.le_refl _)) ?_
  refine Again.next (i+1) (gC [0,6,2] (by repeat (first|exact trivial|(refine lC ?_ ?_;first|exact byLz|(exact le_row (Nat.le_refl _) (λ j hj=>hap _ j hj))|exact byLeq)))) (hi) (by dsimp only;omega)
 ·have hi:i=E.length:=by have:=of_decide_eq_false hc;omega
  clear hc
  have hX:TL.take i=TL:=by rw[hi, <-hTl,List.take_length]
  subst hi
  have hsort:=sortFunc_fn compare_enter lex_swo slicesCompare_fn TL (λ l hl=>by have:=hTs l hl;omega) (by omega)
  rw[hX]
  rw[hTl] at hsort
  refine WP.rw ?_
  refine rU 1 ?_
  refine WPL.callE [1] (hsort) (leC leZ) (by rfl) (by rfl) (by exact byArgs) (by rfl) (by rfl) (by simp[Sc,sc_pl,sc_ds]) ?_
  rintro _ _ ⟨L',hp,hs,rfl,rfl⟩
  have hl':L'.length=E.length:=by rw[hp.length_eq,hTl]
  obtain⟨hR1,hR2⟩:=hR L' hp
  have hLs:∀l∈L',l.length<=16:=λ l hl=>hTs l (hp.mem_iff.1 hl)
  refine⟨⟨λ d hd=>by cases hd;exact λ _ _ _ _=>trivial,trivial⟩,.tup 0 (λ _=>.un),⟨_,rfl,λ i hi=>absurd hi (Nat.not_lt_zero _)⟩,λ i hi=>absurd hi (Nat.not_lt_zero _),?_⟩
  refine WPL.nil ?_
  generalize E.length=n at*
  refine rS ?_
  refine WP.seq ?_
  refine rS ?_
  refine WP.block ?_
  have hSc:∀(k e:Nat),Sc k (.ow e n 1 (rowsF L')):=λ k e j _=>λ _ _=>trivial
  refine WP.loopH (⟨λ z:Nat×(Nat->Dat)=>z.1<=n/\(∀j,z.1<=j->j<n->z.2 j=owN (L'.getD j []))/\(∀k e:Nat,Sc k (.ow e n 1 z.2)),λ z=>[(9,.sl 1 0 (dL (L'.take z.1)).length 1),(10,.sl 2 0 (dL (L'.take z.1)).length 1),(42,.sl 0 0 n 1),(43,.i .i64 (n:Int)),(44,.i .i64 (z.1:Int))],λ z=>[.row 30 n 1 z.2,.row 30 (dL (L'.take z.1)).length 1 (rowsF (dL (L'.take z.1))),.row 2 (dL (L'.take z.1)).length 1 (numsF (cnX (L'.take z.1) (dL (L'.take z.1))))],λ z=>n-z.1⟩) ((0,rowsF L')) (⟨Nat.zero_le _,λ j _ _=>rfl,hSc⟩) (gC [1,3,4] (by repeat (first|exact trivial|(refine lC ?_ ?_;first|exact byLz|(exact le_row (Nat.le_refl _) (λ j hj=>absurd hj (Nat.not_lt_zero _)))|exact byLeq)))) ?_
  clear hSc
  rintro⟨i,F⟩ ⟨hi,hF,hSc⟩
  dsimp only at hi hF hSc
  dsimp only[Hd.at]
  have hDl:(dL (L'.take i)).length<=5000:=by
   have:=dL_len (L'.take i)
   rw[List.length_take] at this;omega
  refine rS ?_
  refine WP.seq ?_
  refine cI (λ hc=>?_) λ hc=>?_
  ·have hi:i<n:=by have:=of_decide_eq_true hc;omega
   clear hc
   have hFi:=hF i (Nat.le_refl _) hi
   have htk:L'.take (i+1)=L'.take i++[L'.getD i []]:=by
    rw[List.take_add_one,List.getElem?_eq_getElem (by omega),List.getD_eq_getElem?_getD,List.getElem?_eq_getElem (by omega)];rfl
   have hgd:L'.getD i []=L'[i]'(by omega):=by rw[List.getD_eq_getElem?_getD,List.getElem?_eq_getElem (by omega)];rfl
   have hle:∀x∈L'.take i,lexL x (L'.getD i [])<=0:=λ x hx=>by
    obtain⟨j,hj,rfl⟩:=List.getElem_of_mem hx
    rw[List.length_take] at hj
    rw[List.getElem_take,hgd]
    have:=List.pairwise_iff_getElem.1 hs j i (by omega) (by omega) (by omega)
    rw[lex_anti];omega
   have hla:=dL_last hle
   have hol:(L'.getD i []).length<=16:=by rw[hgd];exact hLs _ (List.getElem_mem _)
   have hDs:∀j,((dL (L'.take i)).getD j []).length<=16:=λ j=>dL_small (λ l hl=>hLs l (List.mem_of_mem_take hl)) j
   have hsrt:=dL_ok (L'.take i)
   have hhit:∀a j,a<(dL (L'.take i)).length->(dL (L'.take i)).getD a []=L'.getD i []->j<(dL (L'.take i)).length->(cnX (L'.take i++[L'.getD i []]) (dL (L'.take i))).getD j 0=if j=a then(cnX (L'.take i) (dL (L'.take i))).getD a 0+1 else(cnX (L'.take i) (dL (L'.take i))).getD j 0:=λ a j ha e hj=>cnX_hit hsrt.1 ha e hj
   have hnw:=λ h1 h2=>cnX_new (X:=L'.take i) (D:=dL (L'.take i)) (t:=L'.getD i []) h1 h2 (dL (L'.take i)).length
   have hCl:=cnX_len (L'.take i) (dL (L'.take i))
   have hCb:=λ j=>Nat.le_trans (cnX_le (L'.take i) (dL (L'.take i)) j) (show(L'.take i).length<=5000 by rw[List.length_take];omega)
   have hdx:dL (L'.take (i+1))=dL (L'.take i++[L'.getD i []]):=by rw[htk]
   have hcx:cnX (L'.take (i+1)) (dL (L'.take (i+1)))=cnX (L'.take i++[L'.getD i []]) (dL (L'.take i++[L'.getD i []])):=by rw[htk]
   rw[hla] at hdx hcx
   have hmm:=hsrt.2
   have hnd:=λ h:¬(dL (L'.take i)≠[]/\(dL (L'.take i)).getD ((dL (L'.take i)).length-1) []=L'.getD i [])=>show L'.getD i []∉dL (L'.take i) from λ hm=>by
    have h2:=(dL_ok (L'.take i++[L'.getD i []])).1
    rw[hla,if_neg h] at h2
    have h3:=(List.pairwise_append.1 h2).2.2 _ hm _ (List.mem_singleton.2 rfl)
    exact lex_irr _ h3
   clear hla hsrt
   generalize hown:L'.getD i []=own at*
   generalize cnX (L'.take i) (dL (L'.take i))=Cn at*
   generalize dL (L'.take i)=D at*
   refine WP.seq (WP.block ?_)
   refine WP.rw ?_
   refine rU 1 ?_
   refine WPL.op (by rfl) (by rfl) (QOK.op (load_row (r:=0) (j:=i) (f:=F) tok rfl (by show Dat.p 0 [addrAt 0 ((i:Nat):Int).toNat] _=Dat.p 0 [i] i;rw[addrAt0];simp) rfl rfl hFi (by decide) hi (by omega))) ?_
   refine rF ?_
   refine WP.giveUp (k:=0) (i:=i) (by rfl) (fup_same _ _ _) ?_
   intro v
   have hF2:∀j,i+1<=j->j<n->fup F i (.sa v 0 own.length 1) j=owN (L'.getD j []):=λ j h1 h2=>by
    rw[fup_ne _ _ (by omega)];exact hF j (by omega) h2
   have hS2:∀k e:Nat,Sc k (.ow e n 1 (fup F i (.sa v 0 own.length 1))):=λ k e j hj=>by
    by_cases h:j=i
    ·subst h;rw[fup_same];trivial
    ·rw[fup_ne _ _ h];exact hSc k e j hj
   have hFF:∀x,fup (fup F i x) i (.sa v 0 own.length 1)=fup F i (.sa v 0 own.length 1):=λ x=>fup_fup _ _ _ _
   generalize hFe:fup F i (.sa v 0 own.length 1)=F2 at*
   have hSc:=hS2
   refine WP.ghost (gC [0,1,2,3] (by repeat (first|exact trivial|(refine lC ?_ ?_;first|exact byLz|(exact le_row (Nat.le_refl _) (λ j _=>(congrFun (hFF _) j).symm))|exact byLeq))) (l:=[(9,.sl 1 0 D.length 1),(10,.sl 2 0 D.length 1),(12,.sl 3 0 own.length 1),(42,.sl 0 0 n 1),(43,.i .i64 (n:Int)),(44,.i .i64 (i:Int))]) (m':=[.row 30 n 1 F2,.row 30 D.length 1 (rowsF D),.row 2 D.length 1 (numsF Cn),.row 2 own.length 1 (numsF own)])) ?_
   have hlo:own.length<=65536:=by omega
   by_cases hc:D≠[]/\D.getD (D.length-1) []=own
   ·rw[if_pos hc] at hdx hcx
    obtain⟨hc1,hc2⟩:=hc
    have hpos:0<D.length:=List.length_pos_iff.2 hc1
    have d1:decide (((D.length:Nat):Int)-1<0)=false:=decide_eq_false (by omega)
    have hix:(((D.length:Nat):Int)-1).toNat=D.length-1:=by omega
    have hcN:∀j,j<D.length->numsF (cnX (L'.take (i+1)) (dL (L'.take (i+1)))) j=fup (numsF Cn) (D.length-1) (.i .i64 ((Cn.getD (D.length-1) 0:Nat)+1:Int)) j:=λ j hj=>by
     rw[hcx]
     unfold numsF
     rw[hhit (D.length-1) j (by omega) hc2 hj]
     by_cases hja:j=D.length-1
     ·subst hja;rw[if_pos rfl,fup_same];rfl
     ·rw[if_neg hja,fup_ne _ _ hja]
    have hCa:=hCb (D.length-1)
    refine rS ?_
    refine WP.seq ?_
    refine WP.rw ?_
    refine rU 3 ?_
    rw[d1]
    refine rU 3 ?_
    refine WPL.op (by rfl) (by rfl) (QOK.op (load_row (r:=1) (j:=D.length-1) (f:=rowsF D) (k:=own.length) (g:=numsF own) tok rfl (by show Dat.p 1 [addrAt 0 (((D.length:Nat):Int)-1).toNat] _=Dat.p 1 [D.length-1] (D.length-1);rw[addrAt0,hix];simp) rfl rfl (show owN (D.getD (D.length-1) [])=_ by rw[hc2];rfl) (by decide) (by omega) (by omega))) ?_
    refine rU 1 ?_
    refine cR [4,3] (slicesEqual_fn own own hlo hlo) (leC (leC leZ)) ?_
    rw[decide_eq_true (rfl:own=own)]
    refine rF ?_
    refine cQ (λ h=>?_) λ h=>?_
    ·cases h
    refine WP.skip ?_
    refine WP.ghost (Ghost.give 1 (D.length-1) 4 (by rfl) (by omega) (fup_same _ _ _) rfl rfl (by rfl) (Nat.le_refl _)) ?_
    have hgv:∀x,fup (fup (rowsF D) (D.length-1) x) (D.length-1) (.ow 2 own.length 1 (numsF own))=rowsF D:=λ x=>by
     rw[fup_fup,fup_self];show owN (D.getD (D.length-1) [])=_;rw[hc2];rfl
    refine WP.ghost (gC [0,1,2] (by repeat (first|exact trivial|(refine lC ?_ ?_;first|exact byLz|(exact le_row (Nat.le_refl _) (λ j _=>(congrFun (hgv _) j).symm))|exact byLeq))) (l:=[(9,.sl 1 0 D.length 1),(10,.sl 2 0 D.length 1),(13,.i .i64 ((D.length:Int)-1)),(42,.sl 0 0 n 1),(43,.i .i64 (n:Int)),(44,.i .i64 (i:Int))]) (m':=[.row 30 n 1 F2,.row 30 D.length 1 (rowsF D),.row 2 D.length 1 (numsF Cn)])) ?_
    have hLen:=congrArg List.length hdx
    have hix2:addrAt 0 (((D.length:Nat):Int)-1).toNat=D.length-1:=by rw[addrAt0,hix]
    have hCa2:Cn.getD (((D.length:Nat):Int)-1).toNat 0<=5000:=hCb _
    rw[<-hix2] at hcN
    refine rE ?_
    refine rE ?_
    refine Again.next ((i+1,F2)) (gC [0,1,2] (by repeat (first|exact trivial|(refine lC ?_ ?_;first|exact byLz|(first|exact le_row (Nat.le_of_eq hLen) (λ j hj=>hcN j (Nat.lt_of_lt_of_le hj (Nat.le_of_eq hLen)))|exact le_row (Nat.le_of_eq hLen) (λ j hj=>by rw[hdx]))|exact byLeq)))) (⟨by omega,hF2,hS2⟩) (by dsimp only;omega)
   ·rw[if_neg hc] at hdx hcx
    have hgo:=hdx
    have e2:=hnw (λ h=>hnd hc ((hmm own).2 h)) (hnd hc)
    rw[List.take_length,List.drop_length, <-hCl,List.take_length,List.drop_length] at e2
    rw[e2] at hcx
    have hap0:∀(z:Dat) j,j<D.length+1->numsF (Cn++[0]) j=apF D.length (numsF Cn) 0 (fup (λ _=>z) 0 (.i .i64 0)) j:=λ z j hj=>by
     have:=ap_nums Cn 0 z j (by omega)
     rw[hCl] at this
     exact this
    have hcN:∀j,j<D.length+1->numsF (cnX (L'.take (i+1)) (dL (L'.take (i+1)))) j=fup (numsF (Cn++[0])) (addrAt 0 ((D.length:Nat):Int).toNat) (.i .i64 (((Cn++[0]).getD (addrAt 0 ((D.length:Nat):Int).toNat) 0:Nat)+1:Int)) j:=λ j hj=>by
     rw[hcx,addrAt0,Int.toNat_natCast]
     have h0:(Cn++[0]).getD D.length 0=0:=by rw[<-hCl];simp[List.getD_eq_getElem?_getD]
     rw[h0]
     by_cases hja:j=D.length
     ·subst hja
      rw[fup_same]
      unfold numsF
      rw[<-hCl];simp[List.getD_eq_getElem?_getD]
     ·rw[fup_ne _ _ hja]
      unfold numsF
      rw[getD_snoc_lt _ _ _ (by omega),getD_snoc_lt _ _ _ (by omega)]
    have h00:(Cn++[0]).getD D.length 0=0:=by rw[<-hCl];simp[List.getD_eq_getElem?_getD]
    have hCa3:(Cn++[0]).getD D.length 0<=5000:=by omega
    by_cases hD0:D.length=0
    ·have d1:decide (((D.length:Nat):Int)-1<0)=true:=decide_eq_true (by omega)
     refine rS ?_
     refine WP.seq ?_
     refine WP.rw ?_
     refine rU 3 ?_
     rw[d1]
     refine rF ?_
     refine cT ?_
     refine rS ?_
     refine WP.ghost (Ghost.giveLast 5 3 (by rfl) rfl rfl (by rfl) (by rfl) (Nat.le_refl _)) ?_
     refine rS ?_
     refine rE ?_
     refine WP.ghost (gC [0,5,7] (by repeat (first|exact trivial|(refine lC ?_ ?_;first|exact byLz|(first|exact le_row (Nat.le_refl _) (λ j hj=>ap_rows D own _ j hj)|exact le_row (Nat.le_refl _) (λ j hj=>hap0 _ j hj))|exact byLeq))) (l:=[(9,.sl 1 0 (D.length+1) 1),(10,.sl 2 0 (D.length+1) 1),(13,.i .i64 (D.length:Int)),(42,.sl 0 0 n 1),(43,.i .i64 (n:Int)),(44,.i .i64 (i:Int))]) (m':=[.row 30 n 1 F2,.row 30 (D.length+1) 1 (rowsF (D++[own])),.row 2 (D.length+1) 1 (numsF (Cn++[0]))])) ?_
     refine rE ?_
     have hLen:(dL (L'.take (i+1))).length=D.length+1:=by rw[hgo];simp
     refine rE ?_
     refine Again.next ((i+1,F2)) (gC [0,1,2] (by repeat (first|exact trivial|(refine lC ?_ ?_;first|exact byLz|(first|exact le_row (Nat.le_of_eq hLen) (λ j hj=>hcN j (Nat.lt_of_lt_of_le hj (Nat.le_of_eq hLen)))|exact le_row (Nat.le_of_eq hLen) (λ j hj=>by rw[hgo]))|exact byLeq)))) (⟨by omega,hF2,hS2⟩) (by dsimp only;omega)
    ·have d1:decide (((D.length:Nat):Int)-1<0)=false:=decide_eq_false (by omega)
     have hix:(((D.length:Nat):Int)-1).toNat=D.length-1:=by omega
     have hne:D.getD (D.length-1) []≠own:=λ h=>hc ⟨λ h2=>hD0 (by rw[h2];rfl),h⟩
     have hdl:=hDs (D.length-1)
     generalize hlast:D.getD (D.length-1) []=last at*
     refine rS ?_
     refine WP.seq ?_
     refine WP.rw ?_
     refine rU 3 ?_
     rw[d1]
     refine rU 3 ?_
     refine WPL.op (by rfl) (by rfl) (QOK.op (load_row (r:=1) (j:=D.length-1) (f:=rowsF D) (k:=last.length) (g:=numsF last) tok rfl (by show Dat.p 1 [addrAt 0 (((D.length:Nat):Int)-1).toNat] _=Dat.p 1 [D.length-1] (D.length-1);rw[addrAt0,hix];simp) rfl rfl (show owN (D.getD (D.length-1) [])=_ by rw[hlast];rfl) (by decide) (by omega) (by omega))) ?_
     refine rU 1 ?_
     refine cR [4,3] (slicesEqual_fn last own (by omega) hlo) (leC (leC leZ)) ?_
     rw[decide_eq_false hne]
     refine rF ?_
     refine cT ?_
     refine WP.ghost (Ghost.give 1 (D.length-1) 4 (by rfl) (by omega) (fup_same _ _ _) rfl rfl (by rfl) (Nat.le_refl _)) ?_
     have hgv:∀x,fup (fup (rowsF D) (D.length-1) x) (D.length-1) (.ow 2 last.length 1 (numsF last))=rowsF D:=λ x=>by
      rw[fup_fup,fup_self];show owN (D.getD (D.length-1) [])=_;rw[hlast];rfl
     refine WP.ghost (gC [0,1,2,3] (by repeat (first|exact trivial|(refine lC ?_ ?_;first|exact byLz|(exact le_row (Nat.le_refl _) (λ j _=>(congrFun (hgv _) j).symm))|exact byLeq))) (l:=[(9,.sl 1 0 D.length 1),(10,.sl 2 0 D.length 1),(12,.sl 3 0 own.length 1),(13,.i .i64 ((D.length:Int)-1)),(42,.sl 0 0 n 1),(43,.i .i64 (n:Int)),(44,.i .i64 (i:Int))]) (m':=[.row 30 n 1 F2,.row 30 D.length 1 (rowsF D),.row 2 D.length 1 (numsF Cn),.row 2 own.length 1 (numsF own)])) ?_
     refine rS ?_
     refine WP.ghost (Ghost.giveLast 5 3 (by rfl) rfl rfl (by rfl) (by rfl) (Nat.le_refl _)) ?_
     refine rS ?_
     refine rE ?_
     refine WP.ghost (gC [0,5,7] (by repeat (first|exact trivial|(refine lC ?_ ?_;first|exact byLz|(first|exact le_row (Nat.le_refl _) (λ j hj=>ap_rows D own _ j hj)|exact le_row (Nat.le_refl _) (λ j hj=>hap0 _ j hj))|exact byLeq))) (l:=[(9,.sl 1 0 (D.length+1) 1),(10,.sl 2 0 (D.length+1) 1),(13,.i .i64 (D.length:Int)),(42,.sl 0 0 n 1),(43,.i .i64 (n:Int)),(44,.i .i64 (i:Int))]) (m':=[.row 30 n 1 F2,.row 30 (D.length+1) 1 (rowsF (D++[own])),.row 2 (D.length+1) 1 (numsF (Cn++[0]))])) ?_
     refine rE ?_
     have hLen:(dL (L'.take (i+1))).length=D.length+1:=by rw[hgo];simp
     refine rE ?_
     refine Again.next ((i+1,F2)) (gC [0,1,2] (by repeat (first|exact trivial|(refine lC ?_ ?_;first|exact byLz|(first|exact le_row (Nat.le_of_eq hLen) (λ j hj=>hcN j (Nat.lt_of_lt_of_le hj (Nat.le_of_eq hLen)))|exact le_row (Nat.le_of_eq hLen) (λ j hj=>by rw[hgo]))|exact byLeq)))) (⟨by omega,hF2,hS2⟩) (by dsimp only;omega)
  ·have hi:i=n:=by have:=of_decide_eq_false hc;omega
   clear hc
   subst hi
   have hX2:L'.take i=L':=by rw[<-hl',List.take_length]
   rw[hX2]
   rw[<-hR1, <-hR2]
   refine rS ?_
   exact WP.ret (Ends.new [1,2] (by rfl) (by exact byObl) (leC (leC leZ)) rfl rfl (ren3 rfl rfl ⟨rfl,trivial⟩) (sc_t3 (sc_sl rfl) (sc_sl rfl) trivial))
end Go.Proofs.YthjnmlpibafbnaaGreat
