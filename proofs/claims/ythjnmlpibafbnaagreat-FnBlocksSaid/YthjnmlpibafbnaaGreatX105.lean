import Derived.Test.YthjnmlpibafbnaaGreatX102
import Derived.Test.YthjnmlpibafbnaaGreatL35
import Derived.Test.YthjnmlpibafbnaaGreatX30
import Derived.Test.YthjnmlpibafbnaaGreatX6
import Derived.Test.YthjnmlpibafbnaaGreatX100
import Derived.Test.YthjnmlpibafbnaaGreatX162
import Derived.Test.YthjnmlpibafbnaaGreatD34
namespace Go.Proofs.YthjnmlpibafbnaaGreat
open Go.RowKit DM
set_option linter.unusedSimpArgs false
set_option linter.unusedVariables false
set_option maxRecDepth 100000
set_option maxHeartbeats 1000000
def unR(ρ:Rho):Rho:=λ r=>match r with
 |0=>ρ 0
 |r+1=>λ _=>ρ 0 [r]
theorem unM_cases{L:List (List Nat)}{n:Nat}{f:Nat->Dat}{r:Nat}{R:Root}(h:(unM L n f)[r]? =some R):(r=0/\R=.row 30 n 1 f)\/∃j,j<L.length/\r=j+1/\R=roN (L.getD j []):=by
 cases r with
 |zero=>simp[unM] at h;exact .inl ⟨rfl,h.symm⟩
 |succ j=>
  have hj:j<L.length:=by
   have:=(List.getElem?_eq_some_iff.1 h).1
   simp[unM] at this;exact this
  rw[unM_get L n f hj] at h
  exact .inr ⟨j,hj,rfl,(Option.some.inj h).symm⟩
theorem nav_nums{e:TypeId}{l:List Nat}{q:List Nat}{e' n s:Nat}{f:Nat->Dat}(h:nav (.ow e l.length 1 (numsF l)) q=some (.ow e' n s f)):q=[]/\e'=e/\n=l.length/\s=1/\f=numsF l:=by
 cases q with
 |nil=>simp only[nav,Option.some.injEq,Dat.ow.injEq] at h;exact⟨rfl,h.1.symm,h.2.1.symm,h.2.2.1.symm,h.2.2.2.symm⟩
 |cons i q=>
  simp only[nav] at h
  split at h
  ·exact absurd h (Pl_nav (d:=numsF l i) trivial)
  ·cases h
theorem ro_nums{ρ ρ':Rho}{w:World}{v:RV}{A B:List Nat->RV}{l:List Nat}(h:RoOK ρ w v A l.length 1 (numsF l)):RoOK ρ' w v B l.length 1 (numsF l):=by
 rcases h with h|⟨g1,g2,g3,g4,g5⟩
 ·exact .inl h
 ·refine .inr ⟨g1,g2,g3,g4,λ j u hu=>g5 j u ?_⟩
  rw[owN_int,cells_ints] at hu ⊢;exact hu
theorem cells_rows(ρ:Rho)(A:List Nat->RV)(L:List (List Nat)):cells ρ A (.ar L.length 1 (rowsF L))=(List.range L.length).map λ j=>(A [j]).slice 0 (L.getD j []).length 1:=
 cells_inn ρ _ L.length (rowsF_inn L) _ λ j hj k g e1=>by
  simp only[rowsF,owN,Dat.ow.injEq,true_and] at e1
  rw[e1.1]
theorem rep_un{ρ:Rho}{w:World}{L:List (List Nat)}(h:Rep ρ [.row 30 L.length 1 (rowsF L)] w):Rep (unR ρ) (unM L L.length (refS L λ j=>j)) w:=by
 have hin:∀j,j<L.length->RowOK ρ w (ρ 0 [j]) (λ z=>ρ 0 ([j]++z)) 2 (L.getD j []).length 1 (numsF (L.getD j [])):=λ j hj=>
  h.row 0 _ _ [j] 2 (L.getD j []).length 1 (numsF (L.getD j [])) rfl rfl rfl (by simp only[nav,if_pos hj];rfl) (.inr (by decide))
 have hsc:∀j,isScalar (refS L (λ j=>j) j)=true:=λ _=>rfl
 have hnv:∀{q:List Nat}{e n s:Nat}{f:Nat->Dat},nav (.ow 30 L.length 1 (refS L λ j=>j)) q=some (.ow e n s f)->q=[]/\e=30/\n=L.length/\s=1/\f=refS L λ j=>j:=λ{q e n s f} hx=>by
  cases q with
  |nil=>simp only[nav,Option.some.injEq,Dat.ow.injEq] at hx;exact⟨rfl,hx.1.symm,hx.2.1.symm,hx.2.2.1.symm,hx.2.2.2.symm⟩
  |cons i q=>
   simp only[nav] at hx
   split at hx
   ·exact absurd hx (scal_nav (hsc i))
   ·cases hx
 refine⟨λ r d hr=>?_,λ r R d q e n s f hR hm hc hn _=>?_,λ r R d q e n s f hR hm hc hn=>?_,λ r R q r' R' q' hR hR' hm hq hq' hnl hd=>?_,λ r R d hR hc=>?_,λ r b l hr=>?_⟩
 ·rcases unM_cases hr with⟨_,e⟩|⟨_,_,_,e⟩<;>cases e
 ·rcases unM_cases hR with⟨rfl,rfl⟩|⟨_,_,_,rfl⟩
  ·cases hc
   obtain⟨rfl,rfl,rfl,rfl,rfl⟩:=hnv hn
   obtain⟨blk,g1,g2,g3,g4,g5,g6,g7⟩:=h.row 0 _ _ [] _ L.length 1 (rowsF L) rfl rfl rfl rfl (.inl rfl)
   refine⟨blk,g1,g2,g3,g4,g5,g6,?_⟩
   rw[g7,cells_rows,cells_scal (B:=noA) λ j _=>hsc j]
   rfl
  ·cases hm
 ·rcases unM_cases hR with⟨rfl,rfl⟩|⟨j,hj,rfl,rfl⟩
  ·cases hc
   obtain⟨rfl,rfl,_⟩:=hnv hn
   rcases hm with hm|⟨hm,_⟩
   ·cases hm
   ·exact absurd rfl hm
  ·cases hc
   obtain⟨rfl,rfl,rfl,rfl,rfl⟩:=nav_nums hn
   exact ro_nums (hin j hj).ro
 ·rcases unM_cases hR with⟨rfl,rfl⟩|⟨_,_,_,rfl⟩
  ·have hq0:q=[]:=by
    rcases hq with⟨h1,_⟩|⟨d,e,n,s,f,h1,h2,_⟩
    ·exact h1
    ·cases h1;exact(hnv h2).1
   subst hq0
   rcases unM_cases hR' with⟨rfl,rfl⟩|⟨j,hj,rfl,rfl⟩
   ·have hq1:q'=[]:=by
     rcases hq' with⟨h1,_⟩|⟨d,e,n,s,f,h1,h2⟩
     ·exact h1
     ·cases h1;exact(hnv h2).1
    exact absurd hq1.symm (hd rfl)
   ·exact h.sep 0 _ [] 0 _ [j] rfl rfl rfl (.inl ⟨rfl,rfl⟩) (.inr ⟨_,_,_,_,_,rfl,by simp only[nav,if_pos hj];rfl⟩) hnl (λ _=>by simp)
  ·cases hm
 ·rcases unM_cases hR with⟨rfl,rfl⟩|⟨j,hj,rfl,rfl⟩
  ·cases hc
   refine⟨λ i hi=>⟨rfl,trivial⟩,λ i hi=>?_⟩
   show i+1<(unM L L.length _).length
   simp[unM];exact hi
  ·cases hc
   exact⟨λ _ _=>⟨rfl,trivial⟩,λ _ _=>trivial⟩
 ·rcases unM_cases hr with⟨_,e⟩|⟨_,_,_,e⟩<;>cases e
theorem compact_fn(L:List (List Nat))(hL:∀l∈L,l.length<=65536)(hn:L.length<=65536):
  FnS Tryz.prog 47 [.sl 0 0 L.length 1,.fn 48 0 (λ _=>.un)] [.row 30 L.length 1 (rowsF L)] λ r m'=>r=.sl 0 0 (cmpL L).length 1/\m'=[.row 30 (cmpL L).length 1 (rowsF (cmpL L))]:=by
 have hun:=compact_un L hL hn
 refine FnS.norm ⟨hun.enter,λ ρ w hr hx=>?_⟩
 have hcall:=hun.calls (unR ρ) w (rep_un hr) (λ x hx=>by
  simp only[List.mem_cons,List.not_mem_nil,or_false] at hx
  rcases hx with rfl|rfl
  ·exact⟨by show 0<_;simp[unM],trivial,trivial⟩
  ·exact⟨λ i hi=>absurd hi (Nat.not_lt_zero _),trivial,trivial⟩)
 have e0:([Dat.sl 0 0 L.length 1,Dat.fn 48 0 (λ _=>.un)].map (DM.enc (unR ρ))).toArray=([Dat.sl 0 0 L.length 1,Dat.fn 48 0 (λ _=>.un)].map (DM.enc ρ)).toArray:=rfl
 rw[e0] at hcall
 refine hcall.mono ?_
 rintro e w' ⟨r,ρ2,m',rfl,_,_,hrep,htr,I,f',hI,rfl,rfl,hf'⟩
 obtain⟨cur,hb,ho,hnil,hcap,hmax,hsz,htk⟩:=hr.row 0 _ _ [] 30 L.length 1 (rowsF L) rfl rfl rfl rfl (.inl rfl)
 obtain⟨cur2,hb2,ho2,hnil2,hcap2,hmax2,hsz2,htk2⟩:=hrep.row 0 _ _ [] 30 L.length 1 f' rfl rfl rfl rfl (.inl rfl)
 have hag:∀r,r<L.length+1->ρ2 r []=unR ρ r []:=λ r hr=>htr.agree r (by simp[unM];omega)
 have hag0:ρ2 0 []=ρ 0 []:=hag 0 (by omega)
 rw[hag0] at hb2 hsz2
 have hIl:=hI.len
 have hIn:∀j,j<I.length->I.getD j 0<L.length:=λ j hj=>by
  rw[List.getD_eq_getElem?_getD,List.getElem?_eq_getElem hj];exact hI.lt _ (List.getElem_mem hj)
 have hinj:∀i j,i<I.length->j<I.length->I.getD i 0=I.getD j 0->i=j:=λ i j hi hj he=>by
  simp only[List.getD_eq_getElem?_getD,List.getElem?_eq_getElem hi,List.getElem?_eq_getElem hj,Option.getD_some] at he
  have:=List.pairwise_iff_getElem.1 hI.asc
  rcases Nat.lt_trichotomy i j with h1|h1|h1
  ·have:=this i j hi hj h1;omega
  ·exact h1
  ·have:=this j i hj hi h1;omega
 have hg:w.grownBy w' (some (ρ 0 []).b):=by
  refine⟨htr.os,htr.tape,htr.output,htr.size,λ k hk hne=>htr.keep k hk λ r R q hR hm hq e=>?_⟩
  rcases unM_cases hR with⟨rfl,rfl⟩|⟨_,_,_,rfl⟩
  ·have hq0:q=[]:=by
    rcases hq with⟨h1,_⟩|⟨d,e,n,s,f,h1,h2,_⟩
    ·exact h1
    ·cases h1
     cases q with
     |nil=>rfl
     |cons i q=>
      simp only[nav] at h2
      split at h2
      ·exact absurd h2 (scal_nav (d:=refS L (λ j=>j) i) rfl)
      ·cases h2
   subst hq0
   exact hne (by rw[<-e];rfl)
  ·cases hm
 have hcur:∀j,j<L.length->cur[j]? =some ((ρ 0 [j]).slice 0 (L.getD j []).length 1):=λ j hj=>by
  rw[Nat.mul_one,cells_rows] at htk
  have h3:=congrArg (λ l=>l[j]?) htk
  simp only[List.getElem?_take,if_pos hj,List.getElem?_map,List.getElem?_range hj,Option.map_some,Array.getElem?_toList] at h3
  exact h3
 obtain⟨g1,g2⟩:=rep_pick (σ:=λ j=>I.getD j 0) (n':=I.length) hr (e2:=2) (by decide) (rowsF_inn L) hIl hIn hinj hg htr.drawn (λ c hc'=>by
  rw[hb] at hc'
  cases hc'
  refine⟨cur2,hb2,by rw[hsz,hsz2],λ j hj=>?_⟩
  rw[hcur _ (hIn j hj)]
  have hpre:RowOK ρ2 w' (ρ2 0 []) (ρ2 0) 30 I.length 1 f':=(hrep.row 0 _ _ [] 30 L.length 1 f' rfl rfl rfl rfl (.inl rfl)).pre (hrep.wf 0 _ _ rfl rfl).1 hIl (λ _ _=>rfl)
  obtain⟨c3,k1,_,_,_,_,_,k7⟩:=hpre
  rw[hag0,hb2] at k1
  cases k1
  rw[Nat.mul_one,cells_scal (B:=noA) (λ j hj=>by rw[hf' j hj];rfl)] at k7
  have h3:=congrArg (λ l=>l[j]?) k7
  simp only[List.getElem?_take,if_pos hj,List.getElem?_map,List.getElem?_range hj,Option.map_some,Array.getElem?_toList] at h3
  rw[h3,hf' j hj]
  show some ((ρ2 (I.getD j 0+1) []).slice 0 _ 1)=_
  rw[hag _ (by have:=hIn j hj;omega)]
  rfl)
 have hIm:=hI.map
 rw[List.take_length] at hIm
 have hlen:(cmpL L).length=I.length:=by rw[<-hIm,List.length_map]
 have hrow:∀j,j<(cmpL L).length->rowsF (cmpL L) j=rowsF L (I.getD j 0):=λ j hj=>by
  rw[hlen] at hj
  unfold rowsF
  rw[<-hIm]
  simp only[List.getD_eq_getElem?_getD,List.getElem?_map,List.getElem?_eq_getElem hj]
  rfl
 refine⟨.sl 0 0 I.length 1,pickR ρ λ j=>I.getD j 0,_,?_,(by exact(by decide:0<1)),⟨trivial,trivial⟩,g1,g2,_,Taken.of [0] (LeAll.cons rfl (le_row (Nat.le_of_eq hlen) hrow) (λ d hd=>by cases hd;exact λ _ _ _ _=>trivial) trivial) rfl rfl,?_,(by decide:0<1)⟩
 ·show Ending.returned ((ρ2 0 []).slice 0 I.length 1)=.returned ((pickR ρ _ 0 []).slice 0 I.length 1)
  rw[hag0];rfl
 ·rw[hlen];rfl
end Go.Proofs.YthjnmlpibafbnaaGreat

namespace Go.Proofs.YthjnmlpibafbnaaGreat
open Go.RowKit DM
set_option linter.unusedVariables false
set_option linter.unusedSimpArgs false
def atB(own:List Nat):List (List Nat)->Nat
 |[]=>0
 |a::L=>if befL a own<0 then atB own L+1 else 0
theorem atB_le(own:List Nat):∀L,atB own L<=L.length
 |[]=>Nat.le_refl _
 |a::L=>by
  have:=atB_le own L
  simp only[atB,List.length_cons]
  split<;>omega
theorem atB_lt(own:List Nat):∀{L:List (List Nat)}{j:Nat},j<atB own L->befL (L.getD j []) own<0
 |[],j,h=>by simp[atB] at h
 |a::L,j,h=>by
  simp only[atB] at h
  split at h
  ·rename_i h1
   cases j with
   |zero=>exact h1
   |succ j=>exact atB_lt own (L:=L) (by omega)
  ·omega
theorem atB_at(own:List Nat):∀{L:List (List Nat)},atB own L<L.length->¬befL (L.getD (atB own L) []) own<0
 |[],h=>by simp[atB] at h
 |a::L,h=>by
  simp only[atB] at h ⊢
  split
  ·rename_i h1
   rw[if_pos h1] at h
   exact atB_at own (L:=L) (by simpa using h)
  ·rename_i h1;exact h1
theorem atB_eq{own:List Nat}{L:List (List Nat)}{k:Nat}(hk:k<=L.length)(h1:∀j,j<k->befL (L.getD j []) own<0)(h2:k<L.length->¬befL (L.getD k []) own<0):k=atB own L:=by
 rcases Nat.lt_trichotomy k (atB own L) with h|h|h
 ·exact absurd (atB_lt own h) (h2 (Nat.lt_of_lt_of_le h (atB_le own L)))
 ·exact h
 ·exact absurd (h1 _ h) (atB_at own (by omega))
def insL(own:List Nat)(L:List (List Nat)):List (List Nat):=if atB own L<L.length/\befL (L.getD (atB own L) []) own=0 then L else L.take (atB own L)++own::L.drop (atB own L)
theorem ins_srt{own:List Nat}{L:List (List Nat)}(h:Srt L):Srt (insL own L)/\∀x,x∈insL own L↔x=own\/x∈L:=by
 unfold insL
 split
 ·rename_i hc
  refine⟨h,λ x=>⟨.inr,λ hx=>?_⟩⟩
  rcases hx with rfl|hx
  ·have e:=bef_eq.1 hc.2
   rw[List.getD_eq_getElem?_getD,List.getElem?_eq_getElem hc.1] at e
   rw[<-e];exact List.getElem_mem hc.1
  ·exact hx
 ·rename_i hc
  refine srt_ins h (λ j hj=>atB_lt own hj) (atB_le own L) λ hl=>?_
  have h1:=atB_at own hl
  have h2:befL (L.getD (atB own L) []) own≠0:=λ h=>hc ⟨hl,h⟩
  rw[bef_anti]
  have:=bef_rng (L.getD (atB own L) []) own
  omega
noncomputable def blsL (N:Nat)(b w:Nat->Nat):Nat->List (List Nat)
 |0=>[]
 |k+1=>insL (blkL N b w 0 (k+1)) (blsL N b w k)
theorem bls_srt(N:Nat)(b w:Nat->Nat):∀k,Srt (blsL N b w k)/\∀x,x∈blsL N b w k↔∃j,j<k/\x=blkL N b w 0 (j+1)
 |0=>⟨.nil,λ x=>by simp[blsL]⟩
 |k+1=>by
  obtain⟨h1,h2⟩:=bls_srt N b w k
  obtain⟨h3,h4⟩:=ins_srt (own:=blkL N b w 0 (k+1)) h1
  refine⟨h3,λ x=>?_⟩
  show x∈insL _ _↔_
  rw[h4,h2]
  constructor
  ·rintro(rfl|⟨j,hj,rfl⟩)
   ·exact⟨k,by omega,rfl⟩
   ·exact⟨j,by omega,rfl⟩
  ·rintro⟨j,hj,rfl⟩
   by_cases e:j=k
   ·subst e;exact .inl rfl
   ·exact .inr ⟨j,by omega,rfl⟩
noncomputable def bkA (N:Nat)(b w:Nat->Nat)(k:Nat):List (List Nat):=(List.range k).map λ j=>blkL N b w 0 (j+1)
theorem bkA_step(N:Nat)(b w:Nat->Nat)(k:Nat):bkA N b w (k+1)=bkA N b w k++[blkL N b w 0 (k+1)]:=by simp[bkA,List.range_succ]
theorem bkA_len(N:Nat)(b w:Nat->Nat)(k:Nat):(bkA N b w k).length=k:=by simp[bkA]
theorem blkL_len(N:Nat)(b w:Nat->Nat)(x y:Nat):(blkL N b w x y).length<=N:=by
 have:=List.length_filter_le (λ i=>@decide (Gen b w x y i x) (Classical.propDecidable _)) (List.range N)
 simpa[blkL] using this
theorem bkA_small(N:Nat)(b w:Nat->Nat)(k:Nat):∀l∈bkA N b w k,l.length<=N:=λ l hl=>by
 obtain⟨j,_,rfl⟩:=List.mem_map.1 hl
 exact blkL_len _ _ _ _ _
theorem ins_len(own:List Nat)(L:List (List Nat)):(insL own L).length<=L.length+1:=by
 have:=atB_le own L
 unfold insL
 split
 ·omega
 ·simp only[List.length_append,List.length_cons,List.length_take,List.length_drop];omega
theorem bls_len(N:Nat)(b w:Nat->Nat):∀k,(blsL N b w k).length<=k
 |0=>Nat.le_refl _
 |k+1=>by
  have h1:=bls_len N b w k
  have h2:=ins_len (blkL N b w 0 (k+1)) (blsL N b w k)
  show(insL _ _).length<=_
  omega
theorem bls_small(N:Nat)(b w:Nat->Nat)(k j:Nat):((blsL N b w k).getD j []).length<=N:=by
 rw[List.getD_eq_getElem?_getD]
 by_cases h:j<(blsL N b w k).length
 ·rw[List.getElem?_eq_getElem h]
  obtain⟨i,_,e⟩:=((bls_srt N b w k).2 _).1 (List.getElem_mem h)
  rw[Option.getD_some,e];exact blkL_len _ _ _ _ _
 ·rw[List.getElem?_eq_none (by omega)];exact Nat.zero_le _
theorem cmp_bls{N:Nat}{b w:Nat->Nat}{k:Nat}{L':List (List Nat)}(hp:L'.Perm (bkA N b w k))(hs:L'.Pairwise λ l k=>¬befL k l<0):cmpL L'=blsL N b w k:=by
 obtain⟨h1,h2⟩:=bls_srt N b w k
 refine srt_unique (cmp_srt (hs.imp λ{a c} h=>?_)) h1 λ x=>?_
 ·rw[bef_anti];have:=bef_rng c a;omega
 ·rw[cmp_mem,hp.mem_iff,h2]
  unfold bkA
  rw[List.mem_map]
  constructor
  ·rintro⟨j,hj,rfl⟩;exact⟨j,List.mem_range.1 hj,rfl⟩
  ·rintro⟨j,hj,rfl⟩;exact⟨j,List.mem_range.2 hj,rfl⟩
end Go.Proofs.YthjnmlpibafbnaaGreat

namespace Go.Proofs.YthjnmlpibafbnaaGreat
open Go.RowKit DM
open Go.Sort (SWO)
set_option linter.unusedSimpArgs false
set_option linter.unusedVariables false
set_option maxRecDepth 100000
set_option maxHeartbeats 1000000
theorem bef_swo:SWO λ l k:List Nat=>decide (cfB l k<0):=by
 refine⟨λ x=>?_,λ x y z h1 h2=>?_,λ x y z h1 h2=>?_⟩
 ·rw[decide_eq_false_iff_not,cfB_bef];exact bef_irr x
 ·rw[decide_eq_true_eq,cfB_bef] at*;exact bef_trans h1 h2
 ·rw[decide_eq_false_iff_not,cfB_bef] at*
  intro h3
  have a1:=bef_rng x y
  have a2:=bef_anti x y
  by_cases e:befL x y=0
  ·rw[bef_eq.1 e] at h3;exact h2 h3
  ·exact h2 (bef_trans (show befL y x<0 by omega) h3)
theorem blocksOf1_enter:∀args w,(callFunc 45 args).run Tryz.prog w=.ok (.enter 45 args) w:=callFunc_run Tryz.func45 rfl rfl
theorem sortB_fn(L:List (List Nat))(hL:∀l∈L,l.length<=65536)(hn:L.length<=65536):
  FnS Tryz.prog 44 [.sl 0 0 L.length 1,.fn 45 0 (λ _=>.un)] [.row 30 L.length 1 (rowsF L)] λ r m'=>∃L',L'.Perm L/\(L'.Pairwise λ l k=>¬cfB k l<0)/\r=.tup 0 (λ _=>.un)/\m'=[.row 30 L.length 1 (rowsF L')]:=
 sortFunc_fn blocksOf1_enter bef_swo blocksOf1_fn L hL hn
noncomputable def blR (n:Int)(b w:Nat->Nat):Dat×List Root:=bif desB n b w then(t2 (.sl 0 0 (blsL n.toNat b w (n.toNat-1)).length 1) (.i .i64 0),[.row 30 (blsL n.toNat b w (n.toNat-1)).length 1 (rowsF (blsL n.toNat b w (n.toNat-1)))]) else(t2 .ns (.i .i64 1),[])
theorem implBlocks_fn(n:Int)(b w:Nat->Nat)(hb:∀i,b i<256)(hw:∀i,w i<256):FnS Tryz.prog 16 [ds_ n b w] [] (λ r m'=>r=(blR n b w).1/\m'=(blR n b w).2):=by
 cases hc:desB n b w
 ·have e:blR n b w=(t2 .ns (.i .i64 1),[]):=by unfold blR;rw[hc];rfl
  rw[e]
  refine FnS.intoN T tok Tryz.func16 (by rfl) rfl rfl rfl (by simp) ?_
  refine rS ?_
  refine WP.seq ?_
  refine WP.rw ?_
  refine rU 1 ?_
  refine cA (hc▸implIsDessin_fn n b w hb hw) ?_
  refine rF ?_
  refine cS (λ h=>?_) λ h=>?_
  ·refine rS ?_
   exact WP.ret (Ends.new [] (by rfl) (by exact byObl) leZ rfl rfl (ren_t2 ⟨rfl,trivial⟩ ⟨rfl,trivial⟩) (sc_t2 trivial trivial))
  ·cases h
 ·obtain⟨N,rfl,hD⟩:=des_of_B hc
  have e:blR N b w=(t2 (.sl 0 0 (blsL N b w (N-1)).length 1) (.i .i64 0),[.row 30 (blsL N b w (N-1)).length 1 (rowsF (blsL N b w (N-1)))]):=by unfold blR;rw[hc];rfl
  rw[e]
  have hN:=hD.le
  have hN1:=hD.pos
  refine FnS.intoN T tok Tryz.func16 (by rfl) rfl rfl rfl (by simp) ?_
  refine rS ?_
  refine WP.seq ?_
  refine WP.rw ?_
  refine rU 1 ?_
  refine cA (hc▸implIsDessin_fn N b w hb hw) ?_
  refine rF ?_
  refine cF ?_
  refine rS ?_
  refine WP.seq ?_
  refine rS ?_
  refine WP.block ?_
  refine WP.loopH (⟨λ k:Nat=>k+1<=N,λ k=>[(1,.p 0 [] 0),(4,.sl 1 0 k 1),(5,.i .i64 ((k+1:Nat):Int))],λ k=>[.var (ds_ N b w),.row 30 k 1 (rowsF (bkA N b w k))],λ k=>N-k⟩) (0) (by omega) (gC [0,1] (by repeat (first|exact trivial|(refine lC ?_ ?_;first|exact byLz|(exact le_row (Nat.le_refl _) (λ j hj=>absurd hj (Nat.not_lt_zero _)))|exact byLeq)))) ?_
  intro k hk
  dsimp only at hk
  dsimp only[Hd.at]
  refine WP.seq ?_
  refine rS ?_
  refine cI (λ hc=>?_) λ hc=>?_
  ·have hk:k+1<N:=by have:=of_decide_eq_true hc;omega
   clear hc
   have hbl:=block_fn N b w 0 (k+1) (by omega) hk hN hD.pb.lt hD.pw.lt
   have hap:∀g j,j<k+1->rowsF (bkA N b w (k+1)) j=fup (apF k (rowsF (bkA N b w k)) 0 g) k (owN (blkL N b w 0 (k+1))) j:=λ g j hj=>by
    have:=ap_rows (bkA N b w k) (blkL N b w 0 (k+1)) g j (by rw[bkA_len];exact hj)
    rw[bkA_len, <-bkA_step] at this
    exact this
   refine WP.seq (WP.block ?_)
   refine WP.region ?_
   refine rU 3 ?_
   refine cN [] (.sl 2 0 (blkL N b w 0 (k+1)).length 1) (hbl) leZ (rfl) ?_
   refine rF ?_
   refine rE ?_
   refine Again.step (Ghost.giveLast 4 2 (by rfl) rfl rfl (by rfl) (by rfl) (Nat.le_refl _)) ?_
   refine Again.next (k+1) (gC [0,4] (by repeat (first|exact trivial|(refine lC ?_ ?_;first|exact byLz|(exact le_row (Nat.le_refl _) (λ j hj=>hap _ j hj))|exact byLeq)))) (hk) (by dsimp only;omega)
  ·have hk:k=N-1:=by have:=of_decide_eq_false hc;omega
   clear hc
   have hsm:∀l∈bkA N b w k,l.length<=65536:=λ l hl=>by have:=bkA_small N b w k l hl;omega
   have hsb:=sortB_fn (bkA N b w k) hsm (by rw[bkA_len];omega)
   rw[bkA_len] at hsb
   refine WP.rw ?_
   refine rU 1 ?_
   refine WPL.callE [1] (hsb) (leC leZ) (by rfl) (by rfl) (by exact byArgs) (by rfl) (by rfl) (by simp[Sc,sc_pl,sc_ds]) ?_
   rintro _ _ ⟨L',hp,hs,rfl,rfl⟩
   have hl':L'.length=k:=by rw[hp.length_eq,bkA_len]
   have hcm:=cmp_bls hp (hs.imp λ{a c} h h2=>h ((cfB_bef c a).2 h2))
   have hcf:=compact_fn L' (λ l hl=>hsm l (hp.mem_iff.1 hl)) (by omega)
   rw[hcm,hl'] at hcf
   refine⟨⟨λ d hd=>by cases hd;exact λ _ _ _ _=>trivial,trivial⟩,.tup 0 (λ _=>.un),⟨_,rfl,λ i hi=>absurd hi (Nat.not_lt_zero _)⟩,λ i hi=>absurd hi (Nat.not_lt_zero _),?_⟩
   refine WPL.nil ?_
   refine WP.rw ?_
   refine rU 1 ?_
   refine cN [1] (.sl 1 0 (blsL N b w k).length 1) (hcf) (leC leZ) (rfl) ?_
   refine rF ?_
   subst hk
   exact WP.ret (Ends.new [1] (by rfl) (by exact byObl) (leC leZ) rfl rfl (ren_t2 rfl ⟨rfl,trivial⟩) (sc_t2 (sc_sl rfl) trivial))
end Go.Proofs.YthjnmlpibafbnaaGreat

namespace Go.Proofs.YthjnmlpibafbnaaGreat
open Go.RowKit DM
set_option linter.unusedSimpArgs false
set_option linter.unusedVariables false
set_option maxRecDepth 100000
set_option maxHeartbeats 1000000
theorem cmpI_nat{a b:Nat}:(a<b->cmpI a b=-1)/\(b<a->cmpI a b=1)/\(a=b->cmpI a b=0):=by
 unfold cmpI
 refine⟨λ h=>?_,λ h=>?_,λ h=>?_⟩
 ·rw[if_pos (by omega)]
 ·rw[if_neg (by omega),if_pos (by omega)]
 ·rw[if_neg (by omega),if_neg (by omega)]
theorem l03Less_fn(l k:List Nat)(hl:l.length<=65536)(hk:k.length<=65536):FnR Tryz.prog 59 [.sl 0 0 l.length 1,.sl 1 0 k.length 1] [.ro l.length 1 (numsF l),.ro k.length 1 (numsF k)] (.i .i64 (lexL l k)):=by
 refine FnS.into T tok Tryz.func59 (by rfl) rfl rfl rfl (by simp) ?_
 refine rS ?_
 refine WP.seq ?_
 refine rS ?_
 refine WP.block ?_
 refine WP.loopH (⟨λ i:Nat=>i<=l.length/\i<=k.length/\lexL (l.drop i) (k.drop i)=lexL l k,λ i=>[(0,.sl 0 0 l.length 1),(1,.sl 1 0 k.length 1),(4,.i .i64 0),(5,.i .i64 (i:Int))],λ i=>[.ro l.length 1 (numsF l),.ro k.length 1 (numsF k)],λ i=>l.length-i⟩) (0) (⟨Nat.zero_le _,Nat.zero_le _,rfl⟩) (gC [0,1] (leC (leC leZ))) ?_
 intro i hi
 dsimp only at hi
 dsimp only[Hd.at]
 obtain⟨hi1,hi2,hi3⟩:=hi
 refine WP.seq ?_
 refine WP.rw ?_
 refine rU 4 ?_
 cases hc:decide ((i:Int)<l.length)
 ·have hi:¬i<l.length:=by have:=of_decide_eq_false hc;omega
  refine rF ?_
  refine cI (λ h=>?_) λ h=>?_
  ·cases h
  refine WP.seq (WP.block ?_)
  refine rS ?_
  refine cQ (λ h=>?_) λ h=>?_
  ·have h:=of_decide_eq_true h
   refine rS ?_
   exact WP.ret (Ends.val (by rfl) (by exact byObl) (by show Dat.i .i64 (-1)=_;rw[<-hi3,lex_end2 hi,if_pos (by omega)]) (by trivial))
  have h:=of_decide_eq_false h
  refine rS ?_
  refine cQ (λ h2=>?_) λ h2=>?_
  ·have h2:=of_decide_eq_true h2
   omega
  refine WP.skip ?_
  refine rS ?_
  exact WP.ret (Ends.val (by rfl) (by exact byObl) (by show Dat.i .i64 0=_;rw[<-hi3,lex_end2 hi,if_neg (by omega)]) (by trivial))
 ·have hi:i<l.length:=by have:=of_decide_eq_true hc;omega
  refine rF ?_
  refine cI (λ h=>?_) λ h=>?_
  ·have hik:i<k.length:=by have:=of_decide_eq_true h;omega
   clear h
   have hla:=lex_at hi hik
   refine WP.seq (WP.block ?_)
   refine WP.seq ?_
   refine WP.seq ?_
   refine WP.drawsQ (by kernel_rfl) (by kernel_rfl) ?_
   refine WQ.fin T false tok (by rfl) (by rfl) (by exact byObl) ?_
   refine cQ (λ h=>?_) λ h=>?_
   ·have h:l.getD i 0<k.getD i 0:=by have:=of_decide_eq_true h;simp only[addrAt0,Int.toNat_natCast] at this;omega
    refine rS ?_
    exact WP.ret (Ends.val (by rfl) (by exact byObl) (by show Dat.i .i64 (-1)=_;rw[<-hi3,hla,cmpI_nat.1 h];rfl) (by trivial))
   have h:¬l.getD i 0<k.getD i 0:=by have:=of_decide_eq_false h;simp only[addrAt0,Int.toNat_natCast] at this;omega
   refine WP.skip ?_
   refine WP.seq ?_
   refine WP.drawsQ (by kernel_rfl) (by kernel_rfl) ?_
   refine WQ.fin T false tok (by rfl) (by rfl) (by exact byObl) ?_
   refine cQ (λ h2=>?_) λ h2=>?_
   ·have h2:k.getD i 0<l.getD i 0:=by have:=of_decide_eq_true h2;simp only[addrAt0,Int.toNat_natCast] at this;omega
    refine rS ?_
    exact WP.ret (Ends.val (by rfl) (by exact byObl) (by show Dat.i .i64 1=_;rw[<-hi3,hla,cmpI_nat.2.1 h2];rfl) (by trivial))
   have h2:¬k.getD i 0<l.getD i 0:=by have:=of_decide_eq_false h2;simp only[addrAt0,Int.toNat_natCast] at this;omega
   refine WP.skip ?_
   refine rE ?_
   refine Again.next (i+1) (gC [0,1] (leC (leC leZ))) (⟨hi,hik,by rw[<-hi3,hla,if_pos (cmpI_nat.2.2 (by omega))]⟩) (by dsimp only;omega)
  ·have hik:¬i<k.length:=by have:=of_decide_eq_false h;omega
   clear h
   refine WP.seq (WP.block ?_)
   refine rS ?_
   refine cQ (λ h=>?_) λ h=>?_
   ·have h:=of_decide_eq_true h
    omega
   refine rS ?_
   refine cQ (λ h2=>?_) λ h2=>?_
   ·refine rS ?_
    exact WP.ret (Ends.val (by rfl) (by exact byObl) (by show Dat.i .i64 1=_;rw[<-hi3,lex_end hi hik]) (by trivial))
   have h2:=of_decide_eq_false h2
   omega
theorem l03Before_fn(l k:List Nat)(hl:l.length<=65536)(hk:k.length<=65536):FnR Tryz.prog 82 [.sl 0 0 l.length 1,.sl 1 0 k.length 1] [.ro l.length 1 (numsF l),.ro k.length 1 (numsF k)] (.i .i64 (befL l k)):=by
 refine FnS.into T tok Tryz.func82 (by rfl) rfl rfl rfl (by simp) ?_
 refine rS ?_
 refine WP.seq ?_
 refine rS ?_
 refine cS (λ h=>?_) λ h=>?_
 ·have h:l.length≠k.length:=by simp at h;omega
  refine WP.seq ?_
  refine rS ?_
  refine cS (λ h2=>?_) λ h2=>?_
  ·have h2:=of_decide_eq_true h2
   refine rS ?_
   exact WP.ret (Ends.val (by rfl) (by exact byObl) (by show Dat.i .i64 (-1)=_;unfold befL;rw[if_pos (by omega)]) (by trivial))
  have h2:=of_decide_eq_false h2
  refine rS ?_
  exact WP.ret (Ends.val (by rfl) (by exact byObl) (by show Dat.i .i64 1=_;unfold befL;rw[if_neg (by omega),if_pos (by omega)]) (by trivial))
 have h:l.length=k.length:=by simp at h;omega
 refine WP.rw ?_
 refine rU 2 ?_
 refine cR [0,1] (l03Less_fn l k hl hk) (leC (leC leZ)) ?_
 refine rF ?_
 exact WP.ret (Ends.val (by rfl) (by exact byObl) (by show Dat.i .i64 (lexL l k)=_;unfold befL;rw[if_neg (by omega),if_neg (by omega)]) (by trivial))
def owR(l:List Nat):Dat:=.ow 0 l.length 1 (numsF l)
def rowsR(L:List (List Nat))(i:Nat):Dat:=owR (L.getD i [])
theorem noOwn_R(l:List Nat):NoOwn (owR l):=⟨rfl,λ _ _=>trivial⟩
theorem rowsR_ins(L:List (List Nat))(own:List Nat){a j:Nat}(ha:a<=L.length)(hj:j<L.length+1):rowsR (L.take a++own::L.drop a) j=if j<a then rowsR L j else if j=a then owR own else rowsR L (j-1):=by
 have hl:(L.take a).length=a:=by rw[List.length_take];omega
 unfold rowsR
 simp only[List.getD_eq_getElem?_getD]
 split
 ·rename_i h
  rw[List.getElem?_append_left (by omega),List.getElem?_take_of_lt h]
 ·rename_i h
  rw[List.getElem?_append_right (by omega),hl]
  split
  ·rename_i h2;subst h2;rw[Nat.sub_self];rfl
  ·rename_i h2
   obtain⟨d,rfl⟩:∃d,j=a+d+1:=⟨j-a-1,by omega⟩
   rw[show a+d+1-a=d+1 by omega,List.getElem?_cons_succ,List.getElem?_drop]
   rfl
theorem ap_lt{n:Nat}{f:Nat->Dat}{off:Nat}{g:Nat->Dat}{i:Nat}(h:i<n):apF n f off g i=f i:=by unfold apF;rw[blt_true h];rfl
theorem ap_ge{n:Nat}{f:Nat->Dat}{off:Nat}{g:Nat->Dat}{i:Nat}(h:¬i<n):apF n f off g i=g (off+(i-n)):=by unfold apF;rw[blt_false h];rfl
theorem ins_fun(B:List (List Nat))(own:List Nat){a:Nat}(ha:a<=B.length)(z X h:Nat->Dat)(o:Nat)(hX:X 0=owR own)(hh:∀i,i<B.length-a->h (o+i)=rowsR B (a+i)){j:Nat}(hj:j<B.length+1):
  rowsR (B.take a++own::B.drop a) j=apF (0+a) (apF 0 z 0 (rowsR B)) 0 (apF 1 X o h) j:=by
 rw[rowsR_ins B own ha hj,Nat.zero_add]
 by_cases h1:j<a
 ·rw[if_pos h1,ap_lt h1,ap_ge (Nat.not_lt_zero _)];simp
 ·rw[if_neg h1,ap_ge h1,Nat.zero_add]
  by_cases h2:j=a
  ·rw[if_pos h2,ap_lt (by omega),show j-a=0 by omega,hX]
  ·rw[if_neg h2,ap_ge (by omega),hh _ (by omega)]
   congr 1;omega
theorem l03Blocks_fn(N:Nat)(b w:Nat->Nat)(hN:N<=16)(hN1:1<=N)(hb:∀i,i<N->b i<N)(hw:∀i,i<N->w i<N):FnS Tryz.prog 49 [ds_ N b w] []
  (λ r m'=>r=.sl 0 0 (blsL N b w (N-1)).length 1/\m'=[.row 30 (blsL N b w (N-1)).length 1 (rowsR (blsL N b w (N-1)))]):=by
 refine FnS.intoN T tok Tryz.func49 (by rfl) rfl rfl rfl (by simp) ?_
 refine rS ?_
 refine rS ?_
 refine WP.seq ?_
 refine rS ?_
 refine WP.block ?_
 refine WP.loopH (⟨λ k:Nat=>k+1<=N,λ k=>[(1,.p 0 [] 0),(2,.ns),(3,.sl 1 0 (blsL N b w k).length 1),(4,.i .i64 ((k+1:Nat):Int))],λ k=>[.var (ds_ N b w),.row 30 (blsL N b w k).length 1 (rowsR (blsL N b w k))],λ k=>N-k⟩) (0) (by omega) (gC [0,1] (by repeat (first|exact trivial|(refine lC ?_ ?_;first|exact byLz|(exact le_row (Nat.le_refl _) (λ j hj=>absurd hj (Nat.not_lt_zero _)))|exact byLeq)))) ?_
 intro k hk
 dsimp only at hk
 dsimp only[Hd.at]
 have hBl:=bls_len N b w k
 have hBs:∀j,((blsL N b w k).getD j []).length<=65536:=λ j=>by have:=bls_small N b w k j;omega
 refine WP.seq ?_
 refine rS ?_
 refine cI (λ hc=>?_) λ hc=>?_
 ·have hk:k+1<N:=by have:=of_decide_eq_true hc;omega
  clear hc
  have hown:=l03Block_fn N b w 0 (k+1) (by omega) hk hN hb hw
  have hol:(blkL N b w 0 (k+1)).length<=65536:=by have:=blkL_len N b w 0 (k+1);omega
  have hbls:blsL N b w (k+1)=insL (blkL N b w 0 (k+1)) (blsL N b w k):=rfl
  generalize blkL N b w 0 (k+1)=own at*
  generalize blsL N b w k=B at*
  refine WP.seq (WP.block ?_)
  refine WP.rw ?_
  refine rU 2 ?_
  refine cN [] (.sl 2 0 own.length 1) (hown) leZ (rfl) ?_
  refine rF ?_
  refine WP.seqG ⟨lst [(1,.p 0 [] 0),(2,.ns),(3,.sl 1 0 B.length 1),(4,.i .i64 ((k+1:Nat):Int)),(5,.sl 2 0 own.length 1),(6,.i .i64 ((atB own B:Nat):Int))],[.var (ds_ N b w),.row 30 B.length 1 (rowsR B),.ro own.length 1 (numsF own)]⟩ ?_ ?_
  ·refine WP.block ?_
   refine WP.loopH (⟨λ a:Nat=>a<=B.length/\∀j,j<a->befL (B.getD j []) own<0,λ a=>[(1,.p 0 [] 0),(2,.ns),(3,.sl 1 0 B.length 1),(4,.i .i64 ((k+1:Nat):Int)),(5,.sl 2 0 own.length 1),(6,.i .i64 (a:Int))],λ a=>[.var (ds_ N b w),.row 30 B.length 1 (rowsR B),.ro own.length 1 (numsF own)],λ a=>B.length-a⟩) (0) (⟨Nat.zero_le _,λ j hj=>absurd hj (Nat.not_lt_zero _)⟩) (gC [0,1,2] (leC (leC (leC leZ)))) ?_
   intro a ha
   dsimp only at ha
   dsimp only[Hd.at]
   obtain⟨ha1,ha2⟩:=ha
   refine WP.seq ?_
   refine WP.rw ?_
   refine rU 4 ?_
   cases hc:decide ((a:Int)<B.length)
   ·have ha:¬a<B.length:=by have:=of_decide_eq_false hc;omega
    refine rF ?_
    refine cI (λ h=>?_) λ h=>?_
    ·cases h
    have e:=atB_eq ha1 ha2 (λ h=>absurd h ha)
    rw[<-e]
    exact Ghost.cut (Nat.le_refl _) (tauOf [0,1,2]) [(1,.p 0 [] 0),(2,.ns),(3,.sl 1 0 B.length 1),(4,.i .i64 ((k+1:Nat):Int)),(5,.sl 2 0 own.length 1),(6,.i .i64 ((a:Nat):Int))] [.var (ds_ N b w),.row 30 B.length 1 (rowsR B),.ro own.length 1 (numsF own)] (Taken.of [0,1,2] (leC (leC (leC leZ))) rfl rfl) (by exact bySlots)
   ·have ha:a<B.length:=by have:=of_decide_eq_true hc;omega
    refine rU 6 ?_
    refine cR [3,2] (l03Before_fn (B.getD a []) own (hBs a) hol) (leC (leC leZ)) ?_
    refine rF ?_
    refine cI (λ h=>?_) λ h=>?_
    ·have h:=of_decide_eq_true h
     refine WP.block ?_
     refine rE ?_
     refine Again.next (a+1) (gC [0,1,2] (leC (leC (leC leZ)))) (⟨ha,λ j hj=>by
      by_cases e:j=a
      ·subst e;exact h
      ·exact ha2 j (by omega)⟩) (by dsimp only;omega)
    ·have h:=of_decide_eq_false h
     have e:=atB_eq ha1 ha2 (λ _=>h)
     rw[<-e]
     exact Ghost.cut (Nat.le_refl _) (tauOf [0,1,2]) [(1,.p 0 [] 0),(2,.ns),(3,.sl 1 0 B.length 1),(4,.i .i64 ((k+1:Nat):Int)),(5,.sl 2 0 own.length 1),(6,.i .i64 ((a:Nat):Int))] [.var (ds_ N b w),.row 30 B.length 1 (rowsR B),.ro own.length 1 (numsF own)] (Taken.of [0,1,2] (leC (leC (leC leZ))) rfl rfl) (by exact bySlots)
  ·have ha1:=atB_le own B
   have ha2:=@atB_at own B
   unfold insL at hbls
   generalize atB own B=a at*
   refine WP.seq ?_
   refine WP.rw ?_
   refine rU 4 ?_
   cases hc:decide ((a:Int)<B.length)
   ·have ha:a=B.length:=by have:=of_decide_eq_false hc;omega
    refine rF ?_
    refine cQ (λ h=>?_) λ h=>?_
    ·cases h
    rw[if_neg (by omega)] at hbls
    refine WP.skip ?_
    refine WP.rw ?_
    refine rU 2 ?_
    refine WPL.fold 3 [0] 2 0 (by rfl) rfl (by simp) (by rfl) ⟨Nat.le_refl _,.inl ⟨rfl,rfl,λ _ _=>trivial⟩⟩ (by rfl) ?_
    refine rU 2 ?_
    subst ha
    refine WPL.op (by rfl) (by rfl) (QOK.op (sle_ok tok (rowsR B) rfl rfl rfl rfl rfl rfl rfl (by omega))) ?_
    refine WPL.fin T false tok (by rfl) (by exact⟨Nat.le_refl _,Nat.le_refl _,by decide,λ j hj=>absurd hj (Nat.not_lt_zero _)⟩) ?_
    refine WP.region ?_
    refine rU 3 ?_
    refine WPL.op (by rfl) (by rfl) (QOK.op (slh_ok (h:=B.length) tok rfl rfl rfl rfl rfl rfl rfl (by omega))) ?_
    refine WPL.fin T false tok (by rfl) (by exact⟨by omega,by omega,by omega,by omega,by omega,by show _<=4294967296;omega⟩) ?_
    have hLen:(blsL N b w (k+1)).length=0+B.length+(1+0):=by rw[hbls];simp
    refine rE ?_
    refine Again.next (k+1) (gC [0,8] (by repeat (first|exact trivial|(refine lC ?_ ?_;first|exact byLz|(exact le_row (Nat.le_of_eq hLen) (λ j hj=>by rw[hbls];exact ins_fun B own (Nat.le_refl _) _ _ _ _ rfl (λ i hi=>by omega) (by have h9:=Nat.lt_of_lt_of_le hj (Nat.le_of_eq hLen);omega)))|exact byLeq)))) (hk) (by dsimp only;omega)
   ·have ha:a<B.length:=by have:=of_decide_eq_true hc;omega
    refine rU 6 ?_
    refine cR [3,2] (l03Before_fn (B.getD a []) own (hBs a) hol) (leC (leC leZ)) ?_
    refine rF ?_
    refine cQ (λ h=>?_) λ h=>?_
    ·have h:befL (B.getD a []) own=0:=by simpa using h
     rw[if_pos ⟨ha,h⟩] at hbls
     refine WP.exit ?_
     have hLen:=congrArg List.length hbls
     refine rE ?_
     refine Again.next (k+1) (gC [0,1] (by repeat (first|exact trivial|(refine lC ?_ ?_;first|exact byLz|(exact le_row (Nat.le_of_eq hLen) (λ j _=>by rw[hbls]))|exact byLeq)))) (hk) (by dsimp only;omega)
    ·have h:befL (B.getD a []) own≠0:=by simpa using h
     rw[if_neg (λ h2=>h h2.2)] at hbls
     refine WP.skip ?_
     refine WP.rw ?_
     refine rU 2 ?_
     refine WPL.fold 4 [0] 2 0 (by rfl) rfl (by simp) (by rfl) ⟨Nat.le_refl _,.inl ⟨rfl,rfl,λ _ _=>trivial⟩⟩ (by rfl) ?_
     refine rU 2 ?_
     refine WPL.op (by rfl) (by rfl) (QOK.op (sll_ok (l:=a) tok rfl rfl rfl rfl rfl rfl rfl (by omega) (by omega))) ?_
     refine WPL.op (by rfl) (by rfl) (ok_app_keepN tok rfl rfl rfl rfl rfl rfl (by decide) rfl rfl rfl (by decide) (λ j _=>noOwn_R _) (Nat.le_refl _) (by omega) (by omega) rfl rfl) ?_
     refine rF ?_
     refine WP.region ?_
     refine rU 3 ?_
     refine WPL.op (by rfl) (by rfl) (QOK.op (slh_ok (h:=a) tok rfl rfl rfl rfl rfl rfl rfl (by omega))) ?_
     refine WPL.fin T false tok (by rfl) (by exact⟨by omega,by omega,by omega,by omega,by omega,by show _<=4294967296;omega⟩) ?_
     have hLen:(blsL N b w (k+1)).length=0+a+(1+(B.length-a)):=by rw[hbls];simp;omega
     refine rE ?_
     refine Again.next (k+1) (gC [0,8] (by repeat (first|exact trivial|(refine lC ?_ ?_;first|exact byLz|(exact le_row (Nat.le_of_eq hLen) (λ j hj=>by rw[hbls];exact ins_fun B own (Nat.le_of_lt ha) _ _ _ _ rfl (λ i hi=>by rw[Nat.zero_add];rfl) (by have h9:=Nat.lt_of_lt_of_le hj (Nat.le_of_eq hLen);omega)))|exact byLeq)))) (hk) (by dsimp only;omega)
 ·have hk:k=N-1:=by have:=of_decide_eq_false hc;omega
  clear hc
  subst hk
  refine rS ?_
  exact WP.ret (Ends.new [1] (by rfl) (by exact byObl) (leC leZ) rfl rfl (rfl) (sc_sl rfl))
end Go.Proofs.YthjnmlpibafbnaaGreat
