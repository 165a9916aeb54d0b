import Derived.Test.YthjnmlpibafbnaaGreatShelf
import Derived.Test.YthjnmlpibafbnaaGreatX100
import Derived.Test.YthjnmlpibafbnaaGreatD34
import Derived.Test.YthjnmlpibafbnaaGreatD31
import Derived.Shelf.SlSortCmp.NoneTotal
namespace Go.Proofs.YthjnmlpibafbnaaGreat
open Go.RowKit DM
open Go.Sort (SWO PermIn SortedIn putRow putCells mapBlock onCells grow heap_grow_old)
set_option linter.unusedSimpArgs false
set_option linter.unusedVariables false
set_option maxRecDepth 100000
set_option maxHeartbeats 1000000
theorem owN_int(l:List Nat):numsF l=intD λ j=>((l.getD j 0:Nat):Int):=rfl
theorem rowsF_inn(L:List (List Nat)):Inn 2 (rowsF L) L.length:=λ j _=>⟨_,_,rfl⟩
theorem rep_ros{ρ:Rho}{w:World}{l k:List Nat}{A B:List Nat->RV}(h0:RoOK ρ w (ρ 0 []) A l.length 1 (numsF l))(h1:RoOK ρ w (ρ 1 []) B k.length 1 (numsF k)):Rep ρ [.ro l.length 1 (numsF l),.ro k.length 1 (numsF k)] w:=by
 have two:∀{r:Nat}{R:Root},[Root.ro l.length 1 (numsF l),.ro k.length 1 (numsF k)][r]? =some R->(r=0/\R=.ro l.length 1 (numsF l))\/(r=1/\R=.ro k.length 1 (numsF k)):=λ{r R} h=>by
  rcases r with _|_|r
  ·simp at h;exact .inl ⟨rfl,h.symm⟩
  ·simp at h;exact .inr ⟨rfl,h.symm⟩
  ·simp at h
 have nv:∀{l:List Nat}{q:List Nat}{e n s:Nat}{f:Nat->Dat},nav (.ow 0 l.length 1 (numsF l)) q=some (.ow e n s f)->q=[]/\n=l.length/\s=1/\f=numsF l:=λ{l q e n s f} h=>by
  cases q with
  |nil=>simp only[nav,Option.some.injEq,Dat.ow.injEq] at h;exact⟨rfl,h.2.1.symm,h.2.2.1.symm,h.2.2.2.symm⟩
  |cons i q=>
   simp only[nav] at h
   split at h
   ·exact absurd h (Pl_nav (d:=numsF l i) trivial)
   ·cases h
 have ch:∀{v:RV}{A B:List Nat->RV}{l:List Nat},RoOK ρ w v A l.length 1 (numsF l)->RoOK ρ w v B l.length 1 (numsF l):=λ{v A B l} h=>by
  rcases h with h|⟨g1,g2,g3,g4,g5⟩
  ·exact .inl h
  ·refine .inr ⟨g1,g2,g3,g4,λ j u hu=>g5 j u ?_⟩
   rw[owN_int,cells_ints] at hu ⊢;exact hu
 refine⟨λ r d hr=>?_,λ r R d q e n s f hR hm=>?_,λ r R d q e n s f hR _ hc hn=>?_,λ r R q r' R' q' hR _ hm=>?_,λ r R d hR hc=>?_,λ r b l hr=>?_⟩
 ·rcases two hr with⟨_,h⟩|⟨_,h⟩<;>cases h
 ·rcases two hR with⟨_,rfl⟩|⟨_,rfl⟩<;>cases hm
 ·rcases two hR with⟨rfl,rfl⟩|⟨rfl,rfl⟩
  ·cases hc;obtain⟨rfl,rfl,rfl,rfl⟩:=nv hn;exact ch h0
  ·cases hc;obtain⟨rfl,rfl,rfl,rfl⟩:=nv hn;exact ch h1
 ·rcases two hR with⟨_,rfl⟩|⟨_,rfl⟩<;>cases hm
 ·rcases two hR with⟨rfl,rfl⟩|⟨rfl,rfl⟩<;>(cases hc;exact⟨λ _ _=>⟨rfl,trivial⟩,λ _ _=>trivial⟩)
 ·rcases two hr with⟨_,h⟩|⟨_,h⟩<;>cases h
theorem grow_of{w w':World}(h:BelowD w.heap.size w w'):∃q os,w'=grow (w.drewN q) os:=by
 refine⟨w'.drawn-w.drawn,w'.heap.extract w.heap.size w'.heap.size,?_⟩
 have hh:w'.heap=w.heap++w'.heap.extract w.heap.size w'.heap.size:=by
  apply Array.ext_getElem?
  intro i
  rw[Array.getElem?_append]
  split
  ·rename_i hi;exact h.block i hi
  ·rename_i hi
   rw[Array.getElem?_extract]
   have h2:=h.size
   split
   ·congr 1;omega
   ·rw[Array.getElem?_eq_none];omega
 obtain⟨hp,tp,dr,os,out⟩:=w'
 have h1:=h.os;have h2:=h.tape;have h3:=h.output;have h4:=h.drawn
 simp only at h1 h2 h3 h4 hh ⊢
 unfold grow World.drewN
 subst h1 h2 h3
 simp only[World.mk.injEq,and_true,true_and]
 exact⟨hh,by omega⟩
section
variable {α:Type}[Inhabited α] (enc:α->Value) (w:World) (b m:Nat) (d:Array α) (os:Array Obj)
theorem sortW_grownBy:w.grownBy (sortWorld enc w b 0 m d os) (some b):=by
 refine⟨rfl,rfl,rfl,by simp[sortWorld,grow,putRow,mapBlock,Sort.ahead],λ k hk hne=>?_⟩
 unfold sortWorld
 rw[heap_grow_old _ _ (by simpa[putRow,mapBlock,Sort.ahead] using hk)]
 have:b≠k:=λ e=>hne (by rw[e])
 simp[putRow,mapBlock,Sort.ahead,Array.getElem?_modify,this]
theorem sortW_heap{cur:Array Value}{e:TypeId}{fr:Nat×Nat}(hb:w.heap[b]? =some (.cells cur e fr)):(sortWorld enc w b 0 m d os).heap[b]? =some (.cells (putCells enc 0 d cur) e fr):=by
 have hg:b<w.heap.size:=(Array.getElem?_eq_some_iff.1 hb).1
 unfold sortWorld
 rw[heap_grow_old _ _ (by simpa[putRow,mapBlock,Sort.ahead] using hg)]
 simp[putRow,mapBlock,Sort.ahead,Array.getElem?_modify,hb,onCells]
end
theorem slice_one(v:RV)(a b c:Nat):(v.slice a b c).oneCell'=true:=by
 unfold RV.slice
 split
 ·split<;>rfl
 ·rfl
def atP(L:List (List Nat))(j:Nat):List Nat:=L.getD (if j<L.length then j else 0) []
theorem sortFunc_fn{c:FuncId}{cf:List Nat->List Nat->Int}(hce:∀args w,(callFunc c args).run Tryz.prog w=.ok (.enter c args) w)(hO:SWO λ l k:List Nat=>decide (cf l k<0))
  (hcf:∀l k:List Nat,l.length<=65536->k.length<=65536->FnR Tryz.prog c [.sl 0 0 l.length 1,.sl 1 0 k.length 1] [.ro l.length 1 (numsF l),.ro k.length 1 (numsF k)] (.i .i64 (cf l k)))
  (L:List (List Nat)) (hL:∀l∈L,l.length<=65536) (hn:L.length<=65536):
  FnS Tryz.prog 44 [.sl 0 0 L.length 1,.fn c 0 (λ _=>.un)] [.row 30 L.length 1 (rowsF L)] λ r m'=>∃L',L'.Perm L/\(L'.Pairwise λ l k=>¬cf k l<0)/\r=.tup 0 (λ _=>.un)/\m'=[.row 30 L.length 1 (rowsF L')]:=by
 refine FnS.normE ⟨callFunc_run Tryz.func44 rfl rfl,λ ρ w hr hx=>?_⟩
 obtain⟨cur,hb,ho,hnil,hcap,hmax,hsz,htk⟩:=hr.row 0 _ _ [] 30 L.length 1 (rowsF L) rfl rfl rfl rfl (.inl rfl)
 have henc:([Dat.sl 0 0 L.length 1,Dat.fn c 0 (λ _=>.un)].map (DM.enc ρ)).toArray=#[.slice (some ⟨(ρ 0 []).b,0,none⟩) L.length (ρ 0 []).cap,.func (.func c) #[] #[]]:=by
  simp[DM.enc,leaf,RV.slice,hnil,ho]
 rw[henc]
 by_cases h0:L.length=0
 ·have e0:L=[]:=List.eq_nil_of_length_eq_zero h0
  subst e0
  have hcall:=AnyF.slices_SortFunc_none { Tryz.laysF6 with } (some ⟨(ρ 0 []).b,0,none⟩) (ρ 0 []).cap (.func (.func c) #[] #[]) w
  change Calls Tryz.prog 44 _ _ _ at hcall
  refine hcall.mono ?_
  rintro e w' ⟨rfl,rfl⟩
  exact⟨.tup 0 (λ _=>.un),ρ,_,by simp[DM.enc],λ i hi=>absurd hi (Nat.not_lt_zero _),λ i hi=>absurd hi (Nat.not_lt_zero _),hr,Tr.refl _ _ _,.tup 0 (λ _=>.un),_,⟨[],.refl _,.nil,rfl,rfl⟩,_,Taken.of [0] (LeAll.cons rfl (Root.Le.refl _) (λ d hd=>by cases hd;exact λ _ _ _ _=>trivial) trivial) rfl rfl,⟨_,rfl,λ i hi=>absurd hi (Nat.not_lt_zero _)⟩,λ i hi=>absurd hi (Nat.not_lt_zero _)⟩
 have hpos:0<L.length:=by omega
 have hidx:∀j,(if j<L.length then j else 0)<L.length:=λ j=>by split<;>omega
 have hlen:∀j,(atP L j).length<=65536:=λ j=>by
  unfold atP
  rw[List.getD_eq_getElem?_getD,List.getElem?_eq_getElem (hidx j)]
  exact hL _ (List.getElem_mem _)
 --the elements:places
 let enc:Nat->Value:=λ j=>(ρ 0 [if j<L.length then j else 0]).slice 0 (atP L j).length 1
 let cf':Nat->Nat->Int:=λ x y=>cf (atP L x) (atP L y)
 have hO':SWO (ltOf cf'):=⟨λ x=>hO.irrefl _,λ x y z=>hO.trans _ _ _,λ x y z=>hO.ntrans _ _ _⟩
 have hone:OneCell enc:=λ x=>slice_one _ _ _ _
 have hcell:∀j,j<L.length->cur[j]? =some (enc j):=λ j hj=>by
  have h2:cells ρ (λ z=>ρ 0 ([]++z)) (.ar L.length 1 (rowsF L))=(List.range L.length).map enc:=cells_inn ρ _ L.length (rowsF_inn L) _ λ j hj k g e1=>by
   simp only[rowsF,owN,Dat.ow.injEq,true_and] at e1
   simp only[enc,atP,if_pos hj,e1.1]
   rfl
  rw[Nat.mul_one,h2] at htk
  have h3:=congrArg (λ l=>l[j]?) htk
  simp only[List.getElem?_take,if_pos hj,List.getElem?_map,List.getElem?_range hj,Option.map_some,Array.getElem?_toList] at h3
  exact h3
 let d:Array Nat:=Array.range L.length
 have hds:d.size=L.length:=by simp[d]
 have hH:Sort.Holds enc w (ρ 0 []).b 0 d:=λ j hj=>by
  have hj:j<L.length:=by simpa[d] using hj
  have e1:d[j]! =j:=by simp[d,getElem!_pos,hj]
  refine⟨?_,by simp[World.frozen?,hb]⟩
  rw[e1]
  simp only[World.cell?,hb,Nat.zero_add,Option.isSome_none,Bool.false_eq_true,if_false]
  exact hcell j hj
 have hblk:(ρ 0 []).b<w.heap.size:=(Array.getElem?_eq_some_iff.1 hb).1
 have hcmp:CmpLays1 Tryz.prog c #[] enc cf' (ρ 0 []).b 0 d.size w:=by
  intro m os dk hdk x y
  have hro:∀j,RoOK (λ r _=>ρ 0 [if(if r=0 then x else y)<L.length then(if r=0 then x else y) else 0]) (sortWorld enc w (ρ 0 []).b 0 m dk os) (ρ 0 [if j<L.length then j else 0]) noA (atP L j).length 1 (numsF (atP L j)):=λ j=>by
   have h1:=hr.row 0 _ _ [if j<L.length then j else 0] 2 (atP L j).length 1 (numsF (atP L j)) rfl rfl rfl (by simp only[nav,if_pos (hidx j)];rfl) (.inr (by decide))
   have hne:(ρ 0 []).b≠(ρ 0 [if j<L.length then j else 0]).b:=hr.sep 0 _ [] 0 _ [if j<L.length then j else 0] rfl rfl rfl (.inl ⟨rfl,rfl⟩) (.inr ⟨_,_,_,_,_,rfl,by simp only[nav,if_pos (hidx j)];rfl⟩) (by obtain⟨_,_,_,hn,_⟩:=h1;exact hn) (λ _=>by simp)
   have hg:=sortW_grownBy enc w (ρ 0 []).b m dk os
   have h2:=(h1.keep (w':=sortWorld enc w (ρ 0 []).b 0 m dk os) (hg.block _ h1.lt (λ e=>hne (Option.some.inj e).symm))).ro
   rcases h2 with h2|⟨g1,g2,g3,g4,g5⟩
   ·exact .inl h2
   ·refine .inr ⟨g1,g2,g3,g4,λ j u hu=>g5 j u ?_⟩
    rw[owN_int,cells_ints] at hu ⊢;exact hu
  have hrep:=rep_ros (hro x) (hro y)
  have hc:=(hcf (atP L x) (atP L y) (hlen x) (hlen y)).calls rfl hrep (λ z hz=>by
   simp only[List.mem_cons,List.not_mem_nil,or_false] at hz
   rcases hz with rfl|rfl
   ·exact⟨(by decide:0<2),trivial,trivial⟩
   ·exact⟨(by decide:1<2),trivial,trivial⟩) noR
  have e2:(#[enc x,enc y]++(#[]:Array Value))=([Dat.sl 0 0 (atP L x).length 1,Dat.sl 1 0 (atP L y).length 1].map (DM.enc λ r _=>ρ 0 [if(if r=0 then x else y)<L.length then(if r=0 then x else y) else 0])).toArray:=by
   simp[DM.enc,leaf,enc]
  rw[e2]
  refine hc.mono ?_
  rintro e w' ⟨rfl,_,_,h4⟩
  exact⟨rfl,grow_of h4⟩
 have hcall:=Any.slices_SortFunc Tryz.laysF6 enc hone cf' hO' c #[] (ρ 0 []).b 0 (ρ 0 []).cap d w hce hcmp hH hblk (by omega)
 change Calls Tryz.prog 44 _ _ _ at hcall
 rw[hds] at hcall
 refine hcall.mono ?_
 rintro e w' ⟨rfl,d',n',os,hp,hs,rfl⟩
 obtain⟨p1,_,p3⟩:=hp
 have p1:d'.size=L.length:=by rw[p1,hds]
 have ex1:∀a:Array Nat,a.size=L.length->a.extract 0 L.length=a:=λ a ha=>by rw[<-ha];simp
 rw[ex1 d' p1,ex1 d hds] at p3
 have hdl:d.toList=List.range L.length:=by simp[d]
 rw[hdl] at p3
 have hσ:∀j,j<L.length->d'[j]!<L.length:=λ j hj=>by
  have:d'[j]!∈d'.toList:=by
   rw[getElem!_pos d' j (by omega)]
   exact Array.getElem_mem_toList _
  exact List.mem_range.1 (p3.mem_iff.1 this)
 have hnd:d'.toList.Nodup:=(p3.nodup_iff).2 List.nodup_range
 have hinj:∀i j,i<L.length->j<L.length->d'[i]! =d'[j]!->i=j:=λ i j hi hj h=>by
  rw[getElem!_pos d' i (by omega),getElem!_pos d' j (by omega)] at h
  have:=(List.pairwise_iff_getElem.1 hnd)
  rcases Nat.lt_trichotomy i j with h1|h1|h1
  ·exact absurd (by rw[Array.getElem_toList,Array.getElem_toList];exact h) (this i j _ _ h1)
  ·exact h1
  ·exact absurd (by rw[Array.getElem_toList,Array.getElem_toList];exact h.symm) (this j i _ _ h1)
 have hget:∀j,j<L.length->(putCells enc 0 d' cur)[j]? =cur[d'[j]!]? :=λ j hj=>by
  rw[hcell _ (hσ j hj)]
  have:j<cur.size:=(Array.getElem?_eq_some_iff.1 (hcell j hj)).1
  simp[putCells,Array.getElem?_mapIdx,Array.getElem?_eq_getElem this,p1,hj]
 obtain⟨g1,g2⟩:=rep_pick (σ:=λ j=>d'[j]!) (n':=L.length) hr (e2:=2) (by decide) (rowsF_inn L) (Nat.le_refl _) hσ hinj (sortW_grownBy enc w (ρ 0 []).b n' d' os) (Nat.le_add_right _ _) (λ c hc'=>by
  rw[hb] at hc'
  cases hc'
  exact⟨_,sortW_heap enc w (ρ 0 []).b n' d' os hb,by simp[putCells],hget⟩)
 have hrow:∀j,j<L.length->rowsF (d'.toList.map λ j=>L.getD j []) j=rowsF L d'[j]! :=λ j hj=>by
  unfold rowsF
  rw[List.getD_eq_getElem?_getD,List.getElem?_map,Array.getElem?_toList,Array.getElem?_eq_getElem (by omega),getElem!_pos d' j (by omega)]
  rfl
 refine⟨.tup 0 (λ _=>.un),_,_,by simp[DM.enc],λ i hi=>absurd hi (Nat.not_lt_zero _),λ i hi=>absurd hi (Nat.not_lt_zero _),g1,g2,.tup 0 (λ _=>.un),_,⟨d'.toList.map λ j=>L.getD j [],?_,?_,rfl,rfl⟩,_,Taken.of [0] (LeAll.cons rfl (le_row (Nat.le_refl _) hrow) (λ d hd=>by cases hd;exact λ _ _ _ _=>trivial) trivial) rfl rfl,⟨_,rfl,λ i hi=>absurd hi (Nat.not_lt_zero _)⟩,λ i hi=>absurd hi (Nat.not_lt_zero _)⟩
 ·have h1:=p3.map λ j=>L.getD j []
  have h2:(List.range L.length).map (λ j=>L.getD j [])=L:=by
   apply List.ext_getElem (by simp)
   intro i g1 g2
   simp at g1
   simp[List.getD_eq_getElem?_getD,List.getElem?_eq_getElem g1]
  rwa [h2] at h1
 ·rw[List.pairwise_map,List.pairwise_iff_getElem]
  intro i j hi hj hij
  have hi':i<L.length:=by simpa[p1] using hi
  have hj':j<L.length:=by simpa[p1] using hj
  have h3:=hs i j (Nat.zero_le _) hij hj'
  have e:∀k,(hk:k<L.length)->d'[k]! =d'[k]'(by omega):=λ k hk=>getElem!_pos d' k (by omega)
  simp only[ltOf,cf',decide_eq_false_iff_not] at h3
  unfold atP at h3
  rw[if_pos (hσ j hj'),if_pos (hσ i hi'),e i hi',e j hj'] at h3
  simpa using h3
end Go.Proofs.YthjnmlpibafbnaaGreat

namespace Go.Proofs.YthjnmlpibafbnaaGreat
open Go.RowKit DM
set_option linter.unusedSimpArgs false
set_option linter.unusedVariables false
set_option maxRecDepth 100000
set_option maxHeartbeats 1000000
def refS(L:List (List Nat))(s:Nat->Nat)(j:Nat):Dat:=.sl (s j+1) 0 (L.getD (s j) []).length 1
def roN(l:List Nat):Root:=.ro l.length 1 (numsF l)
def unM(L:List (List Nat))(n:Nat)(f:Nat->Dat):List Root:=.row 30 n 1 f::L.map roN
theorem unM_get(L:List (List Nat))(n:Nat)(f:Nat->Dat){j:Nat}(hj:j<L.length):(unM L n f)[j+1]? =some (roN (L.getD j [])):=by
 unfold unM
 rw[List.getElem?_cons_succ,List.getElem?_map,List.getElem?_eq_getElem hj]
 simp[List.getD_eq_getElem?_getD,List.getElem?_eq_getElem hj]
theorem refS_up(L:List (List Nat))(s:Nat->Nat)(i k:Nat):fup (refS L s) i (refS L (λ _=>k) i)=refS L (up s i k):=by
 funext j
 by_cases h:j=i
 ·subst h;rw[fup_same];unfold refS;rw[up_same]
 ·rw[fup_ne _ _ h];unfold refS;rw[up_ne _ _ h]
structure Picks(L:List (List Nat))(k:Nat)(I:List Nat):Prop where
 asc:I.Pairwise (·<·)
 lt:∀x∈I,x<k
 map:I.map (λ j=>L.getD j [])=cmpL (L.take k)
theorem cmp_snoc:∀(X:List (List Nat)) (a b:List Nat),cmpL (X++[a,b])=if a=b then cmpL (X++[a]) else cmpL (X++[a])++[b]
 |[],a,b=>by
  simp only[List.nil_append,cmpL]
  by_cases h:a=b
  ·rw[if_pos h,if_pos h,h]
  ·rw[if_neg h,if_neg h];rfl
 |[x],a,b=>by
  simp only[List.cons_append,List.nil_append,cmpL]
  by_cases h:a=b
  ·subst h;simp
  ·by_cases h2:x=a
   ·subst h2;simp[h]
   ·simp[h,h2]
 |x::y::X,a,b=>by
  have ih:=cmp_snoc (y::X) a b
  simp only[List.cons_append] at ih ⊢
  simp only[cmpL]
  rw[ih]
  by_cases h:a=b
  ·simp[h]
  ·by_cases h2:x=y
   ·simp[h,h2]
   ·simp[h,h2]
theorem take_two{L:List (List Nat)}{k:Nat}(hk:k+1<L.length):L.take (k+2)=L.take k++[L.getD k [],L.getD (k+1) []]/\L.take (k+1)=L.take k++[L.getD k []]:=by
 have h1:∀j,j<L.length->L.take (j+1)=L.take j++[L.getD j []]:=λ j hj=>by
  rw[List.take_add_one,List.getElem?_eq_getElem hj,List.getD_eq_getElem?_getD,List.getElem?_eq_getElem hj];rfl
 refine⟨?_,h1 k (by omega)⟩
 rw[h1 (k+1) hk,h1 k (by omega)];simp
theorem Picks.same{L:List (List Nat)}{k:Nat}{I:List Nat}(h:Picks L (k+1) I)(hk:k+1<L.length)(he:L.getD (k+1) []=L.getD k []):Picks L (k+2) I:=by
 obtain⟨e1,e2⟩:=take_two hk
 refine⟨h.asc,λ x hx=>Nat.lt_succ_of_lt (h.lt x hx),?_⟩
 rw[h.map,e1,e2,cmp_snoc,if_pos he.symm]
theorem Picks.more{L:List (List Nat)}{k:Nat}{I:List Nat}(h:Picks L (k+1) I)(hk:k+1<L.length)(he:L.getD (k+1) []≠L.getD k []):Picks L (k+2) (I++[k+1]):=by
 obtain⟨e1,e2⟩:=take_two hk
 refine⟨List.pairwise_append.2 ⟨h.asc,List.pairwise_singleton _ _,λ x hx y hy=>?_⟩,λ x hx=>?_,?_⟩
 ·rw[List.mem_singleton] at hy;subst hy;exact h.lt x hx
 ·rw[List.mem_append,List.mem_singleton] at hx
  rcases hx with hx|rfl
  ·exact Nat.lt_succ_of_lt (h.lt x hx)
  ·omega
 ·rw[List.map_append,h.map,e1,e2,cmp_snoc,if_neg (Ne.symm he)];rfl
theorem Picks.one(L:List (List Nat))(h:0<L.length):Picks L 1 [0]:=by
 refine⟨List.pairwise_singleton _ _,λ x hx=>by simp at hx;omega,?_⟩
 cases L with
 |nil=>simp at h
 |cons a L=>rfl
theorem asc_len:∀{I:List Nat}{a k:Nat},I.Pairwise (·<·)->(∀x∈I,a<=x/\x<k)->I.length<=k-a
 |[],_,_,_,_=>Nat.zero_le _
 |x::I,a,k,h,hx=>by
  obtain⟨h1,h2⟩:=List.pairwise_cons.1 h
  have h3:=hx x (.head _)
  have:=asc_len (a:=x+1) h2 λ y hy=>⟨h1 y hy,(hx y (.tail _ hy)).2⟩
  simp only[List.length_cons];omega
theorem Picks.len{L:List (List Nat)}{k:Nat}{I:List Nat}(h:Picks L k I):I.length<=k:=by
 have:=asc_len (a:=0) h.asc λ x hx=>⟨Nat.zero_le _,h.lt x hx⟩
 omega
def atI(I:List Nat)(j:Nat):Nat:=if j<I.length then I.getD j 0 else j
theorem atI_snoc(I:List Nat)(k:Nat):up (atI I) I.length k=atI (I++[k]):=by
 funext j
 unfold up atI
 rw[List.length_append,List.length_singleton]
 by_cases h:j=I.length
 ·subst h;rw[if_pos rfl,if_pos (by omega)];simp[List.getD_eq_getElem?_getD]
 ·rw[if_neg h]
  by_cases h2:j<I.length
  ·rw[if_pos h2,if_pos (by omega)];simp[List.getD_eq_getElem?_getD,List.getElem?_append_left h2]
  ·rw[if_neg h2,if_neg (by omega)]
theorem atI_range(k j:Nat):atI (List.range k) j=j:=by
 unfold atI
 split
 ·rename_i h;simp at h;simp[List.getD_eq_getElem?_getD,List.getElem?_range h]
 ·rfl
theorem addrAt_add(a z:Nat):addrAt a z=a+z:=by cases a<;>simp[addrAt]
theorem picks_small(L:List (List Nat))(h:L.length<2):Picks L L.length (List.range L.length):=by
 match L,h with
 |[],_=>exact⟨.nil,λ x hx=>by simp at hx,rfl⟩
 |[a],_=>exact Picks.one [a] (by simp)
 |_::_::_,h=>simp at h;omega
theorem picks_range{L:List (List Nat)}{k:Nat}(h:Picks L (k+1) (List.range (k+1)))(hk:k+1<L.length)(he:L.getD (k+1) []≠L.getD k []):Picks L (k+2) (List.range (k+2)):=by
 have:=h.more hk he
 rwa [<-List.range_succ] at this
theorem unM_al{L:List (List Nat)}{n:Nat}{f:Nat->Dat}{i j:Nat}(hi:i<L.length)(hj:j<L.length):LeAll 0 (unM L n f) [i+1,j+1] [.ro (L.getD i []).length 1 (numsF (L.getD i [])),.ro (L.getD j []).length 1 (numsF (L.getD j []))]:=
 LeAll.cons (unM_get L n f hi) (Root.Le.refl _) (λ d hd=>by cases hd;exact λ _ _=>trivial) (LeAll.cons (unM_get L n f hj) (Root.Le.refl _) (λ d hd=>by cases hd;exact λ _ _=>trivial) trivial)
theorem compact_un(L:List (List Nat))(hL:∀l∈L,l.length<=65536)(hn:L.length<=65536):
  FnS Tryz.prog 47 [.sl 0 0 L.length 1,.fn 48 0 (λ _=>.un)] (unM L L.length (refS L λ j=>j)) λ r m'=>∃I f',Picks L L.length I/\r=.sl 0 0 I.length 1/\m'=unM L L.length f'/\∀j,j<I.length->f' j=refS L (λ j=>I.getD j 0) j:=by
 have hlen:∀j,(L.getD j []).length<=65536:=λ j=>by
  rw[List.getD_eq_getElem?_getD]
  by_cases h:j<L.length
  ·rw[List.getElem?_eq_getElem h];exact hL _ (List.getElem_mem h)
  ·rw[List.getElem?_eq_none (by omega)];exact Nat.zero_le _
 have hall:∀j,j<(List.range L.length).length->refS L (λ j=>j) j=refS L (λ j=>(List.range L.length).getD j 0) j:=λ j hj=>by
  simp at hj
  unfold refS
  simp[List.getD_eq_getElem?_getD,List.getElem?_range hj]
 refine FnS.into T tok Tryz.func47 (by rfl) rfl rfl rfl (by simp) ?_
 unfold unM
 refine WP.rsG T false tok (by rfl) (by exact byObl) ?_
 refine WP.seq ?_
 refine WP.rsG T false tok (by rfl) (by exact byObl) ?_
 refine cS (λ h=>?_) λ h=>?_
 ·have h:L.length<2:=by have:=of_decide_eq_true h;omega
  refine WP.rsG T false tok (by rfl) (by exact byObl) ?_
  refine WP.ret ⟨.inl rfl,_,_,by rfl,by exact byObl,List.range L.length,refS L (λ j=>j),picks_small L h,?_,rfl,hall⟩
  rw[List.length_range];rfl
 have h2:2<=L.length:=by have:=of_decide_eq_false h;omega
 clear h
 refine WP.seq ?_
 refine WP.rsG T false tok (by rfl) (by exact byObl) ?_
 refine WP.block ?_
 refine WP.loopS [4,5,6,7,12,13,14,15,16,17,18,19,20,21,22,23,24,25,26,27,28,29,30,31,32,33,34,35,36,37,38,39,40,41,42,43,44,45,46,47,48,49,50,51,52,53,54,55,56,57,58,59,60,61,62,63,64] (λ k:Nat=>k+1<=L.length/\Picks L (k+1) (List.range (k+1))) (λ k=>[(5,.i .i64 ((k+1:Nat):Int))]) (λ k=>unM L L.length (refS L λ j=>j)) (λ k=>L.length-k) 0 ⟨by omega,Picks.one L (by omega)⟩ (by rfl) (by rfl) ?_
 intro k hk g
 obtain⟨hk1,hk2⟩:=hk
 unfold unM
 refine WP.seq ?_
 refine WP.rsG T false tok (by rfl) (by exact byObl) ?_
 refine cI (λ hc=>?_) λ hc=>?_
 ·have hk:k+1<L.length:=by have:=of_decide_eq_true hc;omega
  clear hc
  refine WP.seq (WP.block ?_)
  refine WP.seq ?_
  refine WP.drawsQ (by kernel_rfl) (by kernel_rfl) ?_
  refine WQ.runG T false 10 tok (by rfl) (by rfl) (by exact byObl) ?_
  refine WQ.callRF [k+2,k+1] (slicesEqual_fn (L.getD (k+1) []) (L.getD k []) (hlen _) (hlen _)) (by rfl) rfl (unM_al hk (by omega)) (ArgsR.cons ?_ rfl (ArgsR.cons ?_ rfl trivial)) (by rfl) (by rfl) (by simp[Sc]) ⟨trivial,trivial,trivial⟩ ?_
  ·rfl
  ·have e:addrAt 0 (((k+1:Nat):Int)-1).toNat=k:=by rw[addrAt0];omega
   show refS L (λ j=>j) (addrAt 0 (((k+1:Nat):Int)-1).toNat)=_
   rw[e];rfl
  refine WQ.finG T false tok (by rfl) (by rfl) (by exact byObl) ?_
  refine cQ (λ h=>?_) λ h=>?_
  ·have h:L.getD (k+1) []=L.getD k []:=of_decide_eq_true h
   refine WP.rw ?_
   refine WPL.runG T false 2 tok (by rfl) (by exact byObl) ?_
   refine WPL.op (by rfl) (by rfl) (QOK.op (sll_ok tok rfl rfl rfl rfl rfl rfl rfl (l:=k+1) (by omega) (by omega))) ?_
   refine WPL.finG T false tok (by rfl) (by exact byObl) ?_
   refine WP.seq ?_
   refine WP.rsG T false tok (by rfl) (by exact byObl) ?_
   refine WP.block ?_
   refine WP.loopS [5,7,32,33,34,35,36,37,38,39,40,41,42,43,44,45,46,47,48,49,50,51,52,53,54,55,56,57,58] (λ x:Nat×List Nat=>k+2+x.1<=L.length/\Picks L (k+2+x.1) x.2/\x.2.length<=k+1+x.1) (λ x=>[(5,.i .i64 (x.2.length:Int)),(7,.i .i64 ((x.1+1:Nat):Int))]) (λ x=>unM L L.length (refS L (atI x.2))) (λ x=>L.length-x.1) (0,List.range (k+1)) ⟨by omega,hk2.same hk h,by simp⟩ ?_ ?_ ?_
   ·exact⟨by show Dat.i .i64 ((k+1:Nat):Int)=_;rw[List.length_range],rfl⟩
   ·rw[show atI (List.range (k+1))=λ j=>j from funext (atI_range _)];rfl
   rintro⟨j,I⟩ ⟨hj1,hj2,hj3⟩ g2
   dsimp only at hj1 hj2 hj3 ⊢
   unfold unM
   refine WP.seq ?_
   refine WP.rsG T false tok (by rfl) (by exact byObl) ?_
   refine cI (λ hc=>?_) λ hc=>?_
   ·have hj:k+2+j<L.length:=by have:=of_decide_eq_true hc;omega
    clear hc
    refine WP.seq (WP.block ?_)
    refine WP.seq ?_
    refine WP.drawsQ (by kernel_rfl) (by kernel_rfl) ?_
    refine WQ.runG T false 10 tok (by rfl) (by rfl) (by simp only[addrAt_add,refS,plE,Root.holds,InR,List.nil_append,List.append_nil,List.cons_append,AllP]<;>and_intros<;>first|omega|exact rfl|trivial) ?_
    have ea:addrAt (0+(k+1)) (((j+1:Nat):Int)).toNat=k+2+j:=by rw[addrAt_add];omega
    have eb:addrAt (0+(k+1)) (((j+1:Nat):Int)-1).toNat=k+1+j:=by rw[addrAt_add];omega
    have na:∀y,I.length<=y->atI I y=y:=λ y hy=>by unfold atI;rw[if_neg (by omega)]
    refine WQ.callRF [k+2+j+1,k+1+j+1] (slicesEqual_fn (L.getD (k+2+j) []) (L.getD (k+1+j) []) (hlen _) (hlen _)) (by rfl) rfl (unM_al (by omega) (by omega)) (ArgsR.cons ?_ rfl (ArgsR.cons ?_ rfl trivial)) (by rfl) (by rfl) (by simp[Sc]) ⟨trivial,trivial,trivial⟩ ?_
    ·show refS L (atI I) (addrAt (0+(k+1)) (((j+1:Nat):Int)).toNat)=_
     rw[ea];unfold refS;rw[na _ (by omega)];rfl
    ·show refS L (atI I) (addrAt (0+(k+1)) (((j+1:Nat):Int)-1).toNat)=_
     rw[eb];unfold refS;rw[na _ (by omega)];rfl
    refine WQ.finG T false tok (by rfl) (by rfl) (by exact byObl) ?_
    have hg:L.getD (k+2+j) []=L.getD (k+1+j+1) []:=by rw[show k+2+j=k+1+j+1 by omega]
    rw[show k+2+j=k+1+j+1 by omega] at hj2 hj
    refine cQ (λ h3=>?_) λ h3=>?_
    ·have h3:L.getD (k+1+j+1) []≠L.getD (k+1+j) []:=by
      rw[<-hg];simpa using h3
     have hm:=hj2.more hj h3
     refine WP.rsG T false tok (by rfl) (by simp only[addrAt_add,refS,plE,Root.holds,InR,List.nil_append,List.append_nil,List.cons_append,AllP]<;>and_intros<;>first|omega|exact rfl|trivial) ?_
     refine WP.runG T false tok (by rfl) (by exact byObl) ?_
     refine WP.runG T false tok (by rfl) (by exact byObl) ?_
     have e1:refS L (atI I) (addrAt (0+(k+1)) (((j+1:Nat):Int)).toNat)=refS L (λ _=>k+1+j+1) I.length:=by
      rw[ea];unfold refS;rw[na _ (by omega)];rw[show k+2+j=k+1+j+1 by omega]
     have e2:addrAt 0 ((I.length:Int)).toNat=I.length:=by rw[addrAt0];omega
     have e3:fup (refS L (atI I)) (addrAt 0 ((I.length:Int)).toNat) (refS L (atI I) (addrAt (0+(k+1)) (((j+1:Nat):Int)).toNat))=refS L (atI (I++[k+1+j+1])):=by
      rw[e1,e2, <-atI_snoc]
      exact refS_up L (atI I) I.length (k+1+j+1)
     refine⟨(j+1,I++[k+1+j+1]),⟨by dsimp only;omega,by dsimp only;rw[show k+2+(j+1)=k+1+j+2 by omega];exact hm,by dsimp only;rw[List.length_append,List.length_singleton];omega⟩,by dsimp only;omega,by(dsimp only;(repeat (first|(with_reducible exact Agree.refl)|((with_reducible refine Agree.hd ?_);exact rfl)|((with_reducible refine Agree.fup ?_ ?_);exact rfl)|((with_reducible refine Agree.inner ?_ ?_ ?_);exact rfl;exact rfl)))),⟨?_,rfl⟩,?_⟩
     ·show Dat.i .i64 ((I.length:Int)+1)=_
      rw[List.length_append,List.length_singleton];rfl
     ·show(Root.row _ L.length 1 (fup (refS L (atI I)) (addrAt 0 ((I.length:Int)).toNat) (refS L (atI I) (addrAt (0+(k+1)) (((j+1:Nat):Int)).toNat)))::L.map roN)=_
      rw[e3]
    ·have h3:L.getD (k+1+j+1) []=L.getD (k+1+j) []:=by
      rw[<-hg];simpa using h3
     have hm:=hj2.same hj h3
     refine WP.skip ?_
     refine WP.runG T false tok (by rfl) (by exact byObl) ?_
     exact⟨(j+1,I),⟨by dsimp only;omega,by dsimp only;rw[show k+2+(j+1)=k+1+j+2 by omega];exact hm,by dsimp only;omega⟩,by dsimp only;omega,by(dsimp only;(repeat (first|(with_reducible exact Agree.refl)|((with_reducible refine Agree.hd ?_);exact rfl)|((with_reducible refine Agree.fup ?_ ?_);exact rfl)|((with_reducible refine Agree.inner ?_ ?_ ?_);exact rfl;exact rfl)))),⟨rfl,rfl⟩,rfl⟩
   ·have hj:k+2+j=L.length:=by have:=of_decide_eq_false hc;omega
    clear hc
    rw[hj] at hj2
    refine WP.rw ?_
    refine WPL.runG T false 2 tok (by rfl) (by exact byObl) ?_
    refine WPL.op (by rfl) (by rfl) (QOK.op (sll_ok tok rfl rfl rfl rfl rfl rfl rfl (l:=I.length) (by omega) (by omega))) ?_
    refine WPL.op (by rfl) (by rfl) (ok_clear tok rfl rfl rfl rfl rfl rfl (λ _ _=>rfl) (by omega) (by omega)) ?_
    refine WPL.nil ?_
    refine WP.rw ?_
    refine WPL.runG T false 2 tok (by rfl) (by exact byObl) ?_
    refine WPL.op (by rfl) (by rfl) (QOK.op (slh_ok (h:=I.length) tok rfl rfl rfl rfl rfl rfl rfl (by omega))) ?_
    refine WPL.finG T false tok (by rfl) (by exact byObl) ?_
    refine WP.ret ⟨.inl rfl,_,_,by rfl,by exact byObl,I,_,hj2,rfl,rfl,λ y hy=>?_⟩
    unfold clF
    rw[if_neg (by omega)]
    unfold refS atI
    rw[if_pos hy]
  ·have h:L.getD (k+1) []≠L.getD k []:=of_decide_eq_false h
   refine WP.skip ?_
   refine WP.runG T false tok (by rfl) (by exact byObl) ?_
   refine⟨k+1,by exact⟨hk,picks_range hk2 hk h⟩,by omega,by(dsimp only;(repeat (first|(with_reducible exact Agree.refl)|((with_reducible refine Agree.hd ?_);exact rfl)|((with_reducible refine Agree.fup ?_ ?_);exact rfl)|((with_reducible refine Agree.inner ?_ ?_ ?_);exact rfl;exact rfl)))),by first|rfl|simp[Slots],by first|rfl|(simp only[upd,pl,dsf,cast1,Int.toNat_natCast,fup_u8,fup_b,fup_i64,dsf_up0,dsf_up1,dsf_up2];done)|(simp only[upd,pl,dsf,cast1,Int.toNat_natCast,fup_u8,fup_b,fup_i64,dsf_up0,dsf_up1,dsf_up2];first|(rfl;done)|(rfl;rfl))⟩
 ·have hk:¬k+1<L.length:=by have:=of_decide_eq_false hc;omega
  have e:k+1=L.length:=by omega
  clear hc
  refine WP.rsG T false tok (by rfl) (by exact byObl) ?_
  refine WP.ret ⟨.inl rfl,_,_,by rfl,by exact byObl,List.range L.length,refS L (λ j=>j),by rw[<-e];exact hk2,?_,rfl,hall⟩
  rw[List.length_range];rfl
end Go.Proofs.YthjnmlpibafbnaaGreat
