import Derived.Test.YthjnmlpibafbnaaGreatL0
import Derived.Test.YthjnmlpibafbnaaGreatD18
import Derived.Laws.Slices
import Derived.Laws.AppendOwn
import Derived.Laws.CopyRow
import Derived.Laws.Cover3
namespace Go.Proofs.YthjnmlpibafbnaaGreat
open Go.RowKit DM
def sameF(n:Nat):Nat->Nat:=λ i=>if i<n then i else 0
def backTo(p:Nat->Nat):Nat->Nat->Nat
 |0=>λ _=>0
 |k+1=>up (backTo p k) (p k) k
def fillF(f:Nat->Nat)(k:Nat):Nat->Nat:=λ i=>if i<k then f i else 0
theorem fill_step(f:Nat->Nat)(k:Nat):up (fillF f k) k (f k)=fillF f (k+1):=by
 funext i;unfold up fillF
 by_cases h:i=k
 ·subst h;simp
 ·simp only[if_neg h];by_cases h2:i<k
  ·simp[h2,show i<k+1 by omega]
  ·simp[h2,show¬i<k+1 by omega]
theorem fill_zero(f:Nat->Nat):fillF f 0=λ _=>0:=by funext i;simp[fillF]
structure Perm(n:Nat)(p:Nat->Nat):Prop where
 lt:∀i,i<n->p i<n
 inj:∀i j,i<n->j<n->p i=p j->i=j
theorem perm_of_B{p:Nat->Nat}{n:Int}(h:permB p n=true):∃N:Nat,n=N/\1<=N/\N<=16/\Perm N p:=by
 have h1:=@of_decide_eq_true _ (Classical.propDecidable _) h
 refine⟨n.toNat,by omega,by omega,by omega,λ i hi=>((h1.2 i (by omega)).1 hi).1,λ i j hi hj e=>?_⟩
 rcases Nat.lt_trichotomy i j with h2|h2|h2
 ·exact absurd e (((h1.2 j (by omega)).1 hj).2 i h2)
 ·exact h2
 ·exact absurd e.symm (((h1.2 i (by omega)).1 hi).2 j h2)
theorem perm_same(n:Nat):Perm n (sameF n):=⟨λ i hi=>by simp[sameF,hi],λ i j hi hj e=>by simpa[sameF,hi,hj] using e⟩
end Go.Proofs.YthjnmlpibafbnaaGreat

namespace Go.Proofs.YthjnmlpibafbnaaGreat.DM
open Go.RowKit
set_option linter.unusedVariables false
set_option linter.unusedSimpArgs false
section
variable {P:Program}{T:TyEnv}{fr:Nat->Dat}{m:List Root}
theorem max_ok{o:Oper}{x y:Operand}{ts:Array TypeId}{k:IntKind}{a b:Int}(ho:o.op=.call { callee:=.builtin .max,args:=#[x,y],argTypes:=ts })(hx:ev fr x=.i k a)(hy:ev fr y=.i k b):QOK P o fr m (.i k (if a<b then b else a)) m:=
 .of_run λ N ρ ac w hf hr=>by
  obtain⟨h0,_⟩:=ev_eq hf (x:=x) hx (by simp)
  obtain⟨h1,_⟩:=ev_eq hf (x:=y) hy (by simp)
  refine⟨?_,trivial,trivial,trivial⟩
  simp[execOp,ho,resolve,invoke,builtin,h0,h1,enc,leaf,Builtin.max_,Builtin.max2,Result.andThen]
theorem slh_ok(hT:TOK P T){o:Oper}{t:TypeId}{x y:Operand}{e sz0 by0:Nat}{z0:Dat}{r off len s n h:Nat}{k:IntKind}{f:Nat->Dat}{e':TypeId}(ho:o.op=.slice t x none (some y) none)(ht:T t=some ⟨.slice e,sz0,by0,z0⟩)(hx:ev fr x=.sl r off len s)(hy:ev fr y=.i k (h:Int))
  {i:TI}(hi:T e=some i) (hs:i.sz=s) (hR:m[r]? =some (.row e' n s f)) (hh:off+h<=n):QOK P o fr m (.sl r off h s) m:=
 .of_run λ N ρ ac w hf hr=>by
  obtain⟨h0,hsc,_⟩:=ev_eq hf (x:=x) hx (by simp)
  obtain⟨h1,_⟩:=ev_eq hf (x:=y) hy (by simp)
  have hu:=(hT t _ ht).fits
  simp only[Ty.fits] at hu
  have hel:P.elem t=e:=by simp[Program.elem,hu]
  have hu':P.underlying t=some (.slice (P.elem t)):=by rw[hel];exact hu
  have hnil:=hr.mine_nil hR rfl (.inl ⟨rfl,rfl⟩)
  have hcap:n<=(ρ r []).cap:=by
   obtain⟨blk,hb,_,_,hc,_⟩:=hr.row r _ _ [] e' n s f hR rfl rfl rfl (.inl rfl)
   exact hc
  refine⟨?_,hsc,trivial,trivial⟩
  obtain⟨ti,z,g1,_,_,g4,_,_⟩:=info_all (hT e i hi)
  simp only[execOp,ho,Option.map_none,Option.map_some,h0,h1,enc,leaf,RV.slice,hnil]
  have h2:=run_sliceAt_slice (P:=P) w t (.slice (some ⟨(ρ r []).b,(ρ r []).o+off*s,none⟩) len ((ρ r []).cap-off)) none (some (.int k (h:Int))) none hu'
  have:=run_slice_h (P:=P) w t (some ⟨(ρ r []).b,(ρ r []).o+off*s,none⟩) len ((ρ r []).cap-off) hu' k (h:Int) (by omega) (by omega)
  simp only[Sem.run_bind,h2,this,hel,sizeOf,typeInfo,g1,Sem.run_pure,Result.andThen_ok,sliced,Int.toNat_natCast,Nat.sub_zero,Nat.zero_mul]
  simp[Addr.add,g1,Result.andThen]
end
end Go.Proofs.YthjnmlpibafbnaaGreat.DM
namespace Go.Proofs.YthjnmlpibafbnaaGreat.DM
open Go.RowKit
set_option linter.unusedVariables false
set_option linter.unusedSimpArgs false
section
variable {P:Program}
def intD(F:Nat->Int)(j:Nat):Dat:=.i .i64 (F j)
theorem cells_ints(ρ:Rho)(A:List Nat->RV)(n:Nat)(F:Nat->Int):cells ρ A (.ar n 1 (intD F))=(List.range n).map λ j=>Value.int .i64 (F j):=by
 simp only[cells,intD,leaf]
 induction List.range n with
 |nil=>rfl
 |cons a l ih=>simp[ih]
theorem turn_row{ρ:Rho}{m:List Root}{w w':World}(h:Rep ρ m w){r:Nat}{e:TypeId}{n:Nat}{F G:Nat->Int}(hr:m[r]? =some (.row e n 1 (intD F)))(hg:w.grownBy w' (some (ρ r []).b))(hdn:w.drawn<=w'.drawn)
  (hn:∀cur,w.heap[(ρ r []).b]? =some (.cells cur e (0,0))->∃cur',w'.heap[(ρ r []).b]? =some (.cells cur' e (0,0))/\cur'.size=cur.size/\cur'.toList.take n=(List.range n).map λ j=>Value.int .i64 (G j)):
  Rep ρ (m.set r (.row e n 1 (intD G))) w'/\Tr ρ m w ρ (m.set r (.row e n 1 (intD G))) w':=by
 obtain⟨cur,hb,ho,hnil,hcap,hmax,hsz,htk⟩:=h.row r _ _ [] e n 1 (intD F) hr rfl rfl rfl (.inl rfl)
 obtain⟨cur',hb',hsz',htk'⟩:=hn cur hb
 have hlt:(ρ r []).b<w.heap.size:=(Array.getElem?_eq_some_iff.1 hb).1
 have hpl:∀q e' n' s' f',q≠[]->nav (.ow e n 1 (intD G)) q≠some (.ow e' n' s' f'):=by
  intro q e' n' s' f' hq hx
  cases q with
  |nil=>exact hq rfl
  |cons i q=>
   simp only[nav] at hx
   split at hx
   ·exact Pl_nav (d:=intD G i) trivial hx
   ·cases hx
 let w1:World:={ w with heap:=w.heap.setIfInBounds (ρ r []).b (.cells cur' e (0,0)) }
 have h1:Rep ρ (m.set r (.row e n 1 (intD G))) w1:=by
  refine h.replace hr rfl rfl (by simp[w1]) (λ k hk=>by simp only[w1];rw[Array.getElem?_setIfInBounds_ne (Ne.symm hk)]) (λ d hd=>by cases hd) (λ e' n' s' f' hR=>?_) (λ d d' q e' n' s' f' _ hd' hq hx=>?_) (λ d' e' n' s' f' hR=>by cases hR) (λ d hd=>?_) (λ b l hh=>by cases hh)
  ·cases hR
   refine⟨cur',by simp only[w1];rw[Array.getElem?_setIfInBounds_self];simp[hlt],ho,hnil,hcap,hmax,by rw[hsz'];exact hsz,?_⟩
   rw[Nat.mul_one,htk',cells_ints]
  ·cases hd';exact absurd hx (hpl q e' n' s' f' hq)
  ·cases hd
   exact⟨λ _ _=>⟨rfl,trivial⟩,λ _ _=>trivial⟩
 have hb1:∀k,k<w1.heap.size->w'.heap[k]? =w1.heap[k]? :=by
  intro k hk
  have hk':k<w.heap.size:=by simpa[w1] using hk
  by_cases e1:k=(ρ r []).b
  ·subst e1
   simp only[w1];rw[Array.getElem?_setIfInBounds_self,hb'];simp[hlt]
  ·simp only[w1]
   rw[Array.getElem?_setIfInBounds_ne (Ne.symm e1)]
   exact hg.block k hk' (λ e2=>e1 (Option.some.inj e2))
 refine⟨h1.move (by simp[w1];exact hg.size) hb1,hg.os,hg.tape,hdn,hg.output,hg.size,λ _ _=>rfl,by simp,λ k hk hno=>?_,λ r' R q h2 h3 h4=>?_,λ r' R q h2 h3 h4=>?_⟩
 ·exact hg.block k hk λ e2=>hno r _ [] hr rfl (.inl ⟨rfl,rfl⟩) (by have:=Option.some.inj e2;exact this.symm)
 ·refine .inr ?_
  rcases set_get h2 with⟨rfl,rfl,_⟩|⟨hne,h5⟩
  ·have hq:q=[]:=by
    rcases h4 with h4|⟨d,e',n',s',f',h5,h6,_⟩
    ·exact h4.1
    ·cases h5
     exact Classical.byContradiction λ hq=>hpl q _ _ _ _ hq h6
   subst hq
   exact⟨_,_,[],hr,rfl,.inl ⟨rfl,rfl⟩,rfl⟩
  ·exact⟨r',R,q,h5,h3,h4,rfl⟩
 ·refine .inr ?_
  rcases set_get h2 with⟨rfl,rfl,_⟩|⟨hne,h5⟩
  ·have hq:q=[]:=by
    rcases h3 with h3|⟨d,e',n',s',f',h5,h6⟩
    ·exact h3.1
    ·cases h5
     exact Classical.byContradiction λ hq=>hpl q _ _ _ _ hq h6
   subst hq
   exact⟨_,_,[],hr,.inl ⟨rfl,rfl⟩,h4,rfl⟩
  ·exact⟨r',R,q,h5,h3,h4,rfl⟩
theorem FnS.turner{f:FuncId}{e:TypeId}{n:Nat}{F G:Nat->Int}(he:∀args w,(callFunc f args).run P w=.ok (.enter f args) w)
  (hc:∀(w:World) (b cap:Nat) (cur:Array Value),w.heap[b]? =some (.cells cur e (0,0))->n<=cap->cap<=maxLen->cur.size=cap*1->cur.toList.take n=(List.range n).map (λ j=>Value.int .i64 (F j))->
   Calls P f #[.slice (some ⟨b,0,none⟩) n cap] w λ e' w'=>e'=.returned (.tuple #[])/\w.grownBy w' (some b)/\w.drawn<=w'.drawn/\∃cur',w'.heap[b]? =some (.cells cur' e (0,0))/\cur'.size=cur.size/\cur'.toList.take n=(List.range n).map λ j=>Value.int .i64 (G j)):
  FnS P f [.sl 0 0 n 1] [.row e n 1 (intD F)] (λ r m'=>r=.tup 0 (λ _=>.un)/\m'=[.row e n 1 (intD G)]):=by
 refine⟨he,λ ρ w hr hx=>?_⟩
 obtain⟨cur,hb,ho,hnil,hcap,hmax,hsz,htk⟩:=hr.row 0 _ _ [] e n 1 (intD F) rfl rfl rfl rfl (.inl rfl)
 rw[Nat.mul_one,cells_ints] at htk
 have hcall:=hc w _ _ cur hb hcap hmax hsz htk
 have henc:([Dat.sl 0 0 n 1].map (enc ρ)).toArray=#[.slice (some ⟨(ρ 0 []).b,0,none⟩) n (ρ 0 []).cap]:=by
  simp[enc,leaf,RV.slice,hnil,ho]
 rw[henc]
 refine hcall.mono ?_
 rintro e' w' ⟨rfl,hg,hdn,cur',h1,h2,h3⟩
 obtain⟨g1,g2⟩:=turn_row (G:=G) hr (r:=0) (F:=F) rfl hg hdn (λ c hc'=>by
  rw[hb] at hc'
  cases hc'
  exact⟨cur',h1,h2,h3⟩)
 exact⟨.tup 0 (λ _=>.un),ρ,_,by simp[enc],λ i hi=>absurd hi (Nat.not_lt_zero _),λ i hi=>absurd hi (Nat.not_lt_zero _),g1,g2,rfl,rfl⟩
end
end Go.Proofs.YthjnmlpibafbnaaGreat.DM
namespace Go.Proofs.YthjnmlpibafbnaaGreat.DM
open Go.RowKit
set_option linter.unusedVariables false
set_option linter.unusedSimpArgs false
section
variable {P:Program}{T:TyEnv}{fr:Nat->Dat}{m:List Root}
theorem sll_ok(hT:TOK P T){o:Oper}{t:TypeId}{x y:Operand}{e sz0 by0:Nat}{z0:Dat}{r off len s n l:Nat}{k:IntKind}{f:Nat->Dat}{e':TypeId}(ho:o.op=.slice t x (some y) none none)(ht:T t=some ⟨.slice e,sz0,by0,z0⟩)(hx:ev fr x=.sl r off len s)(hy:ev fr y=.i k (l:Int))
  {i:TI}(hi:T e=some i) (hs:i.sz=s) (hR:m[r]? =some (.row e' n s f)) (hl:l<=len) (hh:off+l<n):QOK P o fr m (.sl r (off+l) (len-l) s) m:=
 .of_run λ N ρ ac w hf hr=>by
  obtain⟨h0,hsc,_⟩:=ev_eq hf (x:=x) hx (by simp)
  obtain⟨h1,_⟩:=ev_eq hf (x:=y) hy (by simp)
  have hu:=(hT t _ ht).fits
  simp only[Ty.fits] at hu
  have hel:P.elem t=e:=by simp[Program.elem,hu]
  have hu':P.underlying t=some (.slice (P.elem t)):=by rw[hel];exact hu
  have hnil:=hr.mine_nil hR rfl (.inl ⟨rfl,rfl⟩)
  have hcap:n<=(ρ r []).cap:=by
   obtain⟨blk,hb,_,_,hc,_⟩:=hr.row r _ _ [] e' n s f hR rfl rfl rfl (.inl rfl)
   exact hc
  refine⟨?_,hsc,trivial,trivial⟩
  obtain⟨ti,z,g1,_,_,g4,_,_⟩:=info_all (hT e i hi)
  simp only[execOp,ho,Option.map_none,Option.map_some,h0,h1,enc,leaf,RV.slice,hnil]
  have h2:=run_sliceAt_slice (P:=P) w t (.slice (some ⟨(ρ r []).b,(ρ r []).o+off*s,none⟩) len ((ρ r []).cap-off)) (some (.int k (l:Int))) none none hu'
  have:=run_slice_l (P:=P) w t (some ⟨(ρ r []).b,(ρ r []).o+off*s,none⟩) len ((ρ r []).cap-off) hu' k (l:Int) (by omega) (by omega)
  have hsz:ti.size=s:=by rw[g4,hs]
  have hc1:¬(ρ r []).cap-off=l:=by omega
  have hc2:(ρ r []).cap-off-l=(ρ r []).cap-(off+l):=by omega
  simp only[Sem.run_bind,h2,this,hel,sizeOf,typeInfo,g1,Sem.run_pure,Result.andThen_ok,sliced,Int.toNat_natCast,if_neg hc1,hc2,Option.map_some]
  have hadd:(⟨(ρ r []).b,(ρ r []).o+off*s,none⟩:Addr).add (l*s)=⟨(ρ r []).b,(ρ r []).o+(off+l)*s,none⟩:=by
   unfold Addr.add
   rw[Nat.add_mul, <-Nat.add_assoc]
   split
   ·rename_i h;rw[h];rfl
   ·rfl
  simp[g1,hsz,hadd,Result.andThen]
def cpF(F G:Nat->Int)(off off2 k:Nat)(j:Nat):Int:=if off<=j/\j<off+k then G (off2+(j-off)) else F j
theorem src_cells{ρ:Rho}{w:World}(hr:Rep ρ m w){r n:Nat}{G:Nat->Int}(hR:(∃e,m[r]? =some (.row e n 1 (intD G)))\/m[r]? =some (.ro n 1 (intD G)))(hn:0<n):(ρ r []).nil=false/\∀j,j<n->w.cell? ⟨(ρ r []).b,(ρ r []).o+j,none⟩=some (.int .i64 (G j)):=by
 rcases hR with⟨e,hR⟩|hR
 ·obtain⟨cur,hb,ho,hnil,hcap,hmax,hsz,htk⟩:=hr.row r _ _ [] e n 1 (intD G) hR rfl rfl rfl (.inl rfl)
  refine⟨hnil,λ j hj=>?_⟩
  rw[Nat.mul_one,cells_ints] at htk
  have h1:(cur.toList.take n)[j]? =some (.int .i64 (G j)):=by rw[htk];simp[hj]
  rw[List.getElem?_take_of_lt hj] at h1
  simp only[World.cell?,hb,ho,Nat.zero_add]
  simp only[Option.isSome_none,Bool.false_eq_true,if_false]
  rw[<-Array.getElem?_toList,h1]
 ·rcases hr.ro r _ _ [] 0 n 1 (intD G) hR (.inl rfl) rfl rfl with⟨_,h0⟩|⟨hnil,hcap,hmax,hb,hc⟩
  ·omega
  ·rw[cells_ints] at hc
   exact⟨hnil,λ j hj=>hc j _ (by simp[hj])⟩
theorem ok_copy(hT:TOK P T){o:Oper}{t t':TypeId}{x y:Operand}{e sz0 by0:Nat}{z0:Dat}{r off len r2 off2 len2 n n2:Nat}{F G:Nat->Int}{e':TypeId}(ho:o.op=.call { callee:=.builtin .copy,args:=#[x,y],argTypes:=#[t,t'] })(ht:T t=some ⟨.slice e,sz0,by0,z0⟩)
  (hx:ev fr x=.sl r off len 1) (hy:ev fr y=.sl r2 off2 len2 1) {i:TI}(hi:T e=some i) (hs:i.sz=1) (hR:m[r]? =some (.row e' n 1 (intD F))) (hR2:(∃e2,m[r2]? =some (.row e2 n2 1 (intD G)))\/m[r2]? =some (.ro n2 1 (intD G)))
  {k:Nat}(hk:Nat.min len2 len=k) (h1:off+k<=n) (h2:off2+k<=n2) (h0:0<n2):OpOK P o fr m (.i .i64 (k:Int)) (m.set r (.row e' n 1 (intD (cpF F G off off2 k)))):=by
 intro N ρ ac w hf hr
 obtain⟨g0,_⟩:=ev_eq hf (x:=x) hx (by simp)
 obtain⟨g1,_⟩:=ev_eq hf (x:=y) hy (by simp)
 have hu:=(hT t _ ht).fits
 simp only[Ty.fits] at hu
 obtain⟨ti,z,k1,_,_,k4,_,_⟩:=info_all (hT e i hi)
 obtain⟨cur,hb,hoo,hnil,hcap,hmax,hsz,htk⟩:=hr.row r _ _ [] e' n 1 (intD F) hR rfl rfl rfl (.inl rfl)
 obtain⟨hnil2,hcell⟩:=src_cells hr hR2 h0
 rw[Nat.mul_one] at hsz
 rw[Nat.mul_one,cells_ints] at htk
 have hlt:(ρ r []).b<w.heap.size:=(Array.getElem?_eq_some_iff.1 hb).1
 let cs:List Value:=(List.range k).map λ j=>Value.int .i64 (G (off2+j))
 have hcl:cs.length=k:=by simp[cs]
 have hcopy:=run_copy_row (P:=P) w t t' o.type e (ρ r []).b off len ((ρ r []).cap-off) ⟨(ρ r2 []).b,(ρ r2 []).o+off2,none⟩ len2 ((ρ r2 []).cap-off2) cur e' cs hu (by rw[k1];simp[k4,hs]) hb (by rw[hcl,hk]) (λ j v hj=>by
  have hj':j<k:=by have:=(List.getElem?_eq_some_iff.1 hj).1;omega
  have e1:v=.int .i64 (G (off2+j)):=by
   simp only[cs,List.getElem?_map,List.getElem?_range hj',Option.map_some,Option.some.injEq] at hj
   exact hj.symm
  have e2:(⟨(ρ r2 []).b,(ρ r2 []).o+off2,none⟩:Addr).add j=⟨(ρ r2 []).b,(ρ r2 []).o+(off2+j),none⟩:=by
   unfold Addr.add
   split
   ·rename_i h;subst h;rfl
   ·rw[<-Nat.add_assoc]
  rw[e2,e1]
  exact hcell (off2+j) (by omega)) (by rw[hcl];omega) (λ v hv=>by
  obtain⟨j,_,rfl⟩:=List.mem_map.1 hv;rfl)
 let cur':Array Value:=(cur.toList.take off++cs++cur.toList.drop (off+cs.length)).toArray
 have hnew:(w.setRow (ρ r []).b cur').heap[(ρ r []).b]? =some (.cells cur' e' (0,0)):=setRow_heap w _ cur cur' e' (0,0) hb
 have hg:w.grownBy (w.setRow (ρ r []).b cur') (some (ρ r []).b):=by
  refine⟨rfl,rfl,rfl,by simp[World.setRow],λ q hq hne=>?_⟩
  simp only[World.setRow]
  rw[Array.getElem?_modify,if_neg λ e=>hne (by rw[e])]
 have hcs:cur.size=(ρ r []).cap:=hsz
 obtain⟨r1,r2'⟩:=turn_row (G:=cpF F G off off2 k) hr hR hg (Nat.le_refl _) (λ c hc=>by
  rw[hb] at hc
  cases hc
  refine⟨cur',hnew,?_,?_⟩
  ·simp only[cur',List.size_toArray,List.length_append,List.length_take,List.length_drop,hcl,Array.length_toList];omega
  ·apply List.ext_getElem?
   intro j
   by_cases hj:j<n
   ·rw[List.getElem?_take_of_lt hj]
    simp only[cur',List.getElem?_map,List.getElem?_range hj,Option.map_some]
    have hold:cur.toList[j]? =some (.int .i64 (F j)):=by
     have:(cur.toList.take n)[j]? =some (.int .i64 (F j)):=by rw[htk];simp[hj]
     rwa [List.getElem?_take_of_lt hj] at this
    have hlo:(cur.toList.take off).length=off:=by simp;omega
    unfold cpF
    by_cases c1:j<off
    ·rw[if_neg (by omega),List.append_assoc,List.getElem?_append_left (by omega),List.getElem?_take_of_lt c1,hold]
    ·by_cases c2:j<off+k
     ·rw[if_pos ⟨by omega,c2⟩,List.getElem?_append_left (by simp[hlo,hcl];omega),List.getElem?_append_right (by omega),hlo]
      simp only[cs,List.getElem?_map,List.getElem?_range (show j-off<k by omega),Option.map_some]
     ·rw[if_neg (by omega),List.getElem?_append_right (by simp[hlo,hcl];omega),List.getElem?_drop,List.length_append,hlo,hcl,show off+k+(j-(off+k))=j by omega,hold]
   ·rw[List.getElem?_eq_none (by simp;omega),List.getElem?_eq_none (by simp;omega)])
 refine⟨ρ,w.setRow (ρ r []).b cur',_,?_,.inl ⟨_,rfl,.inr ⟨rfl,trivial,trivial,trivial⟩⟩,r1,r2'⟩
 rw[hcl] at hcopy
 simp only[enc,leaf,RV.slice,hnil,hnil2,hoo,Nat.mul_one,Nat.zero_add] at g0 g1 ⊢
 simp[execOp,ho,resolve,invoke,builtin,g0,g1,hcopy,cur',hcl,Result.andThen,goInt]
end
end Go.Proofs.YthjnmlpibafbnaaGreat.DM
namespace Go.Proofs.YthjnmlpibafbnaaGreat.DM
open Go.RowKit
set_option linter.unusedVariables false
set_option linter.unusedSimpArgs false
section
variable {P:Program}{T:TyEnv}{fr:Nat->Dat}{m:List Root}
end
end Go.Proofs.YthjnmlpibafbnaaGreat.DM

namespace Go.Proofs.YthjnmlpibafbnaaGreat
open Go.RowKit DM
set_option linter.unusedVariables false
set_option linter.unusedSimpArgs false
namespace DM
section
variable {P:Program}{N K:Nat}{Q:Exit->St->Prop}{ops:Array Oper}{n:Nat}
def unD:Dat:=.tup 0 λ _=>.un
def gdF(ops:Array Oper)(o:Oper)(fr:Nat->Dat):Bool:=
 match o.guard with
 |none=>false
 |some (j,c)=>match (ops[j]?).bind (·.dst) with
  |some t=>match fr t with
   | .b x=>x != c
   | .tup 0 _=>true
   |_=>false
  |none=>false
theorem gdF_wanted{o:Oper}{fr:Nat->Dat}{k:Nat}{ρ:Rho}{a:Act}(h:gdF ops o fr=true)(hf:Frm k ρ N fr a.tmps):Region.wanted o (yielded ops a.tmps)=false:=by
 unfold gdF at h
 unfold Region.wanted
 split at h
 ·cases h
 ·rename_i j c hg
  rw[hg]
  split at h
  ·rename_i t ht
   split at h
   ·rename_i x hx
    have key:yielded ops a.tmps j=some x:=by
     rcases hf.slot t with h1|⟨h1,_⟩
     ·rw[hx] at h1;cases h1
     ·rw[hx] at h1
      unfold yielded
      rw[ht]
      simp only[Option.bind_some]
      rw[Array.getD_eq_getD_getElem?] at h1
      cases hq:a.tmps[t]? with
      |none=>rw[hq] at h1;cases h1
      |some u=>rw[hq] at h1;simp only[Option.getD_some,enc,leaf] at h1;rw[h1]
    simp only[key]
    cases x<;>cases c<;>first|rfl|cases h
   ·rename_i f hx
    have key:yielded ops a.tmps j=none:=by
     rcases hf.slot t with h1|⟨h1,_⟩
     ·rw[hx] at h1;cases h1
     ·rw[hx] at h1
      unfold yielded
      rw[ht]
      simp only[Option.bind_some]
      rw[Array.getD_eq_getD_getElem?] at h1
      cases hq:a.tmps[t]? with
      |none=>rfl
      |some u=>rw[hq] at h1;simp only[Option.getD_some,enc] at h1;rw[h1]
    simp only[key]
    cases c<;>rfl
   ·cases h
  ·cases h
theorem WA.skipU{fuel:Nat}{listed:Array Bool}(i:Nat){o:Oper}{fr:Nat->Dat}{m:List Root}(hi:ops[i]? =some o)(hf:Region.free .any ops listed i=true)(hr:(Region.ready .any ops listed).contains i=true)
  (hg:gdF ops o fr=true) (hd:dstOK N o.dst=true) (k:WA P N K ops Q n fuel (listed.setIfInBounds i true) ⟨putO fr o.dst unD,m⟩):WA P N K ops Q n (fuel+1) listed ⟨fr,m⟩:=by
 intro hns hclo ρ a w ⟨hfr,hdf,hrep,hK⟩
 have hri:i∈Region.ready .any ops listed:=by simpa using hr
 refine wpAnyS_firstW hi hns (λ c a w q=>absurd rfl (q.1 c)) fuel listed a w (Region.free_spec hi hf) hri (v:=undef) (.inr ⟨gdF_wanted hg hfr,rfl⟩) ?_
 exact k hns (hclo.ready hri) ρ (a.put o.dst undef) w ⟨hfr.putO hd (.inr ⟨rfl,λ i hi=>absurd hi (Nat.not_lt_zero _),λ i hi=>absurd hi (Nat.not_lt_zero _)⟩),by rw[put_defers];exact hdf,hrep,hK⟩
end
end DM
end Go.Proofs.YthjnmlpibafbnaaGreat

namespace Go.Proofs.YthjnmlpibafbnaaGreat.DM
open Go.RowKit
set_option linter.unusedVariables false
set_option linter.unusedSimpArgs false
def Inn(e2:TypeId)(f:Nat->Dat)(n:Nat):Prop:=∀j,j<n->∃k g,f j=.ow e2 k 1 (intD g)
theorem nav_inn{e e2:TypeId}{n:Nat}{f:Nat->Dat}(hf:Inn e2 f n){q:List Nat}{e':TypeId}{m s':Nat}{f':Nat->Dat}(h:nav (.ow e n 1 f) q=some (.ow e' m s' f')):(q=[]/\e'=e/\m=n/\s'=1/\f'=f)\/∃j,j<n/\q=[j]/\f j=.ow e' m s' f'/\e'=e2:=by
 cases q with
 |nil=>
  simp only[nav,Option.some.injEq,Dat.ow.injEq] at h
  exact .inl ⟨rfl,h.1.symm,h.2.1.symm,h.2.2.1.symm,h.2.2.2.symm⟩
 |cons j q=>
  simp only[nav] at h
  split at h
  ·rename_i hj
   obtain⟨k,g,e1⟩:=hf j hj
   rw[e1] at h
   cases q with
   |nil=>
    simp only[nav,Option.some.injEq] at h
    refine .inr ⟨j,hj,rfl,e1.trans h,?_⟩
    simp only[Dat.ow.injEq] at h
    exact h.1.symm
   |cons i q=>
    simp only[nav] at h
    split at h
    ·exact absurd h (Pl_nav (d:=intD g i) trivial)
    ·cases h
  ·cases h
def pickR(ρ:Rho)(σ:Nat->Nat):Rho:=λ r q=>match q with
 |[]=>ρ r []
 |j::z=>ρ r (σ j::z)
def pickQ(σ:Nat->Nat)(q:List Nat):List Nat:=match q with
 |[]=>[]
 |j::z=>σ j::z
theorem pickR_eq(ρ:Rho)(σ:Nat->Nat)(r:Nat)(q:List Nat):pickR ρ σ r q=ρ r (pickQ σ q):=by cases q<;>rfl
theorem cells_inn(ρ:Rho)(A:List Nat->RV)(n:Nat){e2:TypeId}{f:Nat->Dat}(hf:Inn e2 f n)(V:Nat->Value)(hV:∀j,j<n->∀k g,f j=.ow e2 k 1 (intD g)->(A [j]).slice 0 k 1=V j):cells ρ A (.ar n 1 f)=(List.range n).map V:=by
 simp only[cells]
 have:∀l:List Nat,(∀j∈l,j<n)->(l.flatMap λ i=>cells ρ (λ q=>A (i::q)) (f i))=l.map V:=by
  intro l
  induction l with
  |nil=>intro _;rfl
  |cons i l ih=>
   intro hl
   obtain⟨k,g,e1⟩:=hf i (hl i (.head _))
   rw[List.flatMap_cons,List.map_cons,ih λ j hj=>hl j (.tail _ hj)]
   rw[e1]
   show[(A [i]).slice 0 k 1]++_=_
   rw[hV i (hl i (.head _)) k g e1]
   rfl
 exact this _ λ j hj=>List.mem_range.1 hj
theorem rep_pick{ρ:Rho}{w w':World}{e e2:TypeId}{n n':Nat}{f:Nat->Dat}{σ:Nat->Nat}(h:Rep ρ [.row e n 1 f] w)(he2:e2≠0)(hf:Inn e2 f n)(hn:n'<=n)(hσ:∀j,j<n'->σ j<n)(hinj:∀i j,i<n'->j<n'->σ i=σ j->i=j)
  (hg:w.grownBy w' (some (ρ 0 []).b)) (hdn:w.drawn<=w'.drawn)
  (hc:∀cur,w.heap[(ρ 0 []).b]? =some (.cells cur e (0,0))->∃cur',w'.heap[(ρ 0 []).b]? =some (.cells cur' e (0,0))/\cur'.size=cur.size/\∀j,j<n'->cur'[j]? =cur[σ j]?):
  Rep (pickR ρ σ) [.row e n' 1 (λ j=>f (σ j))] w'/\Tr ρ [.row e n 1 f] w (pickR ρ σ) [.row e n' 1 (λ j=>f (σ j))] w':=by
 have hf':Inn e2 (λ j=>f (σ j)) n':=λ j hj=>hf _ (hσ j hj)
 have one:∀{r:Nat}{R R0:Root},[R0][r]? =some R->r=0/\R=R0:=λ{r R R0} h=>by
  cases r with
  |zero=>simp at h;exact⟨rfl,h.symm⟩
  |succ r=>simp at h
 obtain⟨cur,hb,ho,hnil,hcap,hmax,hsz,htk⟩:=h.row 0 _ _ [] e n 1 f rfl rfl rfl rfl (.inl rfl)
 obtain⟨cur',hb',hsz',hcur⟩:=hc cur hb
 --places
 have at0:∀{R:Root}{n0:Nat}{f0:Nat->Dat}{q:List Nat},Inn e2 f0 n0->R=.row e n0 1 f0->At R q->q=[]\/∃j,j<n0/\q=[j]:=λ{R n0 f0 q} hf0 hR hq=>by
  subst hR
  rcases hq with⟨h1,_⟩|⟨d,e',m,s',f',h1,h2⟩
  ·exact .inl h1
  ·cases h1
   rcases nav_inn hf0 h2 with⟨h3,_⟩|⟨j,hj,h3,_⟩
   ·exact .inl h3
   ·exact .inr ⟨j,hj,h3⟩
 have atO:∀{n0:Nat}{f0:Nat->Dat}{q:List Nat},Inn e2 f0 n0->(q=[]\/∃j,j<n0/\q=[j])->AtO (.row e n0 1 f0) q:=λ{n0 f0 q} hf0 hq=>by
  rcases hq with rfl|⟨j,hj,rfl⟩
  ·exact .inl ⟨rfl,rfl⟩
  ·obtain⟨k,g,e1⟩:=hf0 j hj
   exact .inr ⟨_,e2,k,1,intD g,rfl,by simp only[nav,if_pos hj,e1],he2⟩
 have pq:∀{q:List Nat},(q=[]\/∃j,j<n'/\q=[j])->(pickQ σ q=[]\/∃j,j<n/\pickQ σ q=[j]):=λ{q} hq=>by
  rcases hq with rfl|⟨j,hj,rfl⟩
  ·exact .inl rfl
  ·exact .inr ⟨σ j,hσ j hj,rfl⟩
 have hcell:∀j,j<n->∀k g,f j=.ow e2 k 1 (intD g)->cur[j]? =some ((ρ 0 [j]).slice 0 k 1):=λ j hj k g e1=>by
  have hall:=cells_inn ρ (λ z=>ρ 0 ([]++z)) n hf (λ j=>(cur[j]?).getD default) (λ j hj k g e1=>?_)
  ·rw[Nat.mul_one] at htk
   have h2:cells ρ (λ z=>ρ 0 ([]++z)) (.ar n 1 f)=(List.range n).map λ j=>(ρ 0 [j]).slice 0 (match f j with| .ow _ k _ _=>k|_=>0) 1:=cells_inn ρ _ n hf _ λ j hj k g e1=>by rw[e1];rfl
   rw[h2] at htk
   have h3:=congrArg (λ l=>l[j]?) htk
   simp only[List.getElem?_take,if_pos hj,List.getElem?_map,List.getElem?_range hj,Option.map_some,Array.getElem?_toList] at h3
   rw[h3,e1]
  ·rw[Nat.mul_one] at htk
   have h2:cells ρ (λ z=>ρ 0 ([]++z)) (.ar n 1 f)=(List.range n).map λ j=>(ρ 0 [j]).slice 0 (match f j with| .ow _ k _ _=>k|_=>0) 1:=cells_inn ρ _ n hf _ λ j hj k g e1=>by rw[e1];rfl
   rw[h2] at htk
   have h3:=congrArg (λ l=>l[j]?) htk
   simp only[List.getElem?_take,if_pos hj,List.getElem?_map,List.getElem?_range hj,Option.map_some,Array.getElem?_toList] at h3
   rw[h3,e1];rfl
 have hne:∀j,j<n->(ρ 0 [j]).nil=false->(ρ 0 []).b≠(ρ 0 [j]).b:=λ j hj hnl=>h.sep 0 _ [] 0 _ [j] rfl rfl rfl (.inl ⟨rfl,rfl⟩) (AtO.at (atO hf (.inr ⟨j,hj,rfl⟩))) hnl (λ _=>by simp)
 refine⟨⟨λ r d hr=>?_,λ r R d q e' m s' f' hR hm hcon hnav hq=>?_,λ r R d q e' m s' f' hR hm hcon hnav=>?_,λ r R q r' R' q' hR hR' hm hq hq' hnl hdiff=>?_,λ r R d hR hcon=>?_,λ r b l hr=>by obtain⟨_,hr⟩:=one hr;cases hr⟩,?_⟩
 ·obtain⟨_,hr⟩:=one hr;cases hr
 ·obtain⟨rfl,rfl⟩:=one hR
  cases hcon
  rcases nav_inn hf' hnav with⟨rfl,rfl,rfl,rfl,rfl⟩|⟨j,hj,rfl,e1,rfl⟩
  ·refine⟨cur',hb',ho,hnil,Nat.le_trans hn hcap,hmax,by rw[hsz'];exact hsz,?_⟩
   rw[Nat.mul_one]
   rw[cells_inn (pickR ρ σ) _ m hf' (λ j=>(cur'[j]?).getD default) λ j hj k g e1=>?_]
   ·refine List.ext_getElem? λ j=>?_
    rw[List.getElem?_take,List.getElem?_map]
    by_cases hj:j<m
    ·have h1:j<cur'.size:=by
      have h2:=hσ j hj
      rw[hsz',hsz];omega
     rw[if_pos hj,List.getElem?_range hj,Array.getElem?_toList,Option.map_some,Array.getElem?_eq_getElem h1];rfl
    ·rw[if_neg hj,List.getElem?_eq_none (by simp;omega)];rfl
   ·rw[hcur j hj,hcell _ (hσ j hj) k g e1];rfl
  ·obtain⟨k,g,e3⟩:=hf' j hj
   have e3:f (σ j)=.ow e' k 1 (intD g):=e3
   rw[e3] at e1
   simp only[Dat.ow.injEq] at e1
   obtain⟨_,rfl,rfl,rfl⟩:=e1
   obtain⟨blk,g1,g2,g3,g4,g5,g6,g7⟩:=h.row 0 _ _ [σ j] e' k 1 (intD g) rfl rfl rfl (by simp only[nav,if_pos (hσ j hj),e3]) (.inr he2)
   have hlt:(ρ 0 [σ j]).b<w.heap.size:=(Array.getElem?_eq_some_iff.1 g1).1
   refine⟨blk,?_,g2,g3,g4,g5,g6,?_⟩
   ·exact(hg.block _ hlt λ h2=>hne _ (hσ j hj) g3 (Option.some.inj h2).symm).trans g1
   ·rw[g7,cells_ints,cells_ints]
 ·obtain⟨rfl,rfl⟩:=one hR
  cases hcon
  rcases hm with hm|⟨h1,h2⟩
  ·cases hm
  ·rcases nav_inn hf' hnav with⟨rfl,_⟩|⟨j,hj,rfl,e1,rfl⟩
   ·exact absurd rfl h1
   ·exact absurd h2 he2
 ·obtain⟨rfl,rfl⟩:=one hR
  obtain⟨rfl,rfl⟩:=one hR'
  have p1:=at0 hf' rfl hq.at
  have p2:=at0 hf' rfl hq'
  rw[pickR_eq] at hnl
  rw[pickR_eq,pickR_eq]
  refine h.sep 0 _ _ 0 _ _ rfl rfl rfl (atO hf (pq p1)) (atO hf (pq p2)).at hnl λ _ he=>hdiff rfl ?_
  rcases p1 with rfl|⟨i,hi,rfl⟩<;>rcases p2 with rfl|⟨j,hj,rfl⟩
  ·rfl
  ·cases he
  ·cases he
  ·simp only[pickQ,List.cons.injEq,and_true] at he
   rw[hinj i j hi hj he]
 ·obtain⟨rfl,rfl⟩:=one hR
  cases hcon
  obtain⟨h1,h2⟩:=h.wf 0 _ _ rfl rfl
  exact⟨λ i hi=>h1 _ (hσ i hi),λ i hi=>h2 _ (hσ i hi)⟩
 ·refine⟨hg.os,hg.tape,hdn,hg.output,hg.size,λ r hr=>rfl,Nat.le_refl _,λ k hk hno=>?_,λ r R q hR hm hq=>.inr ?_,λ r R q hR hq hnl=>.inr ?_⟩
  ·exact hg.block k hk λ e2=>hno 0 _ [] rfl rfl (.inl ⟨rfl,rfl⟩) (Option.some.inj e2).symm
  ·obtain⟨rfl,rfl⟩:=one hR
   exact⟨0,_,pickQ σ q,rfl,rfl,atO hf (pq (at0 hf' rfl hq.at)),by rw[pickR_eq]⟩
  ·obtain⟨rfl,rfl⟩:=one hR
   exact⟨0,_,pickQ σ q,rfl,(atO hf (pq (at0 hf' rfl hq))).at,by rw[<-pickR_eq ρ σ 0 q];exact hnl,by rw[pickR_eq]⟩
end Go.Proofs.YthjnmlpibafbnaaGreat.DM
