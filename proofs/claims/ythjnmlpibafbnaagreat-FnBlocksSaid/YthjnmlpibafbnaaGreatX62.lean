import Derived.Test.YthjnmlpibafbnaaGreatShelf
import Derived.Test.YthjnmlpibafbnaaGreatX6
import Derived.Test.YthjnmlpibafbnaaGreatD31
import Derived.Sort.OwnSortedInts
import Derived.Test.YthjnmlpibafbnaaGreatL4
import Derived.Test.YthjnmlpibafbnaaGreatX30
namespace Go.Proofs.YthjnmlpibafbnaaGreat
open Go.RowKit DM Go.Sort
set_option linter.unusedSimpArgs false
set_option linter.unusedVariables false
set_option maxRecDepth 100000
set_option maxHeartbeats 1000000
def zI(zs:List Int)(j:Nat):Int:=zs.getD j 0
def srt(zs:List Int):List Int:=zs.mergeSort λ x y=>decide (x<=y)
theorem map_zI(zs:List Int):(List.range zs.length).map (λ j=>Value.int .i64 (zI zs j))=zs.map (Value.int .i64):=by
 apply List.ext_getElem (by simp)
 intro i h1 h2
 simp at h1
 simp[zI,List.getD_eq_getElem?_getD,List.getElem?_eq_getElem h1]
theorem srt_len(zs:List Int):(srt zs).length=zs.length:=(List.mergeSort_perm _ _).length_eq
theorem slicesSort_fn(zs:List Int)(hl:zs.length<=65536):FnS Tryz.prog 110 [.sl 0 0 zs.length 1] [.row 2 zs.length 1 (intD (zI zs))] (λ r m'=>r=.tup 0 (λ _=>.un)/\m'=[.row 2 zs.length 1 (intD (zI (srt zs)))]):=by
 refine FnS.turner (callFunc_run Tryz.func110 rfl rfl) λ w b cap cur hb hcap hmax hsz htk=>?_
 rw[map_zI] at htk
 have hlt:b<w.heap.size:=(Array.getElem?_eq_some_iff.1 hb).1
 have hcall:=AnyG.slices_Sort_int Tryz.lays53 b 0 cap zs w (holds_of_blockI hb htk) hlt (by omega)
 change Calls Tryz.prog 110 _ _ _ at hcall
 refine hcall.mono ?_
 rintro e' w' ⟨rfl,n,os,rfl⟩
 have e:=srt_len zs
 have h2:=take_putCellsI cur (srt zs) (by omega)
 have h3:=map_zI (srt zs)
 rw[e] at h2 h3
 exact⟨rfl,grownBy_sortedI _,Nat.le_add_right _ _,_,heap_sortedI _ hb,by simp[Sort.putCells],by rw[h3];exact h2⟩
theorem slicesReverse_fn(zs:List Int)(hl:zs.length<=65536):FnS Tryz.prog 111 [.sl 0 0 zs.length 1] [.row 2 zs.length 1 (intD (zI zs))] (λ r m'=>r=.tup 0 (λ _=>.un)/\m'=[.row 2 zs.length 1 (intD (zI zs.reverse))]):=by
 refine FnS.turner (callFunc_run Tryz.func111 rfl rfl) λ w b cap cur hb hcap hmax hsz htk=>?_
 rw[map_zI] at htk
 have hlt:b<w.heap.size:=(Array.getElem?_eq_some_iff.1 hb).1
 have hcall:=AnyG.slices_Reverse_int Tryz.lays35 b 0 cap zs w (holds_of_blockI hb htk) (by omega)
 change Calls Tryz.prog 111 _ _ _ at hcall
 refine hcall.mono ?_
 rintro e' w' ⟨rfl,n,rfl⟩
 have h2:=take_putCellsI cur zs.reverse (by simp;omega)
 have h3:=map_zI zs.reverse
 rw[List.length_reverse] at h2 h3
 have h4:=heap_sortedI (n:=n) (os:=#[]) zs.reverse.toArray hb
 have h5:=grownBy_sortedI (w:=w) (g:=b) (n:=n) (os:=#[]) zs.reverse.toArray
 rw[Sort.grow_empty] at h4 h5
 exact⟨rfl,h5,Nat.le_add_right _ _,_,h4,by simp[Sort.putCells],by rw[h3];exact h2⟩
end Go.Proofs.YthjnmlpibafbnaaGreat
namespace Go.Proofs.YthjnmlpibafbnaaGreat
open Go.RowKit DM
set_option linter.unusedSimpArgs false
set_option linter.unusedVariables false
set_option maxRecDepth 100000
set_option maxHeartbeats 1000000
theorem numsF_int(l:List Nat):intD (zI (l.map λ x:Nat=>(x:Int)))=numsF l:=by
 funext j
 unfold intD zI numsF
 congr 1
 simp only[List.getD_eq_getElem?_getD,List.getElem?_map]
 cases l[j]?<;>rfl
theorem srt_nat(l:List Nat):srt (l.map λ x:Nat=>(x:Int))=(srtN l).map λ x:Nat=>(x:Int):=by
 unfold srt srtN
 rw[List.map_mergeSort (s:=λ x y:Int=>decide (x<=y))]
 intro a _ b _
 simp
theorem sortN_fn(l:List Nat)(hl:l.length<=65536):FnS Tryz.prog 110 [.sl 0 0 l.length 1] [.row 2 l.length 1 (numsF l)] (λ r m'=>r=.tup 0 (λ _=>.un)/\m'=[.row 2 l.length 1 (numsF (srtN l))]):=by
 have h:=slicesSort_fn (l.map λ x:Nat=>(x:Int)) (by simpa using hl)
 rw[numsF_int,srt_nat,numsF_int,List.length_map] at h
 exact h
theorem reverseN_fn(l:List Nat)(hl:l.length<=65536):FnS Tryz.prog 111 [.sl 0 0 l.length 1] [.row 2 l.length 1 (numsF l)] (λ r m'=>r=.tup 0 (λ _=>.un)/\m'=[.row 2 l.length 1 (numsF l.reverse)]):=by
 have h:=slicesReverse_fn (l.map λ x:Nat=>(x:Int)) (by simpa using hl)
 rw[numsF_int, <-List.map_reverse,numsF_int,List.length_map] at h
 exact h
theorem descending_fn(l:List Nat)(hl:l.length<=65536):FnS Tryz.prog 87 [.sl 0 0 l.length 1] [.row 2 l.length 1 (numsF l)] (λ r m'=>r=.sl 0 0 l.length 1/\m'=[.row 2 l.length 1 (numsF (srtN l).reverse)]):=by
 have h1:=sortN_fn l hl
 have h2:=reverseN_fn (srtN l) (by rw[srtN_len];exact hl)
 rw[srtN_len] at h2
 generalize (srtN l).reverse=l2 at*
 generalize srtN l=l1 at*
 generalize l.length=n at*
 refine FnS.intoN T tok Tryz.func87 (by rfl) rfl rfl rfl (by simp) ?_
 refine rS ?_
 refine WP.rw ?_
 refine rU 1 ?_
 refine cN [0] (.tup 0 (λ _=>.un)) (h1) (leC leZ) (⟨_,rfl,λ i hi=>absurd hi (Nat.not_lt_zero _)⟩) ?_
 refine rF ?_
 refine WP.rw ?_
 refine rU 1 ?_
 refine cN [0] (.tup 0 (λ _=>.un)) (h2) (leC leZ) (⟨_,rfl,λ i hi=>absurd hi (Nat.not_lt_zero _)⟩) ?_
 refine rF ?_
 refine rS ?_
 exact WP.ret (Ends.new [0] (by rfl) (by exact byObl) (leC leZ) rfl rfl (rfl) (sc_sl rfl))
theorem len_step(L:List (List Nat))(i:Nat)(hi:i<L.length):(L.take (i+1)).map List.length=(L.take i).map List.length++[(L.getD i []).length]:=by
 rw[List.take_add_one,List.getElem?_eq_getElem hi,List.getD_eq_getElem?_getD,List.getElem?_eq_getElem hi]
 simp only[Option.toList_some,List.map_append,List.map_cons,List.map_nil,Option.getD_some]
theorem typeOf_fn(p:Nat->Nat)(n:Nat)(hn:n<=16)(hp:Perm n p):FnS Tryz.prog 53 [pl p,.i .i64 n] [] (λ r m'=>r=.sl 0 0 (tyN (cycs p n) n).length 1/\m'=[.row 2 (tyN (cycs p n) n).length 1 (numsF (tyN (cycs p n) n))]):=by
 have hcyc:=cycles_fn p n hn hp.lt
 have hlens:=cycs_lens hn hp
 have hlen:(cycs p n).length<=n:=cyTo_len p n
 generalize cycs p n=L at*
 have hd:=descending_fn (L.map List.length) (by simp;omega)
 rw[ty_eq hlens,List.length_map] at hd
 have ht:=tyN_len hlens
 rw[ht]
 generalize tyN L n=D at*
 refine FnS.intoN T tok Tryz.func53 (by rfl) rfl rfl rfl (by simp) ?_
 refine rS ?_
 refine rS ?_
 refine WP.seq ?_
 refine WP.rw ?_
 refine rU 2 ?_
 refine cN [] (.sl 2 0 L.length 1) (hcyc) leZ (rfl) ?_
 refine rF ?_
 refine WP.block ?_
 refine WP.loopH (⟨λ i:Nat=>i<=L.length,λ i=>[(5,.sl 0 0 i 1),(11,.sl 1 0 L.length 1),(12,.i .i64 (L.length:Int)),(13,.i .i64 (i:Int))],λ i=>[.row 2 i 1 (numsF ((L.take i).map List.length)),.ro L.length 1 (rowsF L)],λ i=>L.length-i⟩) (0) (Nat.zero_le _) (gC [1,2] (by repeat (first|exact trivial|(refine lC ?_ ?_;first|exact byLz|(exact le_row (Nat.le_refl _) (λ j hj=>absurd hj (Nat.not_lt_zero _)))|exact byLeq)))) ?_
 intro i hi
 dsimp only at hi
 dsimp only[Hd.at]
 refine rS ?_
 refine WP.seq ?_
 refine cI (λ hc=>?_) λ hc=>?_
 ·have hi:i<L.length:=by have:=of_decide_eq_true hc;omega
  clear hc
  have hst:=len_step L i hi
  have hl2:((L.take i).map List.length).length=i:=by simp;omega
  refine WP.seq (WP.block ?_)
  refine rS ?_
  refine rE ?_
  refine rE ?_
  refine Again.next (i+1) (gC [4,1] (by repeat (first|exact trivial|(refine lC ?_ ?_;first|exact byLz|(exact le_row (Nat.le_refl _) (λ j hj=>by rw[hst];have:=ap_nums ((L.take i).map List.length) (L.getD i []).length;rw[hl2] at this;exact this _ j hj))|exact byLeq)))) (hi) (by dsimp only;omega)
 ·have hi:i=L.length:=by have:=of_decide_eq_false hc;omega
  subst hi
  rw[List.take_length]
  refine WP.rw ?_
  refine rU 1 ?_
  refine cN [0] (.sl 0 0 L.length 1) (hd) (leC leZ) (rfl) ?_
  refine rF ?_
  exact WP.ret (Ends.new [0] (by rfl) (by exact byObl) (leC leZ) rfl rfl (rfl) (sc_sl rfl))
end Go.Proofs.YthjnmlpibafbnaaGreat
namespace Go.Proofs.YthjnmlpibafbnaaGreat
open Go.RowKit DM
set_option linter.unusedSimpArgs false
set_option linter.unusedVariables false
set_option maxRecDepth 100000
set_option maxHeartbeats 1000000
theorem cTo_le(L:List (List Nat))(i k:Nat)(hi:i<=L.length):cTo L i k<=i:=by
 rw[cTo_count L i hi k]
 have:=List.count_le_length (a:=k) (l:=(L.take i).map List.length)
 rw[List.length_map,List.length_take] at this;omega
theorem dTo_len{c:Nat->Nat}(n:Nat)(h:∀k,c k<=16):∀m,(dTo c n m).length<=16*m
 |0=>by simp[dTo]
 |m+1=>by
  have h1:=dTo_len n h m
  have h2:=h (n-m)
  simp only[dTo,List.length_append,List.length_replicate];omega
theorem l01Type_fn(p:Nat->Nat)(n:Nat)(hn:n<=16)(hp:Perm n p):FnS Tryz.prog 58 [pl p,.i .i64 n] [] (λ r m'=>r=.sl 0 0 (tyN (cycs p n) n).length 1/\m'=[.row 2 (tyN (cycs p n) n).length 1 (numsF (tyN (cycs p n) n))]):=by
 have hcyc:=l01Cycles_fn p n hn hp.lt
 have hok:=λ j=>(cycs_ok (p:=p) hn hp.lt (j:=j)).1
 have hlen:(cycs p n).length<=n:=cyTo_len p n
 generalize cycs p n=L at*
 have hcl:=cTo_le L
 refine FnS.intoN T tok Tryz.func58 (by rfl) rfl rfl rfl (by simp) ?_
 refine rS ?_
 refine WP.rw ?_
 refine rU 3 ?_
 refine cN [] (.sl 1 0 L.length 1) (hcyc) leZ (rfl) ?_
 refine rF ?_
 refine WP.seq ?_
 refine rS ?_
 refine WP.block ?_
 refine WP.loopH (⟨λ i:Nat=>i<=L.length,λ i=>[(1,.i .i64 (n:Int)),(5,.p 0 [] 0),(6,.sl 1 0 L.length 1),(7,.sl 2 0 0 1),(8,.i .i64 (i:Int))],λ i=>[.var (.ar 17 1 (nmF (cTo L i))),.ro L.length 1 (rowsF L),.row 2 0 1 (numsF [])],λ i=>L.length-i⟩) (0) (Nat.zero_le _) (gC [3,1,2] (by repeat (first|exact trivial|(refine lC ?_ ?_;first|exact byLz|(exact le_row (Nat.le_refl _) (λ j hj=>absurd hj (Nat.not_lt_zero _)))|exact byLeq)))) ?_
 intro i hi
 dsimp only at hi
 dsimp only[Hd.at]
 refine WP.seq ?_
 refine rS ?_
 refine cI (λ hc=>?_) λ hc=>?_
 ·have hi:i<L.length:=by have:=of_decide_eq_true hc;omega
  clear hc
  have h1:=hok i
  have h2:=hcl i (L.getD i []).length (by omega)
  refine WP.seq (WP.block ?_)
  refine rE ?_
  refine rE ?_
  refine Again.next (i+1) (gC [0,1,2] (by repeat (first|exact trivial|(refine lC ?_ ?_;first|exact byLz|(exact le_var (by rw[cTo,nm_up];rfl))|exact byLeq)))) (hi) (by dsimp only;omega)
 ·have hi:i=L.length:=by have:=of_decide_eq_false hc;omega
  subst hi
  have hc16:∀k,cTo L L.length k<=16:=λ k=>by have:=hcl L.length k (Nat.le_refl _);omega
  unfold tyN
  generalize cTo L L.length=c at*
  refine WP.seq ?_
  refine rS ?_
  have hLen:(dTo c n (n-n)).length=0:=by rw[Nat.sub_self];rfl
  refine WP.block ?_
  refine WP.loopH (⟨λ k:Nat=>k<=n,λ k=>[(5,.p 0 [] 0),(7,.sl 1 0 (dTo c n (n-k)).length 1),(9,.i .i64 (k:Int))],λ k=>[.var (.ar 17 1 (nmF c)),.row 2 (dTo c n (n-k)).length 1 (numsF (dTo c n (n-k)))],λ k=>k⟩) (n) (Nat.le_refl _) (gC [0,2] (by repeat (first|exact trivial|(refine lC ?_ ?_;first|exact byLz|((rw[Nat.sub_self];exact le_row (Nat.le_refl _) (λ j hj=>absurd hj (Nat.not_lt_zero _))))|exact byLeq)))) ?_
  clear hLen
  intro k hk
  dsimp only at hk
  dsimp only[Hd.at]
  have hlk:=dTo_len (c:=c) n hc16 (n-k)
  refine WP.seq ?_
  refine rS ?_
  refine cI (λ hc=>?_) λ hc=>?_
  ·obtain⟨k,rfl⟩:∃k',k=k'+1:=⟨k-1,by have:=of_decide_eq_true hc;omega⟩
   clear hc
   have hck:=hc16 (k+1)
   have hst:dTo c n (n-k)=dTo c n (n-(k+1))++List.replicate (c (k+1)) (k+1):=by
    rw[show n-k=(n-(k+1))+1 by omega,dTo,show n-(n-(k+1))=k+1 by omega]
   generalize dTo c n (n-(k+1))=D at*
   refine WP.seq (WP.block ?_)
   refine rS ?_
   refine WP.block ?_
   refine WP.loopH (⟨λ r:Nat=>r<=c (k+1),λ r=>[(5,.p 0 [] 0),(7,.sl 1 0 (D.length+(c (k+1)-r)) 1),(9,.i .i64 ((k+1:Nat):Int)),(10,.i .i64 (r:Int))],λ r=>[.var (.ar 17 1 (nmF c)),.row 2 (D.length+(c (k+1)-r)) 1 (numsF (D++List.replicate (c (k+1)-r) (k+1)))],λ r=>r⟩) (c (k+1)) (Nat.le_refl _) (gC [0,1] (by repeat (first|exact trivial|(refine lC ?_ ?_;first|exact byLz|(exact le_row (by omega) (λ j hj=>by rw[Nat.sub_self];simp))|exact byLeq)))) ?_
   intro r hr
   dsimp only at hr
   dsimp only[Hd.at]
   refine WP.seq ?_
   refine rS ?_
   refine cI (λ hc=>?_) λ hc=>?_
   ·obtain⟨r,rfl⟩:∃r',r=r'+1:=⟨r-1,by have:=of_decide_eq_true hc;omega⟩
    clear hc
    have hm:c (k+1)-r=(c (k+1)-(r+1))+1:=by omega
    have hl2:(D++List.replicate (c (k+1)-(r+1)) (k+1)).length=D.length+(c (k+1)-(r+1)):=by simp
    have hLen:D.length+(c (k+1)-r)=D.length+(c (k+1)-(r+1))+1:=by omega
    refine WP.seq (WP.block ?_)
    refine rE ?_
    refine rE ?_
    refine Again.next (r) (gC [0,3] (by repeat (first|exact trivial|(refine lC ?_ ?_;first|exact byLz|(exact le_row (Nat.le_of_eq hLen) (λ j hj=>by rw[hm,List.replicate_succ', <-List.append_assoc];have:=ap_nums (D++List.replicate (c (k+1)-(r+1)) (k+1)) (k+1);rw[hl2] at this;exact this _ j (by omega)))|exact byLeq)))) (by omega) (by dsimp only;omega)
   ·have hr:r=0:=by have:=of_decide_eq_false hc;omega
    subst hr
    have hLen:(dTo c n (n-k)).length=D.length+(c (k+1)-0):=by rw[hst];simp
    refine rE ?_
    refine Again.next (k) (gC [0,1] (by repeat (first|exact trivial|(refine lC ?_ ?_;first|exact byLz|(exact le_row (Nat.le_of_eq hLen) (λ j hj=>by rw[hst];rfl))|exact byLeq)))) (by omega) (by dsimp only;omega)
  ·have hk:k=0:=by have:=of_decide_eq_false hc;omega
   subst hk
   refine rS ?_
   exact WP.ret (Ends.new [1] (by rfl) (by exact byObl) (leC leZ) rfl rfl (rfl) (sc_sl rfl))
end Go.Proofs.YthjnmlpibafbnaaGreat

namespace Go.Proofs.YthjnmlpibafbnaaGreat
open Go.RowKit DM
set_option linter.unusedSimpArgs false
set_option linter.unusedVariables false
set_option maxRecDepth 100000
set_option maxHeartbeats 1000000
theorem perm_face{N:Nat}{b w:Nat->Nat}(hD:Des N b w):Perm N (faceF N b w):=by
 refine perm_back hD.le ⟨λ i hi=>?_,λ i j hi hj e=>?_⟩
 ·simp only[fillF,if_pos hi];exact hD.pw.lt _ (hD.pb.lt _ hi)
 ·simp only[fillF,if_pos hi,if_pos hj] at e
  exact hD.pb.inj i j hi hj (hD.pw.inj _ _ (hD.pb.lt _ hi) (hD.pb.lt _ hj) e)
def pasL(N:Nat)(b w:Nat->Nat):List (List Nat):=[tyN (cycs b N) N,tyN (cycs w N) N,tyN (cycs (faceF N b w) N) N]
theorem ty_len16{N:Nat}(hN:N<=16){p:Nat->Nat}(hp:Perm N p):(tyN (cycs p N) N).length<=16:=by
 have h1:(cycs p N).length<=N:=cyTo_len p N
 rw[tyN_len (cycs_lens hN hp)];omega
theorem passport_fn(N:Nat)(b w:Nat->Nat)(hD:Des N b w):FnS Tryz.prog 77 [ds_ N b w] [] (λ r m'=>r=.sl 0 0 3 1/\m'=[.row 30 3 1 (rowsF (pasL N b w))]):=by
 have h1:=typeOf_fn b N hD.le hD.pb
 have h2:=typeOf_fn w N hD.le hD.pw
 have h3:=typeOf_fn (faceF N b w) N hD.le (perm_face hD)
 have h4:=face_fn N b w hD
 have g1:=ty_len16 hD.le hD.pb
 have g2:=ty_len16 hD.le hD.pw
 have g3:=ty_len16 hD.le (perm_face hD)
 unfold pasL
 generalize tyN (cycs b N) N=A at*
 generalize tyN (cycs w N) N=B at*
 generalize tyN (cycs (faceF N b w) N) N=C at*
 refine FnS.intoN T tok Tryz.func77 (by rfl) rfl rfl rfl (by simp) ?_
 refine rS ?_
 refine WP.seq ?_
 refine WP.da (by kernel_rfl) 17 (by kernel_rfl) ?_
 refine WA.takes T false tok [0,1,2,3,5,6,7,8] (f':=9) (by kernel_rfl) (by rfl) (by rfl) (by rfl) (by exact byObl) (by rfl) (by rfl) ?_
 refine WA.takes T false tok [10,12,13] (f':=6) (by kernel_rfl) (by rfl) (by rfl) (by rfl) (by exact byObl) (by rfl) (by rfl) ?_
 refine WA.all [4] (by kernel_rfl) (by simp) ?_;intro i' hi';simp only[List.mem_cons,List.not_mem_nil,or_false] at hi'
 subst hi'
 refine⟨_,_,_,rfl,by rfl,by rfl,MK.call [] (.sl 1 0 A.length 1) (h1) leZ (by rfl) (by exact .inl rfl) (by rfl) (by exact byArgs) (by simp[Sc,sc_pl,sc_ds]) (by exact byAllc) (by exact rfl) (by exact bySc) (by rfl),?_⟩
 refine WA.all [9] (by kernel_rfl) (by simp) ?_;intro i' hi';simp only[List.mem_cons,List.not_mem_nil,or_false] at hi'
 subst hi'
 refine⟨_,_,_,rfl,by rfl,by rfl,MK.call [] (.sl 2 0 B.length 1) (h2) leZ (by rfl) (by exact .inl rfl) (by rfl) (by exact byArgs) (by simp[Sc,sc_pl,sc_ds]) (by exact byAllc) (by exact rfl) (by exact bySc) (by rfl),?_⟩
 refine WA.all [11] (by kernel_rfl) (by simp) ?_;intro i' hi';simp only[List.mem_cons,List.not_mem_nil,or_false] at hi'
 subst hi'
 refine⟨_,_,_,rfl,by rfl,by rfl,MK.callP (h4) (by rfl) (by simp[Sc,sc_pl,sc_ds,pl_ne,ds_ne]),?_⟩
 refine WA.all [14] (by kernel_rfl) (by simp) ?_;intro i' hi';simp only[List.mem_cons,List.not_mem_nil,or_false] at hi'
 subst hi'
 refine⟨_,_,_,rfl,by rfl,by rfl,MK.call [] (.sl 3 0 C.length 1) (h3) leZ (by rfl) (by exact .inl rfl) (by rfl) (by exact byArgs) (by simp[Sc,sc_pl,sc_ds]) (by exact byAllc) (by exact rfl) (by exact bySc) (by rfl),?_⟩
 refine WA.all [15] (by kernel_rfl) (by simp) ?_;intro i' hi';simp only[List.mem_cons,List.not_mem_nil,or_false] at hi'
 subst hi'
 refine⟨_,_,_,rfl,by rfl,by rfl,MK.of tok (wm:=false) (by rfl) (by exact byObl) (by rfl) (by exact byObl),?_⟩
 refine WA.move 16 (by rfl) (by first|exact .inl rfl|exact .inr rfl) (by kernel_rfl) (by kernel_rfl) (by rfl) (by rfl) ?_
 refine WA.tail (by rfl) (by rfl) (by kernel_rfl) ?_
 refine WPL.nil (noPan ?_)
 refine WP.ghost (Ghost.give 4 0 1 (by rfl) (by omega) (by rfl) rfl rfl (by rfl) (Nat.le_refl _)) ?_
 refine WP.ghost (Ghost.give 4 1 2 (by rfl) (by omega) (by rfl) rfl rfl (by rfl) (Nat.le_refl _)) ?_
 refine WP.ghost (Ghost.give 4 2 3 (by rfl) (by omega) (by rfl) rfl rfl (by rfl) (Nat.le_refl _)) ?_
 exact WP.ret (Ends.new [4] (by rfl) (by exact byObl) (LeAll.cons (by rfl) (by first|with_reducible exact Root.Le.refl _|with_reducible exact le_dead|(exact le_row (Nat.le_refl _) (λ j hj=>by rcases j with _|_|_|j<;>first|rfl|omega))|exact byLeq) (by exact byCon) (leZ)) rfl rfl (rfl) (sc_sl rfl))
end Go.Proofs.YthjnmlpibafbnaaGreat
namespace Go.Proofs.YthjnmlpibafbnaaGreat
open Go.RowKit DM
set_option linter.unusedSimpArgs false
set_option linter.unusedVariables false
set_option maxRecDepth 100000
set_option maxHeartbeats 1000000
theorem l01Passport_fn(N:Nat)(b w:Nat->Nat)(hD:Des N b w):FnS Tryz.prog 62 [ds_ N b w] [] (λ r m'=>r=.sl 0 0 3 1/\m'=[.row 30 3 1 (rowsF (pasL N b w))]):=by
 have h1:=l01Type_fn b N hD.le hD.pb
 have h2:=l01Type_fn w N hD.le hD.pw
 have h3:=l01Type_fn (faceF N b w) N hD.le (perm_face hD)
 have h4:=l01Face_fn N b w hD
 have g1:=ty_len16 hD.le hD.pb
 have g2:=ty_len16 hD.le hD.pw
 have g3:=ty_len16 hD.le (perm_face hD)
 unfold pasL
 generalize tyN (cycs b N) N=A at*
 generalize tyN (cycs w N) N=B at*
 generalize tyN (cycs (faceF N b w) N) N=C at*
 refine FnS.intoN T tok Tryz.func62 (by rfl) rfl rfl rfl (by simp) ?_
 refine rS ?_
 refine WP.seq ?_
 refine WP.da (by kernel_rfl) 17 (by kernel_rfl) ?_
 refine WA.takes T false tok [0,1,2,3,5,6,7,8] (f':=9) (by kernel_rfl) (by rfl) (by rfl) (by rfl) (by exact byObl) (by rfl) (by rfl) ?_
 refine WA.takes T false tok [10,12,13] (f':=6) (by kernel_rfl) (by rfl) (by rfl) (by rfl) (by exact byObl) (by rfl) (by rfl) ?_
 refine WA.all [4] (by kernel_rfl) (by simp) ?_;intro i' hi';simp only[List.mem_cons,List.not_mem_nil,or_false] at hi'
 subst hi'
 refine⟨_,_,_,rfl,by rfl,by rfl,MK.call [] (.sl 1 0 A.length 1) (h1) leZ (by rfl) (by exact .inl rfl) (by rfl) (by exact byArgs) (by simp[Sc,sc_pl,sc_ds]) (by exact byAllc) (by exact rfl) (by exact bySc) (by rfl),?_⟩
 refine WA.all [9] (by kernel_rfl) (by simp) ?_;intro i' hi';simp only[List.mem_cons,List.not_mem_nil,or_false] at hi'
 subst hi'
 refine⟨_,_,_,rfl,by rfl,by rfl,MK.call [] (.sl 2 0 B.length 1) (h2) leZ (by rfl) (by exact .inl rfl) (by rfl) (by exact byArgs) (by simp[Sc,sc_pl,sc_ds]) (by exact byAllc) (by exact rfl) (by exact bySc) (by rfl),?_⟩
 refine WA.all [11] (by kernel_rfl) (by simp) ?_;intro i' hi';simp only[List.mem_cons,List.not_mem_nil,or_false] at hi'
 subst hi'
 refine⟨_,_,_,rfl,by rfl,by rfl,MK.callP (h4) (by rfl) (by simp[Sc,sc_pl,sc_ds,pl_ne,ds_ne]),?_⟩
 refine WA.all [14] (by kernel_rfl) (by simp) ?_;intro i' hi';simp only[List.mem_cons,List.not_mem_nil,or_false] at hi'
 subst hi'
 refine⟨_,_,_,rfl,by rfl,by rfl,MK.call [] (.sl 3 0 C.length 1) (h3) leZ (by rfl) (by exact .inl rfl) (by rfl) (by exact byArgs) (by simp[Sc,sc_pl,sc_ds]) (by exact byAllc) (by exact rfl) (by exact bySc) (by rfl),?_⟩
 refine WA.all [15] (by kernel_rfl) (by simp) ?_;intro i' hi';simp only[List.mem_cons,List.not_mem_nil,or_false] at hi'
 subst hi'
 refine⟨_,_,_,rfl,by rfl,by rfl,MK.of tok (wm:=false) (by rfl) (by exact byObl) (by rfl) (by exact byObl),?_⟩
 refine WA.move 16 (by rfl) (by first|exact .inl rfl|exact .inr rfl) (by kernel_rfl) (by kernel_rfl) (by rfl) (by rfl) ?_
 refine WA.tail (by rfl) (by rfl) (by kernel_rfl) ?_
 refine WPL.nil (noPan ?_)
 refine WP.ghost (Ghost.give 4 0 1 (by rfl) (by omega) (by rfl) rfl rfl (by rfl) (Nat.le_refl _)) ?_
 refine WP.ghost (Ghost.give 4 1 2 (by rfl) (by omega) (by rfl) rfl rfl (by rfl) (Nat.le_refl _)) ?_
 refine WP.ghost (Ghost.give 4 2 3 (by rfl) (by omega) (by rfl) rfl rfl (by rfl) (Nat.le_refl _)) ?_
 exact WP.ret (Ends.new [4] (by rfl) (by exact byObl) (LeAll.cons (by rfl) (by first|with_reducible exact Root.Le.refl _|with_reducible exact le_dead|(exact le_row (Nat.le_refl _) (λ j hj=>by rcases j with _|_|_|j<;>first|rfl|omega))|exact byLeq) (by exact byCon) (leZ)) rfl rfl (rfl) (sc_sl rfl))
theorem pas_len{N:Nat}{b w:Nat->Nat}(hD:Des N b w)(j:Nat):((pasL N b w).getD j []).length<=16:=by
 have g1:=ty_len16 hD.le hD.pb
 have g2:=ty_len16 hD.le hD.pw
 have g3:=ty_len16 hD.le (perm_face hD)
 rcases j with _|_|_|j
 ·exact g1
 ·exact g2
 ·exact g3
 ·exact Nat.zero_le _
noncomputable def eulV (N:Nat)(b w:Nat->Nat):Int:=((((pasL N b w).getD 0 []).length:Int)+(((pasL N b w).getD 1 []).length:Int)+(((pasL N b w).getD 2 []).length:Int))-(N:Int)
theorem eulerOf_fn(L:List (List Nat))(n:Nat)(hn:n<=16)(h3:L.length=3)(hl:∀j,(L.getD j []).length<=16):FnR Tryz.prog 76 [.sl 0 0 3 1,.i .i64 (n:Int)] [.ro 3 1 (rowsF L)] (.i .i64 ((((L.getD 0 []).length:Int)+((L.getD 1 []).length:Int)+((L.getD 2 []).length:Int))-(n:Int))):=by
 have g0:(L.getD (Int.toNat 0) []).length<=16:=hl 0
 have g1:(L.getD (Int.toNat 1) []).length<=16:=hl 1
 have g2:(L.getD (Int.toNat 2) []).length<=16:=hl 2
 refine FnS.into T tok Tryz.func76 (by rfl) rfl rfl rfl (by simp) ?_
 refine rS ?_
 refine WP.dw (by kernel_rfl) (by kernel_rfl) ?_
 refine WQ.run T false 8 tok (by rfl) (by rfl) (by exact byObl) ?_
 refine WQ.run T false 5 tok (by rfl) (by rfl) (by exact byObl) ?_
 refine WQ.fin T false tok (by rfl) (by rfl) (by exact byObl) ?_
 exact WP.ret (Ends.val (by rfl) (by exact byObl) (by rfl) (by trivial))
theorem eul_even{N:Nat}{b w:Nat->Nat}(hD:Des N b w):∃K:Int,eulV N b w=2*K/\-64<=K/\K<=64:=by
 have hf:=perm_face hD
 have hpar:=cyc_parity hD.le hD.pb hD.pw hf λ x hx=>by
  have hq:Perm N (fillF (λ i=>w (b i)) N):=⟨λ i hi=>by simp only[fillF,if_pos hi];exact hD.pw.lt _ (hD.pb.lt _ hi),λ i j hi hj e=>by
   simp only[fillF,if_pos hi,if_pos hj] at e
   exact hD.pb.inj i j hi hj (hD.pw.inj _ _ (hD.pb.lt _ hi) (hD.pb.lt _ hj) e)⟩
  have h1:=backTo_at hq N (Nat.le_refl _) x hx
  have h2:fillF (λ i=>w (b i)) N x=w (b x):=by simp only[fillF,if_pos hx]
  rw[h2] at h1
  exact h1
 have g0:((pasL N b w).getD 0 []).length=(cycs b N).length:=tyN_len (cycs_lens hD.le hD.pb)
 have g1:((pasL N b w).getD 1 []).length=(cycs w N).length:=tyN_len (cycs_lens hD.le hD.pw)
 have g2:((pasL N b w).getD 2 []).length=(cycs (faceF N b w) N).length:=tyN_len (cycs_lens hD.le hf)
 have l0:(cycs b N).length<=N:=cyTo_len b N
 have l1:(cycs w N).length<=N:=cyTo_len w N
 have l2:(cycs (faceF N b w) N).length<=N:=cyTo_len _ N
 have hN:=hD.le
 unfold eulV
 rw[g0,g1,g2]
 refine⟨((((cycs b N).length:Int)+((cycs w N).length:Int)+((cycs (faceF N b w) N).length:Int))-(N:Int)) / 2,?_,?_,?_⟩<;>omega
noncomputable def genV (N:Nat)(b w:Nat->Nat):Int:=1-(eulV N b w).tdiv 2
theorem td1(K:Int):(2*K).tdiv 2=K:=Int.mul_tdiv_cancel_left K (by decide)
theorem genus_fn(N:Nat)(b w:Nat->Nat)(hD:Des N b w):FnP Tryz.prog 42 [ds_ N b w] (.i .i64 (genV N b w)):=by
 have hp:=passport_fn N b w hD
 have he:=eulerOf_fn (pasL N b w) N hD.le rfl (pas_len hD)
 change FnR _ _ _ _ (.i .i64 (eulV N b w)) at he
 obtain⟨K,e,h1,h2⟩:=eul_even hD
 unfold genV
 rw[e] at he ⊢
 rw[td1]
 generalize pasL N b w=L at*
 refine FnS.into T tok Tryz.func42 (by rfl) rfl rfl rfl (by simp) ?_
 refine rS ?_
 refine WP.seq ?_
 refine WP.da (by kernel_rfl) 5 (by kernel_rfl) ?_
 refine WA.takes T false tok [0,2,3] (f':=5) (by kernel_rfl) (by rfl) (by rfl) (by rfl) (by exact byObl) (by rfl) (by rfl) ?_
 refine WA.all [1] (by kernel_rfl) (by simp) ?_;intro i' hi';simp only[List.mem_cons,List.not_mem_nil,or_false] at hi'
 subst hi'
 refine⟨_,_,_,rfl,by rfl,by rfl,MK.call [] (.sl 1 0 3 1) (hp) leZ (by rfl) (by exact .inl rfl) (by rfl) (by exact byArgs) (by simp[Sc,sc_pl,sc_ds]) (by exact byAllc) (by exact rfl) (by exact bySc) (by rfl),?_⟩
 refine WA.all [4] (by kernel_rfl) (by simp) ?_;intro i' hi';simp only[List.mem_cons,List.not_mem_nil,or_false] at hi'
 subst hi'
 refine⟨_,_,_,rfl,by rfl,by rfl,MK.ofQC (QC.call [1] (he) (by rfl) (leC leZ) (by exact byArgs) (by simp[Sc,sc_pl,sc_ds])),?_⟩
 refine WA.tail (by rfl) (by rfl) (by kernel_rfl) ?_
 refine WPL.run T false 1 tok (by rfl) (by(simp only[AllP,InR,td1];and_intros<;>first|omega|trivial)) ?_
 rw[td1]
 refine rF ?_
 refine noPan ?_
 exact WP.ret (Ends.val (by rfl) (by exact byObl) (by rfl) (by trivial))
noncomputable def genR (n:Int)(b w:Nat->Nat):Dat:=bif desB n b w then t2 (.i .i64 (genV n.toNat b w)) (.i .i64 0) else t2 (.i .i64 0) (.i .i64 1)
theorem implGenus_fn(n:Int)(b w:Nat->Nat)(hb:∀i,b i<256)(hw:∀i,w i<256):FnP Tryz.prog 12 [ds_ n b w] (genR n b w):=by
 unfold genR
 cases hc:desB n b w
 ·rw[cond_false]
  refine FnS.into T tok Tryz.func12 (by rfl) rfl rfl rfl (by simp) ?_
  refine rS ?_
  refine WP.seq ?_
  refine WP.rw ?_
  refine rU 1 ?_
  refine cA (hc▸implIsDessin_fn n b w hb hw) ?_
  refine rF ?_
  refine cS (λ h=>?_) λ h=>?_
  ·refine rS ?_
   exact WP.ret (Ends.val (by rfl) (by exact byObl) (by rfl) (by exact sc_t2 trivial trivial))
  ·cases h
 ·obtain⟨N,rfl,hD⟩:=des_of_B hc
  rw[cond_true,Int.toNat_natCast]
  have hg:=genus_fn N b w hD
  generalize genV N b w=G at*
  refine FnS.into T tok Tryz.func12 (by rfl) rfl rfl rfl (by simp) ?_
  refine rS ?_
  refine WP.seq ?_
  refine WP.rw ?_
  refine rU 1 ?_
  refine cA (hc▸implIsDessin_fn N b w hb hw) ?_
  refine rF ?_
  refine cF ?_
  refine WP.rw ?_
  refine rU 1 ?_
  refine cA (hg) ?_
  refine rF ?_
  exact WP.ret (Ends.val (by rfl) (by exact byObl) (by rfl) (by exact sc_t2 trivial trivial))
end Go.Proofs.YthjnmlpibafbnaaGreat
