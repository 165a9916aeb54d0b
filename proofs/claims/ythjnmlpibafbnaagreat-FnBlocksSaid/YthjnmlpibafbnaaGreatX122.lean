import Derived.Test.YthjnmlpibafbnaaGreatL45
import Derived.Test.YthjnmlpibafbnaaGreatX119
import Derived.Test.YthjnmlpibafbnaaGreatX62
import Derived.Test.YthjnmlpibafbnaaGreatX105
import Derived.Test.YthjnmlpibafbnaaGreatX147
namespace Go.Proofs.YthjnmlpibafbnaaGreat
open Go.RowKit DM
set_option linter.unusedSimpArgs false
set_option linter.unusedVariables false
set_option maxRecDepth 100000
set_option maxHeartbeats 1000000
def regOf(k:Nat):Code->Option Code
 | .region id ops d=>bif Nat.beq id k then some (.region id ops d) else none
 | .seq a b=>match regOf k a with|some c=>some c|none=>regOf k b
 | .cond _ a b=>match regOf k a with|some c=>some c|none=>regOf k b
 | .block _ c=>regOf k c
 | .loop c=>regOf k c
 | .scope c=>regOf k c
 |_=>none
def regF(f:Func)(k:Nat):Code:=match f.body with|some c=>(match regOf k c with|some d=>d|none=>.skip)|none=>.skip
theorem ren3{τ:Nat->Nat}{a b c a' b' c':Dat}(h1:renD τ a a')(h2:renD τ b b')(h3:renD τ c c'):renD τ (t3 a b c) (t3 a' b' c'):=
 ⟨_,rfl,λ i _=>by
  rcases i with _|_|i
  ·exact h1
  ·exact h2
  ·exact h3⟩
noncomputable def etT (n:Int)(b w:Nat->Nat):Dat×List Root:=
 bif desB n b w then
  bif decide ((5000:Int)<(ordG n.toNat [b,w]:Nat)) then(t3 .ns .ns (.i .i64 3),[])
  else(t3 (.sl 0 0 (etD n.toNat [b,w]).length 1) (.sl 1 0 (etD n.toNat [b,w]).length 1) (.i .i64 0),[.row 30 (etD n.toNat [b,w]).length 1 (rowsR (etD n.toNat [b,w])),.row 2 (etD n.toNat [b,w]).length 1 (numsF (etC n.toNat [b,w]))])
 else(t3 .ns .ns (.i .i64 1),[])
theorem rowsR_join(L K:List (List Nat)){a:Nat}(ha:a=L.length){j:Nat}(hj:j<L.length+K.length)(z:Nat->Dat)(f:Nat->Dat)(hf:∀i,i<a->f i=rowsR L i):rowsR (L++K) j=apF (0+a) (apF 0 z 0 f) 0 (rowsR K) j:=by
 rw[Nat.zero_add]
 unfold rowsR
 simp only[List.getD_eq_getElem?_getD]
 by_cases h1:j<a
 ·rw[ap_lt h1,ap_ge (Nat.not_lt_zero _),Nat.zero_add,Nat.sub_zero,hf j h1]
  unfold rowsR
  simp only[List.getD_eq_getElem?_getD]
  rw[List.getElem?_append_left (by omega)]
 ·rw[ap_ge h1,List.getElem?_append_right (by omega),ha,Nat.zero_add]
theorem numsF_join(L K:List Nat){a:Nat}(ha:a=L.length){j:Nat}(hj:j<L.length+K.length)(z:Nat->Dat)(f:Nat->Dat)(hf:∀i,i<a->f i=numsF L i):numsF (L++K) j=apF (0+a) (apF 0 z 0 f) 0 (numsF K) j:=by
 rw[Nat.zero_add]
 unfold numsF
 simp only[List.getD_eq_getElem?_getD]
 by_cases h1:j<a
 ·rw[ap_lt h1,ap_ge (Nat.not_lt_zero _),Nat.zero_add,Nat.sub_zero,hf j h1]
  unfold numsF
  simp only[List.getD_eq_getElem?_getD]
  rw[List.getElem?_append_left (by omega)]
 ·rw[ap_ge h1,List.getElem?_append_right (by omega),ha,Nat.zero_add]
theorem cons_R(t:List Nat)(D:List (List Nat))(a:Nat)(X g:Nat->Dat)(o:Nat)(hX:X 0=owR t)(hg:∀i,i<D.length-a->g (o+i)=rowsR D (a+i)){j:Nat}(hj:j<1+(D.length-a)):rowsR (t::D.drop a) j=apF 1 X o g j:=by
 cases j with
 |zero=>rw[ap_lt (by omega),hX];rfl
 |succ j=>
  rw[ap_ge (by omega),show j+1-1=j by omega,hg _ (by omega)]
  unfold rowsR
  simp only[List.getD_eq_getElem?_getD]
  rw[List.getElem?_cons_succ,List.getElem?_drop]
theorem cons_R2(t:List Nat)(D:List (List Nat))(a:Nat)(X g:Nat->Dat)(o:Nat)(hg:∀i,i<D.length-a->g (o+i)=rowsR D (a+i)){j:Nat}(hj:j<1+(D.length-a)):rowsR (t::D.drop a) j=fup (apF 1 X o g) 0 (owR t) j:=by
 by_cases h:j=0
 ·subst h;rw[fup_same];rfl
 ·rw[fup_ne _ _ h,cons_R t D a (λ _=>owR t) g o rfl hg hj,ap_ge (by omega),ap_ge (by omega)]
theorem cons_N(t:Nat)(C:List Nat)(a:Nat)(X g:Nat->Dat)(o:Nat)(hX:X 0=.i .i64 (t:Int))(hg:∀i,i<C.length-a->g (o+i)=numsF C (a+i)){j:Nat}(hj:j<1+(C.length-a)):numsF (t::C.drop a) j=apF 1 X o g j:=by
 cases j with
 |zero=>rw[ap_lt (by omega),hX];rfl
 |succ j=>
  rw[ap_ge (by omega),show j+1-1=j by omega,hg _ (by omega)]
  unfold numsF
  simp only[List.getD_eq_getElem?_getD]
  rw[List.getElem?_cons_succ,List.getElem?_drop]
theorem cut6{N:Nat}{b w:Nat->Nat}{E:List (Nat->Nat)}{fr:Nat->Dat}{m:List Root}(x y z:Nat){f8 f9:Nat->Dat}(hd:DM.distinct [0,x,y,z]=true)(h0:m[0]? =some (.var (ds_ N b w)))(h1:m[x]? =some (.row 25 E.length 16 (rowP E)))(h2:m[y]? =some (.row 30 0 1 f8))(h3:m[z]? =some (.row 2 0 1 f9))
  (s1:fr 1=.p 0 [] 0) (s2:fr 6=.sl x 0 E.length 16) (s3:fr 7=.sl y 0 0 1) (s4:fr 8=.sl z 0 0 1):
  Ghost 0 ⟨fr,m⟩ ⟨lst [(1,.p 0 [] 0),(6,.sl 1 0 E.length 16),(7,.sl 2 0 0 1),(8,.sl 3 0 0 1)],[.var (ds_ N b w),.ro E.length 16 (rowP E),.row 30 0 1 (rowsR []),.row 2 0 1 (numsF [])]⟩:=by
 have hSc:∀(k e n:Nat) (L:List (Nat->Nat)),Sc k (.ow e n 16 (rowP L)):=λ k _ _ L j _=>sc_row k L j
 exact Ghost.cut (Nat.le_refl _) (tauOf [0,x,y,z]) _ _ (Taken.of [0,x,y,z] (LeAll.cons h0 (Root.Le.refl _) (by exact byCon) (LeAll.cons h1 (le_frz (Nat.le_refl _) λ _ _=>rfl) (by exact byCon) (LeAll.cons h2 (le_row (Nat.le_refl _) λ j hj=>absurd hj (Nat.not_lt_zero _)) (by exact byCon) (LeAll.cons h3 (le_row (Nat.le_refl _) λ j hj=>absurd hj (Nat.not_lt_zero _)) (by exact byCon) trivial)))) hd rfl)
  (SlotsR.cons s1 (sc_p rfl) (SlotsR.cons s2 (sc_sl rfl) (SlotsR.cons s3 (sc_sl rfl) (SlotsR.cons s4 (sc_sl rfl) trivial))))
theorem cut15{N:Nat}{b w:Nat->Nat}{E:List (Nat->Nat)}{D:List (List Nat)}{Cn own:List Nat}{i a n:Nat}{fr:Nat->Dat}{m:List Root}(x y:Nat){f5 f6:Nat->Dat}(hd:DM.distinct [0,1,2,3,x,y]=true)(h0:m[0]? =some (.var (ds_ N b w)))(h1:m[1]? =some (.ro E.length 16 (rowP E)))(h2:m[2]? =some (.row 30 D.length 1 (rowsR D)))(h3:m[3]? =some (.row 2 D.length 1 (numsF Cn)))
  (h4:m[x]? =some (.row 30 n 1 f5)) (h5:m[y]? =some (.row 2 n 1 f6)) (hn:1+(D.length-a)=n) (g5:∀j,j<1+(D.length-a)->rowsR (own::D.drop a) j=f5 j) (g6:∀j,j<1+(D.length-a)->numsF (1::Cn.drop a) j=f6 j)
  (s1:fr 1=.p 0 [] 0) (s2:fr 6=.sl 1 0 E.length 16) (s3:fr 7=.sl 2 0 D.length 1) (s4:fr 8=.sl 3 0 D.length 1) (s5:fr 9=.i .i64 (i:Int)) (s6:fr 11=.i .i64 ((a:Nat):Int)) (s7:fr 12=.sl x 0 n 1) (s8:fr 13=.sl y 0 n 1):
  Ghost 0 ⟨fr,m⟩ ⟨lst [(1,.p 0 [] 0),(6,.sl 1 0 E.length 16),(7,.sl 2 0 D.length 1),(8,.sl 3 0 D.length 1),(9,.i .i64 (i:Int)),(11,.i .i64 ((a:Nat):Int)),(12,.sl 4 0 (1+(D.length-a)) 1),(13,.sl 5 0 (1+(D.length-a)) 1)],[.var (ds_ N b w),.ro E.length 16 (rowP E),.row 30 D.length 1 (rowsR D),.row 2 D.length 1 (numsF Cn),.row 30 (1+(D.length-a)) 1 (rowsR (own::D.drop a)),.row 2 (1+(D.length-a)) 1 (numsF (1::Cn.drop a))]⟩:=by
 subst hn
 have hSc:∀(k e n:Nat) (L:List (Nat->Nat)),Sc k (.ow e n 16 (rowP L)):=λ k _ _ L j _=>sc_row k L j
 exact Ghost.cut (Nat.le_refl _) (tauOf [0,1,2,3,x,y]) _ _ (Taken.of [0,1,2,3,x,y] (LeAll.cons h0 (Root.Le.refl _) (by exact byCon) (LeAll.cons h1 (Root.Le.refl _) (by exact byCon) (LeAll.cons h2 (Root.Le.refl _) (by exact byCon) (LeAll.cons h3 (Root.Le.refl _) (by exact byCon) (LeAll.cons h4 (le_row (Nat.le_refl _) g5) (by exact byCon) (LeAll.cons h5 (le_row (Nat.le_refl _) g6) (by exact byCon) trivial)))))) hd rfl)
  (SlotsR.cons s1 (sc_p rfl) (SlotsR.cons s2 (sc_sl rfl) (SlotsR.cons s3 (sc_sl rfl) (SlotsR.cons s4 (sc_sl rfl) (SlotsR.cons ⟨s5,by rw[s5];trivial⟩ trivial (SlotsR.cons ⟨s6,by rw[s6];trivial⟩ trivial (SlotsR.cons s7 (sc_sl rfl) (SlotsR.cons s8 (sc_sl rfl) trivial))))))))
theorem e6{N0 n0:Nat}{P:Program}{ops:Array Oper}{listed:Array Bool}{Q:Exit->St->Prop}{N:Nat}{b w:Nat->Nat}{E:List (Nat->Nat)}{fr:Nat->Dat}{m:List Root}(x y z:Nat){f8 f9:Nat->Dat}(hd:DM.distinct [0,x,y,z]=true:=by rfl)(h0:m[0]? =some (.var (ds_ N b w)):=by rfl)(h1:m[x]? =some (.row 25 E.length 16 (rowP E)):=by rfl)(h2:m[y]? =some (.row 30 0 1 f8):=by rfl)(h3:m[z]? =some (.row 2 0 1 f9):=by rfl)(s1:fr 1=.p 0 [] 0:=by rfl)(s2:fr 6=.sl x 0 E.length 16:=by rfl)(s3:fr 7=.sl y 0 0 1:=by rfl)(s4:fr 8=.sl z 0 0 1:=by rfl)(hr:Region.ready .any ops listed=[]:=by kernel_rfl):WA P N0 0 ops (Then (λ s'=>Ghost 0 s' ⟨lst [(1,.p 0 [] 0),(6,.sl 1 0 E.length 16),(7,.sl 2 0 0 1),(8,.sl 3 0 0 1)],[.var (ds_ N b w),.ro E.length 16 (rowP E),.row 30 0 1 (rowsR []),.row 2 0 1 (numsF [])]⟩) Q) n0 0 listed ⟨fr,m⟩:=WA.end rfl hr (noPan (cut6 x y z hd h0 h1 h2 h3 s1 s2 s3 s4))
theorem e15{N0 n0:Nat}{P:Program}{ops:Array Oper}{listed:Array Bool}{Q:Exit->St->Prop}{N:Nat}{b w:Nat->Nat}{E:List (Nat->Nat)}{D:List (List Nat)}{Cn own:List Nat}{i a n:Nat}{fr:Nat->Dat}{m1 m:List Root}{R:Root}{len n' s:Nat}{g f5 f6:Nat->Dat}(x y:Nat)(hn:1+(D.length-a)=n)
 (hk:m1[x]? =some R:=by rfl) (hmi:R.mine=true:=by rfl) (hv:R.navL [0]=some (.sl 4 0 len s):=by first|exact hV|rfl) (hok:FoldOK m1 x 4 0 len n' s g:=by exact⟨Nat.le_refl _,.inl ⟨rfl,rfl,λ _ _=>trivial⟩⟩) (hm':foldM m1 x 4 0 len s R [0] g=m:=by rfl) (hr:Region.ready .any ops listed=[]:=by kernel_rfl)
 (hd:DM.distinct [0,1,2,3,x,y]=true:=by rfl) (h0:m[0]? =some (.var (ds_ N b w)):=by rfl) (h1:m[1]? =some (.ro E.length 16 (rowP E)):=by rfl) (h2:m[2]? =some (.row 30 D.length 1 (rowsR D)):=by rfl) (h3:m[3]? =some (.row 2 D.length 1 (numsF Cn)):=by rfl) (h4:m[x]? =some (.row 30 n 1 f5):=by rfl) (h5:m[y]? =some (.row 2 n 1 f6):=by rfl)
 (g5:∀j,j<1+(D.length-a)->rowsR (own::D.drop a) j=f5 j:=by exact λ j hj=>cons_R2 _ _ _ _ _ _ (by intro i hi;first|(exfalso;omega)|rw[Nat.zero_add]) hj) (g6:∀j,j<1+(D.length-a)->numsF (1::Cn.drop a) j=f6 j:=by exact λ j hj=>cons_N 1 _ _ _ _ _ rfl (by intro i hi;first|(exfalso;omega)|rw[Nat.zero_add]) (by rw[hCl];exact hj))
 (s1:fr 1=.p 0 [] 0:=by rfl) (s2:fr 6=.sl 1 0 E.length 16:=by rfl) (s3:fr 7=.sl 2 0 D.length 1:=by rfl) (s4:fr 8=.sl 3 0 D.length 1:=by rfl) (s5:fr 9=.i .i64 (i:Int):=by rfl) (s6:fr 11=.i .i64 ((a:Nat):Int):=by rfl) (s7:fr 12=.sl x 0 n 1:=by rfl) (s8:fr 13=.sl y 0 n 1:=by rfl):
 WA P N0 0 ops (Then (λ s'=>Ghost 0 s' ⟨lst [(1,.p 0 [] 0),(6,.sl 1 0 E.length 16),(7,.sl 2 0 D.length 1),(8,.sl 3 0 D.length 1),(9,.i .i64 (i:Int)),(11,.i .i64 ((a:Nat):Int)),(12,.sl 4 0 (1+(D.length-a)) 1),(13,.sl 5 0 (1+(D.length-a)) 1)],[.var (ds_ N b w),.ro E.length 16 (rowP E),.row 30 D.length 1 (rowsR D),.row 2 D.length 1 (numsF Cn),.row 30 (1+(D.length-a)) 1 (rowsR (own::D.drop a)),.row 2 (1+(D.length-a)) 1 (numsF (1::Cn.drop a))]⟩) Q) n0 0 listed ⟨fr,m1⟩:=WA.end rfl hr (noPan (Ghost.trans (Ghost.fold x [0] 4 0 hk hmi (by simp) hv hok hm') (cut15 x y hd h0 h1 h2 h3 h4 h5 hn g5 g6 s1 s2 s3 s4 s5 s6 s7 s8)))
theorem wsl{N0 K n0 fuel i:Nat}{Q:Exit->St->Prop}{ops:Array Oper}{listed:Array Bool}{fr:Nat->Dat}{m:List Root}{o:Oper}{t:TypeId}{x y:Operand}{e sz0 by0:Nat}{z0:Dat}{r off len s n:Nat}{kk:IntKind}{f:Nat->Dat}{e':TypeId}{i2:TI}(l:Nat)(k:WA Tryz.prog N0 K ops Q n0 fuel (listed.setIfInBounds i true) ⟨putO fr o.dst (.sl r (off+l) (len-l) s),m⟩)(ho:ops[i]? =some o:=by rfl)(hg:gd ops o fr=some true:=by rfl)(hd:dstOK N0 o.dst=true:=by rfl)(h1:o.op=.slice t x (some y) none none:=by rfl)(ht:T t=some ⟨.slice e,sz0,by0,z0⟩:=by rfl)(hx:ev fr x=.sl r off len s:=by rfl)(hy:ev fr y=.i kk (l:Int):=by rfl)(hi:T e=some i2:=by rfl)(hs:i2.sz=s:=by rfl)(hR:m[r]? =some (.row e' n s f):=by rfl)(hl:l<=len:=by omega)(hh:off+l<n:=by omega):WAE2 Tryz.prog N0 K ops Q n0 fuel listed fr m i:=wo (sll_ok tok h1 ht hx hy hi hs hR hl hh) k ho hg hd
theorem wse{N0 K n0 fuel i:Nat}{Q:Exit->St->Prop}{ops:Array Oper}{listed:Array Bool}{fr:Nat->Dat}{m mm:List Root}{o:Oper}{t:TypeId}{x y:Operand}{e sz0 by0:Nat}{z0:Dat}{r off s n l:Nat}{kk:IntKind}{f:Nat->Dat}{e':TypeId}{i2:TI}(g:Nat->Dat)(k:WA Tryz.prog N0 K ops Q n0 fuel (listed.setIfInBounds i true) ⟨putO fr o.dst (.sl m.length 0 0 s),mm⟩)(ho:ops[i]? =some o:=by rfl)(hg:gd ops o fr=some true:=by rfl)(hd:dstOK N0 o.dst=true:=by rfl)(h1:o.op=.slice t x (some y) none none:=by rfl)(ht:T t=some ⟨.slice e,sz0,by0,z0⟩:=by rfl)(hx:ev fr x=.sl r off l s:=by rfl)(hy:ev fr y=.i kk (l:Int):=by rfl)(hi:T e=some i2:=by rfl)(hs:i2.sz=s:=by rfl)(hR:m[r]? =some (.row e' n s f):=by rfl)(hh:off+l<=n:=by omega)(hm:m++[.ro 0 s g]=mm:=by rfl):WAE2 Tryz.prog N0 K ops Q n0 fuel listed fr m i:=by subst hm;exact wo (sle_ok tok g h1 ht hx hy hi hs hR hh) k ho hg hd
theorem wan{N0 K n0 fuel i:Nat}{Q:Exit->St->Prop}{ops:Array Oper}{listed:Array Bool}{fr:Nat->Dat}{m mm:List Root}{o:Oper}{t:TypeId}{x y:Operand}{e sz0 by0:Nat}{z0:Dat}{r n n' r2 off len n2 s:Nat}{f:Nat->Dat}{i2:TI}{R2:Root}{k2:Nat}(f2:Nat->Dat)(k:WA Tryz.prog N0 K ops Q n0 fuel (listed.setIfInBounds i true) ⟨putO fr o.dst (.sl m.length 0 k2 s),mm⟩)(ho:ops[i]? =some o:=by rfl)(hg:gd ops o fr=some true:=by rfl)(hd:dstOK N0 o.dst=true:=by rfl)(hni:n0<=i:=by decide)(h1:o.op=.call { callee:=.builtin .append,args:=#[x,y],argTypes:=#[t,t] }:=by rfl)(hx:ev fr x=.sl r 0 n s:=by rfl)(hy:ev fr y=.sl r2 off len s:=by rfl)(ht:T t=some ⟨.slice e,sz0,by0,z0⟩:=by rfl)(hi:T e=some i2:=by rfl)(hs:i2.sz=s:=by rfl)(hby:i2.bytes<=4096:=by decide)(hr0:m[r]? =some (.row e n' s f):=by rfl)(hR2:m[r2]? =some R2:=by rfl)(he2:R2.elems=some (n2,s,f2):=by rfl)(hne:r≠r2:=by first|decide|(simp;done))(hpl:∀j,j<n2->NoOwn (f2 j):=by first|exact λ j _=>noOwn_R _|exact λ j hj=>absurd hj (Nat.not_lt_zero _))(hn2:n<=n':=by exact Nat.le_refl _)(hl:off+len<=n2:=by omega)(hb:n+len<=4294967296:=by omega)(hk':n+len=k2:=by rfl)(hm:m.set r .dead++[.row e k2 s (apF n f off f2)]=mm:=by rfl):WAE2 Tryz.prog N0 K ops Q n0 fuel listed fr m i:=wx (ok_app_keepN tok h1 hx hy ht hi hs hby hr0 hR2 he2 hne hpl hn2 hl hb hk' hm) k ho hni hg hd
theorem wak{N0 K n0 fuel i:Nat}{Q:Exit->St->Prop}{ops:Array Oper}{listed:Array Bool}{fr:Nat->Dat}{m mm:List Root}{o:Oper}{t:TypeId}{x y:Operand}{e sz0 by0:Nat}{z0:Dat}{r n n' r2 off len n2 s:Nat}{f:Nat->Dat}{i2:TI}{R2:Root}{k2:Nat}(f2:Nat->Dat)(k:WA Tryz.prog N0 K ops Q n0 fuel (listed.setIfInBounds i true) ⟨putO fr o.dst (.sl m.length 0 k2 s),mm⟩)(ho:ops[i]? =some o:=by rfl)(hg:gd ops o fr=some true:=by rfl)(hd:dstOK N0 o.dst=true:=by rfl)(hni:n0<=i:=by decide)(h1:o.op=.call { callee:=.builtin .append,args:=#[x,y],argTypes:=#[t,t] }:=by rfl)(hx:ev fr x=.sl r 0 n s:=by rfl)(hy:ev fr y=.sl r2 off len s:=by rfl)(ht:T t=some ⟨.slice e,sz0,by0,z0⟩:=by rfl)(hi:T e=some i2:=by rfl)(hs:i2.sz=s:=by rfl)(hby:i2.bytes<=4096:=by decide)(hr0:m[r]? =some (.row e n' s f):=by rfl)(hR2:m[r2]? =some R2:=by rfl)(he2:R2.elems=some (n2,s,f2):=by rfl)(hne:r≠r2:=by first|decide|(simp;done))(hpl:∀j,j<n2->Pl (f2 j):=by first|exact λ j _=>(trivial:Pl (numsF _ j))|exact λ j hj=>absurd hj (Nat.not_lt_zero _))(hn2:n<=n':=by exact Nat.le_refl _)(hl:off+len<=n2:=by omega)(hb:n+len<=4294967296:=by omega)(hk':n+len=k2:=by rfl)(hm:m.set r .dead++[.row e k2 s (apF n f off f2)]=mm:=by rfl):WAE2 Tryz.prog N0 K ops Q n0 fuel listed fr m i:=wx (ok_app_keep tok h1 hx hy ht hi hs hby hr0 hR2 he2 hne hpl hn2 hl hb hk' hm) k ho hni hg hd
set_option maxHeartbeats 20000000 in
theorem reg6{N:Nat}{b w:Nat->Nat}{C:Chn}{E:List (Nat->Nat)}(hN:N<=16)(hE5:E.length<=5000)(hall:FnS Tryz.prog 56 [.p 0 [] 0,.i .i64 ((N:Int)-1),pl (fillF (λ i=>i) N),.ns] [.var (chn N C)] λ r m'=>r=.sl 1 0 E.length 16/\m'=[.var (chn N C),.row 25 E.length 16 (rowP E)]):∀{Q:Exit->St->Prop},WP Tryz.prog Tryz.f23.ntmps 0 (regF Tryz.f23 6) (Then (λ s'=>Ghost 0 s' ⟨lst [(1,.p 0 [] 0),(6,.sl 1 0 E.length 16),(7,.sl 2 0 0 1),(8,.sl 3 0 0 1)],[.var (ds_ N b w),.ro E.length 16 (rowP E),.row 30 0 1 (rowsR []),.row 2 0 1 (numsF [])]⟩) Q) ⟨lst [(1,.p 0 [] 0),(5,.p 1 [] 0)],[.var (ds_ N b w),.var (chn N C)]⟩:=by
 have hSc:∀(k e n:Nat) (L:List (Nat->Nat)),Sc k (.ow e n 16 (rowP L)):=λ k _ _ L j _=>sc_row k L j
 conv in (regF _ _)=>whnf
 intro Q
 refine WP.da (by kernel_rfl) 7 (by kernel_rfl) ?_
 refine wd [0,1,4] 10 ?_
 refine w4 2 5 8 9 (wq ?_) (wq ?_) (wm ?_) (wm ?_)
 ·
  refine wd [3] 8 ?_
  refine w3 5 8 9 (wq ?_) (wm ?_) (wm ?_)
  ·
   refine w3 6 8 9 (wp (l01Same_fn N hN) ?_) (wm ?_) (wm ?_)
   ·
    refine w3 7 8 9 (wn [1] (.sl 2 0 E.length 16) hall (leC leZ) ?_) (wm ?_) (wm ?_)
    ·
     refine wd [10] 4 ?_
     refine w2 8 9 (wm ?_) (wm ?_)
     ·
      refine wd [11] 2 ?_
      refine w1 9 (wm ?_)
      refine wd [12] 0 ?_
      exact e6 2 3 4
     ·
      refine w1 8 (wm ?_)
      refine wd [11,12] 0 ?_
      exact e6 2 4 3
    ·
     refine w2 7 9 (wn [1] (.sl 3 0 E.length 16) hall (leC leZ) ?_) (wm ?_)
     ·
      refine wd [10,11] 2 ?_
      refine w1 9 (wm ?_)
      refine wd [12] 0 ?_
      exact e6 3 2 4
     ·
      refine w1 7 (wn [1] (.sl 4 0 E.length 16) hall (leC leZ) ?_)
      refine wd [10,11,12] 0 ?_
      exact e6 4 2 3
    ·
     refine w2 7 8 (wn [1] (.sl 3 0 E.length 16) hall (leC leZ) ?_) (wm ?_)
     ·
      refine wd [10] 3 ?_
      refine w1 8 (wm ?_)
      refine wd [11,12] 0 ?_
      exact e6 3 4 2
     ·
      refine w1 7 (wn [1] (.sl 4 0 E.length 16) hall (leC leZ) ?_)
      refine wd [10,11,12] 0 ?_
      exact e6 4 3 2
   ·
    refine w2 6 9 (wp (l01Same_fn N hN) ?_) (wm ?_)
    ·
     refine w2 7 9 (wn [1] (.sl 3 0 E.length 16) hall (leC leZ) ?_) (wm ?_)
     ·
      refine wd [10,11] 2 ?_
      refine w1 9 (wm ?_)
      refine wd [12] 0 ?_
      exact e6 3 2 4
     ·
      refine w1 7 (wn [1] (.sl 4 0 E.length 16) hall (leC leZ) ?_)
      refine wd [10,11,12] 0 ?_
      exact e6 4 2 3
    ·
     refine w1 6 (wp (l01Same_fn N hN) ?_)
     refine w1 7 (wn [1] (.sl 4 0 E.length 16) hall (leC leZ) ?_)
     refine wd [10,11,12] 0 ?_
     exact e6 4 2 3
   ·
    refine w2 6 8 (wp (l01Same_fn N hN) ?_) (wm ?_)
    ·
     refine w2 7 8 (wn [1] (.sl 3 0 E.length 16) hall (leC leZ) ?_) (wm ?_)
     ·
      refine wd [10] 3 ?_
      refine w1 8 (wm ?_)
      refine wd [11,12] 0 ?_
      exact e6 3 4 2
     ·
      refine w1 7 (wn [1] (.sl 4 0 E.length 16) hall (leC leZ) ?_)
      refine wd [10,11,12] 0 ?_
      exact e6 4 3 2
    ·
     refine w1 6 (wp (l01Same_fn N hN) ?_)
     refine w1 7 (wn [1] (.sl 4 0 E.length 16) hall (leC leZ) ?_)
     refine wd [10,11,12] 0 ?_
     exact e6 4 3 2
  ·
   refine w2 5 9 (wq ?_) (wm ?_)
   ·
    refine w2 6 9 (wp (l01Same_fn N hN) ?_) (wm ?_)
    ·
     refine w2 7 9 (wn [1] (.sl 3 0 E.length 16) hall (leC leZ) ?_) (wm ?_)
     ·
      refine wd [10,11] 2 ?_
      refine w1 9 (wm ?_)
      refine wd [12] 0 ?_
      exact e6 3 2 4
     ·
      refine w1 7 (wn [1] (.sl 4 0 E.length 16) hall (leC leZ) ?_)
      refine wd [10,11,12] 0 ?_
      exact e6 4 2 3
    ·
     refine w1 6 (wp (l01Same_fn N hN) ?_)
     refine w1 7 (wn [1] (.sl 4 0 E.length 16) hall (leC leZ) ?_)
     refine wd [10,11,12] 0 ?_
     exact e6 4 2 3
   ·
    refine w1 5 (wq ?_)
    refine w1 6 (wp (l01Same_fn N hN) ?_)
    refine w1 7 (wn [1] (.sl 4 0 E.length 16) hall (leC leZ) ?_)
    refine wd [10,11,12] 0 ?_
    exact e6 4 2 3
  ·
   refine w2 5 8 (wq ?_) (wm ?_)
   ·
    refine w2 6 8 (wp (l01Same_fn N hN) ?_) (wm ?_)
    ·
     refine w2 7 8 (wn [1] (.sl 3 0 E.length 16) hall (leC leZ) ?_) (wm ?_)
     ·
      refine wd [10] 3 ?_
      refine w1 8 (wm ?_)
      refine wd [11,12] 0 ?_
      exact e6 3 4 2
     ·
      refine w1 7 (wn [1] (.sl 4 0 E.length 16) hall (leC leZ) ?_)
      refine wd [10,11,12] 0 ?_
      exact e6 4 3 2
    ·
     refine w1 6 (wp (l01Same_fn N hN) ?_)
     refine w1 7 (wn [1] (.sl 4 0 E.length 16) hall (leC leZ) ?_)
     refine wd [10,11,12] 0 ?_
     exact e6 4 3 2
   ·
    refine w1 5 (wq ?_)
    refine w1 6 (wp (l01Same_fn N hN) ?_)
    refine w1 7 (wn [1] (.sl 4 0 E.length 16) hall (leC leZ) ?_)
    refine wd [10,11,12] 0 ?_
    exact e6 4 3 2
 ·
  refine w4 2 6 8 9 (wq ?_) (wp (l01Same_fn N hN) ?_) (wm ?_) (wm ?_)
  ·
   refine wd [3] 7 ?_
   refine w3 6 8 9 (wp (l01Same_fn N hN) ?_) (wm ?_) (wm ?_)
   ·
    refine w3 7 8 9 (wn [1] (.sl 2 0 E.length 16) hall (leC leZ) ?_) (wm ?_) (wm ?_)
    ·
     refine wd [10] 4 ?_
     refine w2 8 9 (wm ?_) (wm ?_)
     ·
      refine wd [11] 2 ?_
      refine w1 9 (wm ?_)
      refine wd [12] 0 ?_
      exact e6 2 3 4
     ·
      refine w1 8 (wm ?_)
      refine wd [11,12] 0 ?_
      exact e6 2 4 3
    ·
     refine w2 7 9 (wn [1] (.sl 3 0 E.length 16) hall (leC leZ) ?_) (wm ?_)
     ·
      refine wd [10,11] 2 ?_
      refine w1 9 (wm ?_)
      refine wd [12] 0 ?_
      exact e6 3 2 4
     ·
      refine w1 7 (wn [1] (.sl 4 0 E.length 16) hall (leC leZ) ?_)
      refine wd [10,11,12] 0 ?_
      exact e6 4 2 3
    ·
     refine w2 7 8 (wn [1] (.sl 3 0 E.length 16) hall (leC leZ) ?_) (wm ?_)
     ·
      refine wd [10] 3 ?_
      refine w1 8 (wm ?_)
      refine wd [11,12] 0 ?_
      exact e6 3 4 2
     ·
      refine w1 7 (wn [1] (.sl 4 0 E.length 16) hall (leC leZ) ?_)
      refine wd [10,11,12] 0 ?_
      exact e6 4 3 2
   ·
    refine w2 6 9 (wp (l01Same_fn N hN) ?_) (wm ?_)
    ·
     refine w2 7 9 (wn [1] (.sl 3 0 E.length 16) hall (leC leZ) ?_) (wm ?_)
     ·
      refine wd [10,11] 2 ?_
      refine w1 9 (wm ?_)
      refine wd [12] 0 ?_
      exact e6 3 2 4
     ·
      refine w1 7 (wn [1] (.sl 4 0 E.length 16) hall (leC leZ) ?_)
      refine wd [10,11,12] 0 ?_
      exact e6 4 2 3
    ·
     refine w1 6 (wp (l01Same_fn N hN) ?_)
     refine w1 7 (wn [1] (.sl 4 0 E.length 16) hall (leC leZ) ?_)
     refine wd [10,11,12] 0 ?_
     exact e6 4 2 3
   ·
    refine w2 6 8 (wp (l01Same_fn N hN) ?_) (wm ?_)
    ·
     refine w2 7 8 (wn [1] (.sl 3 0 E.length 16) hall (leC leZ) ?_) (wm ?_)
     ·
      refine wd [10] 3 ?_
      refine w1 8 (wm ?_)
      refine wd [11,12] 0 ?_
      exact e6 3 4 2
     ·
      refine w1 7 (wn [1] (.sl 4 0 E.length 16) hall (leC leZ) ?_)
      refine wd [10,11,12] 0 ?_
      exact e6 4 3 2
    ·
     refine w1 6 (wp (l01Same_fn N hN) ?_)
     refine w1 7 (wn [1] (.sl 4 0 E.length 16) hall (leC leZ) ?_)
     refine wd [10,11,12] 0 ?_
     exact e6 4 3 2
  ·
   refine w3 2 8 9 (wq ?_) (wm ?_) (wm ?_)
   ·
    refine wd [3] 6 ?_
    refine w3 7 8 9 (wn [1] (.sl 2 0 E.length 16) hall (leC leZ) ?_) (wm ?_) (wm ?_)
    ·
     refine wd [10] 4 ?_
     refine w2 8 9 (wm ?_) (wm ?_)
     ·
      refine wd [11] 2 ?_
      refine w1 9 (wm ?_)
      refine wd [12] 0 ?_
      exact e6 2 3 4
     ·
      refine w1 8 (wm ?_)
      refine wd [11,12] 0 ?_
      exact e6 2 4 3
    ·
     refine w2 7 9 (wn [1] (.sl 3 0 E.length 16) hall (leC leZ) ?_) (wm ?_)
     ·
      refine wd [10,11] 2 ?_
      refine w1 9 (wm ?_)
      refine wd [12] 0 ?_
      exact e6 3 2 4
     ·
      refine w1 7 (wn [1] (.sl 4 0 E.length 16) hall (leC leZ) ?_)
      refine wd [10,11,12] 0 ?_
      exact e6 4 2 3
    ·
     refine w2 7 8 (wn [1] (.sl 3 0 E.length 16) hall (leC leZ) ?_) (wm ?_)
     ·
      refine wd [10] 3 ?_
      refine w1 8 (wm ?_)
      refine wd [11,12] 0 ?_
      exact e6 3 4 2
     ·
      refine w1 7 (wn [1] (.sl 4 0 E.length 16) hall (leC leZ) ?_)
      refine wd [10,11,12] 0 ?_
      exact e6 4 3 2
   ·
    refine w2 2 9 (wq ?_) (wm ?_)
    ·
     refine wd [3] 5 ?_
     refine w2 7 9 (wn [1] (.sl 3 0 E.length 16) hall (leC leZ) ?_) (wm ?_)
     ·
      refine wd [10,11] 2 ?_
      refine w1 9 (wm ?_)
      refine wd [12] 0 ?_
      exact e6 3 2 4
     ·
      refine w1 7 (wn [1] (.sl 4 0 E.length 16) hall (leC leZ) ?_)
      refine wd [10,11,12] 0 ?_
      exact e6 4 2 3
    ·
     refine w1 2 (wq ?_)
     refine wd [3] 4 ?_
     refine w1 7 (wn [1] (.sl 4 0 E.length 16) hall (leC leZ) ?_)
     refine wd [10,11,12] 0 ?_
     exact e6 4 2 3
   ·
    refine w2 2 8 (wq ?_) (wm ?_)
    ·
     refine wd [3] 5 ?_
     refine w2 7 8 (wn [1] (.sl 3 0 E.length 16) hall (leC leZ) ?_) (wm ?_)
     ·
      refine wd [10] 3 ?_
      refine w1 8 (wm ?_)
      refine wd [11,12] 0 ?_
      exact e6 3 4 2
     ·
      refine w1 7 (wn [1] (.sl 4 0 E.length 16) hall (leC leZ) ?_)
      refine wd [10,11,12] 0 ?_
      exact e6 4 3 2
    ·
     refine w1 2 (wq ?_)
     refine wd [3] 4 ?_
     refine w1 7 (wn [1] (.sl 4 0 E.length 16) hall (leC leZ) ?_)
     refine wd [10,11,12] 0 ?_
     exact e6 4 3 2
  ·
   refine w3 2 6 9 (wq ?_) (wp (l01Same_fn N hN) ?_) (wm ?_)
   ·
    refine wd [3] 6 ?_
    refine w2 6 9 (wp (l01Same_fn N hN) ?_) (wm ?_)
    ·
     refine w2 7 9 (wn [1] (.sl 3 0 E.length 16) hall (leC leZ) ?_) (wm ?_)
     ·
      refine wd [10,11] 2 ?_
      refine w1 9 (wm ?_)
      refine wd [12] 0 ?_
      exact e6 3 2 4
     ·
      refine w1 7 (wn [1] (.sl 4 0 E.length 16) hall (leC leZ) ?_)
      refine wd [10,11,12] 0 ?_
      exact e6 4 2 3
    ·
     refine w1 6 (wp (l01Same_fn N hN) ?_)
     refine w1 7 (wn [1] (.sl 4 0 E.length 16) hall (leC leZ) ?_)
     refine wd [10,11,12] 0 ?_
     exact e6 4 2 3
   ·
    refine w2 2 9 (wq ?_) (wm ?_)
    ·
     refine wd [3] 5 ?_
     refine w2 7 9 (wn [1] (.sl 3 0 E.length 16) hall (leC leZ) ?_) (wm ?_)
     ·
      refine wd [10,11] 2 ?_
      refine w1 9 (wm ?_)
      refine wd [12] 0 ?_
      exact e6 3 2 4
     ·
      refine w1 7 (wn [1] (.sl 4 0 E.length 16) hall (leC leZ) ?_)
      refine wd [10,11,12] 0 ?_
      exact e6 4 2 3
    ·
     refine w1 2 (wq ?_)
     refine wd [3] 4 ?_
     refine w1 7 (wn [1] (.sl 4 0 E.length 16) hall (leC leZ) ?_)
     refine wd [10,11,12] 0 ?_
     exact e6 4 2 3
   ·
    refine w2 2 6 (wq ?_) (wp (l01Same_fn N hN) ?_)
    ·
     refine wd [3] 5 ?_
     refine w1 6 (wp (l01Same_fn N hN) ?_)
     refine w1 7 (wn [1] (.sl 4 0 E.length 16) hall (leC leZ) ?_)
     refine wd [10,11,12] 0 ?_
     exact e6 4 2 3
    ·
     refine w1 2 (wq ?_)
     refine wd [3] 4 ?_
     refine w1 7 (wn [1] (.sl 4 0 E.length 16) hall (leC leZ) ?_)
     refine wd [10,11,12] 0 ?_
     exact e6 4 2 3
  ·
   refine w3 2 6 8 (wq ?_) (wp (l01Same_fn N hN) ?_) (wm ?_)
   ·
    refine wd [3] 6 ?_
    refine w2 6 8 (wp (l01Same_fn N hN) ?_) (wm ?_)
    ·
     refine w2 7 8 (wn [1] (.sl 3 0 E.length 16) hall (leC leZ) ?_) (wm ?_)
     ·
      refine wd [10] 3 ?_
      refine w1 8 (wm ?_)
      refine wd [11,12] 0 ?_
      exact e6 3 4 2
     ·
      refine w1 7 (wn [1] (.sl 4 0 E.length 16) hall (leC leZ) ?_)
      refine wd [10,11,12] 0 ?_
      exact e6 4 3 2
    ·
     refine w1 6 (wp (l01Same_fn N hN) ?_)
     refine w1 7 (wn [1] (.sl 4 0 E.length 16) hall (leC leZ) ?_)
     refine wd [10,11,12] 0 ?_
     exact e6 4 3 2
   ·
    refine w2 2 8 (wq ?_) (wm ?_)
    ·
     refine wd [3] 5 ?_
     refine w2 7 8 (wn [1] (.sl 3 0 E.length 16) hall (leC leZ) ?_) (wm ?_)
     ·
      refine wd [10] 3 ?_
      refine w1 8 (wm ?_)
      refine wd [11,12] 0 ?_
      exact e6 3 4 2
     ·
      refine w1 7 (wn [1] (.sl 4 0 E.length 16) hall (leC leZ) ?_)
      refine wd [10,11,12] 0 ?_
      exact e6 4 3 2
    ·
     refine w1 2 (wq ?_)
     refine wd [3] 4 ?_
     refine w1 7 (wn [1] (.sl 4 0 E.length 16) hall (leC leZ) ?_)
     refine wd [10,11,12] 0 ?_
     exact e6 4 3 2
   ·
    refine w2 2 6 (wq ?_) (wp (l01Same_fn N hN) ?_)
    ·
     refine wd [3] 5 ?_
     refine w1 6 (wp (l01Same_fn N hN) ?_)
     refine w1 7 (wn [1] (.sl 4 0 E.length 16) hall (leC leZ) ?_)
     refine wd [10,11,12] 0 ?_
     exact e6 4 3 2
    ·
     refine w1 2 (wq ?_)
     refine wd [3] 4 ?_
     refine w1 7 (wn [1] (.sl 4 0 E.length 16) hall (leC leZ) ?_)
     refine wd [10,11,12] 0 ?_
     exact e6 4 3 2
 ·
  refine w3 2 5 9 (wq ?_) (wq ?_) (wm ?_)
  ·
   refine wd [3] 7 ?_
   refine w2 5 9 (wq ?_) (wm ?_)
   ·
    refine w2 6 9 (wp (l01Same_fn N hN) ?_) (wm ?_)
    ·
     refine w2 7 9 (wn [1] (.sl 3 0 E.length 16) hall (leC leZ) ?_) (wm ?_)
     ·
      refine wd [10,11] 2 ?_
      refine w1 9 (wm ?_)
      refine wd [12] 0 ?_
      exact e6 3 2 4
     ·
      refine w1 7 (wn [1] (.sl 4 0 E.length 16) hall (leC leZ) ?_)
      refine wd [10,11,12] 0 ?_
      exact e6 4 2 3
    ·
     refine w1 6 (wp (l01Same_fn N hN) ?_)
     refine w1 7 (wn [1] (.sl 4 0 E.length 16) hall (leC leZ) ?_)
     refine wd [10,11,12] 0 ?_
     exact e6 4 2 3
   ·
    refine w1 5 (wq ?_)
    refine w1 6 (wp (l01Same_fn N hN) ?_)
    refine w1 7 (wn [1] (.sl 4 0 E.length 16) hall (leC leZ) ?_)
    refine wd [10,11,12] 0 ?_
    exact e6 4 2 3
  ·
   refine w3 2 6 9 (wq ?_) (wp (l01Same_fn N hN) ?_) (wm ?_)
   ·
    refine wd [3] 6 ?_
    refine w2 6 9 (wp (l01Same_fn N hN) ?_) (wm ?_)
    ·
     refine w2 7 9 (wn [1] (.sl 3 0 E.length 16) hall (leC leZ) ?_) (wm ?_)
     ·
      refine wd [10,11] 2 ?_
      refine w1 9 (wm ?_)
      refine wd [12] 0 ?_
      exact e6 3 2 4
     ·
      refine w1 7 (wn [1] (.sl 4 0 E.length 16) hall (leC leZ) ?_)
      refine wd [10,11,12] 0 ?_
      exact e6 4 2 3
    ·
     refine w1 6 (wp (l01Same_fn N hN) ?_)
     refine w1 7 (wn [1] (.sl 4 0 E.length 16) hall (leC leZ) ?_)
     refine wd [10,11,12] 0 ?_
     exact e6 4 2 3
   ·
    refine w2 2 9 (wq ?_) (wm ?_)
    ·
     refine wd [3] 5 ?_
     refine w2 7 9 (wn [1] (.sl 3 0 E.length 16) hall (leC leZ) ?_) (wm ?_)
     ·
      refine wd [10,11] 2 ?_
      refine w1 9 (wm ?_)
      refine wd [12] 0 ?_
      exact e6 3 2 4
     ·
      refine w1 7 (wn [1] (.sl 4 0 E.length 16) hall (leC leZ) ?_)
      refine wd [10,11,12] 0 ?_
      exact e6 4 2 3
    ·
     refine w1 2 (wq ?_)
     refine wd [3] 4 ?_
     refine w1 7 (wn [1] (.sl 4 0 E.length 16) hall (leC leZ) ?_)
     refine wd [10,11,12] 0 ?_
     exact e6 4 2 3
   ·
    refine w2 2 6 (wq ?_) (wp (l01Same_fn N hN) ?_)
    ·
     refine wd [3] 5 ?_
     refine w1 6 (wp (l01Same_fn N hN) ?_)
     refine w1 7 (wn [1] (.sl 4 0 E.length 16) hall (leC leZ) ?_)
     refine wd [10,11,12] 0 ?_
     exact e6 4 2 3
    ·
     refine w1 2 (wq ?_)
     refine wd [3] 4 ?_
     refine w1 7 (wn [1] (.sl 4 0 E.length 16) hall (leC leZ) ?_)
     refine wd [10,11,12] 0 ?_
     exact e6 4 2 3
  ·
   refine w2 2 5 (wq ?_) (wq ?_)
   ·
    refine wd [3] 6 ?_
    refine w1 5 (wq ?_)
    refine w1 6 (wp (l01Same_fn N hN) ?_)
    refine w1 7 (wn [1] (.sl 4 0 E.length 16) hall (leC leZ) ?_)
    refine wd [10,11,12] 0 ?_
    exact e6 4 2 3
   ·
    refine w2 2 6 (wq ?_) (wp (l01Same_fn N hN) ?_)
    ·
     refine wd [3] 5 ?_
     refine w1 6 (wp (l01Same_fn N hN) ?_)
     refine w1 7 (wn [1] (.sl 4 0 E.length 16) hall (leC leZ) ?_)
     refine wd [10,11,12] 0 ?_
     exact e6 4 2 3
    ·
     refine w1 2 (wq ?_)
     refine wd [3] 4 ?_
     refine w1 7 (wn [1] (.sl 4 0 E.length 16) hall (leC leZ) ?_)
     refine wd [10,11,12] 0 ?_
     exact e6 4 2 3
 ·
  refine w3 2 5 8 (wq ?_) (wq ?_) (wm ?_)
  ·
   refine wd [3] 7 ?_
   refine w2 5 8 (wq ?_) (wm ?_)
   ·
    refine w2 6 8 (wp (l01Same_fn N hN) ?_) (wm ?_)
    ·
     refine w2 7 8 (wn [1] (.sl 3 0 E.length 16) hall (leC leZ) ?_) (wm ?_)
     ·
      refine wd [10] 3 ?_
      refine w1 8 (wm ?_)
      refine wd [11,12] 0 ?_
      exact e6 3 4 2
     ·
      refine w1 7 (wn [1] (.sl 4 0 E.length 16) hall (leC leZ) ?_)
      refine wd [10,11,12] 0 ?_
      exact e6 4 3 2
    ·
     refine w1 6 (wp (l01Same_fn N hN) ?_)
     refine w1 7 (wn [1] (.sl 4 0 E.length 16) hall (leC leZ) ?_)
     refine wd [10,11,12] 0 ?_
     exact e6 4 3 2
   ·
    refine w1 5 (wq ?_)
    refine w1 6 (wp (l01Same_fn N hN) ?_)
    refine w1 7 (wn [1] (.sl 4 0 E.length 16) hall (leC leZ) ?_)
    refine wd [10,11,12] 0 ?_
    exact e6 4 3 2
  ·
   refine w3 2 6 8 (wq ?_) (wp (l01Same_fn N hN) ?_) (wm ?_)
   ·
    refine wd [3] 6 ?_
    refine w2 6 8 (wp (l01Same_fn N hN) ?_) (wm ?_)
    ·
     refine w2 7 8 (wn [1] (.sl 3 0 E.length 16) hall (leC leZ) ?_) (wm ?_)
     ·
      refine wd [10] 3 ?_
      refine w1 8 (wm ?_)
      refine wd [11,12] 0 ?_
      exact e6 3 4 2
     ·
      refine w1 7 (wn [1] (.sl 4 0 E.length 16) hall (leC leZ) ?_)
      refine wd [10,11,12] 0 ?_
      exact e6 4 3 2
    ·
     refine w1 6 (wp (l01Same_fn N hN) ?_)
     refine w1 7 (wn [1] (.sl 4 0 E.length 16) hall (leC leZ) ?_)
     refine wd [10,11,12] 0 ?_
     exact e6 4 3 2
   ·
    refine w2 2 8 (wq ?_) (wm ?_)
    ·
     refine wd [3] 5 ?_
     refine w2 7 8 (wn [1] (.sl 3 0 E.length 16) hall (leC leZ) ?_) (wm ?_)
     ·
      refine wd [10] 3 ?_
      refine w1 8 (wm ?_)
      refine wd [11,12] 0 ?_
      exact e6 3 4 2
     ·
      refine w1 7 (wn [1] (.sl 4 0 E.length 16) hall (leC leZ) ?_)
      refine wd [10,11,12] 0 ?_
      exact e6 4 3 2
    ·
     refine w1 2 (wq ?_)
     refine wd [3] 4 ?_
     refine w1 7 (wn [1] (.sl 4 0 E.length 16) hall (leC leZ) ?_)
     refine wd [10,11,12] 0 ?_
     exact e6 4 3 2
   ·
    refine w2 2 6 (wq ?_) (wp (l01Same_fn N hN) ?_)
    ·
     refine wd [3] 5 ?_
     refine w1 6 (wp (l01Same_fn N hN) ?_)
     refine w1 7 (wn [1] (.sl 4 0 E.length 16) hall (leC leZ) ?_)
     refine wd [10,11,12] 0 ?_
     exact e6 4 3 2
    ·
     refine w1 2 (wq ?_)
     refine wd [3] 4 ?_
     refine w1 7 (wn [1] (.sl 4 0 E.length 16) hall (leC leZ) ?_)
     refine wd [10,11,12] 0 ?_
     exact e6 4 3 2
  ·
   refine w2 2 5 (wq ?_) (wq ?_)
   ·
    refine wd [3] 6 ?_
    refine w1 5 (wq ?_)
    refine w1 6 (wp (l01Same_fn N hN) ?_)
    refine w1 7 (wn [1] (.sl 4 0 E.length 16) hall (leC leZ) ?_)
    refine wd [10,11,12] 0 ?_
    exact e6 4 3 2
   ·
    refine w2 2 6 (wq ?_) (wp (l01Same_fn N hN) ?_)
    ·
     refine wd [3] 5 ?_
     refine w1 6 (wp (l01Same_fn N hN) ?_)
     refine w1 7 (wn [1] (.sl 4 0 E.length 16) hall (leC leZ) ?_)
     refine wd [10,11,12] 0 ?_
     exact e6 4 3 2
    ·
     refine w1 2 (wq ?_)
     refine wd [3] 4 ?_
     refine w1 7 (wn [1] (.sl 4 0 E.length 16) hall (leC leZ) ?_)
     refine wd [10,11,12] 0 ?_
     exact e6 4 3 2
end Go.Proofs.YthjnmlpibafbnaaGreat
