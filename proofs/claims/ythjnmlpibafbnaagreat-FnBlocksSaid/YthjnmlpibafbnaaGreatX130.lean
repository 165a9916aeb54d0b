import Derived.Test.YthjnmlpibafbnaaGreatD31
import Derived.Test.YthjnmlpibafbnaaGreatD34
namespace Go.Proofs.YthjnmlpibafbnaaGreat
open Go.RowKit DM
set_option linter.unusedSimpArgs false
set_option linter.unusedVariables false
set_option maxRecDepth 100000
set_option maxHeartbeats 1000000
def byF(g:Nat->Nat)(j:Nat):Dat:=.i .u8 ((g j:Nat):Int)
def srcf(len:Nat)(g:Nat->Nat)(a:Nat)(h:Int):Nat->Dat
 |0=>.ow 0 len 1 (byF g)
 |1=>.i .i64 (a:Int)
 |2=>.i .u64 h
 |_=>.un
def srcD(len:Nat)(g:Nat->Nat)(a:Nat)(h:Int):Dat:=.st 3 (srcf len g a h)
theorem sc_src(k len:Nat)(g:Nat->Nat)(a:Nat)(h:Int):Sc k (srcD len g a h):=λ i _=>by
 rcases i with _|_|_|i
 ·exact λ _ _=>trivial
 ·trivial
 ·trivial
 ·trivial
theorem srcf_h(len:Nat)(g:Nat->Nat)(a:Nat)(h h1:Int):fup (srcf len g a h) 2 (.i .u64 h1)=srcf len g a h1:=by
 funext i
 rcases i with _|_|_|i<;>rfl
theorem srcf_a(len:Nat)(g:Nat->Nat)(a a1:Nat)(h:Int):fup (srcf len g a h) 1 (.i .i64 (a1:Int))=srcf len g a1 h:=by
 funext i
 rcases i with _|_|_|i<;>rfl
theorem draw_rng(Y:Int):0<=IntKind.i64.wrap (IntKind.u64.wrap (((BitVec.ofInt IntKind.u64.bits Y&&& BitVec.ofInt IntKind.u64.bits 16777215).toNat:Nat):Int))/\IntKind.i64.wrap (IntKind.u64.wrap (((BitVec.ofInt IntKind.u64.bits Y&&& BitVec.ofInt IntKind.u64.bits 16777215).toNat:Nat):Int))<=16777215:=by
 have h1:(BitVec.ofInt 64 Y&&& BitVec.ofInt 64 16777215).toNat<=16777215:=by
  rw[BitVec.toNat_and]
  exact Nat.and_le_right
 have e0:(BitVec.ofInt IntKind.u64.bits Y&&& BitVec.ofInt IntKind.u64.bits 16777215).toNat=(BitVec.ofInt 64 Y&&& BitVec.ofInt 64 16777215).toNat:=rfl
 rw[e0]
 generalize (BitVec.ofInt 64 Y&&& BitVec.ofInt 64 16777215).toNat=v at*
 have e1:IntKind.u64.wrap ((v:Nat):Int)=(v:Int):=wrap_of_InR (k:=.u64) (show(0:Int)<=_/\_<=(18446744073709551615:Int) from⟨by omega,by omega⟩)
 have e2:IntKind.i64.wrap ((v:Nat):Int)=(v:Int):=wrap_of_InR (k:=.i64) (show(-9223372036854775808:Int)<=_/\_<=(9223372036854775807:Int) from⟨by omega,by omega⟩)
 rw[e1,e2]
 omega
theorem l01Next_fn(len:Nat)(g:Nat->Nat)(hg:∀j,g j<256)(a:Nat)(h:Int)(n:Int)(ha:a<=len)(hl:len<=4294967296):
  FnS Tryz.prog 31 [.p 0 [] 0,.i .i64 n] [.var (srcD len g a h)] λ r m'=>∃(x:Int) (a':Nat) (h':Int),r=.i .i64 x/\(1<=n->0<=x/\x<n)/\(n<1->x=0)/\a'<=len/\m'=[.var (srcD len g a' h')]:=by
 have hSc:∀(k:Nat) (h:Int),Sc k (srcD len g a h):=λ k h=>sc_src k len g a h
 refine FnS.intoE T tok Tryz.func31 (by rfl) rfl rfl rfl (by simp) ?_
 refine rS ?_
 refine WP.seq ?_
 refine rS ?_
 refine cS (λ hn=>?_) λ hn=>?_
 ·have hn:=of_decide_eq_true hn
  refine rS ?_
  exact WP.ret (Ends.newE [0] (⟨0,a,h,rfl,λ h=>by omega,λ _=>rfl,ha,rfl⟩) (.inl rfl) (by rfl) (by exact byObl) (leC leZ) rfl rfl (⟨rfl,trivial⟩) (trivial))
 have hn:=of_decide_eq_false hn
 refine WP.rs T true tok (by rfl) (by exact byObl) ?_
 refine WP.rs T true tok (by rfl) (by exact byObl) ?_
 have hX:=draw_rng ((IntKind.u64.wrap (IntKind.u64.wrap (h*6364136223846793005)+1442695040888963407)).fdiv (2 ^ min (Int.toNat 33) IntKind.u64.bits))
 generalize IntKind.i64.wrap (IntKind.u64.wrap (((BitVec.ofInt IntKind.u64.bits ((IntKind.u64.wrap (IntKind.u64.wrap (h*6364136223846793005)+1442695040888963407)).fdiv (2 ^ min (Int.toNat 33) IntKind.u64.bits))&&& BitVec.ofInt IntKind.u64.bits 16777215).toNat:Nat):Int))=X at*
 obtain⟨hX0,hX1⟩:=hX
 refine WP.ghost (gC [0] (LeAll.cons (by rfl) (by first|with_reducible exact Root.Le.refl _|with_reducible exact le_dead|(exact le_var (congrArg (Dat.st 3) (srcf_h len g a h _).symm))|exact byLeq) (by exact byCon) (leZ)) (l:=[(0,.p 0 [] 0),(1,.i .i64 n),(5,.i .i64 X)]) (m':=[.var (srcD len g a (IntKind.u64.wrap (IntKind.u64.wrap (h*6364136223846793005)+1442695040888963407)))])) ?_
 generalize IntKind.u64.wrap (IntKind.u64.wrap (h*6364136223846793005)+1442695040888963407)=h1 at*
 have fin:∀Y:Int,0<=Y->1<=n->0<=Y.tmod n/\Y.tmod n<n:=λ Y h0 h1=>⟨Int.tmod_nonneg _ h0,Int.tmod_lt_of_pos _ (by omega)⟩
 refine WP.seq ?_
 refine WP.seq ?_
 refine WP.drawsQ (by kernel_rfl) (by kernel_rfl) ?_
 refine WQ.fin T false tok (by rfl) (by rfl) (by exact byObl) ?_
 refine cQ (λ hc=>?_) λ hc=>?_
 ·have hc:=of_decide_eq_true hc
  have hgb:=hg (addrAt 0 ((a:Nat):Int).toNat)
  have hgb2:=hg a
  have hSc:∀(k:Nat) (h:Int),Sc k (srcD len g (a+1) h):=λ k h=>sc_src k len g (a+1) h
  refine WP.seq ?_
  refine WP.da (by kernel_rfl) 13 (by kernel_rfl) ?_
  refine WA.takes T false tok [0,1,2,3,4,5,6,7,8,9,10,11] (f':=2) (by kernel_rfl) (by rfl) (by rfl) (by rfl) (by exact byObl) (by rfl) (by rfl) ?_
  refine WA.takes T false tok [12] (f':=1) (by kernel_rfl) (by rfl) (by rfl) (by rfl) (by exact byObl) (by rfl) (by rfl) ?_
  refine WA.tail (by rfl) (by rfl) (by kernel_rfl) ?_
  refine rF ?_
  refine noPan ?_
  refine rE ?_
  refine rS ?_
  exact WP.ret (Ends.newE [0] (⟨_,a+1,h1,rfl,λ h=>fin (X+(g (addrAt 0 ((a:Nat):Int).toNat):Nat)) (by omega) h,λ h=>absurd h hn,by omega,rfl⟩) (.inl rfl) (by rfl) (by exact byObl) (LeAll.cons (by rfl) (by first|with_reducible exact Root.Le.refl _|with_reducible exact le_dead|(exact le_var (congrArg (Dat.st 3) (srcf_a len g a (a+1) h1).symm))|exact byLeq) (by exact byCon) (leZ)) rfl rfl (⟨rfl,trivial⟩) (trivial))
 ·refine WP.skip ?_
  refine rS ?_
  exact WP.ret (Ends.newE [0] (⟨X.tmod n,a,h1,rfl,λ h=>fin X hX0 h,λ h=>absurd h hn,ha,rfl⟩) (.inl rfl) (by rfl) (by exact byObl) (leC leZ) rfl rfl (⟨rfl,trivial⟩) (trivial))
theorem l01Pick_fn(len:Nat)(g:Nat->Nat)(hg:∀j,g j<256)(a:Nat)(h:Int)(k:Nat)(F:Nat->Int)(hk:1<=k)(hk2:k<=1000)(ha:a<=len)(hl:len<=4294967296):
  FnS Tryz.prog 68 [.p 0 [] 0,.sl 1 0 k 1] [.var (srcD len g a h),.row 2 k 1 (λ j=>.i .i64 (F j))] λ r m'=>∃(j:Nat) (a':Nat) (h':Int),r=.i .i64 (F j)/\j<k/\a'<=len/\m'=[.var (srcD len g a' h'),.row 2 k 1 (λ j=>.i .i64 (F j))]:=by
 have hSc:∀(k:Nat) (h:Int),Sc k (srcD len g a h):=λ k h=>sc_src k len g a h
 have hnx:=l01Next_fn len g hg a h (k:Int) ha hl
 refine FnS.intoE T tok Tryz.func68 (by rfl) rfl rfl rfl (by simp) ?_
 refine rS ?_
 refine WP.rw ?_
 refine rU 4 ?_
 refine WPL.callE [0] (hnx) (leC leZ) (by rfl) (by rfl) (by exact byArgs) (by rfl) (by rfl) (by simp[Sc,sc_pl,sc_ds]) ?_
 rintro _ _ ⟨x,a',h',rfl,hx1,_,ha',rfl⟩
 obtain⟨h0,h1⟩:=hx1 (by omega)
 obtain⟨j,rfl⟩:∃j:Nat,x=j:=⟨x.toNat,by omega⟩
 refine⟨⟨λ d hd=>by cases hd;exact sc_src _ _ _ _ _,trivial⟩,.i .i64 (j:Int),⟨rfl,trivial⟩,trivial,?_⟩
 refine WPL.mem (by rfl) ?_
 have hSc:∀(k:Nat) (h:Int),Sc k (srcD len g a' h):=λ k h=>sc_src k len g a' h
 refine rF ?_
 exact WP.ret (Ends.newE [0,1] (⟨j,a',h',rfl,by omega,ha',rfl⟩) (.inl rfl) (by rfl) (by exact byObl) (leC (leC leZ)) rfl rfl (⟨rfl,trivial⟩) (trivial))
theorem l01From_fn(len:Nat)(g:Nat->Nat)(hg:∀j,g j<256)(hl:len<=4294967296):
  FnS Tryz.prog 29 [.sl 0 0 len 1] [.ro len 1 (byF g)] λ r m'=>r=.p 1 [] 0/\∃h':Int,m'=[.ro len 1 (byF g),.var (srcD len g 0 h')]:=by
 have hSc:∀(k:Nat) (h:Int),Sc k (srcD len g 0 h):=λ k h=>sc_src k len g 0 h
 refine FnS.intoE T tok Tryz.func29 (by rfl) rfl rfl rfl (by simp) ?_
 refine rS ?_
 refine WP.rs T true tok (by rfl) (by exact byObl) ?_
 refine WP.ghost (Ghost.fold 1 [0] 0 0 (by rfl) (by rfl) (by simp) (by rfl) ⟨Nat.le_refl _,.inl ⟨rfl,rfl,λ _ _=>trivial⟩⟩ (by rfl)) ?_
 refine WP.seq ?_
 refine rS ?_
 refine WP.block ?_
 refine WP.loopH (⟨λ z:Nat×Int=>z.1<=len,λ z=>[(0,.sl 0 0 len 1),(3,.p 1 [] 0),(4,.i .i64 (z.1:Int))],λ z=>[.ro len 1 (byF g),.var (srcD len g 0 z.2)],λ z=>len-z.1⟩) ((0,IntKind.u64.wrap (8117+IntKind.u64.wrap (len:Int)))) (Nat.zero_le _) (gC [0,1] (by repeat (first|exact trivial|(refine lC ?_ ?_;first|exact byLz|(exact le_var (congrArg (Dat.st 3) (funext λ i=>by rcases i with _|_|_|i<;>rfl)))|exact byLeq)))) ?_
 rintro⟨i,h⟩ hi
 dsimp only at hi
 dsimp only[Hd.at]
 refine WP.seq ?_
 refine WP.rw ?_
 refine rU 4 ?_
 cases hc:decide ((i:Int)<len)
 ·refine rF ?_
  refine cI (λ h2=>?_) λ h2=>?_
  ·cases h2
  refine rS ?_
  exact WP.ret (Ends.newE [0,1] (⟨rfl,h,rfl⟩) (.inl rfl) (by rfl) (by exact byObl) (leC (leC leZ)) rfl rfl (rfl) (sc_p rfl))
 ·have hi2:i<len:=by have:=of_decide_eq_true hc;omega
  refine rF ?_
  refine cI (λ h2=>?_) λ h2=>?_
  ·have hgb:=hg (addrAt 0 ((i:Nat):Int).toNat)
   have hgb2:=hg i
   refine WP.seq (WP.block ?_)
   refine WP.da (by kernel_rfl) 13 (by kernel_rfl) ?_
   refine WA.takes T true tok [0,1,2,3,4,5,6,7,8,9,10,11] (f':=4) (by kernel_rfl) (by rfl) (by rfl) (by rfl) (by exact byObl) (by rfl) (by rfl) ?_
   refine WA.takes T true tok [12] (f':=3) (by kernel_rfl) (by rfl) (by rfl) (by rfl) (by exact byObl) (by rfl) (by rfl) ?_
   refine WA.tail (by rfl) (by rfl) (by kernel_rfl) ?_
   refine rF ?_
   refine noPan ?_
   refine rE ?_
   refine Again.next ((i+1,IntKind.u64.wrap (IntKind.u64.wrap (IntKind.u64.wrap (h*1099511628211)+IntKind.u64.wrap ((g i:Nat):Int))+23))) (gC [0,1] (by repeat (first|exact trivial|(refine lC ?_ ?_;first|exact byLz|(exact le_var (congrArg (Dat.st 3) (srcf_h len g 0 h _).symm))|exact byLeq)))) (hi2) (by dsimp only;omega)
  ·refine rS ?_
   exact WP.ret (Ends.newE [0,1] (⟨rfl,h,rfl⟩) (.inl rfl) (by rfl) (by exact byObl) (leC (leC leZ)) rfl rfl (rfl) (sc_p rfl))
end Go.Proofs.YthjnmlpibafbnaaGreat
