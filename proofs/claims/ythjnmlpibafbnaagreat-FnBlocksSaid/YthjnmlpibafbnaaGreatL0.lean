import Derived.Test.YthjnmlpibafbnaaGreatD17
import Derived.Test.YthjnmlpibafbnaaGreatTy
namespace Go.Proofs.YthjnmlpibafbnaaGreat
open Go.RowKit DM
theorem byAllc{p:Prop}(h:p:=by repeat (first|exact trivial|(refine⟨(by intro d hd;first|(cases hd;done)|(cases hd;(first|trivial|exact sc_p rfl|exact hSc _ _|exact sc_prv _ _|exact sc_prUv _ _|exact sc_prUr _ _ _ _|exact sc_prUF _ _ _ _|exact sc_grid _ _|exact sc_qrU _ _ _|exact sc_prow _ _ _ _|exact sc_sl rfl|exact sc_pl _ _|exact sc_ds _ _ _ _|exact λ _ _=>trivial|exact λ _ _ _ _=>trivial|(refine sc_t3 ?_ ?_ ?_<;>first|trivial|exact sc_sl rfl|exact sc_pl _ _|exact sc_ds _ _ _ _)|(refine sc_t2 ?_ ?_<;>first|trivial|exact sc_sl rfl|exact sc_pl _ _|exact sc_ds _ _ _ _|exact sc_grid _ _)|exact sc_gr _ _ _ _|exact sc_rwP _ _ _ _|exact sc_ch _ _ _))),?_⟩))):p:=h
theorem byArgs{p:Prop}(h:p:=by repeat (first|exact trivial|(refine ArgsR.cons ?_ (by rfl) ?_)|exact(show _=_/\_ from⟨rfl,by first|trivial|exact sc_pl _ _|exact sc_ds _ _ _ _|exact sc_prUv _ _|exact sc_qrU _ _ _|exact sc_two|exact λ i hi=>absurd hi (Nat.not_lt_zero _)⟩)|exact(show _=_ from rfl))):p:=h
theorem byCon{p:Prop}(h:p:=by intro d hd;first|(cases hd;done)|(cases hd;(first|trivial|exact sc_p rfl|exact hSc _ _|exact sc_prv _ _|exact sc_prUv _ _|exact sc_prUr _ _ _ _|exact sc_prUF _ _ _ _|exact sc_grid _ _|exact sc_qrU _ _ _|exact sc_prow _ _ _ _|exact sc_sl rfl|exact sc_pl _ _|exact sc_ds _ _ _ _|exact λ _ _=>trivial|exact λ _ _ _ _=>trivial|(refine sc_t3 ?_ ?_ ?_<;>first|trivial|exact sc_sl rfl|exact sc_pl _ _|exact sc_ds _ _ _ _)|(refine sc_t2 ?_ ?_<;>first|trivial|exact sc_sl rfl|exact sc_pl _ _|exact sc_ds _ _ _ _|exact sc_grid _ _)|exact sc_gr _ _ _ _|exact sc_rwP _ _ _ _|exact sc_ch _ _ _))):p:=h
theorem byLeq{p:Prop}(h:p:=by first|exact le_var (by first|rfl|(simp only[upd,pl,bl,ds_,dsf,cast1,Int.toNat_natCast,fup_u8,fup_b,fup_i64,dsf_up0,dsf_up1,dsf_up2];done)|(simp only[upd,pl,bl,ds_,dsf,cast1,Int.toNat_natCast,fup_u8,fup_b,fup_i64,dsf_up0,dsf_up1,dsf_up2];rfl))|exact le_row (Nat.le_refl _) (λ _ _=>rfl)|exact le_ro (Nat.le_refl _) (λ _ _=>rfl)|exact le_frz (Nat.le_refl _) (λ _ _=>rfl)):p:=h
theorem byObl{p:Prop}(h:p:=by first|trivial|(simp only[Int.toNat_natCast,addrAt0,List.nil_append,List.cons_append,List.append_nil,AllP,plE,InR,Root.holds,Root.readL]<;>and_intros<;>first|omega|assumption|(show _<=_;omega)|(show _<_;omega)|(show _≠_;omega)|exact rfl|trivial|exact pl_ds _ _ _|exact pl_prI _ _|exact pl_prU _ _|exact pl_prUv _|exact pl_qrU _ _|exact pl_grid _|exact pl_two|exact λ _ _=>pl_prU _ _|exact λ _ _ _ _=>pl_prU _ _|exact pl_prv _|exact λ _ _=>pl_prI _ _|exact λ _ _=>pl_prv _|exact pl_st3 trivial (pl_pl _) (pl_pl _)|exact λ _ _=>trivial|exact λ i h=>sc_ds _ _ _ _ i h)):p:=h
theorem bySc{p:Prop}(h:p:=by(first|trivial|exact sc_p rfl|exact hSc _ _|exact sc_prv _ _|exact sc_prUv _ _|exact sc_prUr _ _ _ _|exact sc_prUF _ _ _ _|exact sc_grid _ _|exact sc_qrU _ _ _|exact sc_prow _ _ _ _|exact sc_sl rfl|exact sc_pl _ _|exact sc_ds _ _ _ _|exact λ _ _=>trivial|exact λ _ _ _ _=>trivial|(refine sc_t3 ?_ ?_ ?_<;>first|trivial|exact sc_sl rfl|exact sc_pl _ _|exact sc_ds _ _ _ _)|(refine sc_t2 ?_ ?_<;>first|trivial|exact sc_sl rfl|exact sc_pl _ _|exact sc_ds _ _ _ _|exact sc_grid _ _)|exact sc_gr _ _ _ _|exact sc_rwP _ _ _ _|exact sc_ch _ _ _)):p:=h
theorem bySlots{p:Prop}(h:p:=by repeat (first|exact trivial|(refine SlotsR.cons ?_ ?_ ?_)|exact(show _=_/\_ from⟨rfl,by(first|trivial|exact sc_p rfl|exact hSc _ _|exact sc_prv _ _|exact sc_prUv _ _|exact sc_prUr _ _ _ _|exact sc_prUF _ _ _ _|exact sc_grid _ _|exact sc_qrU _ _ _|exact sc_prow _ _ _ _|exact sc_sl rfl|exact sc_pl _ _|exact sc_ds _ _ _ _|exact λ _ _=>trivial|exact λ _ _ _ _=>trivial|(refine sc_t3 ?_ ?_ ?_<;>first|trivial|exact sc_sl rfl|exact sc_pl _ _|exact sc_ds _ _ _ _)|(refine sc_t2 ?_ ?_<;>first|trivial|exact sc_sl rfl|exact sc_pl _ _|exact sc_ds _ _ _ _|exact sc_grid _ _)|exact sc_gr _ _ _ _|exact sc_rwP _ _ _ _|exact sc_ch _ _ _)⟩)|exact(show _=_ from rfl)|(first|trivial|exact sc_p rfl|exact hSc _ _|exact sc_prv _ _|exact sc_prUv _ _|exact sc_prUr _ _ _ _|exact sc_prUF _ _ _ _|exact sc_grid _ _|exact sc_qrU _ _ _|exact sc_prow _ _ _ _|exact sc_sl rfl|exact sc_pl _ _|exact sc_ds _ _ _ _|exact λ _ _=>trivial|exact λ _ _ _ _=>trivial|(refine sc_t3 ?_ ?_ ?_<;>first|trivial|exact sc_sl rfl|exact sc_pl _ _|exact sc_ds _ _ _ _)|(refine sc_t2 ?_ ?_<;>first|trivial|exact sc_sl rfl|exact sc_pl _ _|exact sc_ds _ _ _ _|exact sc_grid _ _)|exact sc_gr _ _ _ _|exact sc_rwP _ _ _ _|exact sc_ch _ _ _)|(focus (apply renD_len;rotate_left;exact(show _=_ from rfl);first|exact hLen|exact hLen.symm))|(focus (apply renD_len;rotate_left;exact(show _=_ from rfl);simp;done))|(focus (apply renD_int;rotate_left;exact(show _=_/\_ from⟨rfl,trivial⟩);simp;done)))):p:=h
theorem byVareq{p:Prop}(h:p:=by first|rfl|(simp only[upd,pl,bl,ds_,dsf,cast1,Int.toNat_natCast,fup_u8,fup_b,fup_i64,dsf_up0,dsf_up1,dsf_up2];done)|(simp only[upd,pl,bl,ds_,dsf,cast1,Int.toNat_natCast,fup_u8,fup_b,fup_i64,dsf_up0,dsf_up1,dsf_up2];rfl)):p:=h
theorem leZ{k:Nat}{m:List Root}:LeAll k m [] []:=trivial
theorem cF{P:Program}{N K:Nat}{Q:Exit->St->Prop}{fr:Nat->Dat}{m:List Root}{c:Operand}{x:Code}(k:Q .normal ⟨fr,m⟩)(h:ev fr c=.b false:=by rfl):WP P N K (.cond c x .skip) Q ⟨fr,m⟩:=WP.cond h (λ h=>by cases h) (λ _=>WP.skip k)
theorem cT{P:Program}{N K:Nat}{Q:Exit->St->Prop}{fr:Nat->Dat}{m:List Root}{c:Operand}{x y:Code}(k:WP P N K x Q ⟨fr,m⟩)(h:ev fr c=.b true:=by rfl):WP P N K (.cond c x y) Q ⟨fr,m⟩:=WP.cond h (λ _=>k) (λ h=>by cases h)
theorem cS{P:Program}{N K:Nat}{Q:Exit->St->Prop}{fr:Nat->Dat}{m:List Root}{c:Operand}{x:Code}{b:Bool}(ht:b=true->WP P N K x Q ⟨fr,m⟩)(hf:b=false->Q .normal ⟨fr,m⟩)(h:ev fr c=.b b:=by rfl):WP P N K (.cond c x .skip) Q ⟨fr,m⟩:=WP.cond h ht (λ h=>WP.skip (hf h))
theorem cQ{P:Program}{N K:Nat}{Q:Exit->St->Prop}{fr:Nat->Dat}{m:List Root}{c:Operand}{x y:Code}{b:Bool}(ht:b=true->WP P N K x Q ⟨fr,m⟩)(hf:b=false->WP P N K y Q ⟨fr,m⟩)(h:ev fr c=.b b:=by rfl):WP P N K (.cond c x y) Q ⟨fr,m⟩:=WP.cond h ht hf
theorem cI{P:Program}{N K:Nat}{Q:Exit->St->Prop}{fr:Nat->Dat}{m:List Root}{c:Operand}{b:Bool}{i:Nat}(ht:b=true->Q .normal ⟨fr,m⟩)(hf:b=false->Q (.exit i) ⟨fr,m⟩)(h:ev fr c=.b b:=by rfl):WP P N K (.cond c .skip (.exit i)) Q ⟨fr,m⟩:=WP.cond h (λ h=>WP.skip (ht h)) (λ h=>WP.exit (hf h))
theorem lC{k:Nat}{m:List Root}{t:Nat}{ts:List Nat}{R R0:Root}{l:List Root}(h2:R0.Le R)(h:LeAll k m ts l)(h1:m[t]? =some R0:=by rfl)(h3:∀d,R.con=some d->Sc k d:=by exact byCon):LeAll k m (t::ts) (R::l):=LeAll.cons h1 h2 h3 h
theorem byLz{p:Prop}(h:p:=by first|with_reducible exact Root.Le.refl _|with_reducible exact le_dead):p:=h
theorem leC{k:Nat}{m:List Root}{t:Nat}{ts:List Nat}{R R0:Root}{l:List Root}(h:LeAll k m ts l)(h1:m[t]? =some R0:=by rfl)(h2:R0.Le R:=by first|with_reducible exact Root.Le.refl _|with_reducible exact le_dead|exact byLeq|exact le_var (dsf_of rfl rfl rfl λ _=>rfl).symm)(h3:∀d,R.con=some d->Sc k d:=by exact byCon):LeAll k m (t::ts) (R::l):=LeAll.cons h1 h2 h3 h
theorem rS{N K:Nat}{Q:Exit->St->Prop}{fr fr':Nat->Dat}{m m':List Root}{id:Nat}{l:List Oper}{y:Code}{ps:List Prop}(k:WP Tryz.prog N K y Q ⟨fr',m'⟩)(h:evF T false N l.toArray l fr m []=some (ps,⟨fr',m'⟩):=by rfl)(hp:AllP ps:=by exact byObl):WP Tryz.prog N K (.seq (.region id l.toArray false) y) Q ⟨fr,m⟩:=WP.rs T false tok h hp k
theorem rU{N K:Nat}{Q:Exit->St->Prop}{fr fr':Nat->Dat}{m m':List Root}{ops:Array Oper}{l:List Oper}{ps:List Prop}(n:Nat)(k:WPL Tryz.prog N K ops Q (l.drop n) ⟨fr',m'⟩)(h:evF T false N ops (l.take n) fr m []=some (ps,⟨fr',m'⟩):=by rfl)(hp:AllP ps:=by exact byObl):WPL Tryz.prog N K ops Q l ⟨fr,m⟩:=WPL.run T false n tok h hp k
theorem rF{N K:Nat}{Q:Exit->St->Prop}{fr fr':Nat->Dat}{m m':List Root}{ops:Array Oper}{l:List Oper}{ps:List Prop}(k:Q .normal ⟨fr',m'⟩)(h:evF T false N ops l fr m []=some (ps,⟨fr',m'⟩):=by rfl)(hp:AllP ps:=by exact byObl):WPL Tryz.prog N K ops Q l ⟨fr,m⟩:=WPL.fin T false tok h hp k
theorem rE{N K:Nat}{Q:Exit->St->Prop}{fr fr':Nat->Dat}{m m':List Root}{id:Nat}{l:List Oper}{ps:List Prop}(k:Q .normal ⟨fr',m'⟩)(h:evF T false N l.toArray l fr m []=some (ps,⟨fr',m'⟩):=by rfl)(hp:AllP ps:=by exact byObl):WP Tryz.prog N K (.region id l.toArray false) Q ⟨fr,m⟩:=WP.run T false tok h hp k
theorem cA{N K:Nat}{Q:Exit->St->Prop}{fr:Nat->Dat}{m:List Root}{ops:Array Oper}{dst:Tmp}{f:FuncId}{args:List Operand}{tys:Array TypeId}{t:TypeId}{pos:String}{after:Array Edge}{gg:Option (Nat×Bool)}{rest:List Oper}{xs:List Dat}{r:Dat}(h:FnP Tryz.prog f xs r)(k:WPL Tryz.prog N K ops Q rest ⟨fup fr dst r,m⟩)(hx:args.map (ev fr)=xs:=by rfl)(hg:gd ops { dst:=some dst,op:=.call { callee:=.value (.func f),args:=args.toArray,argTypes:=tys },type:=t,pos:=pos,after:=after,guard:=gg } fr=some true:=by rfl)(hd:Nat.blt dst N=true:=by rfl)(hsc:∀x∈xs,Sc 0 x/\x≠.un:=by simp[Sc,sc_pl,sc_ds,pl_ne,ds_ne]):WPL Tryz.prog N K ops Q ({ dst:=some dst,op:=.call { callee:=.value (.func f),args:=args.toArray,argTypes:=tys },type:=t,pos:=pos,after:=after,guard:=gg }::rest) ⟨fr,m⟩:=WPL.call h hx hg hd hsc k
theorem cN{N K:Nat}{Q:Exit->St->Prop}{fr:Nat->Dat}{m:List Root}{ops:Array Oper}{dst:Tmp}{f:FuncId}{args:List Operand}{tys:Array TypeId}{t:TypeId}{pos:String}{after:Array Edge}{gg:Option (Nat×Bool)}{rest:List Oper}{xs:List Dat}{m0 m1 mm:List Root}{r0:Dat}(ts:List Nat)(r':Dat)(h:FnS Tryz.prog f xs m0 λ r m'=>r=r0/\m'=m1)(hl:LeAll 0 m ts m0)(hr:renD (invT ts m.length) r0 r')(k:WPL Tryz.prog N K ops Q rest ⟨fup fr dst r',mm⟩)(hk:sameKind m ts m0=true:=by rfl)(hdi:DM.distinct ts=true:=by rfl)(hx:ArgsR (tauOf ts) fr xs args:=by exact byArgs)(hg:gd ops { dst:=some dst,op:=.call { callee:=.value (.func f),args:=args.toArray,argTypes:=tys },type:=t,pos:=pos,after:=after,guard:=gg } fr=some true:=by rfl)(hd:Nat.blt dst N=true:=by rfl)(hsc:∀x∈xs,Sc m0.length x:=by simp[Sc,sc_pl,sc_ds])(hc:AllC0 m1:=by exact byAllc)(hs:Sc (putBack m ts m0 m1).length r':=by exact bySc)(hm:putBack m ts m0 m1=mm:=by rfl):WPL Tryz.prog N K ops Q ({ dst:=some dst,op:=.call { callee:=.value (.func f),args:=args.toArray,argTypes:=tys },type:=t,pos:=pos,after:=after,guard:=gg }::rest) ⟨fr,m⟩:=WPL.callN ts r' h hl hk hdi hx hg hd hsc hc hr hs hm k
theorem cR{N K:Nat}{Q:Exit->St->Prop}{fr:Nat->Dat}{m:List Root}{ops:Array Oper}{dst:Tmp}{f:FuncId}{args:List Operand}{tys:Array TypeId}{t:TypeId}{pos:String}{after:Array Edge}{gg:Option (Nat×Bool)}{rest:List Oper}{xs:List Dat}{m0:List Root}{r:Dat}(ts:List Nat)(h:FnR Tryz.prog f xs m0 r)(hl:LeAll 0 m ts m0)(k:WPL Tryz.prog N K ops Q rest ⟨fup fr dst r,m⟩)(hn:noMine m0=true:=by rfl)(hx:ArgsR (tauOf ts) fr xs args:=by exact byArgs)(hg:gd ops { dst:=some dst,op:=.call { callee:=.value (.func f),args:=args.toArray,argTypes:=tys },type:=t,pos:=pos,after:=after,guard:=gg } fr=some true:=by rfl)(hd:Nat.blt dst N=true:=by rfl)(hsc:∀x∈xs,Sc m0.length x:=by simp[Sc,sc_pl,sc_ds]):WPL Tryz.prog N K ops Q ({ dst:=some dst,op:=.call { callee:=.value (.func f),args:=args.toArray,argTypes:=tys },type:=t,pos:=pos,after:=after,guard:=gg }::rest) ⟨fr,m⟩:=WPL.callR ts h hn hl hx hg hd hsc k
theorem gC{K:Nat}{fr:Nat->Dat}{m:List Root}(ts:List Nat){m':List Root}(h:LeAll K m ts m'){l:List (Nat×Dat)}(hd:DM.distinct ts=true:=by rfl)(hs:startsWith K 0 ts=true:=by rfl)(hl:SlotsR (tauOf ts) m'.length fr l:=by exact bySlots):Ghost K ⟨fr,m⟩ ⟨lst l,m'⟩:=Ghost.cut (Nat.le_refl _) (tauOf ts) l m' (Taken.of ts h hd hs) hl
def pl(p:Nat->Nat):Dat:=.ar 16 1 λ i=>.i .u8 (p i)
def bl(p:Nat->Bool):Dat:=.ar 16 1 λ i=>.b (p i)
def dsf(n:Int)(b w:Nat->Nat):Nat->Dat
 |0=>.i .i64 n
 |1=>pl b
 |2=>pl w
 |_=>.un
def ds_(n:Int)(b w:Nat->Nat):Dat:=.st 3 (dsf n b w)
def up{α:Type}(f:Nat->α)(k:Nat)(v:α):Nat->α:=λ i=>if i=k then v else f i
theorem up_same{α:Type}(f:Nat->α)(k:Nat)(v:α):up f k v k=v:=by simp[up]
theorem up_ne{α:Type}(f:Nat->α){k i:Nat}(v:α)(h:i≠k):up f k v i=f i:=by simp[up,h]
theorem fup_u8(f:Nat->Nat)(k v:Nat):fup (λ i=>.i .u8 ((f i:Nat):Int)) k (.i .u8 ((v:Nat):Int))=λ i=>.i .u8 ((up f k v i:Nat):Int):=by
 funext i
 by_cases h:i=k
 ·subst h;rw[fup_same,up_same]
 ·rw[fup_ne _ _ h,up_ne _ _ h]
theorem fup_b(f:Nat->Bool)(k:Nat)(v:Bool):fup (λ i=>.b (f i)) k (.b v)=λ i=>.b (up f k v i):=by
 funext i
 by_cases h:i=k
 ·subst h;rw[fup_same,up_same]
 ·rw[fup_ne _ _ h,up_ne _ _ h]
theorem fup_i64(f:Nat->Int)(k:Nat)(v:Int):fup (λ i=>.i .i64 (f i)) k (.i .i64 v)=λ i=>.i .i64 (up f k v i):=by
 funext i
 by_cases h:i=k
 ·subst h;rw[fup_same,up_same]
 ·rw[fup_ne _ _ h,up_ne _ _ h]
theorem sc_pl(n:Nat)(p:Nat->Nat):Sc n (pl p):=λ _ _=>trivial
def Pre(n:Nat)(p:Nat->Nat)(k:Nat):Prop:=∀i,i<k->(i<n->p i<n/\∀j,j<i->p j≠p i)/\(n<=i->p i=0)
noncomputable def permB (p:Nat->Nat)(n:Int):Bool:=@decide ((1<=n/\n<=16)/\Pre n.toNat p 16) (Classical.propDecidable _)
theorem permB_true{p:Nat->Nat}{n:Nat}(h1:1<=n)(h2:n<=16)(h:Pre n p 16):permB p n=true:=by
 exact @decide_eq_true _ (Classical.propDecidable _) ⟨⟨by omega,by omega⟩,by simpa using h⟩
theorem permB_false{p:Nat->Nat}{n:Int}(h:(1<=n/\n<=16)->¬Pre n.toNat p 16):permB p n=false:=by
 exact @decide_eq_false _ (Classical.propDecidable _) λ h1=>h h1.1 h1.2
def Met(n:Nat)(p:Nat->Nat)(k:Nat)(met:Nat->Bool):Prop:=∀v,met v=true↔∃i,i<k/\i<n/\p i=v
theorem Met.step{n:Nat}{p:Nat->Nat}{k:Nat}{met:Nat->Bool}(h:Met n p k met)(hk:k<n):Met n p (k+1) (up met (p k) true):=by
 intro v
 by_cases e:v=p k
 ·subst e;rw[up_same];exact⟨λ _=>⟨k,by omega,hk,rfl⟩,λ _=>rfl⟩
 ·rw[up_ne _ _ e,h v]
  constructor
  ·rintro⟨i,h1,h2,h3⟩;exact⟨i,by omega,h2,h3⟩
  ·rintro⟨i,h1,h2,h3⟩
   refine⟨i,?_,h2,h3⟩
   have:i≠k:=λ e2=>e (by rw[<-h3,e2])
   omega
theorem Met.over{n:Nat}{p:Nat->Nat}{k:Nat}{met:Nat->Bool}(h:Met n p k met)(hk:n<=k):Met n p (k+1) met:=by
 intro v
 rw[h v]
 constructor
 ·rintro⟨i,h1,h2,h3⟩;exact⟨i,by omega,h2,h3⟩
 ·rintro⟨i,h1,h2,h3⟩;exact⟨i,by omega,h2,h3⟩
theorem Pre.step{n:Nat}{p:Nat->Nat}{k:Nat}{met:Nat->Bool}(h:Pre n p k)(hm:Met n p k met)(hk:k<n)(h1:p k<n)(h2:met (p k)=false):Pre n p (k+1):=by
 intro i hi
 by_cases e:i=k
 ·subst e
  refine⟨λ _=>⟨h1,λ j hj he=>?_⟩,λ h3=>by omega⟩
  have:met (p i)=true:=(hm _).2 ⟨j,hj,by omega,he⟩
  rw[h2] at this;cases this
 ·exact h i (by omega)
theorem Pre.over{n:Nat}{p:Nat->Nat}{k:Nat}(h:Pre n p k)(hk:n<=k)(h1:p k=0):Pre n p (k+1):=by
 intro i hi
 by_cases e:i=k
 ·subst e;exact⟨λ h3=>by omega,λ _=>h1⟩
 ·exact h i (by omega)
theorem not_pre_met{n:Nat}{p:Nat->Nat}{k:Nat}{met:Nat->Bool}(hm:Met n p k met)(hk:k<n)(h16:k<16)(h2:met (p k)=true):¬Pre n p 16:=by
 intro h
 obtain⟨i,h3,h4,h5⟩:=(hm _).1 h2
 exact((h k h16).1 hk).2 i h3 h5
theorem sc_ds(k:Nat)(n:Int)(b w:Nat->Nat):Sc k (ds_ n b w):=λ i h=>match i,h with
 |0,_=>trivial
 |1,_=>sc_pl _ _
 |2,_=>sc_pl _ _
 |i+3,h=>absurd h (by omega)
theorem pl_pl(p:Nat->Nat):Pl (pl p):=λ _ _=>trivial
theorem pl_ds(n:Int)(b w:Nat->Nat):Pl (ds_ n b w):=λ i h=>match i,h with
 |0,_=>trivial
 |1,_=>pl_pl _
 |2,_=>pl_pl _
 |i+3,h=>absurd h (by omega)
theorem pl_st3{f:Nat->Dat}(h0:Pl (f 0))(h1:Pl (f 1))(h2:Pl (f 2)):Pl (.st 3 f):=λ i h=>match i,h with
 |0,_=>h0
 |1,_=>h1
 |2,_=>h2
 |i+3,h=>absurd h (by omega)
theorem dsf_of{f:Nat->Dat}{n:Int}{b w:Nat->Nat}(h0:f 0=.i .i64 n)(h1:f 1=pl b)(h2:f 2=pl w)(h3:∀i,f (i+3)=.un):Dat.st 3 f=ds_ n b w:=by
 unfold ds_
 congr 1
 funext i
 match i with
 |0=>exact h0
 |1=>exact h1
 |2=>exact h2
 |i+3=>exact h3 i
theorem dsf_up0(n m:Int)(b w:Nat->Nat):fup (dsf n b w) 0 (.i .i64 m)=dsf m b w:=by
 funext i
 match i with
 |0=>rfl
 |1=>rfl
 |2=>rfl
 |i+3=>rfl
theorem dsf_up1(n:Int)(b w b':Nat->Nat):fup (dsf n b w) 1 (.ar 16 1 λ i=>.i .u8 ((b' i:Nat):Int))=dsf n b' w:=by
 funext i
 match i with
 |0=>rfl
 |1=>rfl
 |2=>rfl
 |i+3=>rfl
theorem dsf_up2(n:Int)(b w w':Nat->Nat):fup (dsf n b w) 2 (.ar 16 1 λ i=>.i .u8 ((w' i:Nat):Int))=dsf n b w':=by
 funext i
 match i with
 |0=>rfl
 |1=>rfl
 |2=>rfl
 |i+3=>rfl
theorem pl_ne(p:Nat->Nat):pl p≠.un:=by intro h;cases h
theorem ds_ne(n:Int)(b w:Nat->Nat):ds_ n b w≠.un:=by intro h;cases h
theorem cast1(k:Nat):((k:Int))+1=((k+1:Nat):Int):=rfl
theorem mem2{a a' b b':Dat}(h:a=a')(h2:b=b'):[Root.var a,Root.var b]=[Root.var a',Root.var b']:=by rw[h,h2]
theorem flat1(g:Nat->Value):∀(l:List Nat),(l.flatMap λ i=>[g i])=l.map g
 |[]=>rfl
 |x::l=>by simp[flat1 g l]
theorem cells_pl(ρ:Rho)(A:List Nat->RV)(p:Nat->Nat):cells ρ A (pl p)=(List.range 16).map λ i=>.int .u8 ((p i:Nat):Int):=flat1 (λ i=>.int .u8 ((p i:Nat):Int)) _
theorem fup_fup(f:Nat->Dat)(i:Nat)(a b:Dat):fup (fup f i a) i b=fup f i b:=by
 funext j
 by_cases h:j=i
 ·subst h;rw[fup_same,fup_same]
 ·rw[fup_ne _ _ h,fup_ne _ _ h,fup_ne _ _ h]
theorem fup_self{f:Nat->Dat}{i:Nat}{a:Dat}(h:f i=a):fup f i a=f:=by
 funext j
 by_cases e:j=i
 ·subst e;rw[fup_same,h]
 ·rw[fup_ne _ _ e]
end Go.Proofs.YthjnmlpibafbnaaGreat
