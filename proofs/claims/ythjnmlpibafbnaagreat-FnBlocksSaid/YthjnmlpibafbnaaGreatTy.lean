/-The types that the functions use,for the data machine (printed by a program of this work).-/
import Derived.Test.YthjnmlpibafbnaaGreatD12
import Derived.Test.YthjnmlpibafbnaaGreatProg
import Derived.KernelRfl
namespace Go.Proofs.YthjnmlpibafbnaaGreat.DM
open Go.RowKit

/--int64-/
def ti2:TI:=⟨.int .i64,1,8,.i .i64 0⟩
/--int-/
def ti3:TI:=⟨.int .i64,1,8,.i .i64 0⟩
/--bool-/
def ti4:TI:=⟨.bool,1,1,.b false⟩
/--uint8-/
def ti5:TI:=⟨.int .u8,1,1,.i .u8 0⟩
/--string-/
def ti9:TI:=⟨.str,1,16,.s ⟨#[]⟩⟩
/--int32-/
def ti21:TI:=⟨.int .i32,1,4,.i .i32 0⟩
/--[]uint8-/
def ti22:TI:=⟨.slice 5,1,24,.ns⟩
/--[16]uint8-/
def ti24:TI:=⟨.arr 16 5,16,16,.ar 16 1 (λ _=>.i .u8 0)⟩
/--impl.Places-/
def ti25:TI:=⟨.arr 16 5,16,16,.ar 16 1 (λ _=>.i .u8 0)⟩
/--struct ( Darts int64;Black impl.Places;White impl.Places )-/
def ti26:TI:=⟨.st [(2,0),(25,1),(25,17)],33,40,.st 3 (λ i=>match i with|0=>.i .i64 0|1=>.ar 16 1 (λ _=>.i .u8 0)|2=>.ar 16 1 (λ _=>.i .u8 0)|_=>.un)⟩
/--impl.Dessin-/
def ti27:TI:=⟨.st [(2,0),(25,1),(25,17)],33,40,.st 3 (λ i=>match i with|0=>.i .i64 0|1=>.ar 16 1 (λ _=>.i .u8 0)|2=>.ar 16 1 (λ _=>.i .u8 0)|_=>.un)⟩
/--[]int64-/
def ti30:TI:=⟨.slice 2,1,24,.ns⟩
/--[][]int64-/
def ti43:TI:=⟨.slice 30,1,24,.ns⟩
/--*spec.l01Source-/
def ti52:TI:=⟨.ptr 89,1,8,.np⟩
/--uint32-/
def ti59:TI:=⟨.int .u32,1,4,.i .u32 0⟩
/--[]uint32-/
def ti60:TI:=⟨.slice 59,1,24,.ns⟩
/--[]impl.Places-/
def ti61:TI:=⟨.slice 25,1,24,.ns⟩
/--*impl.group-/
def ti74:TI:=⟨.ptr 117,1,8,.np⟩
/--*spec.l03Chain-/
def ti79:TI:=⟨.ptr 123,1,8,.np⟩
/--uint64-/
def ti87:TI:=⟨.int .u64,1,8,.i .u64 0⟩
/--struct ( code []uint8;at int;hash uint64 )-/
def ti88:TI:=⟨.st [(22,0),(3,1),(87,2)],3,40,.st 3 (λ i=>match i with|0=>.ns|1=>.i .i64 0|2=>.i .u64 0|_=>.un)⟩
/--spec.l01Source-/
def ti89:TI:=⟨.st [(22,0),(3,1),(87,2)],3,40,.st 3 (λ i=>match i with|0=>.ns|1=>.i .i64 0|2=>.i .u64 0|_=>.un)⟩
/--uint-/
def ti94:TI:=⟨.int .u64,1,8,.i .u64 0⟩
/--impl.classes-/
def ti95:TI:=⟨.slice 2,1,24,.ns⟩
/--[2]int64-/
def ti97:TI:=⟨.arr 2 2,2,16,.ar 2 1 (λ _=>.i .i64 0)⟩
/--[][2]int64-/
def ti98:TI:=⟨.slice 97,1,24,.ns⟩
/--[16]int64-/
def ti101:TI:=⟨.arr 16 2,16,128,.ar 16 1 (λ _=>.i .i64 0)⟩
/--[16]bool-/
def ti106:TI:=⟨.arr 16 4,16,16,.ar 16 1 (λ _=>.b false)⟩
/--[16]impl.Places-/
def ti113:TI:=⟨.arr 16 25,256,256,.ar 16 16 (λ _=>.ar 16 1 (λ _=>.i .u8 0))⟩
/--[16][16]impl.Places-/
def ti114:TI:=⟨.arr 16 113,4096,4096,.ar 16 256 (λ _=>.ar 16 16 (λ _=>.ar 16 1 (λ _=>.i .u8 0)))⟩
/--[16][16]bool-/
def ti115:TI:=⟨.arr 16 106,256,256,.ar 16 16 (λ _=>.ar 16 1 (λ _=>.b false))⟩
/--struct ( n int64;table [16][16]impl.Places;has [16][16]bool )-/
def ti116:TI:=⟨.st [(2,0),(114,1),(115,4097)],4353,4360,.st 3 (λ i=>match i with|0=>.i .i64 0|1=>.ar 16 256 (λ _=>.ar 16 16 (λ _=>.ar 16 1 (λ _=>.i .u8 0)))|2=>.ar 16 16 (λ _=>.ar 16 1 (λ _=>.b false))|_=>.un)⟩
/--impl.group-/
def ti117:TI:=⟨.st [(2,0),(114,1),(115,4097)],4353,4360,.st 3 (λ i=>match i with|0=>.i .i64 0|1=>.ar 16 256 (λ _=>.ar 16 16 (λ _=>.ar 16 1 (λ _=>.i .u8 0)))|2=>.ar 16 16 (λ _=>.ar 16 1 (λ _=>.b false))|_=>.un)⟩
/--[16][]impl.Places-/
def ti121:TI:=⟨.arr 16 61,16,384,.ar 16 1 (λ _=>.ns)⟩
/--struct ( size int64;gens [16][]impl.Places;has [16][16]bool;by[16][16]impl.Places )-/
def ti122:TI:=⟨.st [(2,0),(121,1),(115,17),(114,273)],4369,4744,.st 4 (λ i=>match i with|0=>.i .i64 0|1=>.ar 16 1 (λ _=>.ns)|2=>.ar 16 16 (λ _=>.ar 16 1 (λ _=>.b false))|3=>.ar 16 256 (λ _=>.ar 16 16 (λ _=>.ar 16 1 (λ _=>.i .u8 0)))|_=>.un)⟩
/--spec.l03Chain-/
def ti123:TI:=⟨.st [(2,0),(121,1),(115,17),(114,273)],4369,4744,.st 4 (λ i=>match i with|0=>.i .i64 0|1=>.ar 16 1 (λ _=>.ns)|2=>.ar 16 16 (λ _=>.ar 16 1 (λ _=>.b false))|3=>.ar 16 256 (λ _=>.ar 16 16 (λ _=>.ar 16 1 (λ _=>.i .u8 0)))|_=>.un)⟩
/--[17]int64-/
def ti124:TI:=⟨.arr 17 2,17,136,.ar 17 1 (λ _=>.i .i64 0)⟩
/--slices.sortedHint-/
def ti132:TI:=⟨.int .i64,1,8,.i .i64 0⟩
/--slices.xorshift-/
def ti149:TI:=⟨.int .u64,1,8,.i .u64 0⟩
/--*int-/
def ti153:TI:=⟨.ptr 3,1,8,.np⟩
/--*slices.xorshift-/
def ti157:TI:=⟨.ptr 149,1,8,.np⟩
/--*uint8-/
def ti178:TI:=⟨.ptr 5,1,8,.np⟩

def T:TyEnv:=λ t=>match t with
 |2=>some ti2
 |3=>some ti3
 |4=>some ti4
 |5=>some ti5
 |9=>some ti9
 |21=>some ti21
 |22=>some ti22
 |24=>some ti24
 |25=>some ti25
 |26=>some ti26
 |27=>some ti27
 |30=>some ti30
 |43=>some ti43
 |52=>some ti52
 |59=>some ti59
 |60=>some ti60
 |61=>some ti61
 |74=>some ti74
 |79=>some ti79
 |87=>some ti87
 |88=>some ti88
 |89=>some ti89
 |94=>some ti94
 |95=>some ti95
 |97=>some ti97
 |98=>some ti98
 |101=>some ti101
 |106=>some ti106
 |113=>some ti113
 |114=>some ti114
 |115=>some ti115
 |116=>some ti116
 |117=>some ti117
 |121=>some ti121
 |122=>some ti122
 |123=>some ti123
 |124=>some ti124
 |132=>some ti132
 |149=>some ti149
 |153=>some ti153
 |157=>some ti157
 |178=>some ti178
 |_=>none

theorem ti2_ok:ti2.ok Go.Proofs.Tryz.prog 2:=⟨(by kernel_rfl:Go.Proofs.Tryz.prog.underlying 2=some (.int .i64)),by kernel_rfl,trivial,trivial,trivial,by rfl,by decide,by rfl,λ h=>by cases h⟩
theorem ti3_ok:ti3.ok Go.Proofs.Tryz.prog 3:=⟨(by kernel_rfl:Go.Proofs.Tryz.prog.underlying 3=some (.int .i64)),by kernel_rfl,trivial,trivial,trivial,by rfl,by decide,by rfl,λ h=>by cases h⟩
theorem ti4_ok:ti4.ok Go.Proofs.Tryz.prog 4:=⟨(by kernel_rfl:Go.Proofs.Tryz.prog.underlying 4=some (.bool)),by kernel_rfl,trivial,trivial,trivial,by rfl,by decide,by rfl,λ h=>by cases h⟩
theorem ti5_ok:ti5.ok Go.Proofs.Tryz.prog 5:=⟨(by kernel_rfl:Go.Proofs.Tryz.prog.underlying 5=some (.int .u8)),by kernel_rfl,trivial,trivial,trivial,by rfl,by decide,by rfl,λ h=>by cases h⟩
theorem ti9_ok:ti9.ok Go.Proofs.Tryz.prog 9:=⟨(by kernel_rfl:Go.Proofs.Tryz.prog.underlying 9=some (.string)),by kernel_rfl,trivial,trivial,trivial,by rfl,by decide,by rfl,λ h=>by cases h⟩
theorem ti21_ok:ti21.ok Go.Proofs.Tryz.prog 21:=⟨(by kernel_rfl:Go.Proofs.Tryz.prog.underlying 21=some (.int .i32)),by kernel_rfl,trivial,trivial,trivial,by rfl,by decide,by rfl,λ h=>by cases h⟩
theorem ti22_ok:ti22.ok Go.Proofs.Tryz.prog 22:=⟨(by kernel_rfl:Go.Proofs.Tryz.prog.underlying 22=some (.slice 5)),by kernel_rfl,trivial,trivial,trivial,by rfl,by decide,by rfl,λ h=>by cases h⟩
theorem ti24_ok:ti24.ok Go.Proofs.Tryz.prog 24:=⟨(by kernel_rfl:Go.Proofs.Tryz.prog.underlying 24=some (.array 16 5)),by kernel_rfl,λ _ _=>⟨rfl,trivial⟩,λ _ _=>trivial,λ _ _=>trivial,by rfl,by decide,by rfl,λ _=>by kernel_rfl⟩
theorem ti25_ok:ti25.ok Go.Proofs.Tryz.prog 25:=⟨(by kernel_rfl:Go.Proofs.Tryz.prog.underlying 25=some (.array 16 5)),by kernel_rfl,λ _ _=>⟨rfl,trivial⟩,λ _ _=>trivial,λ _ _=>trivial,by rfl,by decide,by rfl,λ _=>by kernel_rfl⟩
theorem ti26_ok:ti26.ok Go.Proofs.Tryz.prog 26:=⟨fits_st (by kernel_rfl:(Go.Proofs.Tryz.prog.underlying 26).map stOf=some [(2,0),(25,1),(25,17)]) (by simp),by kernel_rfl,(λ i h=>match i,h with|0,_=>trivial|1,_=>λ _ _=>⟨rfl,trivial⟩|2,_=>λ _ _=>⟨rfl,trivial⟩|j+3,h=>absurd h (by omega)),(λ i h=>match i,h with|0,_=>trivial|1,_=>λ _ _=>trivial|2,_=>λ _ _=>trivial|j+3,h=>absurd h (by omega)),(λ i h=>match i,h with|0,_=>trivial|1,_=>λ _ _=>trivial|2,_=>λ _ _=>trivial|j+3,h=>absurd h (by omega)),by rfl,by decide,by rfl,λ _=>by kernel_rfl⟩
theorem ti27_ok:ti27.ok Go.Proofs.Tryz.prog 27:=⟨fits_st (by kernel_rfl:(Go.Proofs.Tryz.prog.underlying 27).map stOf=some [(2,0),(25,1),(25,17)]) (by simp),by kernel_rfl,(λ i h=>match i,h with|0,_=>trivial|1,_=>λ _ _=>⟨rfl,trivial⟩|2,_=>λ _ _=>⟨rfl,trivial⟩|j+3,h=>absurd h (by omega)),(λ i h=>match i,h with|0,_=>trivial|1,_=>λ _ _=>trivial|2,_=>λ _ _=>trivial|j+3,h=>absurd h (by omega)),(λ i h=>match i,h with|0,_=>trivial|1,_=>λ _ _=>trivial|2,_=>λ _ _=>trivial|j+3,h=>absurd h (by omega)),by rfl,by decide,by rfl,λ _=>by kernel_rfl⟩
theorem ti30_ok:ti30.ok Go.Proofs.Tryz.prog 30:=⟨(by kernel_rfl:Go.Proofs.Tryz.prog.underlying 30=some (.slice 2)),by kernel_rfl,trivial,trivial,trivial,by rfl,by decide,by rfl,λ h=>by cases h⟩
theorem ti43_ok:ti43.ok Go.Proofs.Tryz.prog 43:=⟨(by kernel_rfl:Go.Proofs.Tryz.prog.underlying 43=some (.slice 30)),by kernel_rfl,trivial,trivial,trivial,by rfl,by decide,by rfl,λ h=>by cases h⟩
theorem ti52_ok:ti52.ok Go.Proofs.Tryz.prog 52:=⟨(by kernel_rfl:Go.Proofs.Tryz.prog.underlying 52=some (.pointer 89)),by kernel_rfl,trivial,trivial,trivial,by rfl,by decide,by rfl,λ h=>by cases h⟩
theorem ti59_ok:ti59.ok Go.Proofs.Tryz.prog 59:=⟨(by kernel_rfl:Go.Proofs.Tryz.prog.underlying 59=some (.int .u32)),by kernel_rfl,trivial,trivial,trivial,by rfl,by decide,by rfl,λ h=>by cases h⟩
theorem ti60_ok:ti60.ok Go.Proofs.Tryz.prog 60:=⟨(by kernel_rfl:Go.Proofs.Tryz.prog.underlying 60=some (.slice 59)),by kernel_rfl,trivial,trivial,trivial,by rfl,by decide,by rfl,λ h=>by cases h⟩
theorem ti61_ok:ti61.ok Go.Proofs.Tryz.prog 61:=⟨(by kernel_rfl:Go.Proofs.Tryz.prog.underlying 61=some (.slice 25)),by kernel_rfl,trivial,trivial,trivial,by rfl,by decide,by rfl,λ h=>by cases h⟩
theorem ti74_ok:ti74.ok Go.Proofs.Tryz.prog 74:=⟨(by kernel_rfl:Go.Proofs.Tryz.prog.underlying 74=some (.pointer 117)),by kernel_rfl,trivial,trivial,trivial,by rfl,by decide,by rfl,λ h=>by cases h⟩
theorem ti79_ok:ti79.ok Go.Proofs.Tryz.prog 79:=⟨(by kernel_rfl:Go.Proofs.Tryz.prog.underlying 79=some (.pointer 123)),by kernel_rfl,trivial,trivial,trivial,by rfl,by decide,by rfl,λ h=>by cases h⟩
theorem ti87_ok:ti87.ok Go.Proofs.Tryz.prog 87:=⟨(by kernel_rfl:Go.Proofs.Tryz.prog.underlying 87=some (.int .u64)),by kernel_rfl,trivial,trivial,trivial,by rfl,by decide,by rfl,λ h=>by cases h⟩
theorem ti88_ok:ti88.ok Go.Proofs.Tryz.prog 88:=⟨fits_st (by kernel_rfl:(Go.Proofs.Tryz.prog.underlying 88).map stOf=some [(22,0),(3,1),(87,2)]) (by simp),by kernel_rfl,(λ i h=>match i,h with|0,_=>trivial|1,_=>trivial|2,_=>trivial|j+3,h=>absurd h (by omega)),(λ i h=>match i,h with|0,_=>trivial|1,_=>trivial|2,_=>trivial|j+3,h=>absurd h (by omega)),(λ i h=>match i,h with|0,_=>trivial|1,_=>trivial|2,_=>trivial|j+3,h=>absurd h (by omega)),by rfl,by decide,by rfl,λ _=>by kernel_rfl⟩
theorem ti89_ok:ti89.ok Go.Proofs.Tryz.prog 89:=⟨fits_st (by kernel_rfl:(Go.Proofs.Tryz.prog.underlying 89).map stOf=some [(22,0),(3,1),(87,2)]) (by simp),by kernel_rfl,(λ i h=>match i,h with|0,_=>trivial|1,_=>trivial|2,_=>trivial|j+3,h=>absurd h (by omega)),(λ i h=>match i,h with|0,_=>trivial|1,_=>trivial|2,_=>trivial|j+3,h=>absurd h (by omega)),(λ i h=>match i,h with|0,_=>trivial|1,_=>trivial|2,_=>trivial|j+3,h=>absurd h (by omega)),by rfl,by decide,by rfl,λ _=>by kernel_rfl⟩
theorem ti94_ok:ti94.ok Go.Proofs.Tryz.prog 94:=⟨(by kernel_rfl:Go.Proofs.Tryz.prog.underlying 94=some (.int .u64)),by kernel_rfl,trivial,trivial,trivial,by rfl,by decide,by rfl,λ h=>by cases h⟩
theorem ti95_ok:ti95.ok Go.Proofs.Tryz.prog 95:=⟨(by kernel_rfl:Go.Proofs.Tryz.prog.underlying 95=some (.slice 2)),by kernel_rfl,trivial,trivial,trivial,by rfl,by decide,by rfl,λ h=>by cases h⟩
theorem ti97_ok:ti97.ok Go.Proofs.Tryz.prog 97:=⟨(by kernel_rfl:Go.Proofs.Tryz.prog.underlying 97=some (.array 2 2)),by kernel_rfl,λ _ _=>⟨rfl,trivial⟩,λ _ _=>trivial,λ _ _=>trivial,by rfl,by decide,by rfl,λ _=>by kernel_rfl⟩
theorem ti98_ok:ti98.ok Go.Proofs.Tryz.prog 98:=⟨(by kernel_rfl:Go.Proofs.Tryz.prog.underlying 98=some (.slice 97)),by kernel_rfl,trivial,trivial,trivial,by rfl,by decide,by rfl,λ h=>by cases h⟩
theorem ti101_ok:ti101.ok Go.Proofs.Tryz.prog 101:=⟨(by kernel_rfl:Go.Proofs.Tryz.prog.underlying 101=some (.array 16 2)),by kernel_rfl,λ _ _=>⟨rfl,trivial⟩,λ _ _=>trivial,λ _ _=>trivial,by rfl,by decide,by rfl,λ _=>by kernel_rfl⟩
theorem ti106_ok:ti106.ok Go.Proofs.Tryz.prog 106:=⟨(by kernel_rfl:Go.Proofs.Tryz.prog.underlying 106=some (.array 16 4)),by kernel_rfl,λ _ _=>⟨rfl,trivial⟩,λ _ _=>trivial,λ _ _=>trivial,by rfl,by decide,by rfl,λ _=>by kernel_rfl⟩
theorem ti113_ok:ti113.ok Go.Proofs.Tryz.prog 113:=⟨(by kernel_rfl:Go.Proofs.Tryz.prog.underlying 113=some (.array 16 25)),by kernel_rfl,λ _ _=>⟨rfl,λ _ _=>⟨rfl,trivial⟩⟩,λ _ _=>λ _ _=>trivial,λ _ _=>λ _ _=>trivial,by rfl,by decide,by rfl,λ _=>by kernel_rfl⟩
theorem ti114_ok:ti114.ok Go.Proofs.Tryz.prog 114:=⟨(by kernel_rfl:Go.Proofs.Tryz.prog.underlying 114=some (.array 16 113)),by kernel_rfl,λ _ _=>⟨rfl,λ _ _=>⟨rfl,λ _ _=>⟨rfl,trivial⟩⟩⟩,λ _ _=>λ _ _=>λ _ _=>trivial,λ _ _=>λ _ _=>λ _ _=>trivial,by rfl,by decide,by rfl,λ _=>by kernel_rfl⟩
theorem ti115_ok:ti115.ok Go.Proofs.Tryz.prog 115:=⟨(by kernel_rfl:Go.Proofs.Tryz.prog.underlying 115=some (.array 16 106)),by kernel_rfl,λ _ _=>⟨rfl,λ _ _=>⟨rfl,trivial⟩⟩,λ _ _=>λ _ _=>trivial,λ _ _=>λ _ _=>trivial,by rfl,by decide,by rfl,λ _=>by kernel_rfl⟩
theorem ti116_ok:ti116.ok Go.Proofs.Tryz.prog 116:=⟨fits_st (by kernel_rfl:(Go.Proofs.Tryz.prog.underlying 116).map stOf=some [(2,0),(114,1),(115,4097)]) (by simp),by kernel_rfl,(λ i h=>match i,h with|0,_=>trivial|1,_=>λ _ _=>⟨rfl,λ _ _=>⟨rfl,λ _ _=>⟨rfl,trivial⟩⟩⟩|2,_=>λ _ _=>⟨rfl,λ _ _=>⟨rfl,trivial⟩⟩|j+3,h=>absurd h (by omega)),(λ i h=>match i,h with|0,_=>trivial|1,_=>λ _ _=>λ _ _=>λ _ _=>trivial|2,_=>λ _ _=>λ _ _=>trivial|j+3,h=>absurd h (by omega)),(λ i h=>match i,h with|0,_=>trivial|1,_=>λ _ _=>λ _ _=>λ _ _=>trivial|2,_=>λ _ _=>λ _ _=>trivial|j+3,h=>absurd h (by omega)),by rfl,by decide,by rfl,λ _=>by kernel_rfl⟩
theorem ti117_ok:ti117.ok Go.Proofs.Tryz.prog 117:=⟨fits_st (by kernel_rfl:(Go.Proofs.Tryz.prog.underlying 117).map stOf=some [(2,0),(114,1),(115,4097)]) (by simp),by kernel_rfl,(λ i h=>match i,h with|0,_=>trivial|1,_=>λ _ _=>⟨rfl,λ _ _=>⟨rfl,λ _ _=>⟨rfl,trivial⟩⟩⟩|2,_=>λ _ _=>⟨rfl,λ _ _=>⟨rfl,trivial⟩⟩|j+3,h=>absurd h (by omega)),(λ i h=>match i,h with|0,_=>trivial|1,_=>λ _ _=>λ _ _=>λ _ _=>trivial|2,_=>λ _ _=>λ _ _=>trivial|j+3,h=>absurd h (by omega)),(λ i h=>match i,h with|0,_=>trivial|1,_=>λ _ _=>λ _ _=>λ _ _=>trivial|2,_=>λ _ _=>λ _ _=>trivial|j+3,h=>absurd h (by omega)),by rfl,by decide,by rfl,λ _=>by kernel_rfl⟩
theorem ti121_ok:ti121.ok Go.Proofs.Tryz.prog 121:=⟨(by kernel_rfl:Go.Proofs.Tryz.prog.underlying 121=some (.array 16 61)),by kernel_rfl,λ _ _=>⟨rfl,trivial⟩,λ _ _=>trivial,λ _ _=>trivial,by rfl,by decide,by rfl,λ _=>by kernel_rfl⟩
theorem ti122_ok:ti122.ok Go.Proofs.Tryz.prog 122:=⟨fits_st (by kernel_rfl:(Go.Proofs.Tryz.prog.underlying 122).map stOf=some [(2,0),(121,1),(115,17),(114,273)]) (by simp),by kernel_rfl,(λ i h=>match i,h with|0,_=>trivial|1,_=>λ _ _=>⟨rfl,trivial⟩|2,_=>λ _ _=>⟨rfl,λ _ _=>⟨rfl,trivial⟩⟩|3,_=>λ _ _=>⟨rfl,λ _ _=>⟨rfl,λ _ _=>⟨rfl,trivial⟩⟩⟩|j+4,h=>absurd h (by omega)),(λ i h=>match i,h with|0,_=>trivial|1,_=>λ _ _=>trivial|2,_=>λ _ _=>λ _ _=>trivial|3,_=>λ _ _=>λ _ _=>λ _ _=>trivial|j+4,h=>absurd h (by omega)),(λ i h=>match i,h with|0,_=>trivial|1,_=>λ _ _=>trivial|2,_=>λ _ _=>λ _ _=>trivial|3,_=>λ _ _=>λ _ _=>λ _ _=>trivial|j+4,h=>absurd h (by omega)),by rfl,by decide,by rfl,λ _=>by kernel_rfl⟩
theorem ti123_ok:ti123.ok Go.Proofs.Tryz.prog 123:=⟨fits_st (by kernel_rfl:(Go.Proofs.Tryz.prog.underlying 123).map stOf=some [(2,0),(121,1),(115,17),(114,273)]) (by simp),by kernel_rfl,(λ i h=>match i,h with|0,_=>trivial|1,_=>λ _ _=>⟨rfl,trivial⟩|2,_=>λ _ _=>⟨rfl,λ _ _=>⟨rfl,trivial⟩⟩|3,_=>λ _ _=>⟨rfl,λ _ _=>⟨rfl,λ _ _=>⟨rfl,trivial⟩⟩⟩|j+4,h=>absurd h (by omega)),(λ i h=>match i,h with|0,_=>trivial|1,_=>λ _ _=>trivial|2,_=>λ _ _=>λ _ _=>trivial|3,_=>λ _ _=>λ _ _=>λ _ _=>trivial|j+4,h=>absurd h (by omega)),(λ i h=>match i,h with|0,_=>trivial|1,_=>λ _ _=>trivial|2,_=>λ _ _=>λ _ _=>trivial|3,_=>λ _ _=>λ _ _=>λ _ _=>trivial|j+4,h=>absurd h (by omega)),by rfl,by decide,by rfl,λ _=>by kernel_rfl⟩
theorem ti124_ok:ti124.ok Go.Proofs.Tryz.prog 124:=⟨(by kernel_rfl:Go.Proofs.Tryz.prog.underlying 124=some (.array 17 2)),by kernel_rfl,λ _ _=>⟨rfl,trivial⟩,λ _ _=>trivial,λ _ _=>trivial,by rfl,by decide,by rfl,λ _=>by kernel_rfl⟩
theorem ti132_ok:ti132.ok Go.Proofs.Tryz.prog 132:=⟨(by kernel_rfl:Go.Proofs.Tryz.prog.underlying 132=some (.int .i64)),by kernel_rfl,trivial,trivial,trivial,by rfl,by decide,by rfl,λ h=>by cases h⟩
theorem ti149_ok:ti149.ok Go.Proofs.Tryz.prog 149:=⟨(by kernel_rfl:Go.Proofs.Tryz.prog.underlying 149=some (.int .u64)),by kernel_rfl,trivial,trivial,trivial,by rfl,by decide,by rfl,λ h=>by cases h⟩
theorem ti153_ok:ti153.ok Go.Proofs.Tryz.prog 153:=⟨(by kernel_rfl:Go.Proofs.Tryz.prog.underlying 153=some (.pointer 3)),by kernel_rfl,trivial,trivial,trivial,by rfl,by decide,by rfl,λ h=>by cases h⟩
theorem ti157_ok:ti157.ok Go.Proofs.Tryz.prog 157:=⟨(by kernel_rfl:Go.Proofs.Tryz.prog.underlying 157=some (.pointer 149)),by kernel_rfl,trivial,trivial,trivial,by rfl,by decide,by rfl,λ h=>by cases h⟩
theorem ti178_ok:ti178.ok Go.Proofs.Tryz.prog 178:=⟨(by kernel_rfl:Go.Proofs.Tryz.prog.underlying 178=some (.pointer 5)),by kernel_rfl,trivial,trivial,trivial,by rfl,by decide,by rfl,λ h=>by cases h⟩

theorem tok:TOK Go.Proofs.Tryz.prog T:=by
 intro t i h
 unfold T at h
 split at h
 ·cases h;exact ti2_ok
 ·cases h;exact ti3_ok
 ·cases h;exact ti4_ok
 ·cases h;exact ti5_ok
 ·cases h;exact ti9_ok
 ·cases h;exact ti21_ok
 ·cases h;exact ti22_ok
 ·cases h;exact ti24_ok
 ·cases h;exact ti25_ok
 ·cases h;exact ti26_ok
 ·cases h;exact ti27_ok
 ·cases h;exact ti30_ok
 ·cases h;exact ti43_ok
 ·cases h;exact ti52_ok
 ·cases h;exact ti59_ok
 ·cases h;exact ti60_ok
 ·cases h;exact ti61_ok
 ·cases h;exact ti74_ok
 ·cases h;exact ti79_ok
 ·cases h;exact ti87_ok
 ·cases h;exact ti88_ok
 ·cases h;exact ti89_ok
 ·cases h;exact ti94_ok
 ·cases h;exact ti95_ok
 ·cases h;exact ti97_ok
 ·cases h;exact ti98_ok
 ·cases h;exact ti101_ok
 ·cases h;exact ti106_ok
 ·cases h;exact ti113_ok
 ·cases h;exact ti114_ok
 ·cases h;exact ti115_ok
 ·cases h;exact ti116_ok
 ·cases h;exact ti117_ok
 ·cases h;exact ti121_ok
 ·cases h;exact ti122_ok
 ·cases h;exact ti123_ok
 ·cases h;exact ti124_ok
 ·cases h;exact ti132_ok
 ·cases h;exact ti149_ok
 ·cases h;exact ti153_ok
 ·cases h;exact ti157_ok
 ·cases h;exact ti178_ok
 ·cases h

end Go.Proofs.YthjnmlpibafbnaaGreat.DM
